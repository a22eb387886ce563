/-
 Valid graphs and drawings; overlaps and crossings.
-/
import Derived.Test.YtdijhiodknmjaaaGreatDoorD80
import Derived.Test.YtdijhiodknmjaaaGreatDoorVmE
open Option renaming bind_some->bv
open List renaming getElem?_eq_getElem->bx,getElem?_eq_some_iff->tz,getElem_mem->A2,length_cons->B2,mem_append->B6,map_cons->L3,range->L7,getElem?_take->Vc,length_take->Vd,take_succ_eq_append_getElem->Vf,any_eq_false->Vj,mem_cons_of_mem->Vk,mem_range->Vp,mem_singleton->Vu,length_range->VC,mem_cons_self->VF,mem_of_mem_take->VI,take_of_length_le->VP,length_pos_iff->Wd,any_eq_true->Wi,getElem_take->Wo,sum_cons->WG,getElem_range->WI,all_eq_not_any_not->Xh,any_append->YD
open Nat renaming mul_le_mul_right->B3,zero_le->L4,add_mul->L6,zero_add->Vt,lt_or_ge->VA,add_assoc->VS,one_mul->Xq,le_of_lt->Xx,ble_eq_true_of_le->X9,add_sub_cancel->Yr
open Sum renaming elim_inl->B7,elim_inr->Vx
open Bool renaming not_true->U8,or_eq_true->VY,not_eq_true->WQ,or_false->YQ,or_true->YT,true_or->YU
open Int renaming natCast_add->W4
set_option linter.unusedVariables false
set_option linter.unusedSimpArgs false
/-
 AuditCounts: names, labels, ports, in the program and in the reference.
-/
namespace Go.Vm
open Go.Proofs
set_option maxRecDepth 100000
attribute [local irreducible] ab
abbrev kO:=ByteArray×Int×Unit
abbrev tw:=Int×Int×Int×Int×ByteArray×Int×Int×Unit
abbrev qN:=ByteArray×ByteArray×Int×Int×Int×List kO×Unit
theorem vY {σ τ ρ υ : Type}{B : σ->Option (σ⊕ρ)}{C : τ->Option (τ⊕υ)}(R : σ->τ->Prop)(m : σ->Nat)(S : ρ->υ->Prop)
  (step:∀ s t,R s t->(∃ s' t',B s=some (.inl s')/\C t=some (.inl t')/\R s' t'/\m s'<m s)\/∃ r u,B s=some (.inr r)/\C t=some (.inr u)/\S r u) :
  ∀ s t,R s t->∃ r u,ab B s=some r/\ab C t=some u/\S r u:=by
 have:∀ n s t,m s<=n->R s t->∃ r u,ab B s=some r/\ab C t=some u/\S r u:=by
  intro n;induction n with
  |zero=>
   intro s t hn hR;rcases step s t hR with⟨s',t',_,_,_,h4⟩|⟨r,u,h1,h2,h3⟩
   ·omega
   exact⟨r,u,ce h1,ce h2,h3⟩
  |succ n ih=>
   intro s t hn hR;rcases step s t hR with⟨s',t',h1,h2,h3,h4⟩|⟨r,u,h1,h2,h3⟩
   ·rw[gq h1,gq h2];exact ih s' t' (by omega) h3
   exact⟨r,u,ce h1,ce h2,h3⟩
 exactλs t hR=>this (m s) s t (Nat.le_refl _) hR
theorem mL{α:Type}{c:Bool}{x y:Option (α×Unit)}(h1:∃ b,x=some (b,()))(h2:∃ b,y=some (b,())):∃ b,cond c x y=some (b,()):=by
 cases c with
 |true=>exact h1
 |false=>exact h2
theorem Mt(n:Int):∃ b,tx (n,())=some (b,()):=by unfold tx;simp only;cases geI n 97<;>cases leI n 122<;>cases geI n 65<;>cases leI n 90<;>exact⟨_,rfl⟩
theorem OT(n:Int):∃ b,ve (n,())=some (b,()):=by unfold ve;cases geI n 48<;>exact⟨_,rfl⟩
theorem Kf(s:ByteArray):∃ b,oi (s,())=some (b,()):=by unfold oi;simp only;refine mL (mL ⟨_,rfl⟩ ⟨_,rfl⟩) (mL (mL ⟨_,rfl⟩ ⟨_,rfl⟩) (mL (mL ⟨_,rfl⟩ ⟨_,rfl⟩) (mL (mL ⟨_,rfl⟩ ⟨_,rfl⟩) (mL (mL ⟨_,rfl⟩ ⟨_,rfl⟩) (mL ⟨_,rfl⟩ ⟨_,rfl⟩)))))
theorem PB(s:ByteArray)(hs:s.size<=1000):∃ r,vE (s,0,())=some r:=by
 obtain⟨r,h,_⟩:=aH (f:=qV) (λx=>∃ i:Nat,x=(s,(i:Int),())/\i<=s.size) (λx=>s.size-x.2.1.toNat) (λ_=>True) (by
  rintro x ⟨i,rfl,hi⟩;simp only[qV];by_cases h:i<s.size
  ·have hl:i<s.data.toList.length:=by simpa using h
   rw[aq (by omega),U3,ac,bx hl];simp only[bv,aR (show i<9223372036854775807 by omega)];have next:(∃ t,(some (.inl (s,((i+1:Nat):Int),())):Option (kO⊕((Int×Unit)⊕Empty)))=some (.inl t)/\(∃ i:Nat,t=(s,(i:Int),())/\i<=s.size)/\s.size-t.2.1.toNat<s.size-(i:Int).toNat):=
    ⟨_,rfl,⟨i+1,rfl,h⟩,by show s.size-((i+1:Nat):Int).toNat<_;omega⟩
   obtain⟨b,hb⟩:=Mt (s.data.toList[i].toNat:Int);rw[hb];cases b with
   |true=>exact .inl next
   |false=>
    simp only[bv,U4];cases gtI (i:Int) 0 with
    |false=>exact .inr ⟨_,rfl,trivial⟩
    |true=>
     obtain⟨b,hb⟩:=OT (s.data.toList[i].toNat:Int);simp only[U3,hb,bv];cases b with
     |true=>exact .inl next
     |false=>exact .inr ⟨_,rfl,trivial⟩
  rw[aj (by omega)];exact .inr ⟨_,rfl,trivial⟩) (s,0,()) ⟨0,rfl,L4 _⟩
 exact⟨r,h⟩
theorem zK(s:ByteArray)(hs:s.size<=1000):∃ b,kA (s,())=some (b,())/\dw (s,())=some (b,()):=by
 obtain⟨r,hr⟩:=PB s hs;have hw:∃ n,wE (s,())=some (n,()):=by
  unfold wE;rw[hr];cases r with
  |inl z=>exact⟨z.1,rfl⟩
  |inr e=>cases e
 have hk:=Kf s;obtain⟨n,hn⟩:=hw;obtain⟨b,hb⟩:=hk;have hn':qw (s,())=some (n,()):=hn;have hb':ld (s,())=some (b,()):=hb;unfold kA dw;simp only[hn,hb,hn',hb',bv];cases neS s _<;>cases leI (s.size:Int) 16<;>cases eqI n (s.size:Int)<;>exact⟨_,rfl,rfl⟩
theorem FK(s:ByteArray)(hs:s.size<=1000):∃ b,iV (s,())=some (b,())/\rR (s,())=some (cond (gtI (s.size:Int) 32) 2 (cond b 0 7),()):=by
 have hlen:(fW s).length=s.size:=by simp[fW]
 obtain⟨r,u,h1,h2,h3⟩:=vY (B:=iO) (C:=pL) (λx y=>∃ i:Nat,x=(s,(i:Int),())/\y=(fW s,((fW s).length:Int),(i:Int),())/\i<=s.size) (λx=>s.size-x.2.1.toNat)
  (λr u=>(r=.inl (false,())/\u=.inl (7,()))\/(r=.inr (.inl ())/\u=.inr (.inl ()))) (by
  rintro x y ⟨i,rfl,rfl,hi⟩;simp only[iO,pL,hlen];by_cases h:i<s.size
  ·have hl:i<s.data.toList.length:=by simpa using h
   rw[aq (show(i:Int)<(s.size:Int) by omega),U3,U3,ac,bx hl,aB (by omega)];have hb:(fW s)[i]?=some (s.data.toList[i].toNat:Int):=by unfold fW;rw[List.getElem?_map,bx hl];rfl
   simp only[bv,hb,aR (show i<9223372036854775807 by omega)];cases ltI (s.data.toList[i].toNat:Int) 32 with
   |true=>exact .inr ⟨_,_,rfl,rfl,.inl ⟨rfl,rfl⟩⟩
   |false=>
    cases gtI (s.data.toList[i].toNat:Int) 126 with
    |true=>exact .inr ⟨_,_,rfl,rfl,.inl ⟨rfl,rfl⟩⟩
    |false=>exact .inl ⟨_,_,rfl,rfl,⟨i+1,rfl,rfl,h⟩,by show s.size-((i+1:Nat):Int).toNat<s.size-(i:Int).toNat;omega⟩
  rw[aj (show(s.size:Int)<=(i:Int) by omega)];exact .inr ⟨_,_,rfl,rfl,.inr ⟨rfl,rfl⟩⟩) (s,0,()) (fW s,((fW s).length:Int),0,()) ⟨0,rfl,rfl,L4 _⟩
 unfold iV rR;have h1':mP (s,0,())=some r:=h1;have h2':tK (fW s,((fW s).length:Int),0,())=some u:=h2;simp only[h1',h2',bv];rcases h3 with⟨rfl,rfl⟩|⟨rfl,rfl⟩
 ·exact⟨false,rfl,by cases gtI (s.size:Int) 32<;>rfl⟩
 exact⟨true,rfl,by cases gtI (s.size:Int) 32<;>rfl⟩
end Go.Vm

/-
 AuditCounts: ports, nodes, clusters, edges, valid graphs, in the program and in the reference.
-/
namespace Go.Vm
open Go.Proofs
set_option maxRecDepth 100000
attribute [local irreducible] ab
theorem LH (l:List kO)(hl:l.length<=1000)(i:Nat)(hi:i < l.length)(p:kO)(hp:l[i]?=some p) :
  ∃ b,bC (l.take i,((p.1,p.2.1,()),()),())=some (b,())/\iv (l,(i:Int),0,())=some (cond b (.inl (6,())) (.inr (.inl (l,(i:Int),())))):=by
 have hlen:(l.take i).length=i:=by rw[Vd];omega
 obtain⟨r,u,h1,h2,h3⟩:=vY (B:=bz) (C:=iy)
  (λx y=>∃ k:Nat,x=(l.take i,((p.1,p.2.1,()),()),(i:Int),(k:Int),())/\y=(l,(i:Int),(k:Int),())/\k<=i) (λx=>i-x.2.2.2.1.toNat)
  (λr u=>(∃ k:Nat,r=.inl ((k:Int),())/\u=.inl (6,()))\/(r=.inr (.inl ())/\u=.inr (.inl (l,(i:Int),())))) (by
  rintro x y ⟨k,rfl,rfl,hk⟩;simp only[bz,iy];by_cases h:k<i
  ·have hkl:k<l.length:=by omega
   have e1:(l.take i)[k]?=l[k]?:=by rw[Vc,if_pos h]
   rw[aq (show(k:Int)<(i:Int) by omega),U3,U3,ac,ac,e1,bx hkl,ac,hp];simp only[bv,vp,aR (show k<9223372036854775807 by omega)];cases eqS l[k].1 p.1 with
   |true=>exact .inr ⟨_,_,rfl,rfl,.inl ⟨k,rfl,rfl⟩⟩
   |false=>exact .inl ⟨_,_,rfl,rfl,⟨k+1,rfl,rfl,h⟩,by show i-((k+1:Nat):Int).toNat<i-(k:Int).toNat;omega⟩
  rw[aj (show(i:Int)<=(k:Int) by omega)];exact .inr ⟨_,_,rfl,rfl,.inr ⟨rfl,rfl⟩⟩) (l.take i,((p.1,p.2.1,()),()),(i:Int),0,()) (l,(i:Int),0,()) ⟨0,rfl,rfl,L4 _⟩
 have h1':cn (l.take i,((p.1,p.2.1,()),()),(i:Int),0,())=some r:=h1;have h2':iv (l,(i:Int),0,())=some u:=h2;unfold bC cM;simp only[hlen,h1',h2',bv];rcases h3 with⟨k,rfl,rfl⟩|⟨rfl,rfl⟩
 ·exact⟨true,by simp only[B7,bv];rw[o6 (by omega)],rfl⟩
 exact⟨false,rfl,rfl⟩
theorem mc{α:Type}{l:List α}{i:Nat}(h:i<=l.length):uA l 0 (i:Int)=some (l.take i):=by unfold uA;rw[if_pos ⟨by omega,by omega,by omega⟩];simp
theorem Mb (l:List kO)(hl:l.length<=1000)(hn:∀ p∈l,p.1.size<=1000) :
  ∃ e,lQ (l,())=some (e,())/\uJ (l,())=some (cond (gtI (l.length:Int) 8) 2 e,()):=by
 obtain⟨r,u,h1,h2,h3⟩:=vY (B:=pN) (C:=iC) (λx y=>∃ i:Nat,x=(l,l,(l.length:Int),(i:Int),())/\y=(l,(i:Int),())/\i<=l.length) (λx=>l.length-x.2.2.2.1.toNat)
  (λr u=>r=u) (by
  rintro x y ⟨i,rfl,rfl,hi⟩;simp only[pN,iC];by_cases h:i<l.length
  ·have hp:l[i]?=some l[i]:=bx h;obtain⟨b,n1,n2⟩:=zK l[i].1 (hn _ (A2 h));obtain⟨c,p1,p2⟩:=LH l hl i h l[i] hp;rw[aq (show(i:Int)<(l.length:Int) by omega),U3,U3,ac,hp];simp only[bv,n1,n2,mc hi,p1,p2,aR (show i<9223372036854775807 by omega)];cases b with
   |false=>exact .inr ⟨_,_,rfl,rfl,rfl⟩
   |true=>
    cases c with
    |true=>exact .inr ⟨_,_,rfl,rfl,rfl⟩
    |false=>
     simp only[U8,U4,Vx,B7,ac,hp,bv];cases ltI l[i].2.1 0 with
     |true=>exact .inr ⟨_,_,rfl,rfl,rfl⟩
     |false=>
      cases gtI l[i].2.1 3 with
      |true=>exact .inr ⟨_,_,rfl,rfl,rfl⟩
      |false=>exact .inl ⟨_,_,rfl,rfl,⟨i+1,rfl,by simp only[aR (show i<9223372036854775807 by omega)],h⟩,by show l.length-((i+1:Nat):Int).toNat<l.length-(i:Int).toNat;omega⟩
  rw[aj (show(l.length:Int)<=(i:Int) by omega)];exact .inr ⟨_,_,rfl,rfl,rfl⟩) (l,l,(l.length:Int),0,()) (l,0,()) ⟨0,rfl,rfl,L4 _⟩
 have h1':tZ (l,l,(l.length:Int),0,())=some r:=h1;have h2':lZ (l,0,())=some u:=h2;subst h3;unfold lQ uJ;simp only[h1',h2',bv];match r with
 |.inl z=>exact⟨z.1,rfl,by cases gtI (l.length:Int) 8<;>rfl⟩
 |.inr (.inl z)=>exact⟨0,rfl,by cases gtI (l.length:Int) 8<;>rfl⟩
section
variable {a:ByteArray}{b:Bool}{c:List qN}{d:List tw}{e:List kO}
theorem Hm (hc:c.length<=1000)(s:ByteArray):∃ n:Int,(n=-1\/0<=n)/\tX ((a,b,c,d,e,()),s,())=some (n,())/\jU ((a,b,c,d,e,()),s,())=some (n,()) /\
  (∀(i:Nat) (x:qN),c[i]?=some x->x.1=s->n<=(i:Int)):=by
 obtain⟨r,u,h1,h2,h3⟩:=vY (B:=bE) (C:=jl)
  (λx y=>∃ k:Nat,x=(c,(s,()),(c.length:Int),(k:Int),())/\y=(a,b,c,d,e,s,(k:Int),())/\k<=c.length/\∀(i:Nat) (x:qN),i<k->c[i]?=some x->x.1≠s) (λx=>c.length-x.2.2.2.1.toNat)
  (λr u=>r=u/\((∃ k:Nat,r=.inl ((k:Int),())/\∀(i:Nat) (x:qN),c[i]?=some x->x.1=s->k<=i)\/r=.inr (.inl ())/\∀(i:Nat) (x:qN),c[i]?=some x->x.1≠s)) (by
  rintro x y ⟨k,rfl,rfl,hk,hno⟩;simp only[bE,jl];by_cases h:k<c.length
  ·have hp:c[k]?=some c[k]:=bx h;rw[aq (show(k:Int)<(c.length:Int) by omega),U3,U3,ac,hp];simp only[bv,xp,aR (show k<9223372036854775807 by omega)];cases hq:eqS c[k].1 s with
   |true=>
    refine .inr ⟨_,_,rfl,rfl,rfl,.inl ⟨k,rfl,λi x hx hs=>?_⟩⟩;rcases VA i k with hik|hik
    ·exact absurd hs (hno i x hik hx)
    exact hik
   |false=>
    refine .inl ⟨_,_,rfl,rfl,⟨k+1,rfl,rfl,h,λi x hik hx=>?_⟩,by show c.length-((k+1:Nat):Int).toNat<c.length-(k:Int).toNat;omega⟩;rcases VA i k with hik'|hik'
    ·exact hno i x hik' hx
    have:i=k:=by omega
    subst this;rw[hp]at hx;cases hx;intro e;rw[e]at hq;simp[eqS]at hq
  rw[aj (show(c.length:Int)<=(k:Int) by omega)];refine .inr ⟨_,_,rfl,rfl,rfl,.inr ⟨rfl,λi x hx=>hno i x ?_ hx⟩⟩;have:=(tz.1 hx).1;omega) (c,(s,()),(c.length:Int),0,()) (a,b,c,d,e,s,0,()) ⟨0,rfl,rfl,L4 _,λi x h=>by omega⟩
 have h1':cz (c,(s,()),(c.length:Int),0,())=some r:=h1;have h2':nC (a,b,c,d,e,s,0,())=some u:=h2;obtain⟨rfl,h3⟩:=h3;unfold tX jU cO;simp only[h1',h2',bv];rcases h3 with⟨k,rfl,hk⟩|⟨rfl,hk⟩
 ·exact⟨k,.inr (by omega),rfl,rfl,λi x hx hs=>by have:=hk i x hx hs;omega⟩
 exact⟨-1,.inl rfl,rfl,rfl,λi x hx hs=>absurd hs (hk i x hx)⟩
structure FewG (a:ByteArray)(c:List qN)(d:List tw)(e:List kO):Prop where
 ha:a.size<=1000
 hc:c.length<=1000
 hd:d.length<=1000
 he:e.length<=1000
 hn:∀ x∈c,x.1.size<=1000/\x.2.1.size<=1000/\x.2.2.2.2.2.1.length<=1000/\∀ p∈x.2.2.2.2.2.1,p.1.size<=1000
 hl:∀ x∈d,x.2.2.2.2.1.size<=1000
 hk:∀ x∈e,x.1.size<=1000
theorem Qz(n:Int):sA (n,())=some (!(ltI n 1||gtI n 1048576),()):=by
 unfold sA;by_cases h:1<=n
 ·rw[o6 h,aj h];by_cases h2:n<=1048576
  ·rw[MI h2,eM h2];rfl
  rw[PA (by omega),pf (by omega)];rfl
 rw[kb (by omega),aq (by omega)];rfl
theorem DL(H:FewG a c d e){i:Nat}(hi:i<c.length):∃ n,qO ((a,b,c,d,e,()),(i:Int),())=some (n,())/\mU ((a,b,c,d,e,()),(i:Int),())=some (n,()):=by
 have hp:c[i]?=some c[i]:=bx hi;obtain⟨q1,q2,q3,q4⟩:=H.hn _ (A2 hi);obtain⟨nb,n1,n2⟩:=zK c[i].1 q1;obtain⟨f,f0,f1,f2,f3⟩:=Hm (a:=a) (b:=b) (d:=d) (e:=e) H.hc c[i].1;have f3:=f3 i _ hp rfl;obtain⟨lb,l1,l2⟩:=FK c[i].2.1 q2;obtain⟨pe,p1,p2⟩:=Mb c[i].2.2.2.2.2.1 q3 q4;have hf:ltI f (i:Int)=neI f (i:Int):=by
  by_cases h:f<i
  ·rw[aq h,wc (by omega)]
  rw[aj (by omega),gW (by omega)]
 unfold qO mU;simp only[ac,hp,bv,n1,n2,f1,f2,l1,l2,p1,p2,Qz,hf];cases nb with
 |false=>exact⟨_,rfl,rfl⟩
 |true=>
  simp only[U8,U4,Bool.not_not];cases neI f (i:Int)with
  |true=>exact⟨_,rfl,rfl⟩
  |false=>
   simp only[U4];cases gtI (c[i].2.1.size:Int) 32 with
   |true=>exact⟨_,rfl,rfl⟩
   |false=>
    cases lb with
    |false=>exact⟨_,rfl,rfl⟩
    |true=>simp only[U4,U3,U8,gW (show(0:Int)=0 from rfl)];cases ltI c[i].2.2.1 1<;>cases gtI c[i].2.2.1 1048576<;>cases ltI c[i].2.2.2.1 1<;>cases gtI c[i].2.2.2.1 1048576<;>cases ltI c[i].2.2.2.2.1 (-1)<;>cases geI c[i].2.2.2.2.1 (e.length:Int)<;>cases gtI (c[i].2.2.2.2.2.1.length:Int) 8<;>exact⟨_,rfl,rfl⟩
end
end Go.Vm

/-
 AuditCounts: clusters, edges, valid graphs, in the program and in the reference.
-/
namespace Go.Vm
open Go.Proofs
set_option maxRecDepth 100000
attribute [local irreducible] ab
section
variable {a:ByteArray}{b:Bool}{c:List qN}{d:List tw}{e:List kO}
theorem Hf (he:e.length<=1000)(i:Nat)(hi:i < e.length)(p:kO) :
  ∃ q,bc (e.take i,((p.1,p.2.1,()),()),())=some (q,()) /\
   gd (a,b,c,d,e,p.1,p.2.1,(i:Int),0,())=some (cond q (.inl (6,())) (.inr (.inl (a,b,c,d,e,p.1,p.2.1,(i:Int),())))):=by
 have hlen:(e.take i).length=i:=by rw[Vd];omega
 obtain⟨r,u,h1,h2,h3⟩:=vY (B:=ba) (C:=gj)
  (λx y=>∃ k:Nat,x=(e.take i,((p.1,p.2.1,()),()),(i:Int),(k:Int),())/\y=(a,b,c,d,e,p.1,p.2.1,(i:Int),(k:Int),())/\k<=i) (λx=>i-x.2.2.2.1.toNat)
  (λr u=>(∃ k:Nat,r=.inl ((k:Int),())/\u=.inl (6,()))\/(r=.inr (.inl ())/\u=.inr (.inl (a,b,c,d,e,p.1,p.2.1,(i:Int),())))) (by
  rintro x y ⟨k,rfl,rfl,hk⟩;simp only[ba,gj];by_cases h:k<i
  ·have hkl:k<e.length:=by omega
   have e1:(e.take i)[k]?=e[k]?:=by rw[Vc,if_pos h]
   rw[aq (show(k:Int)<(i:Int) by omega),U3,U3,ac,ac,e1,bx hkl];simp only[bv,sH,aR (show k<9223372036854775807 by omega)];cases eqS e[k].1 p.1 with
   |true=>exact .inr ⟨_,_,rfl,rfl,.inl ⟨k,rfl,rfl⟩⟩
   |false=>exact .inl ⟨_,_,rfl,rfl,⟨k+1,rfl,rfl,h⟩,by show i-((k+1:Nat):Int).toNat<i-(k:Int).toNat;omega⟩
  rw[aj (show(i:Int)<=(k:Int) by omega)];exact .inr ⟨_,_,rfl,rfl,.inr ⟨rfl,rfl⟩⟩) (e.take i,((p.1,p.2.1,()),()),(i:Int),0,()) (a,b,c,d,e,p.1,p.2.1,(i:Int),0,()) ⟨0,rfl,rfl,L4 _⟩
 have h1':bO (e.take i,((p.1,p.2.1,()),()),(i:Int),0,())=some r:=h1;have h2':gd (a,b,c,d,e,p.1,p.2.1,(i:Int),0,())=some u:=h2;unfold bc bV;simp only[hlen,h1',h2',bv];rcases h3 with⟨k,rfl,rfl⟩|⟨rfl,rfl⟩
 ·exact⟨true,by simp only[B7,bv];rw[o6 (by omega)],rfl⟩
 exact⟨false,rfl,rfl⟩
def rW(e:List kO)(i:Nat):Prop:=∀ k (x:kO),k<i->e[k]?=some x->-1<=x.2.1/\x.2.1<k
theorem Ml(he:e.length<=1000){i:Nat}(hi:i<e.length)(hp:rW e (i+1)):∃ n:Int,vg ((a,b,c,d,e,()),(i:Int),())=some (n,())/\lE ((a,b,c,d,e,()),(i:Int),())=some (n,()):=by
 obtain⟨r,u,h1,h2,h3⟩:=vY (B:=fE) (C:=iS)
  (λx y=>∃(g:Int) (l:List Int),x=(a,b,c,d,e,l,g,())/\y=(a,b,c,d,e,g,(l.length:Int),())/\-1<=g/\g<e.length/\g<=i/\l.length+(g+1).toNat<=1000) (λx=>(x.2.2.2.2.2.2.1+1).toNat)
  (λr u=>∃ l:List Int,r=.inl (l,())/\u=.inl ((l.length:Int),())) (by
  rintro x y ⟨g,l,rfl,rfl,hg0,hg1,hg2,hg3⟩;simp only[fE,iS];by_cases h:0<=g
  ·obtain⟨k,rfl⟩:∃ k:Nat,g=(k:Int):=⟨g.toNat,by omega⟩;have hk:k<e.length:=by omega
   have hx:e[k]?=some e[k]:=bx hk;obtain⟨r1,r2⟩:=hp k _ (by omega) hx;rw[o6 h,U3,U3,bw (by simp;omega),ac,hx];simp only[bv,aR (show l.length<9223372036854775807 by omega)];exact .inl ⟨_,_,rfl,rfl,⟨e[k].2.1,l++[(k:Int)],rfl,by simp,r1,by omega,by omega,by simp;omega⟩,by show(e[k].2.1+1).toNat<((k:Int)+1).toNat;omega⟩
  rw[kb (by omega)];exact .inr ⟨_,_,rfl,rfl,l,rfl,rfl⟩) (a,b,c,d,e,[],(i:Int),()) (a,b,c,d,e,(i:Int),0,()) ⟨(i:Int),[],rfl,rfl,by omega,by omega,by omega,by simp;omega⟩
 have h1':ow (a,b,c,d,e,[],(i:Int),())=some r:=h1;have h2':mE (a,b,c,d,e,(i:Int),0,())=some u:=h2;obtain⟨l,rfl,rfl⟩:=h3;unfold vg mZ lE;simp only[h1',h2',bv,B7];exact⟨_,rfl,rfl⟩
theorem Cr(H:FewG a c d e){i:Nat}(hi:i<e.length)(hp:rW e i):∃ n,rm ((a,b,c,d,e,()),(i:Int),())=some (n,())/\js ((a,b,c,d,e,()),(i:Int),())=some (n,())/\(n=0->rW e (i+1)):=by
 have hx:e[i]?=some e[i]:=bx hi;obtain⟨nb,n1,n2⟩:=zK e[i].1 (H.hk _ (A2 hi));obtain⟨f,_,f1,f2,_⟩:=Hm (a:=a) (b:=b) (d:=d) (e:=e) H.hc e[i].1;obtain⟨q,c1,c2⟩:=Hf (a:=a) (b:=b) (c:=c) (d:=d) H.he i hi e[i];unfold rm js;simp only[ac,hx,bv,n1,n2,f1,f2,mc (Xx hi),c1,c2];cases nb with
 |false=>exact⟨_,rfl,rfl,λh=>by cases h⟩
 |true=>
  simp only[U8,U4];cases q with
  |true=>
   cases geI f 0 with
   |true=>exact⟨_,rfl,rfl,λh=>by cases h⟩
   |false=>exact⟨_,rfl,rfl,λh=>by cases h⟩
  |false=>
   simp only[U4,Vx,B7,f2,bv];cases geI f 0 with
   |true=>exact⟨_,rfl,rfl,λh=>by cases h⟩
   |false=>
    simp only[U4];by_cases h1:e[i].2.1 < -1
    ·rw[aq h1];exact⟨_,rfl,rfl,λh=>by cases h⟩
    rw[aj (by omega)];by_cases h2:(i:Int)<=e[i].2.1
    ·rw[o6 h2];exact⟨_,rfl,rfl,λh=>by cases h⟩
    rw[kb (by omega)];have hp':rW e (i+1):=by
     intro k x hk hkx;rcases VA k i with h|h
     ·exact hp k x h hkx
     have:k=i:=by omega
     subst this;rw[hx]at hkx;cases hkx;exact⟨by omega,by omega⟩
    obtain⟨n,d1,d2⟩:=Ml (a:=a) (b:=b) (c:=c) (d:=d) H.he hi hp';simp only[U4,d1,d2,bv];cases gtI n 6 with
    |true=>exact⟨_,rfl,rfl,λh=>by cases h⟩
    |false=>exact⟨_,rfl,rfl,λ_=>hp'⟩
theorem ES(x y k:Int):ltI (bL x y) k=(ltI x k||ltI y k):=by
 unfold bL;split
 ·by_cases h:y<k
  ·rw[aq h,YT]
  rw[aj (by omega),aj (by omega)];rfl
 by_cases h:x<k
 ·rw[aq h,YU]
 rw[aj (by omega),aj (by omega)];rfl
theorem EB(x y k:Int):geI (dj x y) k=(geI x k||geI y k):=by
 unfold dj;split
 ·by_cases h:k<=y
  ·rw[o6 h,YT]
  rw[kb (by omega),kb (by omega)];rfl
 by_cases h:k<=x
 ·rw[o6 h,YU]
 rw[kb (by omega),kb (by omega)];rfl
theorem DA(H:FewG a c d e)(x:tw)(hx:x∈d):∃ n,qB ((a,b,c,d,e,()),(x.1,x.2.1,x.2.2.1,x.2.2.2.1,x.2.2.2.2.1,x.2.2.2.2.2.1,x.2.2.2.2.2.2.1,()),())=some (n,())/\mW ((a,b,c,d,e,()),x,())=some (n,()):=by
 obtain⟨u,v,p,q,s,w,l,_⟩:=x;obtain⟨lb,l1,l2⟩:=FK s (H.hl _ hx);unfold qB mW;simp only[ES,EB,l1,l2,bv];by_cases h1:u<0
 ·rw[aq h1];exact⟨_,rfl,rfl⟩
 by_cases h2:v<0
 ·rw[aj (show(0:Int)<=u by omega),aq h2];by_cases h3:(c.length:Int)<=u
  ·rw[o6 h3];exact⟨_,rfl,rfl⟩
  rw[kb (by omega)];exact⟨_,rfl,rfl⟩
 rw[aj (show(0:Int)<=u by omega),aj (show(0:Int)<=v by omega)];by_cases h3:(c.length:Int)<=u
 ·rw[o6 h3];exact⟨_,rfl,rfl⟩
 by_cases h4:(c.length:Int)<=v
 ·rw[kb (show u<(c.length:Int) by omega),o6 h4];exact⟨_,rfl,rfl⟩
 rw[kb (show u<(c.length:Int) by omega),kb (show v<(c.length:Int) by omega)];have hu:u.toNat<c.length:=by omega
 have hv:v.toNat<c.length:=by omega
 rw[nM (by omega),nM (by omega),bx hu,bx hv];simp only[bv,YQ,U4];cases ltI p (-1)<;>cases ltI q (-1)<;>cases geI p (c[u.toNat].2.2.2.2.2.1.length:Int)<;>cases geI q (c[v.toNat].2.2.2.2.2.1.length:Int)<;>first|exact⟨_,rfl,rfl⟩|skip
 simp only[YQ,U4];cases gtI (s.size:Int) 32 with
 |true=>exact⟨_,rfl,rfl⟩
 |false=>
  cases lb with
  |false=>exact⟨_,rfl,rfl⟩
  |true=>simp only[U4,U3,U8,gW (show(0:Int)=0 from rfl)];cases ltI w 1<;>cases gtI w 1000<;>cases ltI l 1<;>cases gtI l 64<;>exact⟨_,rfl,rfl⟩
theorem K4(H:FewG a c d e):∃ r,pE (a,b,c,d,e,(c.length:Int),0,())=some r/\my (a,b,c,d,e,0,())=some r/\(∀ z,r=.inr (.inl z)->z=(a,b,c,d,e,())):=by
 obtain⟨r,u,h1,h2,h3,h4⟩:=vY (B:=dR) (C:=iH) (λx y=>∃ i:Nat,x=(a,b,c,d,e,(c.length:Int),(i:Int),())/\y=(a,b,c,d,e,(i:Int),())/\i<=c.length) (λx=>c.length-x.2.2.2.2.2.2.1.toNat)
  (λr u=>r=u/\∀ z,r=.inr (.inl z)->z=(a,b,c,d,e,())) (by
  rintro x y ⟨i,rfl,rfl,hi⟩;have hcl:=H.hc;simp only[dR,iH];by_cases h:i<c.length
  ·obtain⟨n,n1,n2⟩:=DL (b:=b) H h;rw[aq (show(i:Int)<(c.length:Int) by omega),U3,U3,n1,n2];simp only[bv,aR (show i<9223372036854775807 by omega)];cases neI n 0 with
   |true=>exact .inr ⟨_,_,rfl,rfl,rfl,λz hz=>by cases hz⟩
   |false=>exact .inl ⟨_,_,rfl,rfl,⟨i+1,rfl,rfl,h⟩,by show c.length-((i+1:Nat):Int).toNat<c.length-(i:Int).toNat;omega⟩
  rw[aj (show(c.length:Int)<=(i:Int) by omega)];exact .inr ⟨_,_,rfl,rfl,rfl,λz hz=>by cases hz;rfl⟩) (a,b,c,d,e,(c.length:Int),0,()) (a,b,c,d,e,0,()) ⟨0,rfl,rfl,L4 _⟩
 subst h3;exact⟨r,h1,h2,h4⟩
theorem E4(H:FewG a c d e):∃ r,n9 (a,b,c,d,e,(e.length:Int),0,())=some r/\lg (a,b,c,d,e,0,())=some r/\(∀ z,r=.inr (.inl z)->z=(a,b,c,d,e,())):=by
 obtain⟨r,u,h1,h2,h3,h4⟩:=vY (B:=ib) (C:=gP) (λx y=>∃ i:Nat,x=(a,b,c,d,e,(e.length:Int),(i:Int),())/\y=(a,b,c,d,e,(i:Int),())/\i<=e.length/\rW e i) (λx=>e.length-x.2.2.2.2.2.2.1.toNat)
  (λr u=>r=u/\∀ z,r=.inr (.inl z)->z=(a,b,c,d,e,())) (by
  rintro x y ⟨i,rfl,rfl,hi,hpar⟩;have hel:=H.he;simp only[ib,gP];by_cases h:i<e.length
  ·obtain⟨n,n1,n2,n3⟩:=Cr (b:=b) H h hpar;rw[aq (show(i:Int)<(e.length:Int) by omega),U3,U3,n1,n2];simp only[bv,aR (show i<9223372036854775807 by omega)];by_cases hn:n=0
   ·rw[gW hn];exact .inl ⟨_,_,rfl,rfl,⟨i+1,rfl,rfl,h,n3 hn⟩,by show e.length-((i+1:Nat):Int).toNat<e.length-(i:Int).toNat;omega⟩
   rw[wc hn];exact .inr ⟨_,_,rfl,rfl,rfl,λz hz=>by cases hz⟩
  rw[aj (show(e.length:Int)<=(i:Int) by omega)];exact .inr ⟨_,_,rfl,rfl,rfl,λz hz=>by cases hz;rfl⟩) (a,b,c,d,e,(e.length:Int),0,()) (a,b,c,d,e,0,()) ⟨0,rfl,rfl,L4 _,λk x h=>by omega⟩
 subst h3;exact⟨r,h1,h2,h4⟩
theorem JF(H:FewG a c d e):∃ r,oc (a,b,c,d,e,d,(d.length:Int),0,())=some r/\k9 (a,b,c,d,e,0,())=some r:=by
 obtain⟨r,u,h1,h2,h3⟩:=vY (B:=dt) (C:=gO) (λx y=>∃ i:Nat,x=(a,b,c,d,e,d,(d.length:Int),(i:Int),())/\y=(a,b,c,d,e,(i:Int),())/\i<=d.length) (λx=>d.length-x.2.2.2.2.2.2.2.1.toNat)
  (λr u=>r=u) (by
  rintro x y ⟨i,rfl,rfl,hi⟩;have hdl:=H.hd;simp only[dt,gO];by_cases h:i<d.length
  ·have hx:d[i]?=some d[i]:=bx h;obtain⟨n,n1,n2⟩:=DA (b:=b) H _ (A2 h);rw[aq (show(i:Int)<(d.length:Int) by omega),U3,U3,ac,hx];simp only[bv,n1,n2,aR (show i<9223372036854775807 by omega)];cases neI n 0 with
   |true=>exact .inr ⟨_,_,rfl,rfl,rfl⟩
   |false=>exact .inl ⟨_,_,rfl,rfl,⟨i+1,rfl,rfl,h⟩,by show d.length-((i+1:Nat):Int).toNat<d.length-(i:Int).toNat;omega⟩
  rw[aj (show(d.length:Int)<=(i:Int) by omega)];exact .inr ⟨_,_,rfl,rfl,rfl⟩) (a,b,c,d,e,d,(d.length:Int),0,()) (a,b,c,d,e,0,()) ⟨0,rfl,rfl,L4 _⟩
 subst h3;exact⟨r,h1,h2⟩
theorem Ga(H:FewG a c d e):∃ n,cX ((a,b,c,d,e,()),())=some (n,())/\bJ ((a,b,c,d,e,()),())=some (n,()):=by
 obtain⟨nb,n1,n2⟩:=zK a H.ha;obtain⟨r1,p1,p2,p3⟩:=K4 (b:=b) H;obtain⟨r2,q1,q2,q3⟩:=E4 (b:=b) H;obtain⟨r3,s1,s2⟩:=JF (b:=b) H;unfold cX bJ;simp only[n1,n2,bv,p1,p2];cases gtI (c.length:Int) 64 with
 |true=>exact⟨_,rfl,rfl⟩
 |false=>
 cases gtI (d.length:Int) 256 with
 |true=>exact⟨_,rfl,rfl⟩
 |false=>
 cases gtI (e.length:Int) 16 with
 |true=>exact⟨_,rfl,rfl⟩
 |false=>
 cases nb with
 |false=>exact⟨_,rfl,rfl⟩
 |true=>
 simp only[U4,U8];match r1,p3 with
 |.inl z,_=>exact⟨_,rfl,rfl⟩
 |.inr (.inl z),p3=>
  have:=p3 z rfl;subst this;simp only[Vx,B7,q1,q2,bv];match r2,q3 with
  |.inl z,_=>exact⟨_,rfl,rfl⟩
  |.inr (.inl z),q3=>
   have:=q3 z rfl;subst this;simp only[Vx,B7,s1,s2,bv];match r3 with
   |.inl z=>exact⟨_,rfl,rfl⟩
   |.inr (.inl z)=>exact⟨_,rfl,rfl⟩
end
end Go.Vm

/-
 AuditCounts: few, boxes, points, what fits.
-/
namespace Go.Vm
open Go.Proofs
set_option maxRecDepth 100000
attribute [local irreducible] ab
abbrev BoxD:=Int×Int×Int×Int×Unit
theorem KD{α:Type}(p:α->Bool):∀(l:List α) (i:Nat),Cg (λ_ (_:Unit) a=>some (cond (p a) (.inr ()) (.inl ()))) i () l=some (cond (l.any p) (.inr ()) (.inl ()))
 |[],_=>rfl
 |a::l,i=>by
  simp only[Cg,List.any_cons];cases p a with
  |true=>rfl
  |false=>exact KD p l (i+1)
theorem gl {σ ρ α : Type}{B : σ->Option (σ⊕ρ)}(l:List α)(st:Nat->σ)(p : α->Bool)(no yes : ρ)
  (h1:∀ i (h:i<l.length),B (st i)=some (cond (p l[i]) (.inr no) (.inl (st (i+1))))) (h2:B (st l.length)=some (.inr yes)):ab B (st 0)=some (cond (l.any p) no yes):=by
 have:=UT (B:=B) (λ(_:Unit) i=>st i) (λ_=>yes) (λ(_:Unit)=>no) (λ_ _ a=>some (cond (p a) (.inr ()) (.inl ()))) l (by
  intro s i a ha;obtain⟨hi,ha⟩:=tz.1 ha;rw[h1 i hi,ha];cases p a<;>rfl) (λ_=>h2) ()
 rw[KD]at this;rw[this];cases l.any p<;>rfl
theorem KU{α:Type}(w:α->Nat):∀(l:List α) (i n:Nat),Cg (ε:=Empty) (λ_ (n:Nat) a=>some (.inl (n+w a))) i n l=some (.inl (n+(l.map w).sum))
 |[],_,_=>rfl
 |a::l,i,n=>by simp only[Cg,bv,B7,L3,WG];rw[KU w l (i+1) (n+w a),VS]
theorem re {σ ρ α : Type}{B : σ->Option (σ⊕ρ)}(l:List α)(w : α->Nat)(W n0:Nat)(hw:∀ a∈l,w a<=W)(st:Nat->Nat->σ)(out:Nat->ρ)
  (h1:∀ n i (h:i<l.length),n<=n0+i*W->B (st n i)=some (.inl (st (n+w l[i]) (i+1)))) (h2:∀ n,B (st n l.length)=some (.inr (out n))) :
  ab B (st n0 0)=some (out (n0+(l.map w).sum)):=by
 have:=SP (B:=B) (ε:=Empty) (λi n=>n<=n0+i*W) st out (λe=>nomatch e) (λ_ n a=>some (.inl (n+w a))) l (by
  intro n i a hn ha;obtain⟨hi,ha⟩:=tz.1 ha;rw[h1 n i hi hn,ha];rfl) (by
  intro n i a m hn ha hm;cases hm;have:=hw a (List.mem_of_getElem? ha);rw[L6,Xq];omega) (λn _=>h2 n) n0 (by omega)
 rw[KU]at this;exact this
theorem GO{α:Type}(w:α->Nat)(W:Nat):∀(l:List α),(∀ a∈l,w a<=W)->(l.map w).sum<=l.length*W
 |[],_=>by simp
 |a::l,h=>by have h1:=h a (VF ..);have h2:=GO w W l (λb hb=>h b (Vk _ hb));rw[L3,WG,B2,L6,Xq];omega
section
variable {a:ByteArray}{b:Bool}{c:List qN}{d:List tw}{e:List kO}
theorem Oi (f g:ByteArray)(h i k:Int)(l:List kO)(m:Int)(hl:l.length<=9) :
  nD (a,b,c,d,e,f,g,h,i,k,l,m,0,())=some (cond (l.any λp=>gtI (p.1.size:Nat) 40) (.inl (false,())) (.inr (.inl (a,b,c,d,e,m,())))):=
 gl (B:=fK) l (λn=>(a,b,c,d,e,f,g,h,i,k,l,m,(n:Int),())) _ _ _ (by
  intro n hn;simp only[fK];rw[aq (by omega),U3,ac,bx hn,aR (by omega)];simp only[bv];cases gtI (l[n].1.size:Nat) 40<;>rfl) (by
  simp only[fK];rw[aj (by omega)];rfl)
def EN(x:qN):Bool:=gtI (x.1.size:Nat) 40||(gtI (x.2.1.size:Nat) 80||(gtI (x.2.2.2.2.2.1.length:Nat) 9||x.2.2.2.2.2.1.any λp=>gtI (p.1.size:Nat) 40))
theorem OH(hc:c.length<=8):oD (a,b,c,d,e,0,())=some (cond (c.any EN) (.inl (false,())) (.inr (.inl (a,b,c,d,e,())))):=
 gl (B:=gE) c (λn=>(a,b,c,d,e,(n:Int),())) _ _ _ (by
  intro n hn;simp only[gE];rw[aq (by omega),U3,ac,bx hn];simp only[bv,EN];cases h1:gtI (c[n].1.size:Nat) 40 with
  |true=>rfl
  |false=>
  cases h2:gtI (c[n].2.1.size:Nat) 80 with
  |true=>rfl
  |false=>
  by_cases h3:c[n].2.2.2.2.2.1.length<=9
  ·rw[eM (show((c[n].2.2.2.2.2.1.length:Nat):Int)<=9 by omega)];simp only[U4,Bool.false_or,Oi _ _ _ _ _ _ _ h3,bv];cases c[n].2.2.2.2.2.1.any λp=>gtI (p.1.size:Nat) 40 with
   |true=>rfl
   |false=>simp only[U4,Vx,B7,aR (show n<9223372036854775807 by omega)]
  ·rw[pf (show(9:Int)<((c[n].2.2.2.2.2.1.length:Nat):Int) by omega)];rfl) (by
  simp only[gE];rw[aj (by omega)];rfl)
def EI(x:tw):Bool:=gtI (x.2.2.2.2.1.size:Nat) 80||gtI x.2.2.2.2.2.2.1 4
theorem O2(hd:d.length<=8):nu (a,b,c,d,e,0,())=some (cond (d.any EI) (.inl (false,())) (.inr (.inl (a,b,c,d,e,())))):=
 gl (B:=fP) d (λn=>(a,b,c,d,e,(n:Int),())) _ _ _ (by
  intro n hn;simp only[fP];rw[aq (by omega),U3,ac,bx hn,aR (by omega)];simp only[bv,EI];cases gtI (d[n].2.2.2.2.1.size:Nat) 80<;>cases gtI d[n].2.2.2.2.2.2.1 4<;>rfl) (by
  simp only[fP];rw[aj (by omega)];rfl)
theorem Jt(he:e.length<=6):nr (a,b,c,d,e,0,())=some (cond (e.any λp=>gtI (p.1.size:Nat) 40) (.inl (false,())) (.inr (.inl ()))):=
 gl (B:=fL) e (λn=>(a,b,c,d,e,(n:Int),())) _ _ _ (by
  intro n hn;simp only[fL];rw[aq (by omega),U3,ac,bx hn,aR (by omega)];simp only[bv];cases gtI (e[n].1.size:Nat) 40<;>rfl) (by
  simp only[fL];rw[aj (by omega)];rfl)
theorem qD{x y:Int}(h:gtI x y=false):x<=y:=by simp[gtI]at h;omega
theorem NM:∃ r,dr ((a,b,c,d,e,()),8,8,())=some (r,())/\(r=true->FewG a c d e):=by
 unfold dr;simp only;by_cases h1:c.length<=8
 ·by_cases h2:d.length<=8
  ·by_cases h3:e.length<=6
   ·by_cases h4:a.size<=40
    ·rw[eM (show((c.length:Nat):Int)<=8 by omega),eM (show((d.length:Nat):Int)<=8 by omega),eM (show((e.length:Nat):Int)<=6 by omega),eM (show((a.size:Nat):Int)<=40 by omega)];simp only[U4,OH h1,bv];cases hn:c.any EN with
     |true=>exact⟨_,rfl,λh=>by cases h⟩
     |false=>
      simp only[U4,Vx,B7,O2 h2,bv];cases hd:d.any EI with
      |true=>exact⟨_,rfl,λh=>by cases h⟩
      |false=>
       simp only[U4,Vx,B7,Jt h3,bv];cases he:e.any λp=>gtI (p.1.size:Nat) 40 with
       |true=>exact⟨_,rfl,λh=>by cases h⟩
       |false=>
        refine⟨_,rfl,λ_=>⟨by omega,by omega,by omega,by omega,λx hx=>?_,λx hx=>?_,λx hx=>?_⟩⟩
        ·have:=Vj.1 hn x hx;simp only[EN,VY,not_or,WQ]at this;obtain⟨q1,q2,q3,q4⟩:=this;have q1:=qD q1;have q2:=qD q2;have q3:=qD q3;refine⟨by omega,by omega,by omega,λp hp=>?_⟩;have:=Vj.1 q4 p hp;have:=qD (WQ _▸this);omega
        ·have:=Vj.1 hd x hx;simp only[EI,VY,not_or,WQ]at this;have:=qD this.1;omega
        have:=Vj.1 he x hx;have:=qD (WQ _▸this);omega
    rw[pf (show(40:Int)<(a.size:Nat) by omega)];cases gtI (c.length:Nat) 8<;>cases gtI (d.length:Nat) 8<;>cases gtI (e.length:Nat) 6<;>exact⟨_,rfl,λh=>by cases h⟩
   rw[pf (show(6:Int)<(e.length:Nat) by omega)];cases gtI (c.length:Nat) 8<;>cases gtI (d.length:Nat) 8<;>exact⟨_,rfl,λh=>by cases h⟩
  rw[pf (show(8:Int)<(d.length:Nat) by omega)];cases gtI (c.length:Nat) 8<;>exact⟨_,rfl,λh=>by cases h⟩
 rw[pf (show(8:Int)<(c.length:Nat) by omega)];exact⟨_,rfl,λh=>by cases h⟩
end
section
variable {f g i:List BoxD}{h:List (List PtD)}{k l m n o p:Int}{q:List Int}
theorem Gs:oE (f,g,h,i,k,l,m,n,o,p,q,0,())=some (cond ((h.take 21).any λr=>gtI (r.length:Nat) 30) (.inl (false,())) (.inr (.inl (f,g,h,i,k,l,m,n,o,p,q,())))):=
 gl (B:=gG) (h.take 21) (λj=>(f,g,h,i,k,l,m,n,o,p,q,(j:Int),())) _ _ _ (by
  intro j hj;rw[Vd]at hj;have hj':j<h.length:=by omega
  simp only[gG,Wo];rw[aq (by omega),U3,aq (by omega),U3,ac,bx hj',aR (by omega)];simp only[bv];cases gtI (h[j].length:Nat) 30<;>rfl) (by
  simp only[gG,Vd];by_cases hh:h.length<=21
  ·rw[aj (by omega)];rfl
  rw[aq (by omega),aj (b:=21) (by omega)];rfl)
structure FewD (f g i:List BoxD)(h:List (List PtD)):Prop where
 hf:f.length<=20
 hg:g.length<=20
 hi:i.length<=20
 hh:h.length<=20
 hr:∀ r∈h,r.length<=30
theorem yE{x y:Int}(h:leI x y=true):x<=y:=by simpa[leI]using h
theorem JQ:∃ r,fG ((f,g,h,i,(k,l,m,n,()),o,p,q,()),())=some (r,())/\(r=true->FewD f g i h):=by
 unfold fG;simp only[Gs,bv];cases hn:(h.take 21).any λr=>gtI (r.length:Nat) 30 with
 |true=>exact⟨_,rfl,λh=>by cases h⟩
 |false=>
  simp only[U4,Vx,B7];cases h1:leI (f.length:Nat) 20 with
  |false=>exact⟨_,rfl,λh=>by cases h⟩
  |true=>
  cases h2:leI (g.length:Nat) 20 with
  |false=>exact⟨_,rfl,λh=>by cases h⟩
  |true=>
  cases h3:leI (i.length:Nat) 20 with
  |false=>exact⟨_,rfl,λh=>by cases h⟩
  |true=>
  cases h4:leI (h.length:Nat) 20 with
  |false=>exact⟨_,rfl,λh=>by cases h⟩
  |true=>
  have h1:=yE h1;have h2:=yE h2;have h3:=yE h3;have h4:=yE h4;refine⟨_,rfl,λ_=>⟨by omega,by omega,by omega,by omega,λr hr=>?_⟩⟩;rw[VP (by omega)]at hn;have:=Vj.1 hn r hr;have:=qD (WQ _▸this);omega
end
def ptB(p:PtD):Bool:=geI p.1 (-268435456)&&(leI p.1 268435456&&(geI p.2.1 (-268435456)&&leI p.2.1 268435456))
theorem AR(p:PtD):eF (p,())=some (ptB p,()):=by unfold eF ptB;simp only;cases geI p.1 (-268435456)<;>cases leI p.1 268435456<;>cases geI p.2.1 (-268435456)<;>rfl
theorem Te(p:PtD):pA (p,())=some (ptB p,()):=AR p
def bxB(b:BoxD):Bool:=ptB (b.1,b.2.1,())&&(ptB (b.2.2.1,b.2.2.2.1,())&&(leI b.1 b.2.2.1&&leI b.2.1 b.2.2.2.1))
theorem Cl(b:BoxD):da (b,())=some (bxB b,()):=by unfold da bxB;simp only[AR,bv];cases ptB (b.1,b.2.1,())<;>cases ptB (b.2.2.1,b.2.2.2.1,())<;>cases leI b.1 b.2.2.1<;>rfl
theorem BE(b:BoxD):aQ (b,())=some (bxB b,()):=Cl b
theorem rF(l:List BoxD)(hl:l.length<=1000):pb (l,())=some (l.all bxB,()):=by
 have h2:l.all bxB=!l.any (λb=>!bxB b):=Xh;have:∃ k:Int,bR (l,(),())=some (k,())/\geI k 0=l.any (λb=>!bxB b):=by
  -- a loop that gives the place
  obtain⟨r,h,hr⟩:=aH (f:=bF) (λx=>∃ i:Nat,x=(l,(),(l.length:Int),(i:Int),())/\i<=l.length/\(l.take i).any (λb=>!bxB b)=false) (λx=>l.length-x.2.2.2.1.toNat)
   (λr=>(∃ i:Nat,r=.inl ((i:Int),())/\l.any (λb=>!bxB b)=true)\/(r=.inr (.inl ())/\l.any (λb=>!bxB b)=false)) (by
   rintro x ⟨i,rfl,hi,ht⟩;simp only[bF];by_cases h:i<l.length
   ·rw[aq (by omega),U3,ac,bx h,aR (by omega)];simp only[bv,vJ,Cl];cases hb:bxB l[i]with
    |false=>exact .inr ⟨_,rfl,.inl ⟨i,rfl,Wi.2 ⟨_,A2 h,by simp[hb]⟩⟩⟩
    |true=>refine .inl ⟨_,rfl,⟨i+1,rfl,h,?_⟩,by show l.length-((i+1:Nat):Int).toNat<l.length-(i:Int).toNat;omega⟩;rw[Vf h,YD,ht];simp[hb]
   rw[aj (by omega)];rw[VP (by omega)]at ht;exact .inr ⟨_,rfl,.inr ⟨rfl,ht⟩⟩) (l,(),(l.length:Int),0,()) ⟨0,rfl,L4 _,rfl⟩
  have h':cB (l,(),(l.length:Int),0,())=some r:=h;unfold bR;simp only[h',bv];rcases hr with⟨i,rfl,ha⟩|⟨rfl,ha⟩
  ·exact⟨_,rfl,by rw[ha,o6 (by omega)]⟩
  exact⟨_,rfl,by rw[ha];rfl⟩
 obtain⟨k,h1,h3⟩:=this;unfold pb cy;simp only[h1,bv,h3,h2]
theorem Da(l:List BoxD)(n:Int)(hl:l.length<=1000):fx (l,n,())=some (l.all bxB&&eqI (l.length:Nat) n,()):=by
 have h2:l.all bxB=!l.any (λb=>!bxB b):=Xh;have h1:l5 (l,n,0,())=some (cond (l.any λb=>!bxB b) (.inl (false,())) (.inr (.inl (l,n,())))):=
  gl (B:=eS) l (λi=>(l,n,(i:Int),())) _ _ _ (by
   intro i hi;simp only[eS];rw[aq (by omega),U3,ac,bx hi,aR (by omega)];simp only[bv,BE];cases bxB l[i]<;>rfl) (by
   simp only[eS];rw[aj (by omega)];rfl)
 unfold fx;simp only[h1,bv,h2];cases l.any λb=>!bxB b<;>rfl
end Go.Vm

/-
 AuditCounts: routes, what fits.
-/
namespace Go.Vm
open Go.Proofs
set_option maxRecDepth 100000
attribute [local irreducible] ab
def H4(a b:PtD):Bool:=(eqI a.1 b.1)&&((eqI a.2.1 b.2.1)&&true)
theorem Gw(a b:PtD):H4 a b=H4 b a:=by
 unfold H4;by_cases h1:a.1=b.1
 ·by_cases h2:a.2.1=b.2.1
  ·rw[tg h1,tg h2,tg h1.symm,tg h2.symm]
  rw[qe h2,qe (Ne.symm h2)];simp
 rw[qe h1,qe (Ne.symm h1)];rfl
def Ei(l:List PtD)(i:Nat):Prop:=∃ a b,0<i/\l[i-1]?=some a/\l[i]?=some b/\H4 a b=true
theorem KX(l:List PtD)(hl:l.length<=1000):∃ r,rn (l,())=some (r,())/\(r=true↔∀ i,¬Ei l i):=by
 obtain⟨r,h,hr⟩:=aH (f:=na) (λx=>∃ i:Nat,x=(l,((i+1:Nat):Int),())/\i<=l.length/\∀ j,j<=i->¬Ei l j) (λx=>l.length+1-x.2.1.toNat)
  (λr=>(r=.inl (false,())/\∃ i,Ei l i)\/(r=.inr (.inl ())/\∀ i,¬Ei l i)) (by
  rintro x ⟨i,rfl,hi,ht⟩;simp only[na];by_cases h:i+1<l.length
  ·rw[aq (by omega),U3,N6 (by omega),show((i+1:Nat):Int)-1=(i:Nat) by omega,ac,ac,bx h,bx (show i<l.length by omega),aR (by omega)];simp only[bv];cases hb:(eqI l[i].1 l[i+1].1)&&((eqI l[i].2.1 l[i+1].2.1)&&true)with
   |true=>exact .inr ⟨_,rfl,.inl ⟨rfl,i+1,_,_,by omega,bx (show i<l.length by omega),bx h,hb⟩⟩
   |false=>
    refine .inl ⟨_,rfl,⟨i+1,rfl,by omega,λj hj=>?_⟩,by show l.length+1-((i+1+1:Nat):Int).toNat<l.length+1-((i+1:Nat):Int).toNat;omega⟩;rcases VA j (i+1)with h'|h'
    ·exact ht j (by omega)
    have:j=i+1:=by omega
    subst this;rintro⟨a,b,_,h1,h2,h3⟩;rw[Yr,bx (show i<l.length by omega)]at h1;rw[bx h]at h2;cases h1;cases h2
    rw[H4,hb]at h3;cases h3
  rw[aj (by omega)];refine .inr ⟨_,rfl,.inr ⟨rfl,λj hj=>?_⟩⟩;have hj':=hj;obtain⟨_,_,_,_,h2,_⟩:=hj;have:=(tz.1 h2).1;exact ht j (by omega) hj') (l,1,()) ⟨0,rfl,L4 _,λj hj h=>by obtain⟨_,_,h,_⟩:=h;omega⟩
 have h':qQ (l,1,())=some r:=h;unfold rn;simp only[h',bv];rcases hr with⟨rfl,i,hi⟩|⟨rfl,hn⟩
 ·exact⟨_,rfl,(λh=>by cases h),λh=>absurd hi (h i)⟩
 exact⟨_,rfl,λ_=>hn,λ_=>rfl⟩
theorem Lg(l:List PtD)(hl:l.length<=1000):br (l,(),())=some (l.any (λb=>!ptB b),()):=by
 have:∃ k:Int,bI (l,(),())=some (k,())/\geI k 0=l.any (λb=>!ptB b):=by
  obtain⟨r,h,hr⟩:=aH (f:=bt) (λx=>∃ i:Nat,x=(l,(),(l.length:Int),(i:Int),())/\i<=l.length/\(l.take i).any (λb=>!ptB b)=false) (λx=>l.length-x.2.2.2.1.toNat)
   (λr=>(∃ i:Nat,r=.inl ((i:Int),())/\l.any (λb=>!ptB b)=true)\/(r=.inr (.inl ())/\l.any (λb=>!ptB b)=false)) (by
   rintro x ⟨i,rfl,hi,ht⟩;simp only[bt];by_cases h:i<l.length
   ·rw[aq (by omega),U3,ac,bx h,aR (by omega)];simp only[bv,vj,AR];cases hb:ptB l[i]with
    |false=>exact .inr ⟨_,rfl,.inl ⟨i,rfl,Wi.2 ⟨_,A2 h,by simp[hb]⟩⟩⟩
    |true=>refine .inl ⟨_,rfl,⟨i+1,rfl,h,?_⟩,by show l.length-((i+1:Nat):Int).toNat<l.length-(i:Int).toNat;omega⟩;rw[Vf h,YD,ht];simp[hb]
   rw[aj (by omega)];rw[VP (by omega)]at ht;exact .inr ⟨_,rfl,.inr ⟨rfl,ht⟩⟩) (l,(),(l.length:Int),0,()) ⟨0,rfl,L4 _,rfl⟩
  have h':cf (l,(),(l.length:Int),0,())=some r:=h;unfold bI;simp only[h',bv];rcases hr with⟨i,rfl,ha⟩|⟨rfl,ha⟩
  ·exact⟨_,rfl,by rw[ha,o6 (by omega)]⟩
  exact⟨_,rfl,by rw[ha];rfl⟩
 obtain⟨k,h1,h3⟩:=this;unfold br;simp only[h1,bv,h3]
def OkR(l:List PtD):Prop:=l≠[]/\l.length<=512/\(∀ p∈l,ptB p=true)/\∀ i,¬Ei l i
theorem Bf(l:List PtD)(hl:l.length<=1000):∃ r,iY (l,())=some (r,())/\(r=true↔OkR l):=by
 obtain⟨r,h1,h2⟩:=KX l hl;have h3:=Lg l hl;unfold iY zh;simp only[h1,bv,h3];cases r with
 |false=>exact⟨_,rfl,(λh=>by cases h),λh=>by have:=h2.2 h.2.2.2;cases this⟩
 |true=>
  have h2:=h2.1 rfl;cases l with
  |nil=>exact⟨_,rfl,(λh=>by cases h),λh=>absurd rfl h.1⟩
  |cons p l=>
   rw[o6 (by rw[B2];omega)];by_cases hs:(p::l).length<=512
   ·rw[MI (by omega)];simp only[U3,bv];cases ha:(p::l).any λb=>!ptB b with
    |true=>refine⟨_,rfl,(λh=>by cases h),λh=>?_⟩;obtain⟨x,hx,hb⟩:=Wi.1 ha;rw[h.2.2.1 x hx]at hb;cases hb
    |false=>refine⟨_,rfl,λ_=>⟨by simp,hs,λx hx=>?_,h2⟩,λ_=>rfl⟩;have:=Vj.1 ha x hx;simpa using this
   rw[PA (by omega)];exact⟨_,rfl,(λh=>by cases h),λh=>absurd h.2.1 hs⟩
theorem C8(l:List PtD)(hl:l.length<=1000):∃ r,cD (l,())=some (r,())/\(r=true↔OkR l):=by
 obtain⟨r,h,hr⟩:=aH (f:=iU) (λx=>∃ i:Nat,x=(l,(i:Int),())/\i<=l.length/\(∀ p∈l.take i,ptB p=true)/\∀ j,j<i->¬Ei l j) (λx=>l.length-x.2.1.toNat)
  (λr=>(r=.inl (false,())/\¬((∀ p∈l,ptB p=true)/\∀ i,¬Ei l i))\/(r=.inr (.inl ())/\(∀ p∈l,ptB p=true)/\∀ i,¬Ei l i)) (by
  rintro x ⟨i,rfl,hi,hp,ht⟩;simp only[iU];by_cases h:i<l.length
  ·rw[aq (by omega),U3,ac,bx h,aR (by omega)];simp only[bv,Te];cases hb:ptB l[i]with
   |false=>exact .inr ⟨_,rfl,.inl ⟨rfl,λhh=>by have:=hh.1 _ (A2 h);rw[hb]at this;cases this⟩⟩
   |true=>
    have hp':∀ p∈l.take (i+1),ptB p=true:=by
     intro p hpm;rw[Vf h,B6]at hpm;rcases hpm with hpm|hpm
     ·exact hp p hpm
     rw[Vu]at hpm;rw[hpm];exact hb
    rcases Nat.eq_zero_or_pos i with h0|h0
    ·subst h0;rw[show gtI ((0:Nat):Int) 0=false from rfl];refine .inl ⟨_,rfl,⟨1,rfl,h,hp',λj hj=>?_⟩,by show l.length-((0+1:Nat):Int).toNat<l.length-((0:Nat):Int).toNat;omega⟩;rintro⟨_,_,h,_⟩;omega
    obtain⟨k,rfl⟩:∃ k,i=k+1:=⟨i-1,by omega⟩;rw[pf (by omega),N6 (by omega),show((k+1:Nat):Int)-1=(k:Nat) by omega,ac,bx (show k<l.length by omega)];simp only[U8,U4,U3,bv];cases hs:(eqI l[k+1].1 l[k].1)&&((eqI l[k+1].2.1 l[k].2.1)&&true)with
    |true=>refine .inr ⟨_,rfl,.inl ⟨rfl,λhh=>hh.2 (k+1) ⟨_,_,by omega,bx (show k<l.length by omega),bx h,?_⟩⟩⟩;rw[Gw];exact hs
    |false=>
     refine .inl ⟨_,rfl,⟨k+1+1,rfl,h,hp',λj hj=>?_⟩,by show l.length-((k+1+1:Nat):Int).toNat<l.length-((k+1:Nat):Int).toNat;omega⟩;rcases VA j (k+1)with h'|h'
     ·exact ht j h'
     have:j=k+1:=by omega
     subst this;rintro⟨a,b,_,h1,h2,h3⟩;rw[Yr,bx (show k<l.length by omega)]at h1;rw[bx h]at h2;cases h1;cases h2
     rw[Gw,H4,hs]at h3;cases h3
  rw[aj (by omega)];rw[VP (by omega)]at hp;refine .inr ⟨_,rfl,.inr ⟨rfl,hp,λj hj=>?_⟩⟩;have hj':=hj;obtain⟨_,_,_,_,h2,_⟩:=hj;have:=(tz.1 h2).1;exact ht j (by omega) hj') (l,0,()) ⟨0,rfl,L4 _,λp hp=>by simp at hp,λj hj=>by omega⟩
 have h':mO (l,0,())=some r:=h;unfold cD;simp only[h',bv];cases l with
 |nil=>exact⟨_,rfl,(λh=>by cases h),λh=>absurd rfl h.1⟩
 |cons p l=>
  rw[aj (by rw[B2];omega)];by_cases hs:(p::l).length<=512
  ·rw[eM (by omega)];rcases hr with⟨rfl,hn⟩|⟨rfl,hn⟩
   ·exact⟨_,rfl,(λh=>by cases h),λh=>absurd h.2.2 hn⟩
   exact⟨_,rfl,λ_=>⟨by simp,hs,hn⟩,λ_=>rfl⟩
  rw[pf (by omega)];exact⟨_,rfl,(λh=>by cases h),λh=>absurd h.2.1 hs⟩
theorem xx(l:List PtD)(hl:l.length<=1000):∃ r,iY (l,())=some (r,())/\cD (l,())=some (r,())/\(r=true↔OkR l):=by
 obtain⟨r,h1,h2⟩:=Bf l hl;obtain⟨s,h3,h4⟩:=C8 l hl;have:r=s:=by
  cases r with
  |true=>exact(h4.2 (h2.1 rfl)).symm
  |false=>
   cases s with
   |false=>rfl
   |true=>exact absurd (h2.2 (h4.1 rfl)) (by simp)
 subst this;exact⟨r,h1,h3,h2⟩
section
variable {a:ByteArray}{b:Bool}{c:List qN}{d:List tw}{e:List kO}{f g i:List BoxD}{h:List (List PtD)}{k l m n o p:Int}{q:List Int}
theorem DU (H:FewD f g i h):∃ r:Bool,vy (f,g,h,i,k,l,m,n,o,p,q,h,(h.length:Int),0,())=some (cond r (.inr (.inl (f,g,h,i,k,l,m,n,o,p,q,()))) (.inl (false,()))) /\
  ny (f,g,h,i,k,l,m,n,o,p,q,0,())=some (cond r (.inr (.inl ())) (.inl (false,())))/\(r=true->∀ x∈h,OkR x):=by
 obtain⟨r,u,h1,h2,h3⟩:=vY (B:=rg) (C:=jr) (λx y=>∃ j:Nat,x=(f,g,h,i,k,l,m,n,o,p,q,h,(h.length:Int),(j:Int),())/\y=(f,g,h,i,k,l,m,n,o,p,q,(j:Int),())/\j<=h.length/\∀ z∈h.take j,OkR z) (λx=>h.length-x.2.2.2.2.2.2.2.2.2.2.2.2.2.1.toNat)
  (λr u=>(r=.inl (false,())/\u=.inl (false,()))\/(r=.inr (.inl (f,g,h,i,k,l,m,n,o,p,q,()))/\u=.inr (.inl ())/\∀ x∈h,OkR x)) (by
  rintro x y ⟨j,rfl,rfl,hj,ht⟩;have hh:=H.hh;simp only[rg,jr];by_cases hjl:j<h.length
  ·obtain⟨r,r1,r2,r3⟩:=xx h[j] (by have:=H.hr _ (A2 hjl);omega);rw[aq (by omega),U3,U3,ac,bx hjl,aR (by omega)];simp only[bv,r1,r2];cases r with
   |false=>exact .inr ⟨_,_,rfl,rfl,.inl ⟨rfl,rfl⟩⟩
   |true=>
    refine .inl ⟨_,_,rfl,rfl,⟨j+1,rfl,rfl,hjl,λz hz=>?_⟩,by show h.length-((j+1:Nat):Int).toNat<h.length-(j:Int).toNat;omega⟩;rw[Vf hjl,B6]at hz;rcases hz with hz|hz
    ·exact ht z hz
    rw[Vu]at hz;rw[hz];exact r3.1 rfl
  rw[aj (by omega)];rw[VP (by omega)]at ht;exact .inr ⟨_,_,rfl,rfl,.inr ⟨rfl,rfl,ht⟩⟩) (f,g,h,i,k,l,m,n,o,p,q,h,(h.length:Int),0,()) (f,g,h,i,k,l,m,n,o,p,q,0,()) ⟨0,rfl,rfl,L4 _,λz hz=>by simp at hz⟩
 rcases h3 with⟨rfl,rfl⟩|⟨rfl,rfl,h3⟩
 ·exact⟨false,h1,h2,λh=>by cases h⟩
 exact⟨true,h1,h2,λ_=>h3⟩
theorem Iq(x y:Int):neI x y=!eqI x y:=by
 by_cases h:x=y
 ·rw[gW h,tg h];rfl
 rw[wc h,qe h];rfl
theorem Oe (H:FewG a c d e)(K:FewD f g i h):∃ r,oU ((a,b,c,d,e,()),(f,g,h,i,(k,l,m,n,()),o,p,q,()),())=some (r,()) /\
  eH ((a,b,c,d,e,()),(f,g,h,i,(k,l,m,n,()),o,p,q,()),())=some (r,())/\(r=true->∀ x∈h,OkR x):=by
 obtain⟨v,v1,v2⟩:=Ga (b:=b) H;obtain⟨t,t1,t2,t3⟩:=DU (k:=k) (l:=l) (m:=m) (n:=n) (o:=o) (p:=p) (q:=q) K;have kf:=K.hf;have kg:=K.hg;have ki:=K.hi;unfold oU eH;simp only[v1,v2,bv,t1,t2,rF f (by omega),rF g (by omega),rF i (by omega),Da f _ (show f.length<=1000 by omega),Da g _ (show g.length<=1000 by omega),Da i _ (show i.length<=1000 by omega),Iq];cases t with
 |false=>cases eqI v 0<;>cases eqI (f.length:Nat) (c.length:Nat)<;>cases eqI (g.length:Nat) (e.length:Nat)<;>cases eqI (h.length:Nat) (d.length:Nat)<;>cases eqI (i.length:Nat) (d.length:Nat)<;>cases f.all bxB<;>cases g.all bxB<;>cases i.all bxB<;>exact⟨false,rfl,rfl,λh=>by cases h⟩
 |true=>have t3:=t3 rfl;cases eqI v 0<;>cases eqI (f.length:Nat) (c.length:Nat)<;>cases eqI (g.length:Nat) (e.length:Nat)<;>cases eqI (h.length:Nat) (d.length:Nat)<;>cases eqI (i.length:Nat) (d.length:Nat)<;>simp only[Bool.and_true,Bool.and_false,U8,Bool.not_false,U3,U4,bv,Vx,B7,rF f (show f.length<=1000 by omega),rF g (show g.length<=1000 by omega),rF i (show i.length<=1000 by omega)]<;>cases f.all bxB<;>cases g.all bxB<;>cases i.all bxB<;>exact⟨_,rfl,rfl,λ_=>t3⟩
end
end Go.Vm

/-
 AuditCounts: overlaps and crossings.
-/
namespace Go.Vm
open Go.Proofs
set_option maxRecDepth 100000
attribute [local irreducible] ab
def ovB(x y:BoxD):Bool:=bxB x&&(bxB y&&(ltI (dj x.1 y.1) (bL x.2.2.1 y.2.2.1)&&ltI (dj x.2.1 y.2.1) (bL x.2.2.2.1 y.2.2.2.1)))
theorem KS(x y:BoxD):eW (x,y,())=some (ovB x y,()):=by unfold eW ovB;simp only[Cl,bv];show(cond (bxB x) ((cond (bxB y) (cond (ltI (dj x.1 y.1) (bL x.2.2.1 y.2.2.1)) _ _) _)) _:Option (Bool×Unit))=_;cases bxB x<;>cases bxB y<;>cases ltI (dj x.1 y.1) (bL x.2.2.1 y.2.2.1)<;>rfl
theorem Jg(x y:BoxD):dY (x,y,())=some (ovB x y,()):=KS x y
def xX(b:Bool):Nat:=cond b 1 0
theorem zC(b:Bool):xX b<=1:=by cases b<;>decide
section
variable {f g i:List BoxD}{h:List (List PtD)}{k l m n o p:Int}{q:List Int}
def Jf(z:List BoxD)(j:Nat):Nat:=((z.take j).map λy=>xX (match z[j]? with|some x=>ovB x y|none=>false)).sum
theorem M3{z:List BoxD}{j:Nat}{x:BoxD}(hx:z[j]?=some x):Jf z j=((z.take j).map λy=>xX (ovB x y)).sum:=by unfold Jf;rw[hx]
theorem MV(z:List BoxD)(j:Nat)(hz:z.length<=40):Jf z j<=40:=by have:=GO (λy=>xX (match z[j]? with|some x=>ovB x y|none=>false)) 1 (z.take j) (λa _=>zC _);rw[Vd]at this;unfold Jf;omega
theorem T3 (z w:List BoxD)(hz:z.length<=40)(x:BoxD)(n0:Nat)(hn:n0<=100000)(u N j:Int)(v:List BoxD) :
  pQ (x.1,x.2.1,x.2.2.1,x.2.2.2.1,w,(n0:Int),v,N,j,z,(z.length:Int),0,())=some (.inl (w,((n0+(z.map λy=>xX (ovB x y)).sum:Nat):Int),v,N,j,())):=
 re (B:=ir) z (λy=>xX (ovB x y)) 1 n0 (λ_ _=>zC _) (λn i=>(x.1,x.2.1,x.2.2.1,x.2.2.2.1,w,(n:Int),v,N,j,z,(z.length:Int),(i:Int),())) (λn=>.inl (w,(n:Int),v,N,j,())) (by
  intro n i hi hb;simp only[ir];rw[aq (by omega),U3,ac,bx hi,aR (show i<9223372036854775807 by omega),aR (show n<9223372036854775807 by omega)];simp only[bv];have:=KS x z[i];rw[show eW ((x.1,x.2.1,x.2.2.1,x.2.2.2.1,()),(z[i].1,z[i].2.1,z[i].2.2.1,z[i].2.2.2.1,()),())=some (ovB x z[i],())from this];simp only[bv];cases ovB x z[i]<;>rfl) (by
  intro n;simp only[ir];rw[aj (by omega)];rfl)
theorem Tx(z:List BoxD)(hz:z.length<=40):pn (z,0,z,(z.length:Int),0,())=some (.inl ((((L7 z.length).map (Jf z)).sum:Nat),())):=by
 have:=re (B:=il) (L7 z.length) (Jf z) 40 0 (λj _=>MV z j hz) (λn i=>(z,(n:Int),z,(z.length:Int),(i:Int),())) (λn=>.inl ((n:Int),())) (by
  intro n i hi hb;rw[VC]at hi;simp only[il];rw[aq (by omega),U3,ac,bx hi];simp only[bv,mc (Xx hi)];rw[T3 (z.take i) z (by rw[Vd];omega) z[i] n (by omega) 0 (z.length:Int) (i:Int) z];simp only[bv,B7,WI];rw[M3 (bx hi),aR (show i<9223372036854775807 by omega)]) (by
  intro n;simp only[il,VC];rw[aj (by omega)];rfl)
 rw[Vt]at this;exact this
theorem TM (z:List BoxD)(hz:z.length<=40)(j:Nat)(hj:j < z.length)(n0:Nat)(hn:n0<=100000) :
  ja (z,(n0:Int),(j:Int),0,())=some (.inl (z,((n0+Jf z j:Nat):Int),(j:Int),())):=by
 rw[M3 (bx hj)];exact re (B:=dm) (z.take j) (λy=>xX (ovB z[j] y)) 1 n0 (λ_ _=>zC _) (λn i=>(z,(n:Int),(j:Int),(i:Int),())) (λn=>.inl (z,(n:Int),(j:Int),())) (by
  intro n i hi hb;rw[Vd]at hi;have hi':i<z.length:=by omega
  simp only[dm,Wo];rw[aq (by omega),U3,aB hj,aB hi'];simp only[bv,bx hj,bx hi',Jg,aR (show i<9223372036854775807 by omega),aR (show n<9223372036854775807 by omega)];cases ovB z[j] z[i]<;>rfl) (by
  intro n;simp only[dm,Vd];rw[aj (by omega),Nat.min_eq_left (Xx hj)];rfl)
theorem Sb(z:List BoxD)(hz:z.length<=40):fi (z,0,0,())=some (.inl ((((L7 z.length).map (Jf z)).sum:Nat),())):=by
 have:=re (B:=dH) (L7 z.length) (Jf z) 40 0 (λj _=>MV z j hz) (λn i=>(z,(n:Int),(i:Int),())) (λn=>.inl ((n:Int),())) (by
  intro n i hi hb;rw[VC]at hi;simp only[dH];rw[aq (by omega),U3,TM z hz i hi n (by omega)];simp only[bv,B7,WI];rw[aR (show i<9223372036854775807 by omega)]) (by
  intro n;simp only[dH,VC];rw[aj (by omega)];rfl)
 rw[Vt]at this;exact this
theorem Id(z:List BoxD)(hz:z.length<=1000):jN (z,())=some (z,()):=by
 unfold jN;have:app [] z=some z:=by rw[bw (by simp;omega)];rfl
 simp only[this,bv];cases z with
 |nil=>simp[G6]
 |cons _ _=>rfl
theorem Oy(K:FewD f g i h):∃ r,pX ((f,g,h,i,(k,l,m,n,()),o,p,q,()),())=some (r,())/\((app [] f).bind λa2=>(app a2 i).bind λa3=>(fi (a3,0,0,())).bind (Sum.elim (λz5=>some (z5.1,())) (λ_=>none)))=some (r,()):=by
 have hf:=K.hf;have hi:=K.hi;have e1:app [] f=some f:=by rw[bw (by simp;omega)];rfl
 have e2:app f i=some (f++i):=by rw[bw (by omega)]
 have hl:(f++i).length<=40:=by rw[List.length_append];omega
 unfold pX;simp only[Id f (by omega),e1,e2,bv,Tx _ hl,Sb _ hl,B7];exact⟨_,rfl,rfl⟩
end
def otI(a b c:PtD):Int:=aK .i64 (jV .i64 (aK .i64 b.1 a.1) (aK .i64 c.2.1 a.2.1)) (jV .i64 (aK .i64 b.2.1 a.2.1) (aK .i64 c.1 a.1))
def yx(n:Int):Int:=cond (gtI n 0) 1 (cond (ltI n 0) (-1) 0)
def crB(s t:SegD):Bool:=ltI (jV .i64 (yx (otI s.1 s.2.1 t.1)) (yx (otI s.1 s.2.1 t.2.1))) 0&&ltI (jV .i64 (yx (otI t.1 t.2.1 s.1)) (yx (otI t.1 t.2.1 s.2.1))) 0
theorem PM(s t:SegD):crB s t=crB t s:=by unfold crB;exact Bool.and_comm _ _
theorem IZ(s:SegD)(c:PtD):dp ((s.1,s.2.1,()),c,())=some (yx (otI s.1 s.2.1 c),()):=by
 unfold dp yx otI;simp only;cases gtI (aK .i64 (jV .i64 (aK .i64 s.2.1.1 s.1.1) (aK .i64 c.2.1 s.1.2.1)) (jV .i64 (aK .i64 s.2.1.2.1 s.1.2.1) (aK .i64 c.1 s.1.1))) 0 with
 |true=>rfl
 |false=>cases ltI (aK .i64 (jV .i64 (aK .i64 s.2.1.1 s.1.1) (aK .i64 c.2.1 s.1.2.1)) (jV .i64 (aK .i64 s.2.1.2.1 s.1.2.1) (aK .i64 c.1 s.1.1))) 0<;>rfl
theorem Kw(s t:SegD):eJ ((s.1,s.2.1,()),(t.1,t.2.1,()),())=some (ltI (jV .i64 (yx (otI s.1 s.2.1 t.1)) (yx (otI s.1 s.2.1 t.2.1))) 0,()):=by unfold eJ;have h1:=IZ s t.1;have h2:=IZ s t.2.1;simp only;rw[show dp (((s.1.1,s.1.2.1,()),(s.2.1.1,s.2.1.2.1,()),()),(t.1.1,t.1.2.1,()),())=_ from h1,show dp (((s.1.1,s.1.2.1,()),(s.2.1.1,s.2.1.2.1,()),()),(t.2.1.1,t.2.1.2.1,()),())=_ from h2];rfl
theorem SQ(s:SegD)(h1:ptB s.1=true)(h2:ptB s.2.1=true):xy ((s.1,s.2.1,()),())=some ((s.1,s.2.1,()),true,()):=by unfold xy;simp only;rw[show eF ((s.1.1,s.1.2.1,()),())=some (true,())from(AR s.1).trans (by rw[h1]),show eF ((s.2.1.1,s.2.1.2.1,()),())=some (true,())from(AR s.2.1).trans (by rw[h2])];rfl
def okS(s:SegD):Prop:=ptB s.1=true/\ptB s.2.1=true
theorem QZ(s t:SegD)(hs:okS s)(ht:okS t):mN (s,t,())=some (crB s t,()):=by unfold mN;simp only;rw[show xy (((s.1.1,s.1.2.1,()),(s.2.1.1,s.2.1.2.1,()),()),())=_ from SQ s hs.1 hs.2,show xy (((t.1.1,t.1.2.1,()),(t.2.1.1,t.2.1.2.1,()),()),())=_ from SQ t ht.1 ht.2];simp only[bv,U3];have h1:=Kw s t;have h2:=Kw t s;rw[show eJ (((s.1.1,s.1.2.1,()),(s.2.1.1,s.2.1.2.1,()),()),((t.1.1,t.1.2.1,()),(t.2.1.1,t.2.1.2.1,()),()),())=_ from h1,show eJ (((t.1.1,t.1.2.1,()),(t.2.1.1,t.2.1.2.1,()),()),((s.1.1,s.1.2.1,()),(s.2.1.1,s.2.1.2.1,()),()),())=_ from h2];unfold crB;simp only[bv];cases ltI (jV .i64 (yx (otI s.1 s.2.1 t.1)) (yx (otI s.1 s.2.1 t.2.1))) 0<;>rfl
theorem RG(n:Int):eG (n,())=some (yx n,()):=by
 unfold eG yx;by_cases h:n<0
 ·rw[aq h,eM (by omega)];rfl
 rw[aj (by omega)];cases gtI n 0<;>rfl
theorem N8(a b c d:PtD):lK (a,b,c,d,())=some (crB (a,b,()) (c,d,()),()):=by
 have ho:∀ a b c:PtD,bj (a,b,c,())=some (otI a b c,()):=λ_ _ _=>rfl;unfold lK crB;simp only;rw[show bj ((a.1,a.2.1,()),(b.1,b.2.1,()),(c.1,c.2.1,()),())=_ from ho a b c,show bj ((a.1,a.2.1,()),(b.1,b.2.1,()),(d.1,d.2.1,()),())=_ from ho a b d,
  show bj ((c.1,c.2.1,()),(d.1,d.2.1,()),(a.1,a.2.1,()),())=_ from ho c d a,show bj ((c.1,c.2.1,()),(d.1,d.2.1,()),(b.1,b.2.1,()),())=_ from ho c d b]
 simp only[bv,RG];cases ltI (jV .i64 (yx (otI a b c)) (yx (otI a b d))) 0<;>rfl
end Go.Vm

/-
 AuditCounts: the counts of crossings; the law.
-/
namespace Go.Vm
open Go.Proofs
set_option maxRecDepth 100000
attribute [local irreducible] ab
theorem MK{α:Type}(v w:α->Nat):∀ l:List α,(l.map λa=>v a+w a).sum=(l.map v).sum+(l.map w).sum
 |[]=>rfl
 |a::l=>by simp only[L3,WG,MK v w l];omega
theorem KT{α:Type}:∀ l:List α,(l.map λ_=>0).sum=0
 |[]=>rfl
 |_::l=>by simp only[L3,WG,KT l]
theorem JB{α β:Type}(w:α->β->Nat)(r:List β):∀ l:List α,(l.map λa=>(r.map λb=>w a b).sum).sum=(r.map λb=>(l.map λa=>w a b).sum).sum
 |[]=>by simp only[List.map_nil,List.sum_nil,KT]
 |a::l=>by simp only[L3,WG,JB w r l,MK]
def crN(x y:List PtD):Nat:=((sgD x).map λs=>((sgD y).map λt=>xX (crB s t)).sum).sum
theorem PZ(x y:List PtD):crN x y=crN y x:=by unfold crN;rw[JB];simp only[PM]
theorem oJ(l:List PtD):(sgD l).length=l.length-1:=by unfold sgD;rw[List.length_map,List.length_zip,List.length_drop];omega
theorem LJ(l:List PtD)(i:Nat)(h:i<(sgD l).length)(h1:i<l.length)(h2:i+1<l.length):(sgD l)[i]=(l[i],l[i+1],()):=by rw[List.getElem_of_eq (show sgD l=(List.zip l (l.drop 1)).map (λp=>(p.1,(p.2,())))from rfl) h];simp only[List.getElem_map,List.getElem_zip,List.getElem_drop];simp only[Nat.add_comm 1 i]
theorem QD(l:List PtD)(h:∀ p∈l,ptB p=true):∀ s∈sgD l,okS s:=by intro s hs;obtain⟨i,hi,rfl⟩:=List.getElem_of_mem hs;have hl:=oJ l;rw[LJ l i hi (by omega) (by omega)];exact⟨h _ (A2 _),h _ (A2 _)⟩
theorem Mn(x:SegD)(y:List PtD)(hy:y.length<=30):((sgD y).map λt=>xX (crB x t)).sum<=30:=by have:=GO (λt=>xX (crB x t)) 1 (sgD y) (λ_ _=>zC _);have:=oJ y;omega
theorem Gl(x y:List PtD)(hx:x.length<=30)(hy:y.length<=30):crN x y<=900:=by have h1:=GO (λs=>((sgD y).map λt=>xX (crB s t)).sum) 30 (sgD x) (λs _=>Mn s y hy);have h2:=oJ x;unfold crN;have:(sgD x).length*30<=30*30:=B3 30 (by omega);omega
theorem Ht(s:SegD)(hs:okS s):∀(ts:List SegD) (n:Nat),(∀ t∈ts,okS t)->n+ts.length<=1000000->zr mN s (n:Int) ts=some ((n+(ts.map λt=>xX (crB s t)).sum:Nat):Int)
 |[],n,_,_=>by simp[zr]
 |t::ts,n,ht,hn=>by rw[B2]at hn;rw[zr,QZ s t hs (ht t (VF ..)),bv,aR (by omega),L3,WG,<- VS];have ih:=Ht s hs ts (n+xX (crB s t)) (λu hu=>ht u (Vk _ hu)) (by have:=zC (crB s t);omega);rw[<- ih];cases crB s t<;>rfl
theorem FI(y:List PtD)(hy:y.length<=30)(hyo:∀ p∈y,ptB p=true):∀(ss:List SegD) (n:Nat),(∀ s∈ss,okS s)->n+ss.length*30<=900000->vo mN (n:Int) ss (sgD y)=some ((n+(ss.map λs=>((sgD y).map λt=>xX (crB s t)).sum).sum:Nat):Int)
 |[],n,_,_=>by simp[vo]
 |s::ss,n,hs,hn=>by rw[B2,L6,Xq]at hn;have hl:=oJ y;rw[vo,Ht s (hs s (VF ..)) (sgD y) n (QD y hyo) (by omega),bv,L3,WG,<- VS];have hr:=Mn s y hy;exact FI y hy hyo ss _ (λu hu=>hs u (Vk _ hu)) (by omega)
theorem Q0(x y:List PtD)(hx:x.length<=30)(hy:y.length<=30)(ox:OkR x)(oy:OkR y):Zi (x,y,())=some ((crN x y:Int),()):=by
 obtain⟨r1,a1,a2⟩:=Bf x (by omega);obtain⟨r2,b1,b2⟩:=Bf y (by omega);have a2:=a2.2 ox;have b2:=b2.2 oy;subst a2 b2;have hl:=oJ x;have:=FI y hy oy.2.2.1 (sgD x) 0 (QD x ox.2.2.1) (by have:(sgD x).length*30<=30*30:=B3 30 (by omega);omega);show Cx iY mN (x,y,())=_;unfold Cx;have hs:Dy x y=true:=by unfold Dy;rw[Bool.and_eq_true];exact⟨X9 (by omega),X9 (by omega)⟩
 simp only[hs,U3,a1,b1,bv];rw[show((0:Nat):Int)=0 from rfl]at this;rw[this,Vt];rfl
theorem To (x y:List PtD)(i:Nat)(hi:i+1 < x.length)(hx:x.length<=30)(hy:y.length<=30)(hy0:y≠[])(n0:Nat)(hn:n0<=100000) :
  i9 (x,y,(n0:Int),((i+1:Nat):Int),1,())=some (.inl (x,y,((n0+((sgD y).map λt=>xX (crB (x[i],x[i+1],()) t)).sum:Nat):Int),((i+1:Nat):Int),())):=by
 have hl:=oJ y;have hy1:0<y.length:=Wd.2 hy0;exact re (B:=dd) (sgD y) (λt=>xX (crB (x[i],x[i+1],()) t)) 1 n0 (λ_ _=>zC _) (λn j=>(x,y,(n:Int),((i+1:Nat):Int),((j+1:Nat):Int),())) (λn=>.inl (x,y,(n:Int),((i+1:Nat):Int),())) (by
  intro n j hj hb;simp only[dd];rw[aq (by omega),U3,N6 (by omega),N6 (by omega),show((i+1:Nat):Int)-1=(i:Nat) by omega,show((j+1:Nat):Int)-1=(j:Nat) by omega,ac,ac,ac,ac,
   bx hi,bx (show i<x.length by omega),bx (show j+1<y.length by omega),bx (show j<y.length by omega),aR (show n<9223372036854775807 by omega),aR (show j+1<9223372036854775807 by omega)]
  simp only[bv,N8];rw[LJ y j hj (by omega) (by omega)];cases crB (x[i],x[i+1],()) (y[j],y[j+1],())<;>rfl) (by
  intro n;simp only[dd];rw[aj (by omega)];rfl)
theorem R3(x y:List PtD)(hx:x.length<=30)(hy:y.length<=30)(ox:OkR x)(oy:OkR y):gN (x,y,())=some ((crN x y:Int),()):=by
 obtain⟨r1,a1,a2⟩:=C8 x (by omega);obtain⟨r2,b1,b2⟩:=C8 y (by omega);have a2:=a2.2 ox;have b2:=b2.2 oy;subst a2 b2;have hl:=oJ x;have hx1:0<x.length:=Wd.2 ox.1;have:=re (B:=dl) (sgD x) (λs=>((sgD y).map λt=>xX (crB s t)).sum) 30 0 (λs _=>Mn s y hy) (λn j=>(x,y,(n:Int),((j+1:Nat):Int),())) (λn=>.inl ((n:Int),())) (by
  intro n j hj hb;simp only[dl];rw[aq (by omega),U3,To x y j (by omega) hx hy oy.1 n (by omega)];simp only[bv,B7];rw[LJ x j hj (by omega) (by omega),aR (show j+1<9223372036854775807 by omega)]) (by
  intro n;simp only[dl];rw[aj (by omega)];rfl)
 rw[show 0+((sgD x).map λs=>((sgD y).map λt=>xX (crB s t)).sum).sum=crN x y from Vt _]at this;have h5:jf (x,y,0,1,())=some (.inl ((crN x y:Int),())):=this;unfold gN;simp only[a1,b1,h5,bv];rfl
section
variable {f g i:List BoxD}{h:List (List PtD)}{k l m n o p:Int}{q:List Int}
def FW(h:List (List PtD))(j:Nat):Nat:=((h.take j).map λy=>match h[j]? with|some x=>crN y x|none=>0).sum
theorem Is{h:List (List PtD)}{j:Nat}{x:List PtD}(hx:h[j]?=some x):FW h j=((h.take j).map λy=>crN y x).sum:=by unfold FW;rw[hx]
theorem Na(K:FewD f g i h)(j:Nat)(hj:j<h.length):FW h j<=18000:=by have hx:h[j]?=some h[j]:=bx hj;rw[Is hx];have:=GO (λy=>crN y h[j]) 900 (h.take j) (λy hy=>Gl _ _ (K.hr _ (VI hy)) (K.hr _ (A2 hj)));have hh:=K.hh;have:(h.take j).length*900<=20*900:=B3 900 (by rw[Vd];omega);omega
theorem G8 (K:FewD f g i h)(O:∀ x∈h,OkR x)(j:Nat)(hj:j < h.length)(n0:Nat)(hn:n0<=1000000)(v:List (List PtD))(N J:Int) :
  oL (f,g,h,i,k,l,m,n,o,p,q,(n0:Int),h[j],v,N,J,h.take j,((h.take j).length:Int),0,())=some (.inl (f,g,h,i,k,l,m,n,o,p,q,((n0+FW h j:Nat):Int),v,N,J,())):=by
 rw[Is (bx hj)];exact re (B:=gC) (h.take j) (λy=>crN y h[j]) 900 n0 (λy hy=>Gl _ _ (K.hr _ (VI hy)) (K.hr _ (A2 hj))) (λn0 s=>(f,g,h,i,k,l,m,n,o,p,q,(n0:Int),h[j],v,N,J,h.take j,((h.take j).length:Int),(s:Int),())) (λn0=>.inl (f,g,h,i,k,l,m,n,o,p,q,(n0:Int),v,N,J,())) (by
  intro t s hs hb;have hh:=K.hh;have hsl:s<h.length:=by rw[Vd]at hs;omega
  have hle:=Gl h[s] h[j] (K.hr _ (A2 hsl)) (K.hr _ (A2 hj));have hsb:s*900<=20*900:=B3 900 (by omega);simp only[gC];rw[aq (by omega),U3,ac,bx hs,aR (show s<9223372036854775807 by omega)];simp only[bv,Wo];rw[Q0 h[s] h[j] (K.hr _ (A2 hsl)) (K.hr _ (A2 hj)) (O _ (A2 hsl)) (O _ (A2 hj))];simp only[bv];rw[oT (by omega) (by omega),<- W4]) (by
  intro t;simp only[gC];rw[aj (by omega)];rfl)
theorem Mj(K:FewD f g i h)(O:∀ x∈h,OkR x):kN ((f,g,h,i,(k,l,m,n,()),o,p,q,()),())=some (((((L7 h.length).map (FW h)).sum:Nat):Int),()):=by
 have hh:=K.hh;have:=re (B:=gH) (L7 h.length) (FW h) 18000 0 (λj hj=>Na K j (Vp.1 hj)) (λt j=>(f,g,h,i,k,l,m,n,o,p,q,(t:Int),h,(h.length:Int),(j:Int),())) (λt=>.inl ((t:Int),())) (by
  intro t j hj hb;rw[VC]at hj;have hjb:j*18000<=20*18000:=B3 _ (by omega);simp only[gH];rw[aq (by omega),U3,ac,bx hj];simp only[bv,mc (Xx hj)];rw[G8 K O j hj t (by omega)];simp only[bv,B7,WI];rw[aR (show j<9223372036854775807 by omega)]) (by
  intro t;simp only[gH,VC];rw[aj (by omega)];rfl)
 rw[Vt]at this;have h3:oK (f,g,h,i,k,l,m,n,o,p,q,0,h,(h.length:Int),0,())=some (.inl (((((L7 h.length).map (FW h)).sum:Nat):Int),())):=this;unfold kN;simp only[h3,bv];rfl
theorem ID (K:FewD f g i h)(O:∀ x∈h,OkR x)(j:Nat)(hj:j < h.length)(n0:Nat)(hn:n0<=1000000) :
  i7 (f,g,h,i,k,l,m,n,o,p,q,(n0:Int),(j:Int),0,())=some (.inl (f,g,h,i,k,l,m,n,o,p,q,((n0+FW h j:Nat):Int),(j:Int),())):=by
 rw[Is (bx hj)];exact re (B:=dg) (h.take j) (λy=>crN y h[j]) 900 n0 (λy hy=>Gl _ _ (K.hr _ (VI hy)) (K.hr _ (A2 hj))) (λn0 s=>(f,g,h,i,k,l,m,n,o,p,q,(n0:Int),(j:Int),(s:Int),())) (λn0=>.inl (f,g,h,i,k,l,m,n,o,p,q,(n0:Int),(j:Int),())) (by
  intro t s hs hb;have hh:=K.hh;rw[Vd]at hs;have hsl:s<h.length:=by omega
  have hle:=Gl h[s] h[j] (K.hr _ (A2 hsl)) (K.hr _ (A2 hj));have hsb:s*900<=20*900:=B3 900 (by omega);simp only[dg];rw[aq (by omega),U3,ac,ac,bx hj,bx hsl,aR (show s<9223372036854775807 by omega)];simp only[bv,Wo];rw[R3 h[j] h[s] (K.hr _ (A2 hj)) (K.hr _ (A2 hsl)) (O _ (A2 hj)) (O _ (A2 hsl)),PZ];simp only[bv];rw[oT (by omega) (by omega),<- W4]) (by
  intro t;simp only[dg,Vd];rw[aj (by omega)];rfl)
theorem Ov(K:FewD f g i h)(O:∀ x∈h,OkR x):jd (f,g,h,i,k,l,m,n,o,p,q,0,0,())=some (.inl (((((L7 h.length).map (FW h)).sum:Nat):Int),())):=by
 have hh:=K.hh;have:=re (B:=de) (L7 h.length) (FW h) 18000 0 (λj hj=>Na K j (Vp.1 hj)) (λt j=>(f,g,h,i,k,l,m,n,o,p,q,(t:Int),(j:Int),())) (λt=>.inl ((t:Int),())) (by
  intro t j hj hb;rw[VC]at hj;have hjb:j*18000<=20*18000:=B3 _ (by omega);simp only[de];rw[aq (by omega),U3,ID K O j hj t (by omega)];simp only[bv,B7,WI];rw[aR (show j<9223372036854775807 by omega)]) (by
  intro t;simp only[de,VC];rw[aj (by omega)];rfl)
 rw[Vt]at this;exact this
end
theorem Pl(x:Int):eqI x x=true:=tg rfl
end Go.Vm

