/-
 OrthoChecks: points, routes, digraphs, bends, in the program and in the reference.
-/
import Derived.Test.YtnkjongpfleloaaGreatDoorD43
import Derived.Test.YtnkjongpfleloaaGreatDoorVmE
import Derived.Test.YtnkjongpfleloaaGreatDoorVmE
open List renaming getElem?_eq_getElem->dg,getElem?_eq_some_iff->A7,getElem_mem->RA,length_cons->RJ,any_eq_true->Sc,take_of_length_le->Sd,take_succ_eq_append_getElem->S2,any_cons->Uw
open Option renaming bind_some->pw
open Bool renaming not_true->RU,true_and->SQ,not_false->TP,or_true->Ux,true_or->Uy
open Nat renaming lt_or_ge->SH,zero_le->SY,add_sub_cancel->TC
open Int renaming neg_mul->UM
set_option linter.unusedVariables false
set_option linter.unusedSimpArgs false
namespace Go.Vm
set_option maxRecDepth 100000
attribute [local irreducible] ac
theorem Qa {σ τ ρ υ : Type}{B : σ->Option (σ⊕ρ)}{C : τ->Option (τ⊕υ)}(R : σ->τ->Prop)(m : σ->Nat)(S : ρ->υ->Prop)
  (step:∀ s t,R s t->(∃ s' t',B s=some (.inl s')/\C t=some (.inl t')/\R s' t'/\m s'<m s)\/∃ r u,B s=some (.inr r)/\C t=some (.inr u)/\S r u) :
  ∀ s t,R s t->∃ r u,ac B s=some r/\ac C t=some u/\S r u:=by
 have:∀ n s t,m s<=n->R s t->∃ r u,ac B s=some r/\ac C t=some u/\S r u:=by
  intro n;induction n with
  |zero=>
   intro s t hn hR;rcases step s t hR with⟨s',t',_,_,_,h4⟩|⟨r,u,h1,h2,h3⟩
   ·omega
   exact⟨r,u,c9 h1,c9 h2,h3⟩
  |succ n ih=>
   intro s t hn hR;rcases step s t hR with⟨s',t',h1,h2,h3,h4⟩|⟨r,u,h1,h2,h3⟩
   ·rw[fE h1,fE h2];exact ih s' t' (by omega) h3
   exact⟨r,u,c9 h1,c9 h2,h3⟩
 exactλs t hR=>this (m s) s t (Nat.le_refl _) hR
theorem vz{α:Type}(p:α->Bool):∀(l:List α) (i:Nat),nD (λ_ (_:Unit) a=>some (cond (p a) (.inr ()) (.inl ()))) i () l=some (cond (l.any p) (.inr ()) (.inl ()))
 |[],_=>rfl
 |a::l,i=>by
  simp only[nD,Uw];cases p a with
  |true=>rfl
  |false=>exact vz p l (i+1)
theorem df {σ ρ α : Type}{B : σ->Option (σ⊕ρ)}(l:List α)(st:Nat->σ)(p : α->Bool)(no yes : ρ)
  (h1:∀ i (h:i<l.length),B (st i)=some (cond (p l[i]) (.inr no) (.inl (st (i+1))))) (h2:B (st l.length)=some (.inr yes)):ac B (st 0)=some (cond (l.any p) no yes):=by
 have:=Ng (B:=B) (λ(_:Unit) i=>st i) (λ_=>yes) (λ(_:Unit)=>no) (λ_ _ a=>some (cond (p a) (.inr ()) (.inl ()))) l (by
  intro s i a ha;obtain⟨hi,ha⟩:=A7.1 ha;rw[h1 i hi,ha];cases p a<;>rfl) (λ_=>h2) ()
 rw[vz]at this;rw[this];cases l.any p<;>rfl
def ptB(p:PtD):Bool:=geI p.1 (-268435456)&&(leI p.1 268435456&&(geI p.2.1 (-268435456)&&leI p.2.1 268435456))
theorem kQ(p:PtD):Zeh (p,())=some (ptB p,()):=by unfold Zeh ptB;simp only;cases geI p.1 (-268435456)<;>cases leI p.1 268435456<;>cases geI p.2.1 (-268435456)<;>rfl
theorem ET(p:PtD):Zav (p,())=some (ptB p,()):=kQ p
def aZ(a b:PtD):Bool:=(eqI a.1 b.1)&&((eqI a.2.1 b.2.1)&&true)
theorem iz(a b:PtD):aZ a b=aZ b a:=by
 unfold aZ;by_cases h1:a.1=b.1
 ·by_cases h2:a.2.1=b.2.1
  ·rw[dY h1,dY h2,dY h1.symm,dY h2.symm]
  rw[dM h2,dM (Ne.symm h2)];simp
 rw[dM h1,dM (Ne.symm h1)];rfl
def oY(l:List PtD)(i:Nat):Prop:=∃ a b,0<i/\l[i-1]?=some a/\l[i]?=some b/\aZ a b=true
theorem u4(l:List PtD)(hl:l.length<=1000):∃ r,Zda (l,())=some (r,())/\(r=true↔∀ i,¬oY l i):=by
 obtain⟨r,h,hr⟩:=dQ (f:=tm) (λx=>∃ i:Nat,x=(l,((i+1:Nat):Int),())/\i<=l.length/\∀ j,j<=i->¬oY l j) (λx=>l.length+1-x.2.1.toNat)
  (λr=>(r=.inl (false,())/\∃ i,oY l i)\/(r=.inr (.inl ())/\∀ i,¬oY l i)) (by
  rintro x ⟨i,rfl,hi,ht⟩;simp only[tm];by_cases h:i+1<l.length
  ·rw[cr (by omega),UA,rQ (by omega),show((i+1:Nat):Int)-1=(i:Nat) by omega,aR,aR,dg h,dg (show i<l.length by omega),d9 (by omega)];simp only[pw];cases hb:(eqI l[i].1 l[i+1].1)&&((eqI l[i].2.1 l[i+1].2.1)&&true)with
   |true=>exact .inr ⟨_,rfl,.inl ⟨rfl,i+1,_,_,by omega,dg (show i<l.length by omega),dg h,hb⟩⟩
   |false=>
    refine .inl ⟨_,rfl,⟨i+1,rfl,by omega,λj hj=>?_⟩,by show l.length+1-((i+1+1:Nat):Int).toNat<l.length+1-((i+1:Nat):Int).toNat;omega⟩;rcases SH j (i+1)with h'|h'
    ·exact ht j (by omega)
    have:j=i+1:=by omega
    subst this;rintro⟨a,b,_,h1,h2,h3⟩;rw[TC,dg (show i<l.length by omega)]at h1;rw[dg h]at h2;cases h1;cases h2
    rw[aZ,hb]at h3;cases h3
  rw[cf (by omega)];refine .inr ⟨_,rfl,.inr ⟨rfl,λj hj=>?_⟩⟩;have hj':=hj;obtain⟨_,_,_,_,h2,_⟩:=hj;have:=(A7.1 h2).1;exact ht j (by omega) hj') (l,1,()) ⟨0,rfl,SY _,λj hj h=>by obtain⟨_,_,h,_⟩:=h;omega⟩
 have h':wx (l,1,())=some r:=h;unfold Zda;simp only[h',pw];rcases hr with⟨rfl,i,hi⟩|⟨rfl,hn⟩
 ·exact⟨_,rfl,(λh=>by cases h),λh=>absurd hi (h i)⟩
 exact⟨_,rfl,λ_=>hn,λ_=>rfl⟩
theorem rf(l:List PtD)(hl:l.length<=1000):Za (l,(),())=some (l.any (λb=>!ptB b),()):=by
 have:∃ k:Int,Ze (l,(),())=some (k,())/\geI k 0=l.any (λb=>!ptB b):=by
  obtain⟨r,h,hr⟩:=dQ (f:=zZ) (λx=>∃ i:Nat,x=(l,(),(l.length:Int),(i:Int),())/\i<=l.length/\(l.take i).any (λb=>!ptB b)=false) (λx=>l.length-x.2.2.2.1.toNat)
   (λr=>(∃ i:Nat,r=.inl ((i:Int),())/\l.any (λb=>!ptB b)=true)\/(r=.inr (.inl ())/\l.any (λb=>!ptB b)=false)) (by
   rintro x ⟨i,rfl,hi,ht⟩;simp only[zZ];by_cases h:i<l.length
   ·rw[cr (by omega),UA,aR,dg h,d9 (by omega)];simp only[pw,Zdb,kQ];cases hb:ptB l[i]with
    |false=>exact .inr ⟨_,rfl,.inl ⟨i,rfl,Sc.2 ⟨_,RA h,by simp[hb]⟩⟩⟩
    |true=>refine .inl ⟨_,rfl,⟨i+1,rfl,h,?_⟩,by show l.length-((i+1:Nat):Int).toNat<l.length-(i:Int).toNat;omega⟩;rw[S2 h,List.any_append,ht];simp[hb]
   rw[cf (by omega)];rw[Sd (by omega)]at ht;exact .inr ⟨_,rfl,.inr ⟨rfl,ht⟩⟩) (l,(),(l.length:Int),0,()) ⟨0,rfl,SY _,rfl⟩
  have h':FK (l,(),(l.length:Int),0,())=some r:=h;unfold Ze;simp only[h',pw];rcases hr with⟨i,rfl,ha⟩|⟨rfl,ha⟩
  ·exact⟨_,rfl,by rw[ha,pQ (by omega)]⟩
  exact⟨_,rfl,by rw[ha];rfl⟩
 obtain⟨k,h1,h3⟩:=this;unfold Za;simp only[h1,pw,h3]
def OkR(l:List PtD):Prop:=l≠[]/\l.length<=512/\(∀ p∈l,ptB p=true)/\∀ i,¬oY l i
theorem wi(l:List PtD)(hl:l.length<=1000):∃ r,Zep (l,())=some (r,())/\(r=true↔OkR l):=by
 obtain⟨r,h1,h2⟩:=u4 l hl;have h3:=rf l hl;unfold Zep Zdr;simp only[h1,pw,h3];cases r with
 |false=>exact⟨_,rfl,(λh=>by cases h),λh=>by have:=h2.2 h.2.2.2;cases this⟩
 |true=>
  have h2:=h2.1 rfl;cases l with
  |nil=>exact⟨_,rfl,(λh=>by cases h),λh=>absurd rfl h.1⟩
  |cons p l=>
   rw[pQ (by rw[RJ];omega)];by_cases hs:(p::l).length<=512
   ·rw[BO (by omega)];simp only[UA,pw];cases ha:(p::l).any λb=>!ptB b with
    |true=>refine⟨_,rfl,(λh=>by cases h),λh=>?_⟩;obtain⟨x,hx,hb⟩:=Sc.1 ha;rw[h.2.2.1 x hx]at hb;cases hb
    |false=>refine⟨_,rfl,λ_=>⟨by simp,hs,λx hx=>?_,h2⟩,λ_=>rfl⟩;have:=List.any_eq_false.1 ha x hx;simpa using this
   rw[DS (by omega)];exact⟨_,rfl,(λh=>by cases h),λh=>absurd h.2.1 hs⟩
theorem C8(l:List PtD)(hl:l.length<=1000):∃ r,Zar (l,())=some (r,())/\(r=true↔OkR l):=by
 obtain⟨r,h,hr⟩:=dQ (f:=td) (λx=>∃ i:Nat,x=(l,(i:Int),())/\i<=l.length/\(∀ p∈l.take i,ptB p=true)/\∀ j,j<i->¬oY l j) (λx=>l.length-x.2.1.toNat)
  (λr=>(r=.inl (false,())/\¬((∀ p∈l,ptB p=true)/\∀ i,¬oY l i))\/(r=.inr (.inl ())/\(∀ p∈l,ptB p=true)/\∀ i,¬oY l i)) (by
  rintro x ⟨i,rfl,hi,hp,ht⟩;simp only[td];by_cases h:i<l.length
  ·rw[cr (by omega),UA,aR,dg h,d9 (by omega)];simp only[pw,ET];cases hb:ptB l[i]with
   |false=>exact .inr ⟨_,rfl,.inl ⟨rfl,λhh=>by have:=hh.1 _ (RA h);rw[hb]at this;cases this⟩⟩
   |true=>
    have hp':∀ p∈l.take (i+1),ptB p=true:=by
     intro p hpm;rw[S2 h,List.mem_append]at hpm;rcases hpm with hpm|hpm
     ·exact hp p hpm
     rw[List.mem_singleton]at hpm;rw[hpm];exact hb
    rcases Nat.eq_zero_or_pos i with h0|h0
    ·subst h0;rw[show gtI ((0:Nat):Int) 0=false from rfl];refine .inl ⟨_,rfl,⟨1,rfl,h,hp',λj hj=>?_⟩,by show l.length-((0+1:Nat):Int).toNat<l.length-((0:Nat):Int).toNat;omega⟩;rintro⟨_,_,h,_⟩;omega
    obtain⟨k,rfl⟩:∃ k,i=k+1:=⟨i-1,by omega⟩;rw[qQ (by omega),rQ (by omega),show((k+1:Nat):Int)-1=(k:Nat) by omega,aR,dg (show k<l.length by omega)];simp only[RU,UB,UA,pw];cases hs:(eqI l[k+1].1 l[k].1)&&((eqI l[k+1].2.1 l[k].2.1)&&true)with
    |true=>refine .inr ⟨_,rfl,.inl ⟨rfl,λhh=>hh.2 (k+1) ⟨_,_,by omega,dg (show k<l.length by omega),dg h,?_⟩⟩⟩;rw[iz];exact hs
    |false=>
     refine .inl ⟨_,rfl,⟨k+1+1,rfl,h,hp',λj hj=>?_⟩,by show l.length-((k+1+1:Nat):Int).toNat<l.length-((k+1:Nat):Int).toNat;omega⟩;rcases SH j (k+1)with h'|h'
     ·exact ht j h'
     have:j=k+1:=by omega
     subst this;rintro⟨a,b,_,h1,h2,h3⟩;rw[TC,dg (show k<l.length by omega)]at h1;rw[dg h]at h2;cases h1;cases h2
     rw[iz,aZ,hs]at h3;cases h3
  rw[cf (by omega)];rw[Sd (by omega)]at hp;refine .inr ⟨_,rfl,.inr ⟨rfl,hp,λj hj=>?_⟩⟩;have hj':=hj;obtain⟨_,_,_,_,h2,_⟩:=hj;have:=(A7.1 h2).1;exact ht j (by omega) hj') (l,0,()) ⟨0,rfl,SY _,λp hp=>by simp at hp,λj hj=>by omega⟩
 have h':wy (l,0,())=some r:=h;unfold Zar;simp only[h',pw];cases l with
 |nil=>exact⟨_,rfl,(λh=>by cases h),λh=>absurd rfl h.1⟩
 |cons p l=>
  rw[cf (by rw[RJ];omega)];by_cases hs:(p::l).length<=512
  ·rw[oN (by omega)];rcases hr with⟨rfl,hn⟩|⟨rfl,hn⟩
   ·exact⟨_,rfl,(λh=>by cases h),λh=>absurd h.2.2 hn⟩
   exact⟨_,rfl,λ_=>⟨by simp,hs,hn⟩,λ_=>rfl⟩
  rw[qQ (by omega)];exact⟨_,rfl,(λh=>by cases h),λh=>absurd h.2.1 hs⟩
theorem ya(l:List PtD)(hl:l.length<=1000):∃ r,Zep (l,())=some (r,())/\Zar (l,())=some (r,())/\(r=true↔OkR l):=by
 obtain⟨r,h1,h2⟩:=wi l hl;obtain⟨s,h3,h4⟩:=C8 l hl;have:r=s:=by
  cases r with
  |true=>exact(h4.2 (h2.1 rfl)).symm
  |false=>
   cases s with
   |false=>rfl
   |true=>exact absurd (h2.2 (h4.1 rfl)) (by simp)
 subst this;exact⟨r,h1,h3,h2⟩
def otI(a b c:PtD):Int:=aK .i64 (aT .i64 (aK .i64 b.1 a.1) (aK .i64 c.2.1 a.2.1)) (aT .i64 (aK .i64 b.2.1 a.2.1) (aK .i64 c.1 a.1))
def gG(n:Int):Int:=cond (gtI n 0) 1 (cond (ltI n 0) (-1) 0)
def crB(s t:SegD):Bool:=ltI (aT .i64 (gG (otI s.1 s.2.1 t.1)) (gG (otI s.1 s.2.1 t.2.1))) 0&&ltI (aT .i64 (gG (otI t.1 t.2.1 s.1)) (gG (otI t.1 t.2.1 s.2.1))) 0
theorem pr(s:SegD)(c:PtD):Zbt ((s.1,s.2.1,()),c,())=some (gG (otI s.1 s.2.1 c),()):=by
 unfold Zbt gG otI;simp only;cases gtI (aK .i64 (aT .i64 (aK .i64 s.2.1.1 s.1.1) (aK .i64 c.2.1 s.1.2.1)) (aT .i64 (aK .i64 s.2.1.2.1 s.1.2.1) (aK .i64 c.1 s.1.1))) 0 with
 |true=>rfl
 |false=>cases ltI (aK .i64 (aT .i64 (aK .i64 s.2.1.1 s.1.1) (aK .i64 c.2.1 s.1.2.1)) (aT .i64 (aK .i64 s.2.1.2.1 s.1.2.1) (aK .i64 c.1 s.1.1))) 0<;>rfl
theorem vd(s t:SegD):Zaz ((s.1,s.2.1,()),(t.1,t.2.1,()),())=some (ltI (aT .i64 (gG (otI s.1 s.2.1 t.1)) (gG (otI s.1 s.2.1 t.2.1))) 0,()):=by unfold Zaz;have h1:=pr s t.1;have h2:=pr s t.2.1;simp only;rw[show Zbt (((s.1.1,s.1.2.1,()),(s.2.1.1,s.2.1.2.1,()),()),(t.1.1,t.1.2.1,()),())=_ from h1,show Zbt (((s.1.1,s.1.2.1,()),(s.2.1.1,s.2.1.2.1,()),()),(t.2.1.1,t.2.1.2.1,()),())=_ from h2];rfl
theorem Ij(s:SegD)(h1:ptB s.1=true)(h2:ptB s.2.1=true):Zfc ((s.1,s.2.1,()),())=some ((s.1,s.2.1,()),true,()):=by unfold Zfc;simp only;rw[show Zeh ((s.1.1,s.1.2.1,()),())=some (true,())from(kQ s.1).trans (by rw[h1]),show Zeh ((s.2.1.1,s.2.1.2.1,()),())=some (true,())from(kQ s.2.1).trans (by rw[h2])];rfl
def okS(s:SegD):Prop:=ptB s.1=true/\ptB s.2.1=true
theorem FU(s t:SegD)(hs:okS s)(ht:okS t):Zei (s,t,())=some (crB s t,()):=by unfold Zei;simp only;rw[show Zfc (((s.1.1,s.1.2.1,()),(s.2.1.1,s.2.1.2.1,()),()),())=_ from Ij s hs.1 hs.2,show Zfc (((t.1.1,t.1.2.1,()),(t.2.1.1,t.2.1.2.1,()),()),())=_ from Ij t ht.1 ht.2];simp only[pw,UA];have h1:=vd s t;have h2:=vd t s;rw[show Zaz (((s.1.1,s.1.2.1,()),(s.2.1.1,s.2.1.2.1,()),()),((t.1.1,t.1.2.1,()),(t.2.1.1,t.2.1.2.1,()),()),())=_ from h1,show Zaz (((t.1.1,t.1.2.1,()),(t.2.1.1,t.2.1.2.1,()),()),((s.1.1,s.1.2.1,()),(s.2.1.1,s.2.1.2.1,()),()),())=_ from h2];unfold crB;simp only[pw];cases ltI (aT .i64 (gG (otI s.1 s.2.1 t.1)) (gG (otI s.1 s.2.1 t.2.1))) 0<;>rfl
theorem oy{p:PtD}(h:ptB p=true):-268435456<=p.1/\p.1<=268435456/\-268435456<=p.2.1/\p.2.1<=268435456:=by unfold ptB at h;simp only[Bool.and_eq_true]at h;obtain⟨h1,h2,h3,h4⟩:=h;simp only[geI,leI,decide_eq_true_eq]at h1 h2 h3 h4;omega
theorem ov{x y:Int}(hx:-536870912<=x/\x<=536870912)(hy:-536870912<=y/\y<=536870912):-288230376151711744<=x*y/\x*y<=288230376151711744:=by
 have h1:(x*y).natAbs<=536870912*536870912:=by rw[Int.natAbs_mul];exact Nat.mul_le_mul (by omega) (by omega)
 omega
theorem M6(n:Int):neI (gG n) 0=neI n 0:=by
 unfold gG gtI ltI neI;by_cases h1:n>0
 ·simp[h1];omega
 by_cases h2:n<0
 ·simp[h1,h2];omega
 have:n=0:=by omega
 subst this;rfl
theorem CM(p q r:PtD)(hp:ptB p=true)(hq:ptB q=true)(hr:ptB r=true):∃ b,Zex (p,q,r,())=some (b,())/\Zbe (p,q,r,())=some (b,()):=by
 obtain⟨a,b,u⟩:=p;obtain⟨c,d,v⟩:=q;obtain⟨e,f,w⟩:=r;have b1:=oy hp;have b2:=oy hq;have b3:=oy hr;simp only at b1 b2 b3;simp only[Zex,Zbe,Zdp,kQ,pw];rw[show ptB (a,b,())=true from hp,show ptB (c,d,())=true from hq,show ptB (e,f,())=true from hr];simp only[RU,UB];rw[show Zbt (((a,b,()),(c,d,()),()),(e,f,()),())=some (gG (otI (a,b,()) (c,d,()) (e,f,())),())from pr ((a,b,()),(c,d,()),()) (e,f,())];simp only[pw,M6];simp only[Zaf,pw];rw[show otI (a,b,()) (c,d,()) (e,f,())=aK .i64 (aT .i64 (aK .i64 c a) (aK .i64 f b)) (aT .i64 (aK .i64 d b) (aK .i64 e a))from rfl];cases neI (aK .i64 (aT .i64 (aK .i64 c a) (aK .i64 f b)) (aT .i64 (aK .i64 d b) (aK .i64 e a))) 0
 ·simp only[UB];refine⟨_,rfl,?_⟩;have m1:=ov (x:=a-c) (y:=e-c) (by omega) (by omega);have m2:=ov (x:=b-d) (y:=f-d) (by omega) (by omega);have m3:=ov (x:=c-a) (y:=e-c) (by omega) (by omega);have m4:=ov (x:=d-b) (y:=f-d) (by omega) (by omega);rw[fw (a:=a) (b:=c) (by omega) (by omega),fw (a:=e) (b:=c) (by omega) (by omega),fw (a:=b) (b:=d) (by omega) (by omega),fw (a:=f) (b:=d) (by omega) (by omega),fw (a:=c) (b:=a) (by omega) (by omega),fw (a:=d) (b:=b) (by omega) (by omega)];rw[oB (by omega) (by omega),oB (by omega) (by omega),oB (by omega) (by omega),oB (by omega) (by omega),uf (by omega) (by omega),uf (by omega) (by omega)];have e1:(c-a)*(e-c)=-((a-c)*(e-c)):=by rw[<- UM];congr 1;omega
  have e2:(d-b)*(f-d)=-((b-d)*(f-d)):=by rw[<- UM];congr 1;omega
  rw[e1,e2];congr 2;unfold gtI ltI;exact decide_eq_decide.2 (by omega)
 exact⟨true,rfl,rfl⟩
abbrev Pt:=PtD
def mi(N:Int)(a:Pt):Bool:=ltI a.1 0||(geI a.1 N||(ltI a.2.1 0||geI a.2.1 N))
theorem IZ(N:Int)(a:Pt):(ltI (bU a.1 a.2.1) 0||geI (cE a.1 a.2.1) N)=mi N a:=by
 have e1:ltI (bU a.1 a.2.1) 0=(ltI a.1 0||ltI a.2.1 0):=by
  unfold bU;split
  ·by_cases h:a.2.1<0
   ·rw[cr h,Ux]
   rw[cf (by omega),cf (by omega)];rfl
  by_cases h:a.1<0
  ·rw[cr h,Uy]
  rw[cf (by omega),cf (by omega)];rfl
 have e2:geI (cE a.1 a.2.1) N=(geI a.1 N||geI a.2.1 N):=by
  unfold cE;split
  ·by_cases h:N<=a.2.1
   ·rw[pQ h,Ux]
   rw[yq (by omega),yq (by omega)];rfl
  by_cases h:N<=a.1
  ·rw[pQ h,Uy]
  rw[yq (by omega),yq (by omega)];rfl
 rw[e1,e2,mi];cases ltI a.1 0<;>cases ltI a.2.1 0<;>cases geI a.1 N<;>cases geI a.2.1 N<;>rfl
def dvB(N:Int)(E:List Pt):Bool:=!ltI N 0&&(!gtI N 64&&(!gtI (E.length:Nat) 256 && !E.any (mi N)))
def su(N:Int)(_:Nat)(_:Unit)(a:Pt):Option (Unit⊕Unit):=some (cond (mi N a) (.inr ()) (.inl ()))
theorem ww(N:Int):∀(E:List Pt) (i:Nat),nD (su N) i () E=some (cond (E.any (mi N)) (.inr ()) (.inl ()))
 |[],_=>rfl
 |a::E,i=>by
  simp only[nD,su,pw,Uw];cases mi N a with
  |true=>rfl
  |false=>exact ww N E (i+1)
theorem JV(N:Int)(E:List Pt)(hE:E.length<=256):xK (N,E,E,(E.length:Nat),0,())=some (cond (E.any (mi N)) (.inl (false,())) (.inr (.inl ()))):=by
 have:=Ng (B:=rv) (λ(_:Unit) i=>(N,E,E,((E.length:Nat):Int),(i:Int),())) (λ_=>.inr (.inl ())) (λ(_:Unit)=>.inl (false,())) (su N) E (by
  intro s i a ha;have hi:i<E.length:=(A7.1 ha).1;simp only[rv];rw[cr (by omega),UA,aR,ha,pw,d9 (by omega)];simp only[su,<- IZ];cases ltI (bU a.1 a.2.1) 0<;>cases geI (cE a.1 a.2.1) N<;>rfl) (by
  intro s;simp only[rv];rw[cf (by omega)];rfl) ()
 rw[ww]at this;show ac _ _=_;refine this.trans ?_;cases E.any (mi N)<;>rfl
theorem Ji(N:Int)(E:List Pt)(hE:E.length<=256):wI (N,E,0,())=some (cond (E.any (mi N)) (.inl (false,())) (.inr (.inl ()))):=by
 have:=Ng (B:=qY) (λ(_:Unit) i=>(N,E,(i:Int),())) (λ_=>.inr (.inl ())) (λ(_:Unit)=>.inl (false,())) (su N) E (by
  intro s i a ha;have hi:i<E.length:=(A7.1 ha).1;simp only[qY];rw[cr (by omega),UA,aR,ha,pw,d9 (by omega)];simp only[su,mi];cases ltI a.1 0<;>cases geI a.1 N<;>cases ltI a.2.1 0<;>cases geI a.2.1 N<;>rfl) (by
  intro s;simp only[qY];rw[cf (by omega)];rfl) ()
 rw[ww]at this;show ac _ _=_;refine this.trans ?_;cases E.any (mi N)<;>rfl
theorem Pd(N:Int)(E:List Pt)(u:Unit):Zdc ((N,E,u),())=some (dvB N E,()):=by
 unfold Zdc dvB;simp only;cases ltI N 0 with
 |true=>rfl
 |false=>
  cases gtI N 64 with
  |true=>rfl
  |false=>
   by_cases h:E.length<=256
   ·rw[oN (by omega)];simp only[UB,TP,SQ];rw[JV N E h];cases E.any (mi N)<;>rfl
   rw[qQ (by omega)];rfl
theorem MZ(N:Int)(E:List Pt)(u:Unit):Zap ((N,E,u),())=some (dvB N E,()):=by
 unfold Zap dvB;simp only;cases ltI N 0 with
 |true=>rfl
 |false=>
  cases gtI N 64 with
  |true=>rfl
  |false=>
   by_cases h:E.length<=256
   ·rw[oN (by omega)];simp only[UB,TP,SQ];rw[Ji N E h];cases E.any (mi N)<;>rfl
   rw[qQ (by omega)];rfl
theorem Cd(x y:Int):neI x y=!eqI x y:=by
 by_cases h:x=y
 ·rw[At h,dY h];rfl
 rw[BZ h,dM h];rfl
theorem iv(l:List PtD):(sgD l).length=l.length-1:=by unfold sgD;rw[List.length_map,List.length_zip,List.length_drop];omega
theorem t6(l:List PtD)(i:Nat)(h:i<(sgD l).length)(h1:i<l.length)(h2:i+1<l.length):(sgD l)[i]=(l[i],l[i+1],()):=by rw[List.getElem_of_eq (show sgD l=(List.zip l (l.drop 1)).map (λp=>(p.1,(p.2,())))from rfl) h];simp only[List.getElem_map,List.getElem_zip,List.getElem_drop];simp only[Nat.add_comm 1 i]
end Go.Vm
