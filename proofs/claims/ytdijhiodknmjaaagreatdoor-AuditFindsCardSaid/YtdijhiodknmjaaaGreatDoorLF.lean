/-
 The program's optimal ranks.
-/
import Derived.Test.YtdijhiodknmjaaaGreatDoorLE
import Derived.Test.YtdijhiodknmjaaaGreatDoorLB
open Option renaming bind_some->bv
open List renaming getElem?_eq_getElem->bx,getElem?_eq_some_iff->tz,getElem_mem->A2,getD_eq_getElem?_getD->A5,replicate->A7,mem_cons->A9,length_cons->B2,length_nil->B8,mem_of_getElem?->B9,length_replicate->L5,length_set->L8,length_append->U6,take_succ_eq_append_getElem->Vf,any_eq_false->Vj,getElem?_set_ne->Vo,getElem?_set_self->VB,getElem?_eq_none->VG,mem_of_mem_take->VI,getElem_of_mem->VJ,drop_eq_getElem_cons->VQ,foldl_cons->VU,take_length->V6,getElem?_replicate->Wc,length_filter_le->WS,getD->WT,mem_reverse->WW
open Option.some renaming injEq->ov,inj->L9
open Prod.mk renaming injEq->B4
open Nat renaming le_refl->B5,zero_le->L4
open Sum renaming elim_inl->B7
open Bool renaming not_true->U8,not_false->Xc
open Int renaming toNat_natCast->VE,le_refl->V1,neg_mul->Xy
set_option linter.unusedVariables false
set_option linter.unusedSimpArgs false
/-
 AuditFinds: the program's search for longest ways.
-/
namespace Go.Vm
open Go.Proofs
open Net (Bd StD WyD SrD Stq StepsOf Rnd Sought Begun gm pD kv visit dW gV beg idW wyA Got none60 way0 Mg rZ ka)
set_option maxRecDepth 100000
attribute [local irreducible] ab
theorem uy{α:Type}{a:List (List α)}{j v:Nat}{x:List α}(hj:j<a.length):ep (a.set j x) v=if v=j then x else ep a v:=by
 unfold ep;by_cases e:v=j
 ·subst e;rw[if_pos rfl,VB hj];rfl
 rw[if_neg e,Vo (Ne.symm e)]
section
variable {n:Nat}{L:List Bd}{f:List Int}
structure StepsTo (L:List Bd)(f:List Int)(i v:Nat)(l:List StD):Prop where
 all:∀ j bk w g,j<i->Stq L f j bk v w g->((w:Int),g,(j:Int),bk,())∈l
 are:∀ s∈l,∃(j w:Nat),s.1=(w:Int)/\s.2.2.1=(j:Int)/\Stq L f j s.2.2.2.1 v w s.2.1
 len:l.length<=2*i
theorem Mo(hL:gm n L)(hf:f.length=L.length)(hn:n<=1000)(hl:L.length<=1000)(hB:∀ b∈L,-1000000<=b.len/\b.len<=1000000):
  ∃ a:List (List StD),a.length=n/\Zb ((((n:Int),L,()),f,()),())=some (a,())/\∀ v,v<n->StepsTo L f L.length v (ep a v):=by
 simp only[Zb];rw[fR (B5 _) (by omega)];simp only[bv];obtain⟨r,h1,a,ha,hs,rfl⟩:=aH (f:=MR) (λx=>∃(i:Nat) (a:List (List StD)),i<=L.length/\x=(a,(((n:Int),L,()),f,()),L,(L.length:Int),(i:Int),())/\a.length=n/\∀ v,v<n->StepsTo L f i v (ep a v)) (λx=>L.length-x.2.2.2.2.1.toNat)
  (λr=>∃ a:List (List StD),a.length=n/\(∀ v,v<n->StepsTo L f L.length v (ep a v))/\r=.inl (a,())) (by
  rintro x ⟨i,a,hi,rfl,ha,hs⟩;simp only[MR];by_cases h:i<L.length
  ·obtain⟨⟨q1,q2,q3,q4,q5⟩,q6⟩:=hL _ (A2 h);simp only[Bd.fr,Bd.to]at q1 q2 q3 q4 q5;have hb:=hB _ (A2 h);unfold Bd.len at hb;have hx:=bx h;have hfx:=bx (show i<f.length by omega);have hm:L.length-((i+1:Nat):Int).toNat<L.length-(i:Int).toNat:=by omega
   obtain⟨fr,hfr⟩:∃ k:Nat,L[i].1=k:=⟨L[i].1.toNat,by omega⟩;obtain⟨tt,htt⟩:∃ k:Nat,L[i].2.1=k:=⟨L[i].2.1.toNat,by omega⟩;have hfl:fr<a.length:=by omega
   have htl:tt<a.length:=by omega
   have hne:¬tt=fr:=by omega
   have hne2:¬fr=tt:=by omega
   have l1:=(hs fr (by omega)).len;have l2:=(hs tt (by omega)).len;rw[aq (by omega),U3,ac,hx];simp only[bv];rw[hfr,htt,aB hfl];simp only[bv];rw[bw (by simp only[B2,B8];omega)];simp only[bv,if_true];rw[ac,hfx,aR (by omega)];simp only[bv];have hlen:aK .i64 0 L[i].2.2.1=-L[i].2.2.1:=by rw[nq (by omega) (by omega)];omega
   rw[hlen]
   have isStp:Stq L f i false fr tt L[i].2.2.1:=⟨L[i],f[i],hx,hfx,.inl ⟨rfl,hfr,htt,rfl⟩⟩;by_cases hp:0<f[i]
   ·rw[pf hp,aB (show tt < (a.set fr (ep a fr++[((tt:Int),L[i].2.2.1,(i:Int),false,())])).length by rw[L8]; exact htl)];simp only[U3,bv];rw[uy hfl,if_neg hne,bw (by simp only[B2,B8]; omega)];simp only[bv,if_true];refine .inl ⟨_,rfl,⟨i+1,_,h,rfl,by rw[L8,L8,ha],fun v hv=>?_⟩,hm⟩;have bkStp:Stq L f i true tt fr (-L[i].2.2.1):=⟨L[i],f[i],hx,hfx,.inr ⟨rfl,hp,htt,hfr,rfl⟩⟩;have hmem:∀ s,s∈ep ((a.set fr (ep a fr++[((tt:Int),L[i].2.2.1,(i:Int),false,())])).set tt (ep a tt++[((fr:Int),-L[i].2.2.1,(i:Int),true,())])) v ↔
      s∈ep a v\/(v=fr/\s=((tt:Int),L[i].2.2.1,(i:Int),false,()))\/(v=tt/\s=((fr:Int),-L[i].2.2.1,(i:Int),true,())):=by
     intro s;rw[uy (by rw[L8];exact htl),uy hfl];by_cases e:v=tt
     ·subst e;rw[if_pos rfl];simp[hne]
     rw[if_neg e];by_cases e2:v=fr
     ·subst e2;rw[if_pos rfl];simp[hne2]
     rw[if_neg e2];simp[e,e2]
    refine⟨λj bk w g hj hst=>?_,λs hs'=>?_,?_⟩
    ·rw[hmem];by_cases e:j=i
     ·subst e;obtain⟨b,x,b1,b2,b3⟩:=hst;rw[hx]at b1;cases b1
      rcases b3 with⟨rfl,c2,c3,rfl⟩|⟨rfl,_,c2,c3,rfl⟩
      ·simp only[Bd.fr,Bd.to]at c2 c3;exact .inr (.inl ⟨by omega,by rw[show(w:Int)=(tt:Int) by omega];rfl⟩)
      simp only[Bd.fr,Bd.to]at c2 c3;exact .inr (.inr ⟨by omega,by rw[show(w:Int)=(fr:Int) by omega];rfl⟩)
     exact .inl ((hs v hv).all j bk w g (by omega) hst)
    ·rcases(hmem s).1 hs' with h1|⟨h1,h2⟩|⟨h1,h2⟩
     ·exact(hs v hv).are s h1
     ·subst h1;subst h2;exact⟨i,tt,rfl,rfl,isStp⟩
     subst h1;subst h2;exact⟨i,fr,rfl,rfl,bkStp⟩
    have l3:=(hs v hv).len;rw[uy (by rw[L8];exact htl),uy hfl];split
    ·simp only[U6,B2,B8];omega
    split
    ·simp only[U6,B2,B8];omega
    omega
   rw[eM (by omega)];refine .inl ⟨_,rfl,⟨i+1,_,h,rfl,by rw[L8,ha],λv hv=>?_⟩,hm⟩;have hmem:∀ s,s∈ep (a.set fr (ep a fr++[((tt:Int),L[i].2.2.1,(i:Int),false,())])) v↔s∈ep a v\/(v=fr/\s=((tt:Int),L[i].2.2.1,(i:Int),false,())):=by
    intro s;rw[uy hfl];by_cases e2:v=fr
    ·subst e2;rw[if_pos rfl];simp
    rw[if_neg e2];simp[e2]
   refine⟨λj bk w g hj hst=>?_,λs hs'=>?_,?_⟩
   ·rw[hmem];by_cases e:j=i
    ·subst e;obtain⟨b,x,b1,b2,b3⟩:=hst;rw[hx]at b1;cases b1
     rw[hfx]at b2;cases b2
     rcases b3 with⟨rfl,c2,c3,rfl⟩|⟨rfl,c1,c2,c3,rfl⟩
     ·simp only[Bd.fr,Bd.to]at c2 c3;exact .inr ⟨by omega,by rw[show(w:Int)=(tt:Int) by omega];rfl⟩
     exact absurd c1 hp
    exact .inl ((hs v hv).all j bk w g (by omega) hst)
   ·rcases(hmem s).1 hs' with h1|⟨h1,h2⟩
    ·exact(hs v hv).are s h1
    subst h1;subst h2;exact⟨i,tt,rfl,rfl,isStp⟩
   have l3:=(hs v hv).len;rw[uy hfl];split
   ·simp only[U6,B2,B8];omega
   omega
  have:i=L.length:=by omega
  subst this;rw[aj (by omega)];exact .inr ⟨_,rfl,a,ha,hs,rfl⟩) (A7 n [],(((n:Int),L,()),f,()),L,(L.length:Int),0,()) ⟨0,_,L4 _,rfl,L5,λv hv=>by
   have:ep (A7 n ([]:List StD)) v=[]:=by unfold ep;rw[Wc];split<;>rfl
   rw[this];exact⟨λj bk w g hj=>by omega,(λs hs=>by cases hs),B5 _⟩⟩
 rw[show RE (A7 n (aL (.slice vT)),(((n:Int),L,()),f,()),L,(L.length:Int),0,())=_ from h1];exact⟨a,ha,rfl,hs⟩
theorem StepsTo.of{l:List StD}{v:Nat}(h:StepsTo L f L.length v l):StepsOf L f v l:=
 ⟨λi bk w g hs=>h.all i bk w g (by obtain⟨b,x,h1,_⟩:=hs;exact(tz.1 h1).1) hs,h.are⟩
variable {starts:List Int}
theorem LM(hL:gm n L)(hB:pD L 64)(hn:n<=64)(hnp:ka (Net.Res L f)){a:List (List StD)}(ha:a.length=n)(hst:∀ v,v<n->StepsTo L f L.length v (ep a v))(hll:L.length<=8){m:Nat}(hm:m<=1000000){v:Nat}(hv:v<n){rest:List Int}{rk:Nat->Nat}{S:SrD}
  (P:Q14) (R N J:Int) (q:List Int)
  (h:Rnd n L f starts 64 m rZ ((v:Int)::rest) rk S) (hnx:S.2.2.length<=40000000000) :
  fF (a,S.1,S.2.1.set v false,S.2.2,P,R,(v:Int),q,N,J,(v:Int),((ep a v).length:Int),0,())=some (.inl (a,(visit (ep a) S v).1,(visit (ep a) S v).2.1,(visit (ep a) S v).2.2,P,R,q,N,J,())):=by
 obtain⟨v',hv',k2,k3,k4,k5⟩:=h.rs (v:Int) (by simp);have:v'=v:=by omega
 subst this;have h0:Rnd n L f starts 64 m (λu t=>u=v'/\t∈ep a v') rest rk (S.1,S.2.1.set v' false,S.2.2):=by
  refine⟨h.len,by simpa using h.wlen,h.rlx,h.ids,h.bg,h.st,λu y g a b c=>?_,λx hx=>?_,h.nx,λx hx=>h.rs x (by simp[hx]),h.rkm,h.low⟩
  ·rcases h.viol u y g a b c with h1|h1|⟨_,h2,_⟩
   ·rcases A9.1 h1 with h3|h3
    ·have:u=v':=by omega
     subst this;obtain⟨i,bk,hs⟩:=b;exact .inr (.inr ⟨_,⟨rfl,(hst u k2).of.all i bk y g hs⟩,rfl,rfl⟩)
    exact .inl h3
   ·exact .inr (.inl h1)
   exact h2.elim
  by_cases e:x=v'
  ·subst e;exfalso;have:x<S.2.1.length:=by rw[h.wlen];exact k2
   simp[WT,VB this]at hx
  simp only[WT,Vo (Ne.symm e)]at hx;rcases h.wait x hx with h1|h1
  ·rcases A9.1 h1 with h3|h3
   ·omega
   exact .inl h3
  exact .inr h1
 have hl24:=(hst v' k2).len;have:=eu (B:=cm) (ep a v') (kv v') (S.1,S.2.1.set v' false,S.2.2)
  (λi T=>(∃ rk,Rnd n L f starts 64 m (λu t=>u=v'/\t∈(ep a v').drop i) rest rk T/\m<=rk v'+1)/\Got T.1 v'/\-(64*m)+64<=dW T.1 v'/\T.2.2.length<=40000000000+i)
  (λT i=>(a,T.1,T.2.1,T.2.2,P,R,(v':Int),q,N,J,(v':Int),((ep a v').length:Int),(i:Int),())) (λT=>.inl (a,T.1,T.2.1,T.2.2,P,R,q,N,J,()))
  ⟨⟨rk,by rw[List.drop_zero];exact h0,k3⟩,k4,k5,hnx⟩ (by
  rintro i s T hs ⟨⟨rk,hR,hr⟩,hg,hlo,hlen⟩;have hi:=(tz.1 hs).1;have hse:=(tz.1 hs).2;rw[VQ hi,hse]at hR;obtain⟨rk',g1,g2,g3,g4⟩:=hR.relax hL hB (by omega) k2 ((hst v' k2).are s (B9 hs)) hg hr hlo;refine⟨⟨rk',g1,g3⟩,g2,g4,?_⟩;unfold kv;split
  ·split
   ·simp only;omega
   simp only[U6,B2,B8];omega
  ·omega) (by
  rintro i s T hs ⟨⟨rk,hR,hr⟩,hg,hlo,hlen⟩;have hi:=(tz.1 hs).1;obtain⟨j,w,w1,w2,w3⟩:=(hst v' k2).are s (B9 hs);obtain⟨_,hw,_⟩:=w3.lt hL;have hgain:=w3.gain hB;have hhigh:=hR.high hnp hB k2 hg;have hWl:=hR.len;have hQl:=hR.wlen;obtain⟨s1,s2,s3,s4,s5⟩:=s;simp only at w1 w2 w3 hgain;subst w1;have ew:∀ y:Nat,y<n->T.1[y]?=some (wyA T.1 y):=λy hy=>by unfold wyA;rw[A5,bx (show y<T.1.length by omega)];rfl
  have eq':T.2.1[w]?=some (T.2.1.getD w false):=by rw[A5,bx (show w<T.2.1.length by omega)];rfl
  simp only[cm];rw[aq (by omega),U3,show Int.toNat ((v':Nat):Int)=v' from rfl,aB hi];simp only[bv];rw[hs];simp only[bv];rw[aB (show v'<T.1.length by omega)];simp only[bv];rw[ew v' k2,aB (show w<T.1.length by omega)];simp only[bv];rw[ew w hw];simp only[bv];rw[show(wyA T.1 v').1=dW T.1 v' from rfl,show(wyA T.1 w).1=dW T.1 w from rfl,oT (by omega) (by omega),aR (by omega)];unfold kv;simp only[VE];by_cases hlt:dW T.1 w<dW T.1 v'+s2
  ·rw[pf hlt,if_pos hlt,aB (show w<T.2.1.length by omega)];simp only[U3,bv];rw[eq'];simp only[bv];cases T.2.1.getD w false with
   |true=>rfl
   |false=>rw[bw (by simp only[B2,B8];omega)];rfl
  ·rw[eM (by omega),if_neg hlt];rfl) (by
  rintro T -;simp only[cm];rw[aj (by omega)];rfl)
 exact this
theorem LC(hL:gm n L)(hB:pD L 64)(hn:n<=64)(hnp:ka (Net.Res L f)){a:List (List StD)}(ha:a.length=n)(hst:∀ v,v<n->StepsTo L f L.length v (ep a v))(hll:L.length<=8){m:Nat}(hm:m<=1000000){rk:Nat->Nat}{W:List WyD}{Q:List Bool}{q:List Int}
  (P:Q14) (R:Int) (h:Rnd n L f starts 64 m rZ q rk (W,Q,[])) (hq:q.length<=2000000000) :
  ∃ rk',fH (a,W,Q,[],P,R,q,(q.length:Int),0,())=some (.inl (a,(q.foldl (visit (ep a)) (W,Q,[])).1,(q.foldl (visit (ep a)) (W,Q,[])).2.1,(q.foldl (visit (ep a)) (W,Q,[])).2.2,P,R,()))/\Rnd n L f starts 64 m rZ [] rk' (q.foldl (visit (ep a)) (W,Q,[]))/\(q.foldl (visit (ep a)) (W,Q,[])).2.2.length<=q.length*16:=by
 have hlen1:∀(l:List StD) (v:Nat) (T:SrD),(l.foldl (kv v) T).2.2.length<=T.2.2.length+l.length:=by
  intro l v;induction l with
  |nil=>intro T;exact B5 _
  |cons s l ih=>
   intro T;rw[VU];have h1:=ih (kv v T s);have h2:(kv v T s).2.2.length<=T.2.2.length+1:=by
    unfold kv;split
    ·split
     ·simp only;omega
     simp only[U6,B2,B8];omega
    omega
   rw[B2];omega
 have key:=eu (B:=cq) q (visit (ep a)) (W,Q,[])
  (λi T=>(∃ rk,Rnd n L f starts 64 m rZ (q.drop i) rk T)/\T.2.2.length<=i*16)
  (λT i=>(a,T.1,T.2.1,T.2.2,P,R,q,(q.length:Int),(i:Int),())) (λT=>.inl (a,T.1,T.2.1,T.2.2,P,R,()))
  ⟨⟨rk,h⟩,L4 _⟩ (by
  rintro i x T hx ⟨⟨rk,hR⟩,hlen⟩;have hi:=(tz.1 hx).1;have hxe:=(tz.1 hx).2;rw[VQ hi,hxe]at hR;obtain⟨rk',g⟩:=hR.visit hL hB (by omega) (steps:=ep a) (λv hv=>(hst v hv).of);refine⟨⟨rk',g⟩,?_⟩;obtain⟨v,rfl,k2,_⟩:=hR.rs x (by simp);have:=hlen1 (ep a v) v (T.1,T.2.1.set v false,T.2.2);have h2:=(hst v k2).len;unfold Net.visit;simp only[VE]at this ⊢;omega) (by
  rintro i x T hx ⟨⟨rk,hR⟩,hlen⟩;have hi:=(tz.1 hx).1;have hxe:=(tz.1 hx).2;rw[VQ hi,hxe]at hR;obtain⟨v,rfl,k2,_⟩:=hR.rs x (by simp);have hQl:=hR.wlen;simp only[cq];rw[aq (by omega),U3,ac,hx];simp only[bv];rw[aB (show v<T.2.1.length by omega)];simp only[bv];rw[bx (show v<T.2.1.length by omega),aB (show v<a.length by omega)];simp only[bv];have:=LM hL hB hn hnp ha hst hll hm k2 P R (q.length:Int) (i:Int) q hR (by omega);rw[this];simp only[bv,B7,aR (show i<9223372036854775807 by omega)]) (by
  rintro T -;simp only[cq];rw[aj (by omega)];rfl)
 obtain⟨rk',g⟩:=h.visits hL hB (by omega) (steps:=ep a) (λv hv=>(hst v hv).of);refine⟨rk',key,g,?_⟩
 have:∀(l:List Int) (T:SrD),(∀ x∈l,∃ v:Nat,x=(v:Int)/\v<n)->(l.foldl (visit (ep a)) T).2.2.length<=T.2.2.length+l.length*16:=by
  intro l;induction l with
  |nil=>intro T _;simp
  |cons x l ih=>
   intro T hx;rw[VU];have h1:=ih (visit (ep a) T x) (λy hy=>hx y (by simp[hy]));obtain⟨v,rfl,hv⟩:=hx x (by simp);have h2:=hlen1 (ep a v) v (T.1,T.2.1.set v false,T.2.2);have h3:=(hst v hv).len;have h4:(visit (ep a) T (v:Int)).2.2.length<=T.2.2.length+16:=by unfold Net.visit;simp only[VE]at h2 ⊢;omega
   rw[B2];omega
 have h5:=this q (W,Q,[]) (λx hx=>by
  obtain⟨k,k1,k2,_⟩:=h.rs x hx;exact⟨k,k1,k2⟩)
 simpa using h5
end
end Go.Vm

/-
 AuditFinds: the program's search for longest ways, whole; what the vertices need.
-/
namespace Go.Vm
open Go.Proofs
open Net (Bd StD WyD SrD Stq StepsOf Rnd Sought Begun gm pD kv visit dW gV beg idW wyA Got none60 way0 Mg rZ ka bn at1)
set_option maxRecDepth 100000
attribute [local irreducible] ab
section
variable {n:Nat}{L:List Bd}{f:List Int}{starts:List Int}
theorem tv{W:List WyD}{v:Nat}(h:v<W.length):W[v]?=some (wyA W v):=by unfold wyA;rw[A5,bx h];rfl
def PosW(W:List WyD):Prop:=∀ v,0<=(wyA W v).2.1/\0<=(wyA W v).2.2.1.2.2.1
theorem PosW.set{W:List WyD}(h:PosW W)(y:Nat){w:WyD}(hw:0<=w.2.1/\0<=w.2.2.1.2.2.1):PosW (W.set y w):=λv=>by
 by_cases hy:y<W.length
 ·rw[Net.wyA_set hy];split
  ·exact hw
  exact h v
 rw[List.set_eq_of_length_le (by omega)];exact h v
theorem PosW.relax{S:SrD}(h:PosW S.1)(v:Nat){s:StD}(hs:0<=s.2.2.1):PosW (kv v S s).1:=by
 unfold kv;split
 ·exact h.set _ ⟨by simp,hs⟩
 exact h
theorem PosW.relaxes:∀{l:List StD} {S:SrD} (_:PosW S.1) (v:Nat),(∀ s∈l,0<=s.2.2.1)->PosW (l.foldl (kv v) S).1
 |[],_,h,_,_=>h
 |s::l,S,h,v,hs=>by rw[VU];exact PosW.relaxes (h.relax v (hs s (by simp))) v λt ht=>hs t (by simp[ht])
theorem PosW.visits{steps:Nat->List StD}(hst:∀ v,∀ s∈steps v,0<=s.2.2.1):∀{q:List Int} {S:SrD} (_:PosW S.1),PosW (q.foldl (visit steps) S).1
 |[],_,h=>h
 |x::q,S,h=>by rw[VU];refine PosW.visits hst (q:=q) ?_;unfold Net.visit;exact PosW.relaxes (S:=(S.1,S.2.1.set x.toNat false,S.2.2)) h _ (hst _)
theorem T4:∀ m:Nat,m<=7->7*16^m<=2000000000
 |0,_=>by decide
 |1,_=>by decide
 |2,_=>by decide
 |3,_=>by decide
 |4,_=>by decide
 |5,_=>by decide
 |6,_=>by decide
 |7,_=>by decide
 |m+8,h=>by omega
theorem wJ(hL:gm n L)(hB:pD L 64)(hn:n<=7)(hll:L.length<=8)(hf:f.length=L.length)(hnp:ka (Net.Res L f))(hs:∀ x∈starts,∃ k:Nat,x=(k:Int)/\k<n)(hsl:starts.length<=7):
  ∃ W,bP ((((n:Int),L,()),f,()),starts,())=some (W,true,())/\Sought n L f starts 64 W/\PosW W:=by
 obtain⟨a,ha,h1,hst⟩:=Mo (n:=n) hL hf (by omega) (by omega) (λb hb=>by have:=hB.2 b hb;omega);simp only[bP,h1,bv];rw[fR (B5 _) (by omega)];simp only[bv]
 obtain⟨r,g1,W0,w1,w2,rfl⟩:=aH (f:=dM) (λx=>∃(i:Nat) (W:List WyD),i<=n/\x=(a,W,(((n:Int),L,()),f,()),starts,(n:Int),(i:Int),())/\W.length=n/\∀ v,v<n->wyA W v=if v<i then way0 else(0,0,(0,0,0,false,()),false,())) (λx=>n-x.2.2.2.2.2.1.toNat)
  (λr=>∃ W:List WyD,W.length=n/\(∀ v,v<n->wyA W v=way0)/\r=.inl (a,W,(((n:Int),L,()),f,()),starts,())) (by
  rintro x ⟨i,W,hi,rfl,hW,hv⟩;simp only[dM];by_cases h:i<n
  ·rw[aq (by omega),U3,aB (show i<W.length by omega)];simp only[bv];rw[tv (show i<W.length by omega),aR (by omega)];refine .inl ⟨_,rfl,⟨i+1,_,h,rfl,by rw[L8,hW],λv hv'=>?_⟩,by show n-((i+1:Nat):Int).toNat<n-(i:Int).toNat;omega⟩;rw[Net.wyA_set (by omega)];by_cases e:v=i
   ·subst e;rw[if_pos rfl,if_pos (by omega),hv v hv',if_neg (by omega)];rfl
   rw[if_neg e,hv v hv'];by_cases e2:v<i
   ·rw[if_pos e2,if_pos (by omega)]
   rw[if_neg e2,if_neg (by omega)]
  have:i=n:=by omega
  subst this;rw[aj (by omega)];exact .inr ⟨_,rfl,W,hW,λv hv'=>by rw[hv v hv',if_pos hv'],rfl⟩) (a,A7 n (aL ux),(((n:Int),L,()),f,()),starts,(n:Int),0,()) ⟨0,_,L4 _,rfl,L5,λv hv=>by
   rw[if_neg (by omega)];unfold wyA;rw[A5,Wc,if_pos hv];rfl⟩
 rw[show fX (a,A7 n (aL ux),(((n:Int),L,()),f,()),starts,((A7 n (aL ux)).length:Int),0,())=some (.inl (a,W0,(((n:Int),L,()),f,()),starts,())) by rw[L5];exact g1];simp only[bv,B7]
 obtain⟨r,g2,W1,w3,w4,rfl⟩:=aH (f:=dN) (λx=>∃(i:Nat) (W:List WyD),i<=starts.length/\x=(a,W,(((n:Int),L,()),f,()),starts,starts,(starts.length:Int),(i:Int),())/\W.length=n/\∀ v,v<n->wyA W v=if(v:Int)∈starts.take i then Mg else way0) (λx=>starts.length-x.2.2.2.2.2.2.1.toNat)
  (λr=>∃ W:List WyD,W.length=n/\(∀ v,v<n->wyA W v=if(v:Int)∈starts then Mg else way0)/\r=.inl (a,W,(((n:Int),L,()),f,()),starts,())) (by
  rintro x ⟨i,W,hi,rfl,hW,hv⟩;simp only[dN];by_cases h:i<starts.length
  ·obtain⟨k,hk,hkn⟩:=hs _ (A2 h);rw[aq (by omega),U3,ac,bx h];simp only[bv];rw[hk,aB (show k<W.length by omega)];simp only[bv];rw[tv (show k<W.length by omega),aR (by omega)];refine .inl ⟨_,rfl,⟨i+1,_,h,rfl,by rw[L8,hW],λv hv'=>?_⟩,by show starts.length-((i+1:Nat):Int).toNat<starts.length-(i:Int).toNat;omega⟩;rw[Net.wyA_set (by omega),Vf h,hk];by_cases e:v=k
   ·subst e;rw[if_pos rfl,if_pos (by simp)];rfl
   rw[if_neg e,hv v hv'];have:((v:Int)∈starts.take i++[(k:Int)])↔(v:Int)∈starts.take i:=by simp;omega
   simp only[this]
  have:i=starts.length:=by omega
  subst this;rw[aj (by omega)];rw[V6]at hv;exact .inr ⟨_,rfl,W,hW,hv,rfl⟩) (a,W0,(((n:Int),L,()),f,()),starts,starts,(starts.length:Int),0,()) ⟨0,_,L4 _,rfl,w1,λv hv=>by rw[w2 v hv,List.take_zero,if_neg (by simp)]⟩
 rw[show gc (a,W0,(((n:Int),L,()),f,()),starts,starts,(starts.length:Int),0,())=_ from g2];simp only[bv,B7];rw[fR (B5 _) (by omega)];simp only[bv];have hpos1:PosW W1:=λv=>by
  by_cases hv:v<n
  ·rw[w4 v hv];split<;>exact⟨V1 _,V1 _⟩
  have:wyA W1 v=way0:=by unfold wyA;rw[A5,VG (by omega)];rfl
  rw[this];exact⟨V1 _,V1 _⟩
 obtain⟨r,g3,W,hW,rfl⟩:=aH (f:=dq) (λx=>∃(m:Nat) (W:List WyD) (Q:List Bool) (q:List Int) (rk:Nat->Nat),x=(a,W,Q,(((n:Int),L,()),f,()),q,(m:Int),())/\m<=n+1/\Rnd n L f starts 64 (m+1) rZ q rk (W,Q,[])/\q.length<=7*16^m/\(q=[]->m<=n)/\PosW W) (λx=>n+2-x.2.2.2.2.2.1.toNat)
  (λr=>∃ W,(Sought n L f starts 64 W/\PosW W)/\r=.inr (.inl (W,()))) (by
  rintro x ⟨m,W,Q,q,rk,rfl,hm,hR,hq,hqe,hpos⟩;simp only[dq];cases hqq:q with
  |nil=>rw[B8,eM (by omega)];rw[hqq]at hR;exact .inr ⟨_,rfl,W,⟨hR.sought (by have:=hqe hqq;omega) hB (by omega) hnp,hpos⟩,rfl⟩
  |cons y t=>
   rw[<- hqq];have hc:m+1<=n:=by rw[hqq]at hR;exact hR.count hnp
   have hp:=T4 m (by omega);rw[pf (by rw[hqq,B2];omega),eM (by omega)];simp only[U3,U4];rw[aR (by omega)];obtain⟨rk',e1,e2,e3⟩:=LC hL hB (by omega) hnp ha hst hll (by omega) (((n:Int),L,()),f,()) ((m+1:Nat):Int) hR (by omega);rw[e1];simp only[bv,B7];have hpow:7*16^(m+1)=7*16^m*16:=by rw[Nat.pow_succ,Nat.mul_assoc]
   refine .inl ⟨_,rfl,⟨m+1,_,_,_,rk',rfl,by omega,e2.turn hB,?_,(λ_=>by omega),PosW.visits (λv s hs=>?_) hpos⟩,by show n+2-((m+1:Nat):Int).toNat<n+2-(m:Int).toNat;omega⟩
   ·rw[hpow];exact Nat.le_trans e3 (Nat.mul_le_mul_right _ hq)
   by_cases hv:v<n
   ·obtain⟨j,w,_,h2,_⟩:=(hst v hv).are s hs;rw[h2];omega
   have:ep a v=[]:=by unfold ep;rw[VG (by omega)];rfl
   rw[this]at hs;cases hs) (a,W1,A7 n false,(((n:Int),L,()),f,()),starts,0,()) ⟨0,W1,_,starts,_,rfl,by omega,(Begun.mk w3 w4).rnd hs hB,by simp;omega,(λ_=>by omega),hpos1⟩
 rw[show fI (a,W1,A7 n (aL .bool),(((n:Int),L,()),f,()),starts,0,())=_ from g3];exact⟨W,rfl,hW⟩
theorem KA(hn:n<=1000)(L:List Bd)(f:List Int):e8 ((((n:Int),L,()),f,()),())=some (vs n,()):=by
 simp only[e8];rw[fR (B5 _) (by omega)];simp only[bv];obtain⟨r,g1,rfl⟩:=aH (f:=fe) (λx=>∃(i:Nat) (W:List Int),i<=n/\x=(W,(n:Int),(i:Int),())/\W.length=n/\∀ v:Nat,v<i->W[v]?=some (v:Int)) (λx=>n-x.2.2.1.toNat)
  (λr=>r=.inl (vs n,())) (by
  rintro x ⟨i,W,hi,rfl,hW,hv⟩;simp only[fe];by_cases h:i<n
  ·rw[aq (by omega),U3,aB (show i<W.length by omega)];simp only[bv];rw[bx (show i<W.length by omega),aR (by omega)];refine .inl ⟨_,rfl,⟨i+1,_,h,rfl,by rw[L8,hW],λv hv'=>?_⟩,by show n-((i+1:Nat):Int).toNat<n-(i:Int).toNat;omega⟩;by_cases e:v=i
   ·subst e;rw[VB (by omega)]
   rw[Vo (Ne.symm e)];exact hv v (by omega)
  have:i=n:=by omega
  subst this;rw[aj (by omega)];refine .inr ⟨_,rfl,?_⟩;have:W=vs i:=by
   refine List.ext_getElem? λk=>?_;by_cases hk:k<i
   ·rw[hv k hk];unfold vs;rw[List.getElem?_map,List.getElem?_range hk];rfl
   rw[VG (by omega),VG (by rw[wB];omega)]
  rw[this]) (A7 n 0,(n:Int),0,()) ⟨0,_,L4 _,rfl,L5,λv hv=>by omega⟩
 rw[show jC (A7 n (aL I),((A7 n (aL I)).length:Int),0,())=some (.inl (vs n,())) by rw[L5];exact g1];rfl
theorem H5(n:Nat):∀ x∈vs n,∃ k:Nat,x=(k:Int)/\k<n:=λx hx=>by obtain⟨h1,h2⟩:=vu.1 hx;exact⟨x.toNat,by omega,by omega⟩
def rV(L:List Bd)(v:Nat):Int:=bn (λb:Bd=>b.wt*(at1 b.to v-at1 b.fr v)) L
theorem LB(L:List Bd)(b:Bd)(v:Nat):rV (L++[b]) v=rV L v+b.wt*(at1 b.to v-at1 b.fr v):=by unfold rV;rw[Net.lsum_append];simp[bn]
theorem Fx(hw:∀ b∈L,0<=b.wt/\b.wt<=1000)(v:Nat):-(1000*(L.length:Int))<=rV L v/\rV L v<=1000*(L.length:Int):=by
 induction L with
 |nil=>simp[rV,bn]
 |cons b L ih=>
  have h1:=ih λc hc=>hw c (by simp[hc]);have h2:=hw b (by simp);have e:rV (b::L) v=b.wt*(at1 b.to v-at1 b.fr v)+rV L v:=rfl;rw[e,B2];have h3:-1000<=b.wt*(at1 b.to v-at1 b.fr v)/\b.wt*(at1 b.to v-at1 b.fr v)<=1000:=by unfold at1;split<;>split<;>simp<;>omega
  omega
theorem Lf(hL:gm n L)(hn:n<=1000)(hll:L.length<=1000)(hw:∀ b∈L,0<=b.wt/\b.wt<=1000)(f:List Int):∃ N:List Int,dU ((((n:Int),L,()),f,()),())=some (N,())/\N.length=n/\∀ v,v<n->N.getD v 0=rV L v:=by
 simp only[dU];rw[fR (B5 _) (by omega)];simp only[bv];obtain⟨r,g1,N,n1,n2,rfl⟩:=aH (f:=ec) (λx=>∃(i:Nat) (N:List Int),i<=L.length/\x=(N,L,(L.length:Int),(i:Int),())/\N.length=n/\∀ v:Nat,v<n->N.getD v 0=rV (L.take i) v) (λx=>L.length-x.2.2.2.1.toNat)
  (λr=>∃ N:List Int,N.length=n/\(∀ v:Nat,v<n->N.getD v 0=rV L v)/\r=.inl (N,())) (by
  rintro x ⟨i,N,hi,rfl,hN,hv⟩;simp only[ec];by_cases h:i<L.length
  ·obtain⟨⟨q1,q2,q3,q4,q5⟩,q6⟩:=hL _ (A2 h);simp only[Bd.fr,Bd.to]at q1 q2 q3 q4 q5;have hwb:=hw _ (A2 h);simp only[Bd.wt]at hwb;obtain⟨fr,hfr⟩:∃ k:Nat,L[i].1=k:=⟨L[i].1.toNat,by omega⟩;obtain⟨tt,htt⟩:∃ k:Nat,L[i].2.1=k:=⟨L[i].2.1.toNat,by omega⟩;have hget:∀(M:List Int) (k:Nat),k<M.length->M[k]?=some (M.getD k 0):=λM k hk=>by rw[A5,bx hk];rfl
   have b1:=Fx (L:=L.take i) (λb hb=>hw b (VI hb)) fr;have b2:=Fx (L:=L.take i) (λb hb=>hw b (VI hb)) tt;rw[List.length_take,Nat.min_eq_left hi]at b1 b2;have e1:=hv fr (by omega);have e2:=hv tt (by omega);rw[aq (by omega),U3,ac,bx h];simp only[bv];rw[hfr,htt,aB (show tt<N.length by omega)];simp only[bv];rw[hget N tt (by omega),aR (by omega)];simp only[bv];rw[e2,oT (by omega) (by omega),aB (show fr<(N.set tt (rV (L.take i) tt+L[i].2.2.2.1)).length by rw[L8];omega)];simp only[bv];rw[Vo (show tt≠fr by omega),hget N fr (by omega)];simp only[bv];rw[e1,nq (by omega) (by omega)];refine .inl ⟨_,rfl,⟨i+1,_,h,rfl,by rw[L8,L8,hN],λv hv'=>?_⟩,by show L.length-((i+1:Nat):Int).toNat<L.length-(i:Int).toNat;omega⟩;rw[nJ (by rw[L8];omega),nJ (by omega),Vf h,LB];unfold at1;simp only[Bd.fr,Bd.to,Bd.wt,hfr,htt];by_cases c1:v=fr
   ·subst c1;rw[if_pos rfl,if_neg (by omega),if_pos rfl];simp;omega
   rw[if_neg c1];by_cases c2:v=tt
   ·subst c2;rw[if_pos rfl,if_pos rfl,if_neg (by omega)];simp
   rw[if_neg c2,if_neg (by omega),if_neg (by omega),hv v hv'];simp
  have:i=L.length:=by omega
  subst this;rw[aj (by omega)];rw[V6]at hv;exact .inr ⟨_,rfl,N,hN,hv,rfl⟩) (A7 n 0,L,(L.length:Int),0,()) ⟨0,_,L4 _,rfl,L5,λv hv=>by
   rw[A5,Wc,if_pos hv];rfl⟩
 rw[show gZ (A7 n (aL I),L,(L.length:Int),0,())=_ from g1];exact⟨N,rfl,n1,n2⟩
theorem Rr{f:List Int}(h:∀ x∈f,x=0)(hf:f.length=L.length)(v:Nat):-Net.bal (L.zip f) v=rV L v:=by
 unfold Net.bal rV;rw[<- Net.lsum_zip (f:=f) (L:=L) (λb:Bd=>b.wt*(at1 b.to v-at1 b.fr v)) hf];have e:-bn (λp:Bd×Int=>(p.2-p.1.wt)*(at1 p.1.to v-at1 p.1.fr v)) (L.zip f)=bn (λp:Bd×Int=>(-1)*((p.2-p.1.wt)*(at1 p.1.to v-at1 p.1.fr v))) (L.zip f):=by rw[Net.lsum_mul];omega
 rw[e];refine Net.lsum_congr λp hp=>?_;have:p.2=0:=h _ (List.of_mem_zip hp).2;rw[this,Int.zero_sub,Xy,Int.one_mul,Xy,Int.neg_neg]
end
end Go.Vm

/-
 AuditFinds: the program sends along ways until it has a certificate; simplex.Solve.
-/
namespace Go.Vm
open Go.Proofs
open Net (Bd StD WyD SrD Stq Sought gm pD dW gV beg idW wyA Got none60 ka bn at1 aM dA chg Cer Cert Pot zsum)
set_option maxRecDepth 100000
attribute [local irreducible] ab
section
variable {n:Nat}{L:List Bd}{f:List Int}{W:List WyD}{N starts:List Int}
theorem Qh{v u:Nat}{g:Int}(hp:PosW W)(h:gV W v=some (u,g)):beg W v=false/\(wyA W v).2.1=(u:Int)/\(wyA W v).2.2.1.2.2.1=((idW W v).1:Int)/\(wyA W v).2.2.1.2.2.2.1=(idW W v).2:=by
 unfold gV at h;have hq:=hp v;cases hb:beg W v with
 |true=>rw[hb]at h;simp at h
 |false=>
  rw[hb]at h;simp only[Bool.false_eq_true,if_false]at h;split at h
  ·cases h
  cases h;exact⟨rfl,by omega,by unfold idW;omega,rfl⟩
def xE(f:List Int)(h:Int)(l:List (Nat×Bool)):Int:=l.foldl (λh p=>cond p.2 (bL h (f.getD p.1 0)) h) h
theorem E8(f:List Int):∀(l:List (Nat×Bool)) (h:Int),xE f h l<=h/\∀ i,(i,true)∈l->xE f h l<=f.getD i 0
 |[],h=>⟨V1 _,λi hi=>by cases hi⟩
 |p::l,h=>by
  obtain⟨h1,h2⟩:=E8 f l (cond p.2 (bL h (f.getD p.1 0)) h);have e:xE f h (p::l)=xE f (cond p.2 (bL h (f.getD p.1 0)) h) l:=rfl;rw[e];obtain⟨i,bk⟩:=p;cases bk with
  |false=>
   refine⟨h1,λj hj=>?_⟩;rcases A9.1 hj with e|e
   ·cases e
   exact h2 j e
  |true=>
   simp only[U3]at h1 h2 ⊢;have h3:bL h (f.getD i 0)<=h/\bL h (f.getD i 0)<=f.getD i 0:=by unfold bL;split<;>omega
   refine⟨by omega,λj hj=>?_⟩;rcases A9.1 hj with e|e
   ·cases e;omega
   exact h2 j e
theorem Du(f:List Int):∀(l:List (Nat×Bool)) (h:Int),0<h->(∀ i,(i,true)∈l->0<f.getD i 0)->0<xE f h l
 |[],h,h0,_=>h0
 |p::l,h,h0,hp=>by
  refine Du f l _ ?_ λi hi=>hp i (by simp[hi]);obtain⟨i,bk⟩:=p;cases bk with
  |false=>exact h0
  |true=>have:=hp i (by simp);simp only[U3];unfold bL;split<;>omega
theorem NI(hS:Sought n L f starts 64 W)(hP:PosW W)(hf:f.length=L.length)(to:Int):
  ∀(l v w:Nat) (G h:Int),v<n->aM (gV W) l v=some (w,G)->beg W w=true->dk ((n:Int),L,f,N,W,to,(v:Int),h,(v:Int),())=some (.inl ((n:Int),L,f,N,W,to,(w:Int),xE f h (dA (gV W) (idW W) l v),())):=by
 intro l;induction l with
 |zero=>intro v w G h hv hb hw;simp only[aM,ov,B4]at hb;obtain⟨rfl,_⟩:=hb;unfold dk;refine ce ?_;simp only[eP];rw[ac,tv (by rw[hS.len];exact hv)];simp only[bv];rw[show(wyA W v).2.2.2.1=beg W v from rfl,hw];rfl
 |succ l ih=>
  intro v w G h hv hb hw;simp only[aM]at hb;cases hp:gV W v with
  |none=>rw[hp]at hb;simp at hb
  |some q=>
   obtain⟨u,g⟩:=q;rw[hp]at hb;simp only at hb;cases hq:aM (gV W) l u with
   |none=>rw[hq]at hb;simp at hb
   |some q=>
    obtain⟨w',K⟩:=q;rw[hq]at hb;simp only[ov,B4]at hb;obtain⟨rfl,_⟩:=hb;obtain⟨p1,p2,p3,p4⟩:=Qh hP hp;obtain⟨rk,hR⟩:=hS.rlx;have hu:u<n:=(hR.step v u g hp).2.2.1;have e:dA (gV W) (idW W) (l+1) v=idW W v::dA (gV W) (idW W) l u:=by simp only[dA,hp]
    rw[e];have e2:xE f h (idW W v::dA (gV W) (idW W) l u)=xE f (cond (idW W v).2 (bL h (f.getD (idW W v).1 0)) h) (dA (gV W) (idW W) l u):=rfl;rw[e2,<- ih u w' K _ hu hq hw];unfold dk;refine gq ?_;obtain⟨b,x,b1,b2,_⟩:=(hS.ids v u g hp).1;have hif:(idW W v).1<f.length:=(tz.1 b2).1;simp only[eP];rw[ac,tv (by rw[hS.len];exact hv)];simp only[bv];rw[show(wyA W v).2.2.2.1=beg W v from rfl,p1,p2,p3,p4];simp only[Xc,U3];cases(idW W v).2 with
    |false=>rfl
    |true=>simp only[U3];rw[aB hif];simp only[bv];rw[bx hif,A5,bx hif];rfl
theorem NR(hS:Sought n L f starts 64 W)(hP:PosW W)(hf:f.length=L.length)(fr:Int){k:Int}(hk:0<=k/\k<=1000000):
  ∀(l v w:Nat) (G:Int) (f':List Int) (M:Int),f'.length=L.length->(∀ x∈f',-M<=x/\x<=M)->M+l*1000000<=1000000000000->v<n->aM (gV W) l v=some (w,G)->beg W w=true ->
   cT ((n:Int),L,f',N,W,fr,k,(v:Int),())=some (.inl ((n:Int),L,Net.send k f' (dA (gV W) (idW W) l v),N,fr,k,())):=by
 intro l;induction l with
 |zero=>intro v w G f' M _ _ _ hv hb hw;simp only[aM,ov,B4]at hb;obtain⟨rfl,_⟩:=hb;unfold cT;refine ce ?_;simp only[ea];rw[ac,tv (by rw[hS.len];exact hv)];simp only[bv];rw[show(wyA W v).2.2.2.1=beg W v from rfl,hw];rfl
 |succ l ih=>
  intro v w G f' M hfl hM hMl hv hb hw;simp only[aM]at hb;cases hp:gV W v with
  |none=>rw[hp]at hb;simp at hb
  |some q=>
   obtain⟨u,g⟩:=q;rw[hp]at hb;simp only at hb;cases hq:aM (gV W) l u with
   |none=>rw[hq]at hb;simp at hb
   |some q=>
    obtain⟨w',K⟩:=q;rw[hq]at hb;simp only[ov,B4]at hb;obtain⟨rfl,_⟩:=hb;obtain⟨p1,p2,p3,p4⟩:=Qh hP hp;obtain⟨rk,hR⟩:=hS.rlx;have hu:u<n:=(hR.step v u g hp).2.2.1;have e:dA (gV W) (idW W) (l+1) v=idW W v::dA (gV W) (idW W) l u:=by simp only[dA,hp]
    rw[e];have e2:Net.send k f' (idW W v::dA (gV W) (idW W) l u)=Net.send k (f'.set (idW W v).1 (chg k (idW W v).2 (f'.getD (idW W v).1 0))) (dA (gV W) (idW W) l u):=rfl;obtain⟨b,x,b1,b2,_⟩:=(hS.ids v u g hp).1;have hif:(idW W v).1<f'.length:=by rw[hfl,<- hf];exact(tz.1 b2).1
    have hx0:f'.getD (idW W v).1 0=f'[(idW W v).1]:=by rw[A5,bx hif];rfl
    have hxM:=hM _ (A2 hif);have hc:-(M+1000000)<=chg k (idW W v).2 (f'.getD (idW W v).1 0)/\chg k (idW W v).2 (f'.getD (idW W v).1 0)<=M+1000000:=by rw[hx0];unfold chg;split<;>omega
    have hll:((l+1:Nat):Int)*1000000=l*1000000+1000000:=by omega
    rw[e2,<- ih u w' K (f'.set (idW W v).1 (chg k (idW W v).2 (f'.getD (idW W v).1 0))) (M+1000000) (by rw[L8,hfl]) (λy hy=>by
     rcases List.mem_or_eq_of_mem_set hy with h1|h1
     ·have:=hM y h1;omega
     rw[h1];exact hc) (by omega) hu hq hw]
    unfold cT;refine gq ?_;simp only[ea];rw[ac,tv (by rw[hS.len];exact hv)];simp only[bv];rw[show(wyA W v).2.2.2.1=beg W v from rfl,p1,p2,p3,p4];simp only[Xc,U3];rw[aB hif];simp only[bv];rw[bx hif,hx0];simp only[bv];cases(idW W v).2 with
    |false=>simp only[U4,chg];rw[oT (by omega) (by omega)];rfl
    |true=>simp only[U3,chg];rw[nq (by omega) (by omega)];rfl
theorem JD(hN:N.length=n)(hn:n<=1000)(f:List Int):fZ ((n:Int),L,N,[],f,(N.length:Int),0,())=some (.inl ((n:Int),L,N,(vs n).filter (λv=>ltI (N.getD v.toNat 0) 0),f,())):=by
 obtain⟨r,g1,rfl⟩:=aH (f:=dL) (λx=>∃ i:Nat,i<=n/\x=((n:Int),L,N,(vs i).filter (λv=>ltI (N.getD v.toNat 0) 0),f,(N.length:Int),(i:Int),())) (λx=>n-x.2.2.2.2.2.2.1.toNat)
  (λr=>r=.inl ((n:Int),L,N,(vs n).filter (λv=>ltI (N.getD v.toNat 0) 0),f,())) (by
  rintro x ⟨i,hi,rfl⟩;simp only[dL];by_cases h:i<n
  ·have hlen:=WS (λv:Int=>ltI (N.getD v.toNat 0) 0) (vs i);rw[wB]at hlen;have hs:vs (i+1)=vs i++[(i:Int)]:=by unfold vs;rw[List.range_succ,List.map_append];rfl
   have hd:N[i]?=some (N.getD i 0):=by rw[A5,bx (show i<N.length by omega)];rfl
   have hm:n-((i+1:Nat):Int).toNat<n-(i:Int).toNat:=by omega
   rw[aq (by omega),U3,aB (show i<N.length by omega)];simp only[bv];rw[hd,aR (by omega),bw (by simp only[B2,B8];omega)];simp only[bv];left;have he:(vs (i+1)).filter (λv=>ltI (N.getD v.toNat 0) 0)=(vs i).filter (λv=>ltI (N.getD v.toNat 0) 0)++cond (ltI (N.getD i 0) 0) [(i:Int)] []:=by
    have hone:[(i:Int)].filter (λv=>ltI (N.getD v.toNat 0) 0)=cond (ltI (N.getD i 0) 0) [(i:Int)] []:=by
     simp only[List.filter_cons,List.filter_nil,VE];by_cases hh:ltI (N.getD i 0) 0=true
     ·rw[if_pos hh,hh];rfl
     rw[if_neg hh,Bool.eq_false_iff.2 hh];rfl
    rw[hs,List.filter_append,hone]
   cases hlt:ltI (N.getD i 0) 0 with
   |true=>rw[hlt]at he;exact⟨_,rfl,⟨i+1,h,by rw[he];rfl⟩,hm⟩
   |false=>rw[hlt]at he;exact⟨_,rfl,⟨i+1,h,by rw[he];simp⟩,hm⟩
  have:i=n:=by omega
  subst this;rw[aj (by omega)];exact .inr ⟨_,rfl,rfl⟩) ((n:Int),L,N,[],f,(N.length:Int),0,()) ⟨0,L4 _,rfl⟩
 exact g1
theorem R8(hN:N.length=n)(hW:W.length=n)(hn:n<=1000)(f:List Int)(hex:∃ v,v<n/\0<N.getD v 0/\-576460752303423488<dW W v):
  ∃ t:Nat,fB ((n:Int),L,f,N,W,-1,(N.length:Int),0,())=some (.inl ((n:Int),L,f,N,W,(t:Int),()))/\t<n/\0<N.getD t 0/\-576460752303423488<dW W t:=by
 have hd:∀ i,i<n->N[i]?=some (N.getD i 0):=λi hi=>by rw[A5,bx (show i<N.length by omega)];rfl
 obtain⟨r,g1,t,rfl,h2⟩:=aH (f:=dv) (λx=>∃(i:Nat) (t:Int),i<=n/\x=((n:Int),L,f,N,W,t,(N.length:Int),(i:Int),())/\((t=-1/\∀ v,v<i->¬(0<N.getD v 0/\-576460752303423488<dW W v))\/∃ k:Nat,t=(k:Int)/\k<n/\0<N.getD k 0/\-576460752303423488<dW W k)) (λx=>n-x.2.2.2.2.2.2.2.1.toNat)
  (λr=>∃ t:Nat,r=.inl ((n:Int),L,f,N,W,(t:Int),())/\t<n/\0<N.getD t 0/\-576460752303423488<dW W t) (by
  rintro x ⟨i,t,hi,rfl,ht⟩;simp only[dv];by_cases h:i<n
  ·have hm:n-((i+1:Nat):Int).toNat<n-(i:Int).toNat:=by omega
   rw[aq (by omega),U3,aB (show i<N.length by omega)];simp only[bv];rw[hd i h,aR (by omega)];simp only[bv];rw[aB (show i<W.length by omega)];simp only[bv];rw[tv (show i<W.length by omega)];simp only[bv];rw[show(wyA W i).1=dW W i from rfl];left;by_cases h1:0<N.getD i 0
   ·rw[pf h1];simp only[U3];by_cases h2:-576460752303423488<dW W i
    ·rw[pf h2];simp only[U3];rcases ht with⟨rfl,_⟩|⟨k,rfl,k1,k2,k3⟩
     ·rw[aq (by omega)];exact⟨_,rfl,⟨i+1,_,h,rfl,.inr ⟨i,rfl,h,h1,h2⟩⟩,hm⟩
     rw[aj (by omega)];simp only[U4];rw[aB (show k<W.length by omega)];simp only[bv];rw[tv (show k<W.length by omega)];simp only[bv];cases gtI (dW W i) (wyA W k).1 with
     |true=>exact⟨_,rfl,⟨i+1,_,h,rfl,.inr ⟨i,rfl,h,h1,h2⟩⟩,hm⟩
     |false=>exact⟨_,rfl,⟨i+1,_,h,rfl,.inr ⟨k,rfl,k1,k2,k3⟩⟩,hm⟩
    rw[eM (by omega)];refine⟨_,rfl,⟨i+1,_,h,rfl,?_⟩,hm⟩;rcases ht with⟨rfl,hno⟩|hk
    ·refine .inl ⟨rfl,λv hv=>?_⟩;by_cases e:v=i
     ·subst e;exactλhh=>h2 hh.2
     exact hno v (by omega)
    exact .inr hk
   rw[eM (by omega)];refine⟨_,rfl,⟨i+1,_,h,rfl,?_⟩,hm⟩;rcases ht with⟨rfl,hno⟩|hk
   ·refine .inl ⟨rfl,λv hv=>?_⟩;by_cases e:v=i
    ·subst e;exactλhh=>h1 hh.1
    exact hno v (by omega)
   exact .inr hk
  have:i=n:=by omega
  subst this;rw[aj (by omega)];rcases ht with⟨rfl,hno⟩|⟨k,rfl,k1,k2,k3⟩
  ·obtain⟨v,v1,v2,v3⟩:=hex;exact absurd ⟨v2,v3⟩ (hno v v1)
  exact .inr ⟨_,rfl,k,rfl,k1,k2,k3⟩) ((n:Int),L,f,N,W,-1,(N.length:Int),0,()) ⟨0,-1,L4 _,rfl,.inl ⟨rfl,λv hv=>by omega⟩⟩
 exact⟨t,g1,h2⟩
def Al(n:Nat)(N:List Int):Int:=zsum (λv=>dj (N.getD v 0) 0) n
theorem Ea(n:Nat)(N:List Int):0<=Al n N:=Net.zsum_nonneg λv _=>by unfold dj;split<;>omega
structure CerS (n:Nat)(L:List Bd)(f N:List Int):Prop where
 cer:Cer n L f (λv=>N.getD v 0)
 nl:N.length=n
 fb:∀ x∈f,x+Al n N<=100000
 nb:∀ v,v<n->-100000<=N.getD v 0
 ob:Al n N<=100000
theorem J4{x:Int}(h:0<=x):dj x 0=x:=by unfold dj;split<;>omega
theorem JS{x:Int}(h:x<=0):dj x 0=0:=by unfold dj;split<;>omega
theorem CerS.step(hL:gm n L)(hB:pD L 64)(hn:n<=7)(hll:L.length<=8)(h:CerS n L f N):
  (bT ((n:Int),L,f,N,())=some (.inr (.inl ((n:Int),L,f,())))/\∀ v,v<n->0<=N.getD v 0) \/
  ∃ f' N',bT ((n:Int),L,f,N,())=some (.inl ((n:Int),L,f',N',()))/\CerS n L f' N'/\Al n N'<Al n N:=by
 have hd:∀ i,i<n->N[i]?=some (N.getD i 0):=λi hi=>by rw[A5,bx (show i<N.length by rw[h.nl];exact hi)];rfl
 have hov:∀ v,v<n->N.getD v 0<=Al n N:=λv hv=>by
  have h1:=Net.zsum_mem_le (F:=λv=>dj (N.getD v 0) 0) (n:=n) (v:=v) (λw _=>by unfold dj;split<;>omega) hv;have h2:N.getD v 0<=dj (N.getD v 0) 0:=by unfold dj;split<;>omega
  have h1':dj (N.getD v 0) 0<=Al n N:=h1;omega
 simp only[bT];rw[JD h.nl (by omega)];simp only[bv,B7];generalize hst:(vs n).filter (λv=>ltI (N.getD v.toNat 0) 0)=starts;have hmem:∀ x,x∈starts↔∃ k:Nat,x=(k:Int)/\k<n/\N.getD k 0<0:=by
  intro x;rw[<- hst,List.mem_filter,vu];constructor
  ·rintro⟨⟨h1,h2⟩,h3⟩;refine⟨x.toNat,by omega,by omega,?_⟩;unfold ltI at h3;exact of_decide_eq_true h3
  rintro⟨k,rfl,h1,h2⟩;exact⟨⟨by omega,by omega⟩,by rw[VE];exact aq h2⟩
 by_cases he:starts=[]
 ·rw[he,tg (show(([]:List Int).length:Int)=0 from rfl)];refine .inl ⟨rfl,λv hv=>?_⟩;apply Classical.byContradiction;intro hneg;have:=(hmem (v:Int)).2 ⟨v,rfl,hv,by omega⟩;rw[he]at this;cases this
 right;have hsl:starts.length<=7:=by have:=WS (λv:Int=>ltI (N.getD v.toNat 0) 0) (vs n);rw[hst,wB]at this;omega
 have hne:(starts.length:Int)≠0:=by intro h0;exact he (List.eq_nil_of_length_eq_zero (by omega))
 rw[qe hne];simp only[U4];obtain⟨W,w1,w2,w3⟩:=wJ (starts:=starts) hL hB hn hll h.cer.len h.cer.np (λx hx=>by obtain⟨k,k1,k2,_⟩:=(hmem x).1 hx;exact⟨k,k1,k2⟩) hsl;rw[w1];simp only[bv]
 obtain⟨s0,hs0⟩:=List.exists_mem_of_ne_nil _ he;obtain⟨s,rfl,hsn,hsneg⟩:=(hmem s0).1 hs0;have hgot:Got W s:=by have:=w2.st s hsn hs0;intro e;rw[e]at this;unfold none60 at this;omega
 obtain⟨v,v1,v2,v3⟩:=h.cer.ex hL (R:=Got W) (λu v g hu hr=>(w2.far.step u v g hu hr).1) hsn hgot hsneg;obtain⟨t,t1,t2,t3,t4⟩:=R8 (L:=L) h.nl w2.len (by omega) f ⟨v,v1,v3,by have:=w2.low v v2;omega⟩;rw[t1];simp only[bv,B7];have htgot:Got W t:=by intro e;rw[e]at t4;unfold none60 at t4;omega
 obtain⟨l,w,G,l1,l2,l3⟩:=w2.root t t2 htgot;obtain⟨rk,hR⟩:=w2.rlx;have hwn:w<n:=hR.back_lt t2 l2;obtain⟨_,hwst⟩:=w2.bg w l3;obtain⟨w',hw',_,hwneg⟩:=(hmem (w:Int)).1 hwst;have:w'=w:=by omega
 subst this;have hwb:=h.nb w' hwn;have htov:=hov t t2;have hob:=h.ob;have hid:=λv u g hp=>(w2.ids v u g hp).1
 simp only[lj];rw[aB (show t<N.length by rw[h.nl];exact t2)];simp only[bv];rw[hd t t2];simp only[bv];rw[NI w2 w3 h.cer.len (t:Int) l t w' G _ t2 l2 l3];simp only[bv,B7];rw[aB (show w'<N.length by rw[h.nl];exact hwn)];simp only[bv];rw[hd w' hwn];simp only[bv];rw[nq (by omega) (by omega)]
 have hbk:∀ i,(i,true)∈dA (gV W) (idW W) l t->0<f.getD i 0:=by
  intro i hi;obtain⟨j,c,H,u,g,_,_,c2,c3⟩:=(Net.trace_mem l2 _).1 hi;obtain⟨b,x,b1,b2,b3⟩:=hid c u g c2;rw[<- c3]at b2 b3;rcases b3 with⟨b4,_⟩|⟨_,b4,_⟩
  ·cases b4
  rw[A5,b2];exact b4
 have hle:=E8 f (dA (gV W) (idW W) l t) (N.getD t 0);have hpos:=Du f (dA (gV W) (idW W) l t) (N.getD t 0) t3 hbk;generalize hm:xE f (N.getD t 0) (dA (gV W) (idW W) l t)=m at hle hpos ⊢;have hk1:0<bL m (0-N.getD w' 0):=by unfold bL;split<;>omega
 have hk2:bL m (0-N.getD w' 0)<=m/\bL m (0-N.getD w' 0)<=0-N.getD w' 0:=by unfold bL;split<;>omega
 generalize hkk:bL m (0-N.getD w' 0)=k at hk1 hk2 ⊢;have hfb0:∀ x∈f,-100000<=x/\x<=100000:=λx hx=>by have h1:=h.cer.nn x hx;have h2:=h.fb x hx;have h3:=Ea n N;omega
 rw[NR w2 w3 h.cer.len (w':Int) (k:=k) (by omega) l t w' G f 100000 h.cer.len hfb0 (by omega) t2 l2 l3];simp only[bv,B7];have hwt:w'≠t:=by intro e;rw[e]at hwneg;omega
 rw[aB (show w'<N.length by rw[h.nl];exact hwn)];simp only[bv];rw[hd w' hwn];simp only[bv];rw[oT (by omega) (by omega),aB (show t<(N.set w' (N.getD w' 0+k)).length by rw[L8,h.nl];exact t2)];simp only[bv];rw[Vo hwt,hd t t2];simp only[bv];rw[nq (by omega) (by omega)];have hN':∀ v,((N.set w' (N.getD w' 0+k)).set t (N.getD t 0-k)).getD v 0=N.getD v 0+k*(at1 (w':Int) v-at1 (t:Int) v):=by
  intro v;rw[nJ (by rw[L8,h.nl];exact t2),nJ (by rw[h.nl];exact hwn)];unfold at1;by_cases e1:v=t
  ·subst e1;rw[if_pos rfl,if_neg (by omega),if_pos rfl];simp;omega
  rw[if_neg e1];by_cases e2:v=w'
  ·subst e2;rw[if_pos rfl,if_pos rfl,if_neg (by omega)];simp
  rw[if_neg e2,if_neg (by omega),if_neg (by omega)];simp
 have hover:Al n ((N.set w' (N.getD w' 0+k)).set t (N.getD t 0-k))=Al n N-k:=by
  have e1:zsum (λv=>dj (((N.set w' (N.getD w' 0+k)).set t (N.getD t 0-k)).getD v 0) 0) n=zsum (λv=>dj (N.getD v 0) 0+1*((-k)*at1 (t:Int) v)) n:=by
   refine Net.zsum_congr λv hv=>?_;rw[hN'];unfold at1;by_cases e1:v=t
   ·subst e1;rw[if_neg (by omega),if_pos rfl,J4 (x:=N.getD v 0) (by omega),J4 (by omega)];omega
   by_cases e2:v=w'
   ·subst e2;rw[if_pos rfl,if_neg (by omega),JS (x:=N.getD v 0) (by omega),JS (by omega)];omega
   rw[if_neg (by omega),if_neg (by omega)];simp
  unfold Al;rw[e1,Net.zsum_add,Net.zsum_at (λ_=>1) (-k) t2];omega
 refine⟨_,_,rfl,?_,by rw[hover];omega⟩;have honce:=hR.trace_once h.cer.np hid l2;have hpath:=Net.trace_path hid l2;have hrev:((dA (gV W) (idW W) l t).reverse.map (·.1)).Nodup:=by rw[List.map_reverse];exact List.pairwise_reverse.2 (honce.imp Ne.symm)
 have hcer:=h.cer.send w2.far hpath hrev (λi bk hi=>by
  rw[WW]at hi;obtain⟨j,c,H,u,g,_,_,c2,c3⟩:=(Net.trace_mem l2 _).1 hi;have hs:=w2.ids c u g c2;have e3:=(hR.step c u g c2).2.1;refine⟨u,c,g,?_,hs.2.1,hs.2.2,e3⟩;have:=hs.1;rw[<- c3]at this;exact this) (k:=k) (by omega) (λi hi x hx=>by
  rw[WW]at hi;have:=hle.2 i hi;rw[A5,hx]at this;have this:m<=x:=this;omega)
 rw[Net.send_reverse k honce]at hcer;refine⟨?_,by rw[L8,L8,h.nl],λx hx=>?_,λv hv=>?_,by rw[hover];omega⟩
 ·have:(λv=>((N.set w' (N.getD w' 0+k)).set t (N.getD t 0-k)).getD v 0)=λv=>N.getD v 0+k*(at1 (w':Int) v-at1 (t:Int) v):=funext hN';rw[this];exact hcer
 ·rw[hover];obtain⟨i,hi,e⟩:=VJ hx;have hil:i<f.length:=by rw[Net.send_length]at hi;exact hi
  have hx0:=bx hil;have hfb:=h.fb _ (A2 hil);have hxe:(Net.send k f (dA (gV W) (idW W) l t))[i]?=some x:=by rw[bx hi,e]
  by_cases hin:∃ bk,(i,bk)∈dA (gV W) (idW W) l t
  ·obtain⟨bk,hin⟩:=hin;rw[Net.send_at k _ f honce hin hx0]at hxe;have:=L9 hxe;rw[<- this];unfold chg;split<;>omega
  rw[Net.send_other k _ f i (λp hp e=>hin ⟨p.2,by rw[<- e];exact hp⟩),hx0]at hxe;have:=L9 hxe;rw[<- this];omega
 rw[hN' v];have:=h.nb v hv;unfold at1;by_cases e1:v=t
 ·subst e1;rw[if_neg (by omega),if_pos rfl];omega
 by_cases e2:v=w'
 ·subst e2;rw[if_pos rfl,if_neg (by omega)];omega
 rw[if_neg (by omega),if_neg (by omega)];omega
theorem IC(hL:gm n L)(hB:pD L 64)(hn:n<=7)(hll:L.length<=8)(h:CerS n L f N):
  ∃ f' N',dI ((n:Int),L,f,N,())=some (.inl ((n:Int),L,f',()))/\CerS n L f' N'/\∀ v,v<n->0<=N'.getD v 0:=by
 obtain⟨r,h1,f',N',rfl,h2⟩:=aH (f:=bT) (λx=>∃ f N,x=((n:Int),L,f,N,())/\CerS n L f N) (λx=>(Al n x.2.2.2.1).toNat)
  (λr=>∃ f' N',r=.inl ((n:Int),L,f',())/\CerS n L f' N'/\∀ v,v<n->0<=N'.getD v 0) (by
  rintro x ⟨f,N,rfl,hC⟩;rcases hC.step hL hB hn hll with⟨e1,e2⟩|⟨f',N',e1,e2,e3⟩
  ·exact .inr ⟨_,e1,f,N,rfl,hC,e2⟩
  refine .inl ⟨_,e1,⟨f',N',rfl,e2⟩,?_⟩;have:=Ea n N';show(Al n N').toNat<(Al n N).toNat;omega) ((n:Int),L,f,N,()) ⟨f,N,rfl,h⟩
 exact⟨f',N',h1,h2⟩
end
end Go.Vm

/-
 AuditFinds: simplex.Solve gives ranks with a certificate.
-/
namespace Go.Vm
open Go.Proofs
open Net (Bd WyD Sought gm pD dW wyA Got none60 ka bn at1 Cer Cert Pot zsum)
set_option maxRecDepth 100000
attribute [local irreducible] ab
structure NetOK (n:Nat)(L:List Bd):Prop where
 bds:gm n L
 n7:n<=7
 l8:L.length<=8
 len:∀ b∈L,1<=b.len/\b.len<=64
 wt:∀ b∈L,0<=b.wt/\b.wt<=1000
 pot:∃ r:Nat->Int,(∀ b∈L,b.len<=r b.to.toNat-r b.fr.toNat)/\∀ v,0<=r v/\r v<=1000
section
variable {n:Nat}{L:List Bd}{f:List Int}
theorem NetOK.lenB(H:NetOK n L):pD L 64:=⟨by omega,λb hb=>by have:=H.len b hb;omega⟩
theorem D9(H:NetOK n L):nL (((n:Int),L,()),())=some (true,()):=by
 have hn:=H.n7;have hl:=H.l8;have:=gl (B:=jL) L (λi=>((n:Int),L,L,(L.length:Int),(i:Int),())) (λ_=>false) (.inl (false,())) (.inr (.inl ())) (by
  intro i hi;obtain⟨⟨q1,q2,q3,q4,q5⟩,q6⟩:=H.bds _ (A2 hi);simp only[Bd.fr,Bd.to]at q1 q2 q3 q4 q5;have h1:=H.len _ (A2 hi);have h2:=H.wt _ (A2 hi);simp only[Bd.len]at h1;simp only[Bd.wt]at h2;simp only[jL];rw[aq (by omega),U3,ac,bx hi,aR (by omega)];simp only[bv,ES,EB];rw[aj q1,aj q3,kb q2,kb q4,qe q5,aj (by omega),eM (by omega),aj (by omega),eM (by omega)];rfl) (by
  simp only[jL];rw[aj (by omega)];rfl)
 simp only[nL];rw[aj (by omega),eM (by omega),eM (by omega)];simp only[U4];rw[show qH ((n:Int),L,L,(L.length:Int),0,())=_ from this,Vj.2 (λ_ _=>by simp)];rfl
theorem F8(H:NetOK n L):iR (((n:Int),L,()),())=some (true,()):=by
 have hn:=H.n7;have hl:=H.l8;have:=gl (B:=eZ) L (λi=>((n:Int),L,(i:Int),())) (λ_=>false) (.inl (false,())) (.inr (.inl ())) (by
  intro i hi;obtain⟨⟨q1,q2,q3,q4,q5⟩,q6⟩:=H.bds _ (A2 hi);simp only[Bd.fr,Bd.to]at q1 q2 q3 q4 q5;have h1:=H.len _ (A2 hi);have h2:=H.wt _ (A2 hi);simp only[Bd.len]at h1;simp only[Bd.wt]at h2;simp only[eZ];rw[aq (by omega),U3,ac,bx hi,aR (by omega)];simp only[bv];rw[aj q1,kb q2,aj q3,kb q4,qe q5,aj (by omega),eM (by omega),aj (by omega),eM (by omega)];rfl) (by
  simp only[eZ];rw[aj (by omega)];rfl)
 simp only[iR];rw[aj (by omega),eM (by omega),eM (by omega)];simp only[U4];rw[show mt ((n:Int),L,0,())=_ from this,Vj.2 (λ_ _=>by simp)];rfl
theorem NetOK.np(H:NetOK n L)(h0:∀ x∈f,x=0):ka (Net.Res L f):=by
 obtain⟨r,hr,_⟩:=H.pot;refine Pot.noPos (p:=r) λu v g ⟨i,bk,b,x,b1,b2,b3⟩=>?_;have hx:=h0 x (B9 b2);have hb:=hr b (B9 b1);rcases b3 with⟨_,c1,c2,rfl⟩|⟨_,c0,_⟩
 ·rw[c1,c2]at hb;simp only[VE]at hb;omega
 omega
theorem AE{F:Nat->Int}{c:Int}:∀{n:Nat},(∀ v,v<n->F v<=c)->zsum F n<=n*c
 |0,_=>by simp[zsum]
 |n+1,h=>by
  have h1:=AE (F:=F) (c:=c) (n:=n) λv hv=>h v (by omega);have h2:=h n (by omega);have e:((n+1:Nat):Int)*c=n*c+c:=by rw[Int.natCast_add,Int.add_mul];simp
  rw[e];show zsum F n+F n<=_;omega
theorem NetOK.begin(H:NetOK n L){f N:List Int}(hf:f.length=L.length)(h0:∀ x∈f,x=0)(hN:N.length=n)(hv:∀ v,v<n->N.getD v 0=rV L v):CerS n L f N:=by
 have hn:=H.n7;have hl:=H.l8;have hb:∀ v,-8000<=rV L v/\rV L v<=8000:=λv=>by have:=Fx H.wt v;omega
 have hov:Al n N<=56000:=by
  have:=AE (F:=λv=>dj (N.getD v 0) 0) (c:=8000) (n:=n) λv hv'=>by show dj (N.getD v 0) 0<=8000;rw[hv v hv'];have:=hb v;unfold dj;split<;>omega
  unfold Al;omega
 refine⟨⟨hf,λx hx=>by rw[h0 x hx];exact V1 _,λv hv'=>?_,H.np h0⟩,hN,λx hx=>by rw[h0 x hx];omega,λv hv'=>?_,by omega⟩
 ·rw[hv v hv',Rr h0 hf]
 rw[hv v hv'];have:=hb v;omega
structure Solved (n:Nat)(L:List Bd)(r f:List Int):Prop where
 rl:r.length=n
 fl:f.length=L.length
 cert:Cert n L (λv=>r.getD v 0) f
 rb:∀ x∈r,-1000000<=x/\x<=1000000
theorem MD(H:NetOK n L):∃ r f,rq (((n:Int),L,()),())=some (r,f,0,())/\Solved n L r f:=by
 have hn:=H.n7;have hl:=H.l8;simp only[rq,D9 H,bv,U8,U4];rw[fR (B5 _) (by omega)];simp only[bv];have hz:∀ x∈A7 L.length (0:Int),x=0:=λx hx=>(List.mem_replicate.1 hx).2;rw[KA (by omega) L _];simp only[bv];obtain⟨W1,w1,_,_⟩:=wJ (starts:=vs n) (f:=A7 L.length 0) H.bds H.lenB hn hl L5 (H.np hz) (H5 n) (by rw[wB];exact hn);rw[show bP ((((n:Int),L,()),A7 L.length (aL I),()),vs n,())=_ from w1];simp only[bv,U8,U4,je];obtain⟨N,n1,n2,n3⟩:=Lf H.bds (by omega) (by omega) H.wt (A7 L.length 0);rw[show dU ((((n:Int),L,()),A7 L.length (aL I),()),())=_ from n1];simp only[bv];obtain⟨f',N',c1,c2,c3⟩:=IC H.bds H.lenB hn hl (H.begin (f:=A7 L.length 0) L5 hz n2 n3);rw[show dI ((n:Int),L,A7 L.length (aL I),N,())=_ from c1];simp only[bv,B7];rw[KA (by omega) L _];simp only[bv];obtain⟨W,w1,w2,_⟩:=wJ (starts:=vs n) (f:=f') H.bds H.lenB hn hl c2.cer.len c2.cer.np (H5 n) (by rw[wB];exact hn);rw[w1];simp only[bv];rw[fR (B5 _) (by omega)];simp only[bv];obtain⟨r,g1,rl,r1,r2,rfl⟩:=aH (f:=lO) (λx=>∃(i:Nat) (R:List Int),i<=n/\x=((n:Int),L,f',W,R,(n:Int),(i:Int),())/\R.length=n/\∀ v,v<i->R.getD v 0=dW W v) (λx=>n-x.2.2.2.2.2.2.1.toNat)
  (λr=>∃ R:List Int,R.length=n/\(∀ v,v<n->R.getD v 0=dW W v)/\r=.inl ((n:Int),L,f',R,())) (by
  rintro x ⟨i,R,hi,rfl,hR,hv⟩;simp only[lO];by_cases h:i<n
  ·have hWl:=w2.len;rw[aq (by omega),U3,aB (show i<W.length by omega)];simp only[bv];rw[tv (show i<W.length by omega),aB (show i<R.length by omega),aR (by omega)];simp only[bv];rw[bx (show i<R.length by omega)];refine .inl ⟨_,rfl,⟨i+1,_,h,rfl,by rw[L8,hR],λv hv'=>?_⟩,by show n-((i+1:Nat):Int).toNat<n-(i:Int).toNat;omega⟩;rw[nJ (by omega)];by_cases e:v=i
   ·subst e;rw[if_pos rfl];rfl
   rw[if_neg e];exact hv v (by omega)
  have:i=n:=by omega
  subst this;rw[aj (by omega)];exact .inr ⟨_,rfl,R,hR,hv,rfl⟩) ((n:Int),L,f',W,A7 n 0,(n:Int),0,()) ⟨0,_,L4 _,rfl,L5,λv hv=>by omega⟩
 rw[show px ((n:Int),L,f',W,A7 n (aL I),((A7 n (aL I)).length:Int),0,())=some (.inl ((n:Int),L,f',rl,())) by rw[L5];exact g1];refine⟨rl,f',rfl,r1,c2.cer.len,?_,λx hx=>?_⟩
 ·have hgot:∀ v,v<n->Got W v:=λv hv=>by have:=w2.st v hv (vu.2 ⟨by omega,by omega⟩);intro e;rw[e]at this;unfold none60 at this;omega
  refine c2.cer.cert H.bds c3 λu v g hr=>?_;obtain⟨i,bk,hs⟩:=hr;obtain⟨hu,hv,_⟩:=hs.lt H.bds;rw[r2 u hu,r2 v hv];exact(w2.far.step u v g (hgot u hu) ⟨i,bk,hs⟩).2
 obtain⟨v,hv,e⟩:=VJ hx;have hvn:v<n:=by omega
 have h1:=r2 v hvn;rw[A5,bx hv]at h1;have h1:rl[v]=dW W v:=h1;have hst:=w2.st v hvn (vu.2 ⟨by omega,by omega⟩);have hgot:Got W v:=by intro e;rw[e]at hst;unfold none60 at hst;omega
 have h2:=w2.high v hvn hgot;rw[<- e,h1];omega
end
end Go.Vm

