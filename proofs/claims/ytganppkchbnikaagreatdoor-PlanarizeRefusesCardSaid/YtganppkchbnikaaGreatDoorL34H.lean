/-
 Lists of vertices; small library functions; a path is drawn.
-/
import Derived.Test.YtganppkchbnikaaGreatDoorL34G
open Option renaming bind_some->dg,bind->Jo
open List renaming getElem?_eq_getElem->A1,getElem?_set_ne->Js,getElem?_set_self->Jx,getElem_mem->Ko
open Option.some renaming inj->B7
open Sum renaming elim_inl->Ke
set_option linter.unusedVariables false
set_option linter.unusedSimpArgs false
namespace Go.Vm
set_option maxRecDepth 100000
attribute [local irreducible] aa
theorem fY{α:Type}(p:α->Bool):∀(l:List α) (i:Nat),(lW (λi (_:Unit) a=>some (cond (p a) (.inr i) (.inl ()))) i () l=some (.inl ())/\∀ a∈l,p a=false)\/∃ k a,l[k]?=some a/\p a=true/\lW (λi (_:Unit) a=>some (cond (p a) (.inr i) (.inl ()))) i () l=some (.inr (i+k))
 |[],i=>.inl ⟨rfl,by simp⟩
 |a::l,i=>by
  simp only[lW,dg];cases h:p a with
  |true=>exact .inr ⟨0,a,rfl,h,rfl⟩
  |false=>
   simp only[UB,Ke];rcases fY p l (i+1)with⟨h1,h2⟩|⟨k,b,h1,h2,h3⟩
   ·exact .inl ⟨h1,λb hb=>by
     rcases List.mem_cons.1 hb with rfl|hb
     ·exact h
     exact h2 b hb⟩
   exact .inr ⟨k+1,b,by simpa using h1,h2,by rw[h3];congr 2;omega⟩
theorem qc (l:List Int)(v:Int)(hl:l.length<=68719476736):(Zba (l,v,())=some (-1,())/\v∉l) \/
  ∃ k:Nat,l[k]?=some v/\Zba (l,v,())=some ((k:Int),()):=by
 have h:=vX (B:=ph) (λ(_:Unit) i=>(l,v,((l.length:Nat):Int),(i:Int),()))
  (λ_=>.inr (.inl ())) (λ(k:Nat)=>.inl ((k:Int),())) (λi (_:Unit) a=>some (cond (eqI v a) (.inr i) (.inl ()))) l (by
   intro _ i a ha;have hi:i<l.length:=(List.getElem?_eq_some_iff.1 ha).1;unfold ph;simp only;rw[aC (by omega),UA,ax,ha,dg,dg];cases eqI v a with
   |true=>rfl
   |false=>rw[UB,bv (by omega)];rfl) (by
   intro _;unfold ph;simp only;rw[bi (by omega)];rfl) ()
 unfold Zba vN;dsimp only;rw[show((0:Int))=((0:Nat):Int)from rfl,h];rcases fY (λa=>eqI v a) l 0 with⟨h1,h2⟩|⟨k,a,h1,h2,h3⟩
 ·rw[h1];refine .inl ⟨rfl,λhm=>?_⟩;have:=h2 v hm;simp[eqI]at this
 rw[h3];have:v=a:=by simpa[eqI]using h2
 subst this;exact .inr ⟨k,h1,by simp only[dg,Sum.elim_inr,Ke,Nat.zero_add]⟩
theorem eP(l:List Int)(v:Int)(hl:l.length<=68719476736):Zae (l,v,())=some (decide (v∈l),()):=by
 unfold Zae;rcases qc l v hl with⟨h1,h2⟩|⟨k,h1,h2⟩
 ·rw[h1,dg,gm (by omega),decide_eq_false h2]
 rw[h2,dg,oE (by omega),decide_eq_true (List.mem_of_getElem? h1)]
theorem nj(l:List Int)(hl:l.length<=68719476736):Zaz (l,())=some (l,()):=by
 unfold Zaz;dsimp only;rw[bx (by simpa using hl),dg,List.nil_append];cases l with
 |nil=>simp[kF]
 |cons a l=>rfl
theorem sI(l:List Int)(hl:l.length<=68719476736):Zam (l,())=some (l.reverse,()):=by unfold Zam vR;have:=EI l hl;exact(congrArg (λo=>Jo o _) this).trans rfl
def nl(P:List Nat):List Int:=P.map λ(u:Nat)=>(u:Int)
theorem aQ(P:List Nat):(nl P).length=P.length:=by simp[nl]
theorem IF{P:List Nat}{i:Nat}:(nl P)[i]?=(P[i]?).map λ(u:Nat)=>(u:Int):=by simp[nl]
theorem aX{P:List Nat}{i u:Nat}(h:P[i]?=some u):(nl P)[i]?=some (u:Int):=by rw[IF,h];rfl
theorem gj(P Q:List Nat):nl (P++Q)=nl P++nl Q:=by simp[nl]
theorem sU{P:List Nat}{u:Nat}:(u:Int)∈nl P↔u∈P:=by
 simp only[nl,List.mem_map];constructor
 ·rintro⟨w,h1,h2⟩;have:w=u:=by omega
  exact this▸h1
 intro h;exact⟨u,h,rfl⟩
theorem DV(P:List Nat):(nl P).reverse=nl P.reverse:=by simp[nl]
structure Mat (N:Nat)(dr:List (List Bool)):Prop where
 len:dr.length=N
 row:∀ u,u<N->(aJ dr u).length=N
def Dr(dr:List (List Bool))(u w:Nat):Prop:=(aJ dr u)[w]?=some true
def tn(dr:List (List Bool))(x y:Nat):List (List Bool):=dr.set x ((aJ dr x).set y true)
theorem Mat.set{N:Nat}{dr:List (List Bool)}(h:Mat N dr){x y:Nat}(hx:x<N):Mat N (tn dr x y):=by
 refine⟨by simp[tn,h.len],λu hu=>?_⟩;unfold tn aJ;by_cases e:u=x
 ·subst e;rw[Jx (by rw[h.len];exact hu)];show((aJ dr u).set y true).length=N;rw[List.length_set];exact h.row u hu
 rw[Js (Ne.symm e)];exact h.row u hu
theorem Mat.dr_set{N:Nat}{dr:List (List Bool)}(h:Mat N dr){x y:Nat}(hx:x<N)(hy:y<N)(u w:Nat):Dr (tn dr x y) u w↔Dr dr u w\/(u=x/\w=y):=by
 unfold Dr tn;by_cases e:u=x
 ·subst e;have:aJ (dr.set u ((aJ dr u).set y true)) u=(aJ dr u).set y true:=by unfold aJ;rw[Jx (by rw[h.len];exact hx)];rfl
  rw[this];by_cases e2:w=y
  ·subst e2;rw[Jx (by rw[h.row u hx];exact hy)];simp
  rw[Js (Ne.symm e2)];simp[e2]
 have:aJ (dr.set x ((aJ dr x).set y true)) u=aJ dr u:=by unfold aJ;rw[Js (Ne.symm e)]
 rw[this];simp[e]
def Nbr(P:List Nat)(i u w:Nat):Prop:=∃ j,j+1<i/\((P[j]?=some u/\P[j+1]?=some w)\/(P[j+1]?=some u/\P[j]?=some w))
theorem Ar {N n:Nat}{near fc:List (List Int)}{inn:List Bool}{dr:List (List Bool)}{P:List Nat}(hi:inn.length=N)(hd:Mat N dr)(hP:∀ u∈P,u < N)(hl:P.length < 68719476736) :
  ∃ inn' dr',Zan (((n:Int),near,inn,dr,fc,()),nl P,())=some (((n:Int),near,inn',dr',fc,()),())/\inn'.length=N/\Mat N dr'/\(∀ u,inn'[u]?=some true↔inn[u]?=some true\/u∈P)/\(∀ u w,Dr dr' u w↔Dr dr u w\/Nbr P P.length u w):=by
 obtain⟨r,hr,inn',dr',rfl,q1,q2,q3,q4⟩:=aI (f:=nM)
  (λs=>∃(i:Nat) (inn':List Bool) (dr':List (List Bool)),i<=P.length/\s=((n:Int),near,inn',dr',fc,nl P,nl P,((P.length:Nat):Int),((i:Nat):Int),())/\inn'.length=N/\Mat N dr'/\(∀ u,inn'[u]?=some true↔inn[u]?=some true\/u∈P.take i)/\(∀ u w,Dr dr' u w↔Dr dr u w\/Nbr P i u w))
  (λs=>(s.2.2.2.2.2.2.2.1-s.2.2.2.2.2.2.2.2.1).toNat)
  (λr=>∃ inn' dr',r=.inl ((n:Int),near,inn',dr',fc,())/\inn'.length=N/\Mat N dr'/\(∀ u,inn'[u]?=some true↔inn[u]?=some true\/u∈P)/\(∀ u w,Dr dr' u w↔Dr dr u w\/Nbr P P.length u w))
  (by
   rintro s ⟨i,inn',dr',hil,rfl,h1,h2,h3,h4⟩;by_cases hlt:i<P.length
   ·left;have hv:P[i]?=some P[i]:=A1 hlt;have hvN:=hP _ (Ko hlt);generalize P[i]=v at hv hvN;have htake:∀ u,u∈P.take (i+1)↔u∈P.take i\/u=v:=λu=>by rw[List.take_add_one,hv];simp
    have hin:∀ u,(inn'.set v true)[u]?=some true↔inn[u]?=some true\/u∈P.take (i+1):=λu=>by
     rw[htake];by_cases e:u=v
     ·subst e;rw[Jx (by rw[h1];exact hvN)];simp
     rw[Js (Ne.symm e),h3];simp[e]
    have hget:∃ y,inn'[v]?=some y:=⟨_,A1 (by rw[h1];exact hvN)⟩;obtain⟨y,hy⟩:=hget;by_cases h0:i=0
    ·subst h0;refine⟨((n:Int),near,inn'.set v true,dr',fc,nl P,nl P,((P.length:Nat):Int),((0+1:Nat):Int),()),?_,⟨0+1,_,_,by omega,rfl,by simp[h1],h2,hin,λu w=>?_⟩,?_⟩
     ·unfold nM;simp only[aC (show((0:Nat):Int)<(P.length:Nat) by omega),UA,UB,ax,aX hv,dg,ae (show v<inn'.length by rw[h1];exact hvN),hy,qt (show((0:Nat):Int)<=0 by omega),bv (show 0<9223372036854775807 by omega)]
     ·rw[h4];constructor
      ·rintro(h|⟨j,hj,_⟩)
       ·exact .inl h
       omega
      rintro(h|⟨j,hj,_⟩)
      ·exact .inl h
      omega
     show(((P.length:Nat):Int)-((0+1:Nat):Int)).toNat<(((P.length:Nat):Int)-((0:Nat):Int)).toNat;omega
    obtain⟨k,rfl⟩:∃ k,i=k+1:=⟨i-1,by omega⟩;have hq:P[k]?=some P[k]:=A1 (by omega);have hqN:=hP _ (Ko (show k<P.length by omega));generalize P[k]=q at hq hqN;have hm1:=h2.set (y:=q) hvN;have hm2:=hm1.set (y:=v) hqN;have hsub:aL (nl P) (dK .i64 ((k+1:Nat):Int) 1)=some (q:Int):=by rw[qT (by omega),show((k+1:Nat):Int)-1=(k:Int) by omega,ax,aX hq]
    refine⟨((n:Int),near,inn'.set v true,tn (tn dr' v q) q v,fc,nl P,nl P,((P.length:Nat):Int),((k+1+1:Nat):Int),()),?_,⟨k+1+1,_,_,by omega,rfl,by simp[h1],hm2,hin,λu w=>?_⟩,?_⟩
    ·unfold nM;simp only[aC (show((k+1:Nat):Int)<(P.length:Nat) by omega),UA,UB,ax,aX hv,dg,ae (show v<inn'.length by rw[h1];exact hvN),hy,tP (show(0:Int)<((k+1:Nat):Int) by omega),bv (show k+1<9223372036854775807 by omega),
      ae (show v<dr'.length by rw[h2.len];exact hvN),hsub,ae (show q<dr'.length by rw[h2.len];exact hqN),ae (show q<(aJ dr' v).length by rw[h2.row v hvN];exact hqN)]
     have e1:ay (aJ (dr'.set v ((aJ dr' v).set q true)) q).length (v:Int)=some v:=ae (by
      have:=hm1.row q hqN;unfold tn at this;rw[this];exact hvN)
     rw[e1];rfl
    ·rw[hm1.dr_set hqN hvN,h2.dr_set hvN hqN,h4];constructor
     ·rintro(((h|⟨j,hj,h⟩)|⟨rfl,rfl⟩)|⟨rfl,rfl⟩)
      ·exact .inl h
      ·exact .inr ⟨j,by omega,h⟩
      ·exact .inr ⟨k,by omega,.inr ⟨hv,hq⟩⟩
      exact .inr ⟨k,by omega,.inl ⟨hq,hv⟩⟩
     rintro(h|⟨j,hj,h⟩)
     ·exact .inl (.inl (.inl h))
     by_cases hjk:j=k
     ·subst hjk;rw[hq,hv]at h;rcases h with⟨a,b⟩|⟨a,b⟩
      ·exact .inr ⟨(B7 a).symm,(B7 b).symm⟩
      exact .inl (.inr ⟨(B7 a).symm,(B7 b).symm⟩)
     exact .inl (.inl (.inr ⟨j,by omega,h⟩))
    show(((P.length:Nat):Int)-((k+1+1:Nat):Int)).toNat<(((P.length:Nat):Int)-((k+1:Nat):Int)).toNat;omega
   have:i=P.length:=by omega
   subst this;refine .inr ⟨_,?_,inn',dr',rfl,h1,h2,by simpa using h3,h4⟩;unfold nM;simp only[bi (Int.le_refl _),UB])
  _ ⟨0,inn,dr,Nat.zero_le _,rfl,hi,hd,by simp,λu w=>⟨.inl,by rintro(h|⟨j,hj,_⟩);exact h;omega⟩⟩
 refine⟨inn',dr',?_,q1,q2,q3,q4⟩;unfold Zan uX;simp only[aQ];exact(congrArg (λo=>Jo o _) hr).trans rfl
end Go.Vm
