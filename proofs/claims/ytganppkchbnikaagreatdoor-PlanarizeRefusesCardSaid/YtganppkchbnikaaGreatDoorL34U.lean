/-
 Plain digraphs; Maximal ends on every digraph.
-/
import Derived.Test.YtganppkchbnikaaGreatDoorL34T
open Option.some renaming injEq->aw
open Option renaming bind_some->dg,bind->Jo
open Bool renaming and_eq_true->np,not_eq_true'->Jw,not_true->J4,or_true->MF,true_or->MG
open List renaming getElem?_eq_getElem->A1,getElem?_eq_some_iff->A2,mem_append->A4,replicate->A5,mem_singleton->B4,mem_of_getElem?->Jv,any_eq_false->J0,getElem_mem->Ko,nil_append->Kw,nodup_append->Ky
open Prod.mk renaming injEq->B3
open Int renaming le_refl->JO
set_option linter.unusedVariables false
set_option linter.unusedSimpArgs false
namespace Go.Vm
set_option maxRecDepth 100000
attribute [local irreducible] aa
abbrev Arw:=Int×Int×Unit
def kr(N:Int)(a:Arw):Bool:=ltI a.1 0||(geI a.1 N||(ltI a.2.1 0||geI a.2.1 N))
theorem DE(N:Int)(a:Arw):(ltI (de a.1 a.2.1) 0||geI (iU a.1 a.2.1) N)=kr N a:=by
 have e1:ltI (de a.1 a.2.1) 0=(ltI a.1 0||ltI a.2.1 0):=by
  unfold de;split
  ·by_cases h:a.2.1<0
   ·rw[aC h,MF]
   rw[bi (by omega),bi (by omega)];rfl
  by_cases h:a.1<0
  ·rw[aC h,MG]
  rw[bi (by omega),bi (by omega)];rfl
 have e2:geI (iU a.1 a.2.1) N=(geI a.1 N||geI a.2.1 N):=by
  unfold iU;split
  ·by_cases h:N<=a.2.1
   ·rw[oE h,MF]
   rw[gm (by omega),gm (by omega)];rfl
  by_cases h:N<=a.1
  ·rw[oE h,MG]
  rw[gm (by omega),gm (by omega)];rfl
 rw[e1,e2,kr];cases ltI a.1 0<;>cases ltI a.2.1 0<;>cases geI a.1 N<;>cases geI a.2.1 N<;>rfl
def dvB(N:Int)(E:List Arw):Bool:=!ltI N 0&&(!gtI N 64&&(!gtI (E.length:Nat) 256 && !E.any (kr N)))
def oG(N:Int)(_:Nat)(_:Unit)(a:Arw):Option (Unit⊕Unit):=some (cond (kr N a) (.inr ()) (.inl ()))
theorem sy(N:Int):∀(E:List Arw) (i:Nat),lW (oG N) i () E=some (cond (E.any (kr N)) (.inr ()) (.inl ()))
 |[],_=>rfl
 |a::E,i=>by
  simp only[lW,oG,dg,List.any_cons];cases kr N a with
  |true=>rfl
  |false=>exact sy N E (i+1)
theorem Fb(N:Int)(E:List Arw)(hE:E.length<=256):sG (N,E,E,(E.length:Nat),0,())=some (cond (E.any (kr N)) (.inl (false,())) (.inr (.inl ()))):=by
 have:=vX (B:=kx) (λ(_:Unit) i=>(N,E,E,((E.length:Nat):Int),(i:Int),())) (λ_=>.inr (.inl ())) (λ(_:Unit)=>.inl (false,())) (oG N) E (by
  intro s i a ha;have hi:i<E.length:=(A2.1 ha).1;simp only[kx];rw[aC (by omega),UA,ax,ha,dg,bv (by omega)];simp only[oG,<- DE];cases ltI (de a.1 a.2.1) 0<;>cases geI (iU a.1 a.2.1) N<;>rfl) (by
  intro s;simp only[kx];rw[bi (by omega)];rfl) ()
 rw[sy]at this;show aa _ _=_;refine this.trans ?_;cases E.any (kr N)<;>rfl
theorem Au(N:Int)(E:List Arw)(u:Unit):Zbw ((N,E,u),())=some (dvB N E,()):=by
 unfold Zbw dvB;simp only;cases ltI N 0 with
 |true=>rfl
 |false=>
  cases gtI N 64 with
  |true=>rfl
  |false=>
   by_cases h:E.length<=256
   ·rw[qt (by omega)];simp only[UB,Bool.not_false,Bool.true_and];rw[Fb N E h];cases E.any (kr N)<;>rfl
   rw[tP (by omega)];rfl
def nrm(a:Arw):Arw:=(de a.1 a.2.1,iU a.1 a.2.1,())
def lpA(a:Arw):Bool:=eqI a.1 a.2.1
instance : DecidableEq Arw:=inferInstanceAs (DecidableEq (Int×Int×Unit))
def l7(N:Int)(E:List Arw):Int:=if dvB N E=false then 1 else if E.any lpA=true then 8 else if(E.map nrm).Nodup then 0 else 6
theorem vM(l:List Arw)(x:Arw)(hl:l.length<=68719476736):Zah (l,x,())=some (decide (x∈l),()):=by
 have h:=vX (B:=pJ) (λ(_:Unit) i=>(x.1,x.2.1,l,((l.length:Nat):Int),(i:Int),()))
  (λ_=>.inr (.inl ())) (λ(k:Nat)=>.inl ((k:Int),())) (λi (_:Unit) a=>some (cond (decide (x=a)) (.inr i) (.inl ()))) l (by
   intro _ i a ha;have hi:i<l.length:=(A2.1 ha).1;have he:(eqI x.1 a.1&&(eqI x.2.1 a.2.1&&true))=decide (x=a):=by obtain⟨x1,x2,_⟩:=x;obtain⟨a1,a2,_⟩:=a;simp only[eqI,Bool.and_true,B3,and_true,Bool.decide_and];by_cases h1:x1=a1<;>by_cases h2:x2=a2<;>simp[h1,h2]
   unfold pJ;simp only;rw[aC (by omega),UA,ax,ha,dg,dg,he];cases decide (x=a)with
   |true=>rfl
   |false=>rw[UB,bv (by omega)];rfl) (by
   intro _;unfold pJ;simp only;rw[bi (by omega)];rfl) ()
 unfold Zah Zay u4;simp only;rw[show((0:Int))=((0:Nat):Int)from rfl,h];rcases fY (λa=>decide (x=a)) l 0 with⟨h1,h2⟩|⟨k,a,h1,h2,h3⟩
 ·rw[h1];have:x∉l:=λhm=>by simpa using h2 x hm
  rw[decide_eq_false this];rfl
 rw[h3];have hx:x=a:=of_decide_eq_true h2;subst hx;rw[decide_eq_true (Jv h1)];show some (geI (((0+k:Nat):Nat):Int) ((0:Nat):Int),())=some (true,());rw[oE (by omega)]
theorem zJ(N:Int)(E:List Arw)(hv:dvB N E=true)(hlp:E.any lpA=false):∃(g:List Arw) (d:List Int),Zbi ((N,E,()),())=some ((N,g,()),d,())/\g.length<=E.length/\(g.length=E.length↔(E.map nrm).Nodup):=by
 have hm:E.length<=256:=by unfold dvB at hv;simp only[np,Jw]at hv;have:=hv.2.2.1;simp only[gtI,decide_eq_false_iff_not]at this;omega
 obtain⟨r,hr,g,d,rfl,q1,q2⟩:=aI (f:=nO)
  (λs=>∃(n:Nat) (c:List Arw) (d:List Int) (g:List Arw),n<=E.length/\s=((0:Int),N,c,d,g,E,((E.length:Nat):Int),(n:Int),())/\d.length=E.length/\g.length=c.length/\c.length<=n/\(∀ x,x∈c↔x∈(E.take n).map nrm)/\(c.length=n↔((E.take n).map nrm).Nodup)) (λs=>(s.2.2.2.2.2.2.1-s.2.2.2.2.2.2.2.1).toNat)
  (λr=>∃(g:List Arw) (d:List Int),r=.inl ((0:Int),N,d,g,())/\g.length<=E.length/\(g.length=E.length↔(E.map nrm).Nodup))
  (by
   rintro s ⟨n,c,d,g,hn,rfl,h1,h2,h3,h4,h5⟩;by_cases hlt:n<E.length
   ·left;have hy:E[n]?=some E[n]:=A1 hlt;have hym:E[n]∈E:=Ko hlt;generalize E[n]=a at hy hym;have hne:eqI (de a.1 a.2.1) (iU a.1 a.2.1)=false:=by
     have:lpA a=false:=by rw[J0]at hlp;simpa using hlp a hym
     unfold lpA at this;rw[bN];have h:a.1≠a.2.1:=by simpa[eqI]using this
     unfold de iU;split<;>split<;>omega
    obtain⟨dv,hd⟩:∃ c,d[n]?=some c:=⟨_,A1 (by omega)⟩;have htk:(E.take (n+1)).map nrm=(E.take n).map nrm++[nrm a]:=by rw[List.take_add_one,hy];simp
    have hcon:=vM c (nrm a) (by omega);have dec:(((E.length:Nat):Int)-((n+1:Nat):Int)).toNat<(((E.length:Nat):Int)-((n:Nat):Int)).toNat:=by omega
    by_cases hmem:nrm a∈c
    ·rw[decide_eq_true hmem]at hcon;refine⟨((0:Int),N,c,d.set n (-1),g,E,((E.length:Nat):Int),((n+1:Nat):Int),()),?_,⟨n+1,c,_,g,by omega,rfl,by simp[h1],h2,by omega,λx=>?_,?_⟩,dec⟩
     ·unfold nO;simp only[aC (show(n:Int)<(E.length:Nat) by omega),UA,ax,hy,dg,hne,UB];refine(congrArg (λo=>Jo o _) hcon).trans ?_;simp only[dg,UA,ae (show n<d.length by omega),hd,bv (show n<9223372036854775807 by omega)]
     ·rw[htk,A4,B4,<- h4];constructor
      ·exact .inl
      rintro(h|rfl)
      ·exact h
      exact hmem
     constructor
     ·intro h;omega
     intro h;rw[htk,Ky]at h;exact absurd rfl (h.2.2 _ ((h4 _).1 hmem) _ (by simp))
    rw[decide_eq_false hmem]at hcon;have a1:app c [nrm a]=some (c++[nrm a]):=bx (by simp;omega);have a2:app g [a]=some (g++[a]):=bx (by simp;omega);refine⟨((0:Int),N,c++[nrm a],d.set n ((c.length:Nat):Int),g++[a],E,((E.length:Nat):Int),((n+1:Nat):Int),()),?_,⟨n+1,_,_,_,by omega,rfl,by simp[h1],by simp[h2],by simp;omega,λx=>?_,?_⟩,dec⟩
    ·unfold nO;simp only[aC (show(n:Int)<(E.length:Nat) by omega),UA,ax,hy,dg,hne,UB];refine(congrArg (λo=>Jo o _) hcon).trans ?_;simp only[dg,UB,ae (show n<d.length by omega),hd];refine(congrArg (λo=>Jo o _) a1).trans ?_;simp only[dg];refine(congrArg (λo=>Jo o _) a2).trans ?_;simp only[dg,bv (show n<9223372036854775807 by omega)]
    ·rw[htk,A4,A4,h4]
    rw[htk,Ky,List.length_append,List.length_singleton];constructor
    ·intro h;refine⟨h5.1 (by omega),by simp,λx hx y hy2 e=>?_⟩;rw[B4]at hy2;subst hy2 e;exact hmem ((h4 _).2 hx)
    intro h;have:=h5.2 h.1;omega
   have:n=E.length:=by omega
   subst this;rw[List.take_length]at h5;refine .inr ⟨_,?_,g,d,rfl,by omega,by rw[h2];exact h5⟩;unfold nO;simp only[bi (JO _),UB])
  ((0:Int),N,[],A5 E.length 0,[],E,((E.length:Nat):Int),((0:Nat):Int),()) ⟨0,[],_,[],by omega,rfl,by simp,rfl,by simp,by simp,by simp⟩
 refine⟨g,d,?_,q1,q2⟩;have hmk:bG I ((E.length:Nat):Int) ((E.length:Nat):Int)=some (A5 E.length 0):=cy (e:=I) (Nat.le_refl _) (by omega);unfold Zbi;simp only[Au,hv,dg,J4,UB,hmk];exact(congrArg (λo=>Jo o _) hr).trans rfl
theorem tT(N:Int)(E:List Arw):Zcc ((N,E,()),())=some (l7 N E,()):=by
 unfold Zcc l7;simp only[Au,dg];cases hv:dvB N E with
 |false=>simp
 |true=>
  have hm:E.length<=256:=by have hv:=hv;unfold dvB at hv;simp only[np,Jw]at hv;have:=hv.2.2.1;simp only[gtI,decide_eq_false_iff_not]at this;omega
  simp only[J4,UB];have h:=vX (B:=pQ) (λ(_:Unit) i=>(N,E,E,((E.length:Nat):Int),(i:Int),())) (λ_=>.inr (.inl (N,E,()))) (λ(_:Nat)=>.inl ((8:Int),())) (λi (_:Unit) a=>some (cond (lpA a) (.inr i) (.inl ()))) E (by
   intro _ i a ha;have hi:i<E.length:=(A2.1 ha).1;unfold pQ lpA;simp only;rw[aC (by omega),UA,ax,ha,dg,dg];cases eqI a.1 a.2.1 with
   |true=>rfl
   |false=>rw[UB,bv (by omega)];rfl) (by
   intro _;unfold pQ;simp only;rw[bi (by omega)];rfl) ()
  have hL:wc (N,E,E,((E.length:Nat):Int),0,())=_:=h;rw[hL];rcases fY lpA E 0 with⟨h1,h2⟩|⟨k,a,h1,h2,h3⟩
  ·have hany:E.any lpA=false:=by rw[J0];intro x hx;simp[h2 x hx]
   obtain⟨g,d,g1,g2,g3⟩:=zJ N E hv hany;rw[h1,hany];simp only[dg,Sum.elim_inr,Sum.elim_inl,g1];by_cases hnd:(E.map nrm).Nodup
   ·have:=g3.2 hnd;rw[bi (by omega)];simp[hnd]
   have:g.length≠E.length:=λh=>hnd (g3.1 h);rw[aC (by omega)];simp[hnd]
  have hany:E.any lpA=true:=List.any_eq_true.2 ⟨a,Jv h1,h2⟩;rw[h3,hany];simp
theorem Dg.of_plain{N:Int}{E:List Arw}(h:l7 N E=0):∃ n:Nat,N=(n:Int)/\Dg n E:=by
 unfold l7 at h;split at h
 ·cases h
 rename_i hv;split at h
 ·cases h
 rename_i hlp;have hv:dvB N E=true:=by simpa using hv
 unfold dvB at hv;simp only[np,Jw,ltI,gtI,decide_eq_false_iff_not]at hv;obtain⟨v1,v2,v3,v4⟩:=hv;refine⟨N.toNat,by omega,⟨by omega,by omega,λk hk=>?_⟩⟩;have hy:E[k]?=some E[k]:=A1 hk;have hym:E[k]∈E:=Ko hk;generalize E[k]=a at hy hym;rw[J0]at v4;have hb:=v4 a hym;have hl:¬a.1=a.2.1:=by
  have:E.any lpA=false:=by simpa using hlp
  rw[J0]at this;simpa[lpA,eqI]using this a hym
 simp only[kr,ltI,geI,Bool.or_eq_true,decide_eq_true_eq,not_or]at hb;refine⟨a.1.toNat,a.2.1.toNat,by omega,by omega,by omega,?_⟩;rw[hy];obtain⟨a1,a2,_⟩:=a;simp only[aw,B3,and_true];simp only at hb;omega
theorem Ag(N:Int)(E:List Arw):∃ R c,Zca ((N,E,()),())=some (R,c,()):=by
 unfold Zca;simp only[tT,dg];by_cases h0:l7 N E=0
 ·obtain⟨n,rfl,D⟩:=Dg.of_plain h0;have hm:=D.m;obtain⟨M,ok,hM⟩:=uA D;have hc:Zaw (E,())=some (E,()):=by
   unfold Zaw;dsimp only;rw[bx (by simp;omega),dg,Kw];cases E with
   |nil=>simp[kF]
   |cons a l=>rfl
  have ht:∃ R c,((Zbf (((n:Int),E,()),())).bind λr2=>cond (!r2.2.1) (some (((0,[],[],()):Int×List Arw×List (List Int)×Unit),(10:Int),())) ((Zaw (E,())).bind λr3=>some (((n:Int),r3.1,r2.1,()),(0:Int),())))=some (R,c,()):=by rw[hM,hc];cases ok<;>exact⟨_,_,rfl⟩
  obtain⟨R,c,ht⟩:=ht;rw[h0,show neI (0:Int) 0=false from rfl,UB];simp only[ht];cases geI (n:Int) 3 with
  |false=>exact⟨_,_,rfl⟩
  |true=>simp only[UA];cases gtI ((E.length:Nat):Int) (dK .i64 (dl .i64 3 (n:Int)) 6)<;>exact⟨_,_,rfl⟩
 rw[show neI (l7 N E) 0=true by simp[neI,h0],UA];exact⟨_,_,rfl⟩
theorem zo(N:Int)(E:List Arw):∃ b,Zbo ((N,E,()),())=some (b,()):=by obtain⟨R,c,h⟩:=Ag N E;unfold Zbo;simp only[h,dg];exact⟨_,rfl⟩
theorem vZ(N:Int)(E:List Arw):∃ l,Zbk ((N,E,()),())=some (l,l7 N E,()):=by
 unfold Zbk;simp only[tT,dg];by_cases h0:l7 N E=0
 ·obtain⟨n,rfl,D⟩:=Dg.of_plain h0;have hm:=D.m;rw[h0,show neI (0:Int) 0=false from rfl,UB];obtain⟨r,hr,l,rfl⟩:=aI (f:=nn)
   (λs=>∃(k:Nat) (l:List Int) (p:Int) (S:List Arw),k<=E.length/\s=((n:Int),E,l,p,S,E,((E.length:Nat):Int),(k:Int),())/\l.length<=k/\S.length<=k) (λs=>(s.2.2.2.2.2.2.1-s.2.2.2.2.2.2.2.1).toNat)
   (λr=>∃ l:List Int,r=.inl (l,()))
   (by
    rintro s ⟨k,l,p,S,hk,rfl,h1,h2⟩;by_cases hlt:k<E.length
    ·have hy:E[k]?=some E[k]:=A1 hlt;generalize E[k]=a at hy;have dec:(((E.length:Nat):Int)-((k+1:Nat):Int)).toNat<(((E.length:Nat):Int)-((k:Nat):Int)).toNat:=by omega
     have hc:Zaw (S,())=some (S,()):=by
      unfold Zaw;dsimp only;rw[bx (by simp;omega),dg,Kw];cases S with
      |nil=>simp[kF]
      |cons a l=>rfl
     have a1:app S [(a.1,a.2.1,())]=some (S++[(a.1,a.2.1,())]):=bx (by simp;omega);obtain⟨b,hb⟩:=zo (n:Int) (S++[(a.1,a.2.1,())]);cases b with
     |false=>refine .inl ⟨((n:Int),E,l,p,S,E,((E.length:Nat):Int),((k+1:Nat):Int),()),?_,⟨k+1,l,p,S,by omega,rfl,by omega,by omega⟩,dec⟩;unfold nn;simp only[aC (show(k:Int)<(E.length:Nat) by omega),UA,ax,hy,dg,hc,a1,hb,UB,bv (show k<9223372036854775807 by omega)]
     |true=>have a2:app l [(k:Int)]=some (l++[(k:Int)]):=bx (by simp;omega);refine .inl ⟨((n:Int),E,l++[(k:Int)],(n:Int),S++[(a.1,a.2.1,())],E,((E.length:Nat):Int),((k+1:Nat):Int),()),?_,⟨k+1,_,_,_,by omega,rfl,by simp;omega,by simp;omega⟩,dec⟩;unfold nn;simp only[aC (show(k:Int)<(E.length:Nat) by omega),UA,ax,hy,dg,hc,a1,hb,a2,bv (show k<9223372036854775807 by omega)]
    have:k=E.length:=by omega
    subst this;refine .inr ⟨_,?_,l,rfl⟩;unfold nn;simp only[bi (JO _),UB])
   ((n:Int),E,[],(n:Int),[],E,((E.length:Nat):Int),((0:Nat):Int),()) ⟨0,[],_,[],by omega,rfl,by simp,by simp⟩
  refine⟨l,?_⟩;exact(congrArg (λo=>Jo o _) hr).trans rfl
 rw[show neI (l7 N E) 0=true by simp[neI,h0],UA];exact⟨_,rfl⟩
end Go.Vm
