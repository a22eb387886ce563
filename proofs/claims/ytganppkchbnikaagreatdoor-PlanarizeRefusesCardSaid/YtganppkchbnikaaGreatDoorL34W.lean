/-
 The specification's errors: Simple and Components; Run gives them.
-/
import Derived.Test.YtganppkchbnikaaGreatDoorL34V
open Option renaming bind_some->dg,bind->Jo
open List renaming getElem?_eq_getElem->A1,getElem?_eq_some_iff->A2,mem_of_getElem?->Jv,getElem?_take_of_lt->Kg,nodup_append->Ky,mem_map->KW
open Prod.mk renaming injEq->B3
open Int renaming le_refl->JO
open Bool renaming not_false->J6,true_and->KO
open Sum renaming elim_inl->Ke,elim_inr->Ma
set_option linter.unusedVariables false
set_option linter.unusedSimpArgs false
namespace Go.Vm
set_option maxRecDepth 100000
attribute [local irreducible] aa
theorem Bb(N:Int)(E:List Arw)(hE:E.length<=256):vy (N,E,0,())=some (cond (E.any (kr N)) (.inl (false,())) (.inr (.inl ()))):=by
 have:=vX (B:=qa) (λ(_:Unit) i=>(N,E,(i:Int),())) (λ_=>.inr (.inl ())) (λ(_:Unit)=>.inl (false,())) (oG N) E (by
  intro s i a ha;have hi:i<E.length:=(A2.1 ha).1;simp only[qa];rw[aC (by omega),UA,ax,ha,dg,bv (by omega)];simp only[oG,kr];cases ltI a.1 0<;>cases geI a.1 N<;>cases ltI a.2.1 0<;>cases geI a.2.1 N<;>rfl) (by
  intro s;simp only[qa];rw[bi (by omega)];rfl) ()
 rw[sy]at this;show aa _ _=_;refine this.trans ?_;cases E.any (kr N)<;>rfl
theorem GV(N:Int)(E:List Arw)(u:Unit):Zas ((N,E,u),())=some (dvB N E,()):=by
 unfold Zas dvB;simp only;cases ltI N 0 with
 |true=>rfl
 |false=>
  cases gtI N 64 with
  |true=>rfl
  |false=>
   by_cases h:E.length<=256
   ·rw[qt (by omega)];simp only[UB,J6,KO];rw[Bb N E h];cases E.any (kr N)<;>rfl
   rw[tP (by omega)];rfl
theorem Da(N:Int)(E:List Arw)(hE:E.length<=256):vD (N,E,0,())=some (cond (E.any (kr N)) (.inl (false,())) (.inr (.inl ()))):=by
 have:=vX (B:=pA) (λ(_:Unit) i=>(N,E,(i:Int),())) (λ_=>.inr (.inl ())) (λ(_:Unit)=>.inl (false,())) (oG N) E (by
  intro s i a ha;have hi:i<E.length:=(A2.1 ha).1;simp only[pA];rw[aC (by omega),UA,ax,ha,dg,bv (by omega)];simp only[oG,kr];cases ltI a.1 0<;>cases geI a.1 N<;>cases ltI a.2.1 0<;>cases geI a.2.1 N<;>rfl) (by
  intro s;simp only[pA];rw[bi (by omega)];rfl) ()
 rw[sy]at this;show aa _ _=_;refine this.trans ?_;cases E.any (kr N)<;>rfl
theorem Gl(N:Int)(E:List Arw)(u:Unit):Zaq ((N,E,u),())=some (dvB N E,()):=by
 unfold Zaq dvB;simp only;cases ltI N 0 with
 |true=>rfl
 |false=>
  cases gtI N 64 with
  |true=>rfl
  |false=>
   by_cases h:E.length<=256
   ·rw[qt (by omega)];simp only[UB,J6,KO];rw[Da N E h];cases E.any (kr N)<;>rfl
   rw[tP (by omega)];rfl
theorem Ed(a b:Arw):nrm a=nrm b↔(a.1=b.1/\a.2.1=b.2.1)\/(a.1=b.2.1/\a.2.1=b.1):=by obtain⟨a1,a2,_⟩:=a;obtain⟨b1,b2,_⟩:=b;simp only[nrm,B3,and_true,de,iU];split<;>split<;>split<;>split<;>omega
theorem zS (N:Int)(E:List Arw){i:Nat}{a:Arw}(ha:E[i]?=some a)(hi:i < 1000000):(aa iG (N,E,(i:Int),0,())=some (.inl (6,()))/\∃ k b,k < i/\E[k]?=some b/\nrm a=nrm b) \/
  (aa iG (N,E,(i:Int),0,())=some (.inr (.inl (N,E,(i:Int),())))/\∀ k b,k<i->E[k]?=some b->nrm a≠nrm b):=by
 have hil:i<E.length:=(A2.1 ha).1;obtain⟨r,hr,hq⟩:=aI (f:=iG)
  (λs=>∃ n:Nat,n<=i/\s=(N,E,(i:Int),(n:Int),())/\∀ k b,k<n->E[k]?=some b->nrm a≠nrm b) (λs=>(s.2.2.1-s.2.2.2.1).toNat)
  (λr=>(r=.inl (6,())/\∃ k b,k<i/\E[k]?=some b/\nrm a=nrm b)\/(r=.inr (.inl (N,E,(i:Int),()))/\∀ k b,k<i->E[k]?=some b->nrm a≠nrm b))
  (by
   rintro s ⟨n,hn,rfl,h1⟩;by_cases hlt:n<i
   ·have hy:E[n]?=some E[n]:=A1 (by omega);generalize E[n]=b at hy;by_cases he:nrm a=nrm b
    ·refine .inr ⟨.inl (6,()),?_,.inl ⟨rfl,n,b,hlt,hy,he⟩⟩;unfold iG;simp only[aC (show(n:Int)<(i:Int) by omega),UA,ax,ha,hy,dg];rcases(Ed a b).1 he with⟨h2,h3⟩|⟨h2,h3⟩
     ·rw[cW h2,cW h3];rfl
     rw[cW h2,cW h3];cases(eqI a.1 b.1&&(eqI a.2.1 b.2.1&&true))<;>rfl
    refine .inl ⟨(N,E,(i:Int),((n+1:Nat):Int),()),?_,⟨n+1,by omega,rfl,λk c hk hc=>?_⟩,?_⟩
    ·have hne:=(not_congr (Ed a b)).1 he;have e1:(eqI a.1 b.1&&(eqI a.2.1 b.2.1&&true))=false:=by
      by_cases h2:a.1=b.1
      ·rw[bN (show a.2.1≠b.2.1 fromλh3=>hne (.inl ⟨h2,h3⟩))];simp
      rw[bN h2];rfl
     unfold iG;simp only[aC (show(n:Int)<(i:Int) by omega),UA,ax,ha,hy,dg,e1,UB,bv (show n<9223372036854775807 by omega)];by_cases h2:a.1=b.2.1
     ·rw[cW h2,bN (show a.2.1≠b.1 fromλh3=>hne (.inr ⟨h2,h3⟩))];rfl
     rw[bN h2];rfl
    ·by_cases hkn:k=n
     ·subst hkn;rw[hy]at hc;cases hc;exact he
     exact h1 k c (by omega) hc
    show((i:Int)-((n+1:Nat):Int)).toNat<((i:Int)-((n:Nat):Int)).toNat;omega
   have:n=i:=by omega
   subst this;refine .inr ⟨_,?_,.inr ⟨rfl,h1⟩⟩;unfold iG;simp only[bi (JO _),UB])
  (N,E,(i:Int),((0:Nat):Int),()) ⟨0,by omega,rfl,λk b hk=>absurd hk (Nat.not_lt_zero _)⟩
 rcases hq with⟨rfl,h⟩|⟨rfl,h⟩
 ·exact .inl ⟨hr,h⟩
 exact .inr ⟨hr,h⟩
theorem DW(N:Int)(E:List Arw):Zap ((N,E,()),())=some (l7 N E,()):=by
 unfold Zap l7;simp only[GV,dg];cases hv:dvB N E with
 |false=>simp
 |true=>
  have hm:E.length<=256:=by have hv:=hv;unfold dvB at hv;simp only[Bool.and_eq_true,Bool.not_eq_true']at hv;have:=hv.2.2.1;simp only[gtI,decide_eq_false_iff_not]at this;omega
  simp only[Bool.not_true,UB];have h:=vX (B:=pl) (λ(_:Unit) i=>(N,E,(i:Int),())) (λ_=>.inr (.inl (N,E,()))) (λ(_:Nat)=>.inl ((8:Int),())) (λi (_:Unit) a=>some (cond (lpA a) (.inr i) (.inl ()))) E (by
   intro _ i a ha;have hi:i<E.length:=(A2.1 ha).1;unfold pl lpA;simp only;rw[aC (by omega),UA,ax,ha];simp only[dg];cases eqI a.1 a.2.1 with
   |true=>rfl
   |false=>rw[UB,bv (by omega)];rfl) (by
   intro _;unfold pl;simp only;rw[bi (by omega)];rfl) ()
  have hL:vF (N,E,0,())=_:=h;rw[hL];rcases fY lpA E 0 with⟨h1,h2⟩|⟨k,a,h1,h2,h3⟩
  ·have hany:E.any lpA=false:=by rw[List.any_eq_false];intro x hx;simp[h2 x hx]
   rw[h1,hany];simp only[dg,Ma,Ke];obtain⟨r,hr,hq⟩:=aI (f:=nS)
    (λs=>∃ n:Nat,n<=E.length/\s=(N,E,(n:Int),())/\((E.take n).map nrm).Nodup) (λs=>E.length-s.2.2.1.toNat)
    (λr=>(r=.inl (6,())/\¬(E.map nrm).Nodup)\/(r=.inr (.inl ())/\(E.map nrm).Nodup))
    (by
     rintro s ⟨n,hn,rfl,q1⟩;by_cases hlt:n<E.length
     ·have hy:E[n]?=some E[n]:=A1 hlt;generalize E[n]=a at hy;have htk:(E.take (n+1)).map nrm=(E.take n).map nrm++[nrm a]:=by rw[List.take_add_one,hy];simp
      rcases zS N E hy (by omega)with⟨g1,k,b,g2,g3,g4⟩|⟨g1,g2⟩
      ·refine .inr ⟨.inl (6,()),?_,.inl ⟨rfl,λhnd=>?_⟩⟩
       ·unfold nS;simp only[aC (show(n:Int)<((E.length:Nat):Int) by omega),UA];exact(congrArg (λo=>Jo o _) g1).trans rfl
       have hsub:((E.take (n+1)).map nrm).Nodup:=by
        have:E.map nrm=(E.take (n+1)).map nrm++(E.drop (n+1)).map nrm:=by rw[<- List.map_append,List.take_append_drop]
        rw[this,Ky]at hnd;exact hnd.1
       rw[htk,Ky]at hsub;refine hsub.2.2 (nrm b) (KW.2 ⟨b,?_,rfl⟩) _ (by simp) g4.symm;have hbk:(E.take n)[k]?=some b:=by rw[Kg g2];exact g3
       exact Jv hbk
      refine .inl ⟨(N,E,((n+1:Nat):Int),()),?_,⟨n+1,by omega,rfl,?_⟩,?_⟩
      ·unfold nS;simp only[aC (show(n:Int)<((E.length:Nat):Int) by omega),UA];refine(congrArg (λo=>Jo o _) g1).trans ?_;simp only[dg,Ma,Ke,bv (show n<9223372036854775807 by omega)]
      ·rw[htk,Ky];refine⟨q1,by simp,λx hx y hy2 e=>?_⟩;rw[List.mem_singleton]at hy2;subst hy2 e;obtain⟨b,hb,e⟩:=KW.1 hx;obtain⟨k,hk⟩:=List.mem_iff_getElem?.1 hb;have hkn:k<n:=by have:=(A2.1 hk).1;rw[List.length_take]at this;omega
       rw[Kg hkn]at hk;exact g2 k b hkn hk e.symm
      show E.length-((n+1:Nat):Int).toNat<E.length-((n:Nat):Int).toNat;omega
     have:n=E.length:=by omega
     subst this;rw[List.take_length]at q1;refine .inr ⟨_,?_,.inr ⟨rfl,q1⟩⟩;unfold nS;simp only[bi (JO _),UB])
    (N,E,((0:Nat):Int),()) ⟨0,by omega,rfl,by simp⟩
   have hr:ve (N,E,0,())=some r:=hr;rw[hr];rcases hq with⟨rfl,h⟩|⟨rfl,h⟩
   ·simp[h]
   simp[h]
  have hany:E.any lpA=true:=List.any_eq_true.2 ⟨a,Jv h1,h2⟩;rw[h3,hany];simp
end Go.Vm
