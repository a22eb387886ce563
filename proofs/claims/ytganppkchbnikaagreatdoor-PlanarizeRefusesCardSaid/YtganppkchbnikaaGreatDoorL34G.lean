/-
 Blocks: it ends, and no block has a cut vertex.
-/
import Derived.Test.YtganppkchbnikaaGreatDoorL34F
open Option renaming bind_some->dg,bind->Jo
open List renaming replicate->A5,mem_cons_of_mem->Jq,mem_cons_self->JH,nodup_append->Ky,flatten_cons->KL,length_filter_le->LS,mem_flatten->Mn
open Int renaming le_refl->JO
open Nat renaming zero_le->K0,le_trans->Lv
set_option linter.unusedVariables false
set_option linter.unusedSimpArgs false
namespace Go.Vm
set_option maxRecDepth 100000
attribute [local irreducible] aa
section
variable {N:Nat}{E:List (Int×Int×Unit)}{A:List (List Int)}
theorem pK(D:Dg N E):Zbw (((N:Int),E,()),())=some (true,()):=by
 have hn:=D.n;have hm:=D.m;have hl:sG ((N:Int),E,E,((E.length:Nat):Int),0,())=some (.inr (.inl ())):=by
  obtain⟨r,hr,rfl⟩:=aI (f:=kx) (λs=>∃ i:Nat,i<=E.length/\s=((N:Int),E,E,((E.length:Nat):Int),((i:Nat):Int),())) (λs=>(s.2.2.2.1-s.2.2.2.2.1).toNat) (λr=>r=.inr (.inl ()))
   (by
    rintro s ⟨i,hi,rfl⟩;by_cases hil:i<E.length
    ·obtain⟨a,b,ha,hb,_,he⟩:=D.arc i hil;refine .inl ⟨((N:Int),E,E,((E.length:Nat):Int),((i+1:Nat):Int),()),?_,⟨i+1,by omega,rfl⟩,?_⟩
     ·have h1:de (a:Int) (b:Int)=((min a b:Nat):Int):=by unfold de;split<;>omega
      have h2:iU (a:Int) (b:Int)=((max a b:Nat):Int):=by unfold iU;split<;>omega
      unfold kx;simp only[aC (show(i:Int)<(E.length:Nat) by omega),UA,ax,he,dg,h1,h2,bi (show(0:Int)<=((min a b:Nat):Int) by omega),UB,gm (show((max a b:Nat):Int)<(N:Int) by omega),bv (show i<9223372036854775807 by omega)]
     show(((E.length:Nat):Int)-((i+1:Nat):Int)).toNat<(((E.length:Nat):Int)-((i:Nat):Int)).toNat;omega
    have:i=E.length:=by omega
    subst this;refine .inr ⟨_,?_,rfl⟩;unfold kx;simp only[bi (JO _),UB]) _ ⟨0,K0 _,rfl⟩
  exact hr
 unfold Zbw;simp only[bi (show(0:Int)<=(N:Int) by omega),qt (show(N:Int)<=64 by omega),qt (show((E.length:Nat):Int)<=256 by omega),UB,hl];rfl
theorem iZ:∀{bl:List (List Int)},bl.flatten.Nodup->∀ B∈bl,B.Nodup
 |[],_,B,hB=>by cases hB
 |C::bl,hn,B,hB=>by
  rw[KL,Ky]at hn;rcases List.mem_cons.1 hB with rfl|hB
  ·exact hn.1
  exact iZ hn.2.1 B hB
theorem ue:∀{bl:List (List Int)},(∀ B∈bl,B≠[])->bl.flatten.Nodup->bl.Pairwise (λx y=>hd x≠hd y)
 |[],_,_=>.nil
 |B::bl,hb,hn=>by
  rw[KL,Ky]at hn;refine List.pairwise_cons.2 ⟨λC hC e=>?_,ue (λC hC=>hb C (Jq _ hC)) hn.2.1⟩;have mem:∀ X:List Int,X≠[]->hd X∈X:=λX hX=>by
   cases X with
   |nil=>exact absurd rfl hX
   |cons a l=>exact JH ..
  have h1:=mem B (hb B (JH ..));have h2:=mem C (hb C (Jq _ hC));exact hn.2.2 (hd B) h1 (hd C) (Mn.2 ⟨C,hC,h2⟩) e
def stK(E:List (Int×Int×Unit))(A:List (List Int))(N:Nat)(cnt:Nat)(num low st:List Int)(bl:List (List Int))(v:Nat):GG×Int×List Int×List Int×List Int×List (List Int)×Int×Int×Unit:=
 ((E,A,()),(cnt:Int),num,low,st,bl,(N:Int),(v:Int),())
structure Blo (E:List (Int×Int×Unit))(B:List Int):Prop where
 ne:B≠[]
 firm:Firm (Jn E) B
 nod:B.Nodup
 edge:∀ e∈B,∃ u w,Jn E e u w
theorem yX(D:Dg N E):∃ bl,Zcb (((N:Int),E,()),())=some (bl,())/\(∀ B∈bl,Blo E B)/\bl.length<=32768:=by
 obtain⟨A,hA,G⟩:=uz D;have hn:=D.n;have hm:=D.m;have hunv0:unv N (λ_=>0)<=N:=by unfold unv;exact Lv (LS _ _) (by simp)
 obtain⟨r,hr,f,num,low,cnt,st,bl,rfl,hV⟩:=aI (f:=ny)
  (λs=>∃(v:Nat) (f:Nat->Nat) (num low:List Int) (cnt:Nat) (st:List Int) (bl:List (List Int)),v<=N/\s=stK E A N cnt num low st bl v/\NumT N num f/\low.length=N/\Vis N E (λ_=>False) (-1) f cnt st bl) (λs=>(s.2.2.2.2.2.2.1-s.2.2.2.2.2.2.2.1).toNat)
  (λr=>∃(f:Nat->Nat) (num low:List Int) (cnt:Nat) (st:List Int) (bl:List (List Int)),r=.inl ((E,A,()),(cnt:Int),num,low,st,bl,())/\Vis N E (λ_=>False) (-1) f cnt st bl)
  (by
   rintro s ⟨v,f,num,low,cnt,st,bl,hv,rfl,h1,h2,h3⟩;by_cases hvn:v<N
   ·left;by_cases h0:f v=0
    ·have hunv:unv N f<=num.length+1:=by
      have:unv N f<=N:=by unfold unv;exact Lv (LS _ _) (by simp)
      rw[h1.len];omega
     obtain⟨f',num',low',cnt',T,Bs,q1,q2,q3,q4⟩:=tE G (num.length+1) f num low cnt st bl v (-1) (λ_=>False) h1 h2 h3 hvn h0 (λu w hj=>by have:=hj.1;omega) hunv;refine⟨stK E A N cnt' num' low' (st++T) (bl++Bs) (v+1),?_,⟨v+1,f',num',low',cnt',st++T,bl++Bs,by omega,rfl,q2,q3,q4.vis⟩,?_⟩
     ·have q1:Zaf (((E,A,()),num,low,(cnt:Int),st,bl,()),(v:Int),-1,())=some (((E,A,()),num',low',(cnt':Int),st++T,bl++Bs,()),()):=q1;unfold ny stK;simp only[aC (show(v:Int)<(N:Int) by omega),UA,ae (show v<num.length by rw[h1.len];exact hvn),dg,h1.at' v hvn,cW (show(f v:Int)=0 by omega),q1,bv (show v<9223372036854775807 by omega)]
     show((N:Int)-((v+1:Nat):Int)).toNat<((N:Int)-((v:Nat):Int)).toNat;omega
    refine⟨stK E A N cnt num low st bl (v+1),?_,⟨v+1,f,num,low,cnt,st,bl,by omega,rfl,h1,h2,h3⟩,?_⟩
    ·unfold ny stK;simp only[aC (show(v:Int)<(N:Int) by omega),UA,UB,ae (show v<num.length by rw[h1.len];exact hvn),dg,h1.at' v hvn,bN (show(f v:Int)≠0 by omega),bv (show v<9223372036854775807 by omega)]
    show((N:Int)-((v+1:Nat):Int)).toNat<((N:Int)-((v:Nat):Int)).toNat;omega
   have:v=N:=by omega
   subst this;refine .inr ⟨_,?_,f,num,low,cnt,st,bl,rfl,h3⟩;unfold ny stK;simp only[bi (JO _),UB])
  (stK E A N 0 (A5 N 0) (A5 N 0) [] [] 0)
  ⟨0,λ_=>0,_,_,0,[],[],K0 _,rfl,⟨by simp,λu hu=>by simp[hu],λ_ _=>rfl⟩,by simp,⟨λ_=>Nat.le_refl _,λu u' _ h=>absurd rfl h,by omega,λu h=>absurd rfl h,λu h=>h.elim,λe he=>by simp at he,by simp,λB hB=>by cases hB⟩⟩
 have hnod:=hV.nod;rw[Ky]at hnod;have edge:∀ B∈bl,∀ e∈B,∃ u w,Jn E e u w:=λB hB e he=>(hV.psh e (List.mem_append_right _ (Mn.2 ⟨B,hB,he⟩))).1;have hok:OkF bl:=by
  refine⟨λB hB=>?_,ue (λB hB=>(hV.blk B hB).1) hnod.2.1,?_⟩
  ·obtain⟨h1,_,_⟩:=hV.blk B hB;refine⟨h1,?_⟩;cases B with
   |nil=>exact absurd rfl h1
   |cons a l=>obtain⟨u,w,hj⟩:=edge _ hB a (JH ..);have:=hj.lt;show 0<=a/\a<1099511627776;omega
  have:=hV.len (by omega);rw[ng];omega
 have hs:Zg (bl,(),())=some (fe bl,()):=by exact if_pos hok
 refine⟨fe bl,?_,λB hB=>?_,?_⟩
 ·unfold Zcb v7;simp only[pK D,dg,Bool.not_true,UB,hA];refine(congrArg (λo=>Jo o _) hr).trans ?_;exact(congrArg (λo=>Jo o _) hs).trans rfl
 ·have hB:=(eM bl).mem_iff.1 hB;obtain⟨h1,h2,_⟩:=hV.blk B hB;refine⟨h1,h2,?_,edge B hB⟩;exact iZ hnod.2.1 B hB
 rw[(eM bl).length_eq];have:=hV.len (by omega);omega
end
end Go.Vm
