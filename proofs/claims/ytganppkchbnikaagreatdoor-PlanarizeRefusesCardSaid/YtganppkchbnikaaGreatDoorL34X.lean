/-
 The specification's components: labels sink to the least vertex; there is one class exactly if all vertices hang together.
-/
import Derived.Test.YtganppkchbnikaaGreatDoorL34W
open Option.some renaming injEq->aw
open Option renaming bind_some->dg,bind->Jo
open Nat renaming le_refl->B2,not_lt_zero->Kr,le_trans->Lv,le_antisymm->MA
open Prod.mk renaming injEq->B3
open Int renaming le_refl->JO
open List renaming range->JZ,length_set->Ka,mem_range->Kq
open Sum renaming elim_inl->Ke
set_option linter.unusedVariables false
set_option linter.unusedSimpArgs false
namespace Go.Vm
set_option maxRecDepth 100000
attribute [local irreducible] aa
structure Lab (N:Nat)(l:List Int)(f:Nat->Nat):Prop where
 len:l.length=N
 at':∀ v,v<N->l[v]?=some ((f v:Nat):Int)
theorem Lab.set{N:Nat}{l:List Int}{f:Nat->Nat}(h:Lab N l f){a:Nat}(ha:a<N)(m:Nat):Lab N (l.set a (m:Int)) (λv=>if v=a then m else f v):=by
 refine⟨by simp[h.len],λv hv=>?_⟩;by_cases e:v=a
 ·subst e;rw[List.getElem?_set_self (by rw[h.len];exact hv),if_pos rfl]
 rw[List.getElem?_set_ne (Ne.symm e),if_neg e];exact h.at' v hv
section
variable {N:Nat}{E:List Arw}
structure Snd (N:Nat)(E:List Arw)(f:Nat->Nat):Prop where
 le:∀ v,v<N->f v<=v
 rch:∀ v,v<N->Rch E (f v) v
def Gd(E:List Arw)(f:Nat->Nat)(v:Nat):Prop:=∀ w,Rch E w v->f v<=w
structure Rnd (N:Nat)(E:List Arw)(f0 f:Nat->Nat)(h:Nat):Prop where
 snd:Snd N E f
 le:∀ v,v<N->f v<=f0 v
 arc:∀ j a b:Nat,j<h->E[j]?=some ((a:Int),(b:Int),())->f a<=f0 b/\f b<=f0 a
theorem s0 (D:Dg N E){f0:Nat->Nat}{l0:List Int}(h0:Lab N l0 f0)(hs:Snd N E f0)(k:Nat) :
  ∃ l f ch,aa jv ((N:Int),E,l0,-1,-1,(k:Int),false,0,())=some (.inl ((N:Int),E,l,-1,-1,(k:Int),ch,()))/\Lab N l f/\Rnd N E f0 f E.length/\(ch=false->∀ j a b:Nat,E[j]?=some ((a:Int),(b:Int),())->f a=f b):=by
 have hN:=D.n;have hm:=D.m;obtain⟨r,hr,l,f,ch,rfl,q1,q2,q3⟩:=aI (f:=jv)
  (λs=>∃(h:Nat) (l:List Int) (f:Nat->Nat) (ch:Bool),h<=E.length/\s=((N:Int),E,l,-1,-1,(k:Int),ch,(h:Int),())/\Lab N l f/\Rnd N E f0 f h/\(ch=false->∀ j a b:Nat,j<h->E[j]?=some ((a:Int),(b:Int),())->f a=f b)) (λs=>E.length-s.2.2.2.2.2.2.2.1.toNat)
  (λr=>∃(l:List Int) (f:Nat->Nat) (ch:Bool),r=.inl ((N:Int),E,l,-1,-1,(k:Int),ch,())/\Lab N l f/\Rnd N E f0 f E.length/\(ch=false->∀ j a b:Nat,E[j]?=some ((a:Int),(b:Int),())->f a=f b))
  (by
   rintro s ⟨h,l,f,ch,hh,rfl,h1,h2,h3⟩;by_cases hlt:h<E.length
   ·left;obtain⟨a,b,ha,hb,hab,hE⟩:=D.arc h hlt;have dec:E.length-((h+1:Nat):Int).toNat<E.length-((h:Nat):Int).toNat:=by omega
    have inj:∀ a' b':Nat,E[h]?=some ((a':Int),(b':Int),())->a'=a/\b'=b:=λa' b' e=>by rw[hE]at e;simp only[aw,B3,and_true]at e;omega
    by_cases he:f a=f b
    ·refine⟨((N:Int),E,l,-1,-1,(k:Int),ch,((h+1:Nat):Int),()),?_,⟨h+1,l,f,ch,by omega,rfl,h1,⟨h2.snd,h2.le,λj a' b' hj hj'=>?_⟩,λhc j a' b' hj hj'=>?_⟩,dec⟩
     ·unfold jv;simp only[aC (show(h:Int)<((E.length:Nat):Int) by omega),UA,ax,hE,dg,show neI (h:Int) (-1)=true by simp[neI],show neI (a:Int) (-1)=true by simp[neI],show neI (b:Int) (-1)=true by simp[neI],ae (show a<l.length by rw[h1.len];exact ha),ae (show b<l.length by rw[h1.len];exact hb),h1.at' a ha,h1.at' b hb,he,show neI ((f b:Nat):Int) ((f b:Nat):Int)=false by simp[neI],UB,bv (show h<9223372036854775807 by omega)]
     ·by_cases hjh:j=h
      ·subst hjh;obtain⟨rfl,rfl⟩:=inj a' b' hj';have:=h2.le a' ha;have:=h2.le b' hb;omega
      exact h2.arc j a' b' (by omega) hj'
     by_cases hjh:j=h
     ·subst hjh;obtain⟨rfl,rfl⟩:=inj a' b' hj';exact he
     exact h3 hc j a' b' (by omega) hj'
    have hmin:de ((f a:Nat):Int) ((f b:Nat):Int)=((min (f a) (f b):Nat):Int):=by unfold de;split<;>omega
    obtain⟨m,hm'⟩:∃ m,m=min (f a) (f b):=⟨_,rfl⟩;rw[<- hm']at hmin;have g1:=h1.set ha m;have g2:=g1.set hb m;have jn:Jn E (h:Int) a b:=Jn.mk hE;have hrm:Rch E m a/\Rch E m b:=by
     rcases Nat.le_total (f a) (f b)with hle|hle
     ·have:m=f a:=by omega
      rw[this];exact⟨h2.snd.rch a ha,(h2.snd.rch a ha).snoc jn⟩
     have:m=f b:=by omega
     rw[this];exact⟨(h2.snd.rch b hb).snoc jn.symm,h2.snd.rch b hb⟩
    have hma:m<=f a/\m<=f b:=by omega
    refine⟨((N:Int),E,(l.set a (m:Int)).set b (m:Int),-1,-1,(k:Int),true,((h+1:Nat):Int),()),?_,⟨h+1,_,λv=>if v=b then m else if v=a then m else f v,true,by omega,rfl,g2,⟨⟨λv hv=>?_,λv hv=>?_⟩,λv hv=>?_,λj a' b' hj hj'=>?_⟩,λhc=>by cases hc⟩,dec⟩
    ·unfold jv;obtain⟨c1,hc1⟩:∃ c,(l.set a (m:Int))[b]?=some c:=⟨_,List.getElem?_eq_getElem (by rw[Ka,h1.len];exact hb)⟩;simp only[aC (show(h:Int)<((E.length:Nat):Int) by omega),UA,ax,hE,dg,show neI (h:Int) (-1)=true by simp[neI],show neI (a:Int) (-1)=true by simp[neI],show neI (b:Int) (-1)=true by simp[neI],ae (show a<l.length by rw[h1.len];exact ha),ae (show b<l.length by rw[h1.len];exact hb),h1.at' a ha,h1.at' b hb,show neI ((f a:Nat):Int) ((f b:Nat):Int)=true by simp[neI];omega,hmin,ae (show b<(l.set a (m:Int)).length by rw[Ka,h1.len];exact hb),hc1,bv (show h<9223372036854775807 by omega)]
    ·have:=h2.snd.le v hv;split
     ·rename_i e;subst e;omega
     split
     ·rename_i e;subst e;omega
     exact this
    ·split
     ·rename_i e;subst e;exact hrm.2
     split
     ·rename_i e;subst e;exact hrm.1
     exact h2.snd.rch v hv
    ·have:=h2.le v hv;split
     ·rename_i e;subst e;omega
     split
     ·rename_i e;subst e;omega
     exact this
    have low:∀ v,(if v=b then m else if v=a then m else f v)<=f v:=λv=>by
     split
     ·rename_i e;subst e;omega
     split
     ·rename_i e;subst e;omega
     exact B2 _
    by_cases hjh:j=h
    ·subst hjh;obtain⟨rfl,rfl⟩:=inj a' b' hj';have e1:=h2.le a' ha;have e2:=h2.le b' hb;rw[if_neg hab,if_pos rfl,if_pos rfl];omega
    have:=h2.arc j a' b' (by omega) hj';have:=low a';have:=low b';omega
   have:h=E.length:=by omega
   subst this;refine .inr ⟨_,?_,l,f,ch,rfl,h1,h2,λhc j a b hj=>h3 hc j a b (List.getElem?_eq_some_iff.1 hj).1 hj⟩;unfold jv;simp only[bi (JO _),UB])
  ((N:Int),E,l0,-1,-1,(k:Int),false,((0:Nat):Int),()) ⟨0,l0,f0,false,by omega,rfl,h0,⟨hs,λ_ _=>B2 _,λj a b hj=>absurd hj (Kr _)⟩,λ_ j a b hj=>absurd hj (Kr _)⟩
 exact⟨l,f,ch,hr,q1,q2,q3⟩
theorem HI{P:Nat->Prop}:∀ n,P n->∃ n,P n/\∀ m,P m->n<=m:=by
 intro n;induction n using Nat.strongRecOn with
 |ind n ih=>
  intro h;by_cases hx:∃ m,m<n/\P m
  ·obtain⟨m,h1,h2⟩:=hx;exact ih m h1 h2
  exact⟨n,h,λm hm=>Nat.le_of_not_lt λhl=>hx ⟨m,hl,hm⟩⟩
theorem Rch.bel(D:Dg N E){u v:Nat}(h:Rch E u v)(hu:u<N):v<N:=by
 induction h with
 |nil=>exact hu
 | @snoc x y e _ hj _=>
  obtain⟨k,rfl⟩:∃ k:Nat,e=(k:Int):=⟨e.toNat,by have:=hj.lt;omega⟩;obtain⟨a,b,ha,hb,_,hE⟩:=D.arc k (by have:=hj.lt;omega);rcases Jn.arc hE hj with⟨_,rfl⟩|⟨_,rfl⟩
  ·exact hb
  exact ha
theorem Rnd.jn(D:Dg N E){f0 f:Nat->Nat}(h:Rnd N E f0 f E.length){e:Int}{x y:Nat}(hj:Jn E e x y):f y<=f0 x:=by
 obtain⟨k,rfl⟩:∃ k:Nat,e=(k:Int):=⟨e.toNat,by have:=hj.lt;omega⟩;obtain⟨a,b,ha,hb,_,hE⟩:=D.arc k (by have:=hj.lt;omega);have:=h.arc k a b (by have:=hj.lt;omega) hE;rcases Jn.arc hE hj with⟨rfl,rfl⟩|⟨rfl,rfl⟩
 ·exact this.2
 exact this.1
open Classical in
noncomputable def BS(N:Nat)(E:List Arw)(f:Nat->Nat):Nat:=(JZ N).countP λv=>decide (Gd E f v)
theorem Rnd.keep{f0 f:Nat->Nat}{h:Nat}(r:Rnd N E f0 f h){v:Nat}(hv:v<N)(hg:Gd E f0 v):Gd E f v:=λw hw=>Lv (r.le v hv) (hg w hw)
theorem Rnd.grow(D:Dg N E){f0 f:Nat->Nat}(hs:Snd N E f0)(r:Rnd N E f0 f E.length)(hb:∃ v,v<N/\¬Gd E f0 v):BS N E f0<BS N E f:=by
 classical
 obtain⟨v,hv,hbad⟩:=hb;obtain⟨u,hu,hmin⟩:=HI (P:=λw=>Rch E w v) v .nil;have huN:u<N:=hu.symm.bel D hv;have hgu:Gd E f0 u:=λw hw=>Lv (hs.le u huN) (hmin w (hw.trans hu));have step:∀ z,Rch E u z->Gd E f0 z\/∃ x y e,Rch E u x/\Gd E f0 x/\¬Gd E f0 y/\Jn E e x y:=λz hz=>by
  induction hz with
  |nil=>exact .inl hgu
  | @snoc x y e hx hj ih=>
   rcases ih with ih|ih
   ·by_cases hy:Gd E f0 y
    ·exact .inl hy
    exact .inr ⟨x,y,e,hx,ih,hy,hj⟩
   exact .inr ih
 rcases step v hu with h|⟨x,y,e,hx,hgx,hgy,hj⟩
 ·exact absurd h hbad
 have hyN:y<N:=(hx.snoc hj).bel D huN;unfold BS;refine nL (λz hz h=>?_) ⟨y,Kq.2 hyN,?_,?_⟩
 ·rw[decide_eq_true_eq]at h ⊢;exact r.keep (Kq.1 hz) h
 ·rw[decide_eq_true_eq];exactλw hw=>Lv (r.jn D hj) (hgx w (hw.snoc hj.symm))
 rw[decide_eq_false_iff_not];exact hgy
theorem zk(D:Dg N E):∃ l f,Zak (((N:Int),E,()),-1,-1,())=some (l,())/\Lab N l f/\Snd N E f/\∀ e a b,Jn E e a b->f a=f b:=by
 classical
 have hN:=D.n;have fin:∀ f,Snd N E f->(∀ v,v<N->Gd E f v)->∀ e a b,Jn E e a b->f a=f b:=λf hs hg e a b hj=>by
  obtain⟨k,rfl⟩:∃ k:Nat,e=(k:Int):=⟨e.toNat,by have:=hj.lt;omega⟩;obtain⟨a',b',ha,hb,_,hE⟩:=D.arc k (by have:=hj.lt;omega);have key:∀ x y,x<N->y<N->Jn E (k:Int) x y->f x<=f y:=λx y hx hy hj=>hg x hx _ ((hs.rch y hy).snoc hj.symm);rcases Jn.arc hE hj with⟨rfl,rfl⟩|⟨rfl,rfl⟩
  ·exact MA (key _ _ ha hb hj) (key _ _ hb ha hj.symm)
  exact MA (key _ _ hb ha hj) (key _ _ ha hb hj.symm)
 obtain⟨r,hr,l0,rfl,q0⟩:=aI (f:=pw)
  (λs=>∃(n:Nat) (c:List Int),n<=N/\s=((N:Int),E,c,-1,-1,(n:Int),())/\Lab n c (λv=>v)) (λs=>(s.1-s.2.2.2.2.2.1).toNat)
  (λr=>∃ c:List Int,r=.inl ((N:Int),E,c,-1,-1,())/\Lab N c (λv=>v))
  (by
   rintro s ⟨n,c,hn,rfl,h1⟩;by_cases hlt:n<N
   ·have hap:app c [(n:Int)]=some (c++[(n:Int)]):=bx (by have:=h1.len;simp;omega);refine .inl ⟨((N:Int),E,c++[(n:Int)],-1,-1,((n+1:Nat):Int),()),?_,⟨n+1,_,by omega,rfl,⟨by simp[h1.len],λv hv=>?_⟩⟩,?_⟩
    ·unfold pw;simp only[aC (show(n:Int)<(N:Int) by omega),UA,bN (show(n:Int)≠-1 by omega),UB,hap,dg,bv (show n<9223372036854775807 by omega)]
    ·by_cases e:v=n
     ·subst e;rw[List.getElem?_append_right (by rw[h1.len];exact B2 _),h1.len,Nat.sub_self];rfl
     rw[List.getElem?_append_left (by rw[h1.len];omega)];exact h1.at' v (by omega)
    show((N:Int)-((n+1:Nat):Int)).toNat<((N:Int)-((n:Nat):Int)).toNat;omega
   have:n=N:=by omega
   subst this;refine .inr ⟨_,?_,c,rfl,h1⟩;unfold pw;simp only[bi (JO _),UB])
  ((N:Int),E,[],-1,-1,((0:Nat):Int),()) ⟨0,[],by omega,rfl,⟨rfl,λv hv=>absurd hv (Kr _)⟩⟩
 obtain⟨r2,hr2,hq⟩:=aI (f:=ot)
  (λs=>∃(k:Nat) (l:List Int) (f:Nat->Nat),k<=N/\s=((N:Int),E,l,-1,-1,(k:Int),())/\Lab N l f/\Snd N E f/\(k<=BS N E f\/∀ v,v<N->Gd E f v)) (λs=>(s.1-s.2.2.2.2.2.1).toNat)
  (λr=>∃(l:List Int) (f:Nat->Nat),(r=.inl (l,())\/r=.inr (.inl (l,())))/\Lab N l f/\Snd N E f/\∀ e a b,Jn E e a b->f a=f b)
  (by
   rintro s ⟨k,l,f,hk,rfl,h1,h2,h3⟩;by_cases hlt:k<N
   ·obtain⟨l',f',ch,g1,g2,g3,g4⟩:=s0 D h1 h2 k;cases ch with
    |false=>
     refine .inr ⟨.inl (l',()),?_,l',f',.inl rfl,g2,g3.snd,λe a b hj=>?_⟩
     ·unfold ot;simp only[aC (show(k:Int)<(N:Int) by omega),UA];exact(congrArg (λo=>Jo o _) g1).trans rfl
     obtain⟨k,rfl⟩:∃ k:Nat,e=(k:Int):=⟨e.toNat,by have:=hj.lt;omega⟩;obtain⟨a',b',ha,hb,_,hE⟩:=D.arc k (by have:=hj.lt;omega);have:=g4 rfl k a' b' hE;rcases Jn.arc hE hj with⟨rfl,rfl⟩|⟨rfl,rfl⟩
     ·exact this
     exact this.symm
    |true=>
     refine .inl ⟨((N:Int),E,l',-1,-1,((k+1:Nat):Int),()),?_,⟨k+1,l',f',by omega,rfl,g2,g3.snd,?_⟩,?_⟩
     ·unfold ot;simp only[aC (show(k:Int)<(N:Int) by omega),UA];refine(congrArg (λo=>Jo o _) g1).trans ?_;simp only[dg,Ke,Bool.not_true,UB,bv (show k<9223372036854775807 by omega)]
     ·by_cases hall:∀ v,v<N->Gd E f v
      ·exact .inr λv hv=>g3.keep hv (hall v hv)
      have hb:∃ v,v<N/\¬Gd E f v:=by apply Classical.byContradiction;intro hn;exact hall λv hv=>Classical.byContradiction λh=>hn ⟨v,hv,h⟩
      have:=g3.grow D h2 hb;rcases h3 with h3|h3
      ·exact .inl (by omega)
      exact absurd h3 hall
     show((N:Int)-((k+1:Nat):Int)).toNat<((N:Int)-((k:Nat):Int)).toNat;omega
   have:k=N:=by omega
   subst this;refine .inr ⟨.inr (.inl (l,())),?_,l,f,.inr rfl,h1,h2,fin f h2 ?_⟩
   ·unfold ot;simp only[bi (JO _),UB]
   rcases h3 with h3|h3
   ·intro v hv;unfold BS at h3;have hle:(JZ k).countP (λv=>decide (Gd E f v))<=(JZ k).length:=List.countP_le_length;have heq:(JZ k).countP (λv=>decide (Gd E f v))=(JZ k).length:=by rw[List.length_range]at hle ⊢;omega
    have:=List.countP_eq_length.1 heq v (Kq.2 hv);simpa using this
   exact h3)
  ((N:Int),E,l0,-1,-1,((0:Nat):Int),()) ⟨0,l0,λv=>v,by omega,rfl,q0,⟨λv _=>B2 _,λv _=>.nil⟩,.inl (Nat.zero_le _)⟩
 obtain⟨l,f,hl,w1,w2,w3⟩:=hq;refine⟨l,f,?_,w1,w2,w3⟩;unfold Zak;refine(congrArg (λo=>Jo o _) hr).trans ?_;simp only[dg,Ke];refine(congrArg (λo=>Jo o _) hr2).trans ?_;rcases hl with rfl|rfl
 ·rfl
 rfl
end
end Go.Vm
