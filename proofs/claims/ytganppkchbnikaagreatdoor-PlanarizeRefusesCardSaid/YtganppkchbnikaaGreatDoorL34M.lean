/-
 A piece is spread.
-/
import Derived.Test.YtganppkchbnikaaGreatDoorL34K
open Option renaming bind_some->dg,bind->Jo
open List renaming getElem?_eq_getElem->A1,mem_append->A4,mem_singleton->B4,length_cons->B6,append_assoc->Jm,getElem?_set_ne->Js,getElem?_set_self->Jx,append_nil->Jz,length_nil->JB,length_append->JE,mem_append_left->JR,nodup_append->Ky
open Bool renaming not_true->J4,not_false->J6
set_option linter.unusedVariables false
set_option linter.unusedSimpArgs false
namespace Go.Vm
set_option maxRecDepth 100000
attribute [local irreducible] aa
inductive Cn (nb:Nat->List Nat) (S:List Nat):Nat->Nat->Prop
 |nil {u:Nat}:u∈S->Cn nb S u u
 |snoc {u x y:Nat}:Cn nb S u x->y∈nb x->y∈S->Cn nb S u y
theorem Cn.mono{nb:Nat->List Nat}{S S':List Nat}{u x:Nat}(h:Cn nb S u x)(hs:∀ z∈S,z∈S'):Cn nb S' u x:=by
 induction h with
 |nil h=>exact .nil (hs _ h)
 |snoc _ h1 h2 ih=>exact .snoc ih h1 (hs _ h2)
structure Spd (N:Nat)(nb:Nat->List Nat)(inn seen0:List Bool)(v:Nat)(ins T en:List Nat)(seen:List Bool):Prop where
 len:seen.length=N
 nod:(ins++T).Nodup
 lt:∀ x∈ins++T,x<N/\inn[x]?≠some true/\seen0[x]?≠some true
 sn:∀ x,seen[x]?=some true↔seen0[x]?=some true\/x∈ins++T
 vm:v∈ins++T
 cn:∀ x∈ins++T,Cn nb (ins++T) v x
 enp:∀ y∈en,y<N/\inn[y]?=some true/\∃ x∈ins,y∈nb x
 enod:en.Nodup
def Acc(inn:List Bool)(S en:List Nat)(y:Nat):Prop:=(inn[y]?=some true->y∈en)/\(inn[y]?≠some true->y∈S)
section
variable {N v:Nat}{near fc:List (List Int)}{inn seen0:List Bool}{dr:List (List Bool)}{nb:Nat->List Nat}
abbrev cG(N:Nat)(near fc:List (List Int))(inn:List Bool)(dr:List (List Bool)):BlkD:=((N:Int),near,inn,dr,fc,())
theorem Spd.size{ins T en:List Nat}{seen:List Bool}(h:Spd N nb inn seen0 v ins T en seen):ins.length+T.length<=N/\en.length<=N:=by have:=dZ h.nod λx hx=>(h.lt x hx).1;rw[JE]at this;exact⟨this,dZ h.enod λx hx=>(h.enp x hx).1⟩
def Shut(nb:Nat->List Nat)(inn seen:List Bool):Prop:=∀ z,seen[z]?=some true->∀ y∈nb z,inn[y]?≠some true->seen[y]?=some true
theorem Spd.round (hN:N<=64)(R:Nr N near nb)(hi:inn.length=N)(hsh:Shut nb inn seen0)(hsym:∀ x y,x < N->y∈nb x->x∈nb y){ins:List Nat}{x:Nat}(hx:x∈ins):∀(n m:Nat) (T en:List Nat) (seen:List Bool),(nb x).length - m<=n->m<=(nb x).length->Spd N nb inn seen0 v ins T en seen->(∀ j y,j < m->(nb x)[j]?=some y->Acc inn (ins++T) en y) ->
  ∃ T' en' seen',aa lg (seen,nl T,nl en,nl ins,cG N near fc inn dr,nl (nb x),(((nb x).length:Nat):Int),(m:Int),())=some (.inl (seen',nl (T++T'),nl (en++en'),nl ins,cG N near fc inn dr,()))/\Spd N nb inn seen0 v ins (T++T') (en++en') seen'/\∀ y∈nb x,Acc inn (ins++(T++T')) (en++en') y:=by
 intro n;have fin:∀(T en:List Nat) (seen:List Bool),Spd N nb inn seen0 v ins T en seen->(∀ j y,j < (nb x).length->(nb x)[j]?=some y->Acc inn (ins++T) en y) ->
   ∃ T' en' seen',aa lg (seen,nl T,nl en,nl ins,cG N near fc inn dr,nl (nb x),(((nb x).length:Nat):Int),(((nb x).length:Nat):Int),())=some (.inl (seen',nl (T++T'),nl (en++en'),nl ins,cG N near fc inn dr,()))/\Spd N nb inn seen0 v ins (T++T') (en++en') seen'/\∀ y∈nb x,Acc inn (ins++(T++T')) (en++en') y:=by
  intro T en seen hS hl;refine⟨[],[],seen,?_,by simpa using hS,λy hy=>?_⟩
  ·rw[Jz,Jz];apply cJ;unfold lg;simp only[bi (Int.le_refl _),UB]
  obtain⟨j,h1,h2⟩:=List.mem_iff_getElem.1 hy;rw[Jz,Jz];exact hl j y h1 ((A1 h1).trans (congrArg some h2))
 induction n with
 |zero=>
  intro m T en seen hn hm hS hl;have:m=(nb x).length:=by omega
  subst this;exact fin T en seen hS hl
 |succ n ih=>
  intro m T en seen hn hm hS hl;by_cases hmm:m=(nb x).length
  ·subst hmm;exact fin T en seen hS hl
  have hml:m<(nb x).length:=by omega
  have hxl:=hS.lt x (JR _ hx);have hy:(nb x)[m]?=some (nb x)[m]:=A1 hml;have hym:(nb x)[m]∈nb x:=List.getElem_mem hml;have hyN:=R.lt x hxl.1 _ hym;generalize (nb x)[m]=y at hy hyN hym;have hRl:=R.len x;obtain⟨sz1,sz2⟩:=hS.size;have hin:inn[y]?=some inn[y]:=A1 (by omega);have ext:∀ T' en',(∀ z∈T,z∈T')->(∀ z∈en,z∈en')->Acc inn (ins++T') en' y->∀ j z,j<m+1->(nb x)[j]?=some z->Acc inn (ins++T') en' z:=by
   intro T' en' hT hE ha j z hj hz;by_cases hjm:j=m
   ·subst hjm;rw[hy]at hz;cases hz;exact ha
   obtain⟨a1,a2⟩:=hl j z (by omega) hz;refine⟨λh=>hE _ (a1 h),λh=>?_⟩;rcases A4.1 (a2 h)with h|h
   ·exact JR _ h
   exact List.mem_append_right _ (hT _ h)
  have next:∀(T2 en2:List Nat) (seen2:List Bool),lg (seen,nl T,nl en,nl ins,cG N near fc inn dr,nl (nb x),(((nb x).length:Nat):Int),(m:Int),())=some (.inl (seen2,nl (T++T2),nl (en++en2),nl ins,cG N near fc inn dr,nl (nb x),(((nb x).length:Nat):Int),((m+1:Nat):Int),()))->Spd N nb inn seen0 v ins (T++T2) (en++en2) seen2->Acc inn (ins++(T++T2)) (en++en2) y->(∃ T' en' seen',aa lg (seen,nl T,nl en,nl ins,cG N near fc inn dr,nl (nb x),(((nb x).length:Nat):Int),(m:Int),())=some (.inl (seen',nl (T++T'),nl (en++en'),nl ins,cG N near fc inn dr,()))/\Spd N nb inn seen0 v ins (T++T') (en++en') seen'/\∀ y∈nb x,Acc inn (ins++(T++T')) (en++en') y):=λT2 en2 seen2 h1 h2 h3=>by obtain⟨T',en',seen',r1,r2,r3⟩:=ih (m+1) (T++T2) (en++en2) seen2 (by omega) (by omega) h2 (ext _ _ (λz hz=>JR _ hz) (λz hz=>JR _ hz) h3);rw[<- fD h1]at r1;rw[Jm,Jm]at r1 r2;refine⟨T2++T',en2++en',seen',r1,r2,λz hz=>?_⟩;have:=r3 z hz;rw[Jm,Jm]at this;exact this
  cases hb:inn[y]with
  |true=>
   rw[hb]at hin;by_cases hmem:y∈en
   ·refine next [] [] seen ?_ (by simpa using hS) ⟨λ_=>by simpa using hmem,λh=>absurd hin h⟩;unfold lg;simp only[aC (show(m:Int)<((nb x).length:Nat) by omega),UA,ax,aX hy,dg,hin,eP (nl en) (y:Int) (by rw[aQ];omega),sU,hmem,decide_true,J4,UB,bv (show m<9223372036854775807 by omega),Jz]
   refine next [] [y] seen ?_ ⟨hS.len,by simpa using hS.nod,by simpa using hS.lt,by simpa using hS.sn,by simpa using hS.vm,by simpa using hS.cn,λz hz=>?_,?_⟩ ⟨λ_=>by simp,λh=>absurd hin h⟩
   ·unfold lg;simp only[aC (show(m:Int)<((nb x).length:Nat) by omega),UA,ax,aX hy,dg,hin,eP (nl en) (y:Int) (by rw[aQ];omega),sU,hmem,decide_false,J6,UB,bv (show m<9223372036854775807 by omega),Jz,bx (show(nl en).length+[(y:Int)].length<=68719476736 by rw[aQ];simp only[B6,JB];omega),gj];rfl
   ·rcases A4.1 hz with hz|hz
    ·exact hS.enp z hz
    rw[B4]at hz;subst hz;exact⟨hyN,hin,x,hx,hym⟩
   rw[Ky];exact⟨hS.enod,by simp,λa ha b hb e=>hmem (by rw[B4]at hb;rw[<- hb,<- e];exact ha)⟩
  |false=>
   rw[hb]at hin;have hnin:inn[y]?≠some true:=by rw[hin];simp
   obtain⟨c,hsl⟩:∃ c,seen[y]?=some c:=⟨_,A1 (by rw[hS.len];exact hyN)⟩;have hs0:seen0[y]?≠some true:=λh=>hxl.2.2 (hsh y h x (hsym x y hxl.1 hym) hxl.2.1);cases c with
   |true=>have hmem:y∈ins++T:=((hS.sn y).1 hsl).resolve_left hs0;refine next [] [] seen ?_ (by simpa using hS) ⟨λh=>absurd h hnin,λ_=>by simpa using hmem⟩;unfold lg;simp only[aC (show(m:Int)<((nb x).length:Nat) by omega),UA,ax,aX hy,dg,hin,UB,ae (show y<seen.length by rw[hS.len];exact hyN),hsl,J4,bv (show m<9223372036854775807 by omega),Jz]
   |false=>
    have hnm:y∉ins++T:=λh=>by have:=(hS.sn y).2 (.inr h);rw[hsl]at this;cases this
    have hsub:∀ z∈ins++T,z∈ins++(T++[y]):=λz hz=>by rw[<- Jm];exact JR _ hz
    have hmem':∀ z,z∈ins++(T++[y])↔z∈ins++T\/z=y:=λz=>by rw[<- Jm,A4,B4]
    refine next [y] [] (seen.set y true) ?_ ⟨by simp[hS.len],?_,λz hz=>?_,λz=>?_,hsub _ hS.vm,λz hz=>?_,by simpa using hS.enp,by simpa using hS.enod⟩ ⟨λh=>absurd h hnin,λ_=>by simp⟩
    ·unfold lg;simp only[aC (show(m:Int)<((nb x).length:Nat) by omega),UA,ax,aX hy,dg,hin,UB,ae (show y<seen.length by rw[hS.len];exact hyN),hsl,J6,bv (show m<9223372036854775807 by omega),Jz,bx (show(nl T).length+[(y:Int)].length<=68719476736 by rw[aQ];simp only[B6,JB];omega),gj];rfl
    ·rw[<- Jm,Ky];exact⟨hS.nod,by simp,λa ha b hb e=>hnm (by rw[B4]at hb;rw[<- hb,<- e];exact ha)⟩
    ·rcases(hmem' z).1 hz with h|rfl
     ·exact hS.lt z h
     exact⟨hyN,hnin,hs0⟩
    ·rw[hmem'];by_cases e:z=y
     ·subst e;rw[Jx (by rw[hS.len];exact hyN)];simp
     rw[Js (Ne.symm e),hS.sn];simp[e]
    rcases(hmem' z).1 hz with h|rfl
    ·exact(hS.cn z h).mono hsub
    exact .snoc ((hS.cn x (JR _ hx)).mono hsub) hym hz
structure Cmp (N:Nat)(nb:Nat->List Nat)(inn:List Bool)(v:Nat)(en ins:List Nat):Prop where
 nod:ins.Nodup
 lt:∀ x∈ins,x<N/\inn[x]?≠some true
 vm:v∈ins
 cn:∀ x∈ins,Cn nb ins v x
 enp:∀ y∈en,y<N/\inn[y]?=some true/\∃ x∈ins,y∈nb x
 enod:en.Nodup
 acc:∀ x∈ins,∀ y∈nb x,Acc inn ins en y
theorem zO (hN:N<=64)(R:Nr N near nb)(hi:inn.length=N)(hs:seen0.length=N)(hsh:Shut nb inn seen0)(hsym:∀ x y,x < N->y∈nb x->x∈nb y)(hv:v < N)(hvi:inn[v]?≠some true)(hvs:seen0[v]?≠some true) :
  ∃ en ins seen,Zy (cG N near fc inn dr,(v:Int),seen0,())=some ((nl en,nl ins,()),seen,())/\Cmp N nb inn v en ins/\seen.length=N/\∀ x,seen[x]?=some true↔seen0[x]?=some true\/x∈ins:=by
 obtain⟨r,hr,en,ins,seen,rfl,q1,q2⟩:=aI (f:=tC)
  (λs=>∃(ins T en:List Nat) (seen:List Bool),s=(seen,nl T,nl en,nl ins,cG N near fc inn dr,())/\Spd N nb inn seen0 v ins T en seen/\∀ x∈ins,∀ y∈nb x,Acc inn (ins++T) en y) (λs=>N-s.2.2.2.1.length)
  (λr=>∃(en ins:List Nat) (seen:List Bool),r=.inl (seen,nl en,nl ins,())/\Spd N nb inn seen0 v ins [] en seen/\∀ x∈ins,∀ y∈nb x,Acc inn (ins++[]) en y)
  (by
   rintro s ⟨ins,T,en,seen,rfl,hS,hl⟩;rcases List.eq_nil_or_concat T with rfl|⟨T0,x,rfl⟩
   ·refine .inr ⟨_,?_,en,ins,seen,rfl,hS,hl⟩;unfold tC;simp only[aQ,JB,qt (show((0:Nat):Int)<=0 by omega),UB]
   rw[List.concat_eq_append]at hS hl ⊢;obtain⟨sz1,sz2⟩:=hS.size;have hperm:∀ z,z∈(ins++[x])++T0↔z∈ins++(T0++[x]):=λz=>by
    simp only[A4,B4];constructor
    ·rintro((h|h)|h)
     ·exact .inl h
     ·exact .inr (.inr h)
     exact .inr (.inl h)
    rintro(h|h|h)
    ·exact .inl (.inl h)
    ·exact .inr h
    exact .inl (.inr h)
   have hnodp:((ins++[x])++T0).Nodup:=by
    have:((ins++[x])++T0).Perm (ins++(T0++[x])):=by rw[Jm];exact List.Perm.append_left _ List.perm_append_comm
    exact this.nodup_iff.2 hS.nod
   have hS':Spd N nb inn seen0 v (ins++[x]) T0 en seen:=⟨hS.len,hnodp,λz hz=>hS.lt z ((hperm z).1 hz),λz=>(hS.sn z).trans (or_congr Iff.rfl (hperm z).symm),(hperm v).2 hS.vm,λz hz=>(hS.cn z ((hperm z).1 hz)).mono λw hw=>(hperm w).2 hw,λy hy=>by
    obtain⟨a,b,c,d,e⟩:=hS.enp y hy;exact⟨a,b,c,JR _ d,e⟩,hS.enod⟩
   obtain⟨T',en',seen',r1,r2,r3⟩:=Spd.round (fc:=fc) (dr:=dr) hN R hi hsh hsym (ins:=ins++[x]) (x:=x) (by simp) _ 0 T0 en seen (Nat.le_refl _) (Nat.zero_le _) hS' (λj y hj=>absurd hj (Nat.not_lt_zero _));have hxN:=(hS.lt x (by simp)).1;obtain⟨sz3,_⟩:=r2.size;simp only[JE,B6,JB]at sz1 sz3;refine .inl ⟨(seen',nl (T0++T'),nl (en++en'),nl (ins++[x]),cG N near fc inn dr,()),?_,⟨ins++[x],T0++T',en++en',seen',rfl,r2,λz hz y hy=>?_⟩,?_⟩
   ·have h1:(nl (T0++[x])).length=T0.length+1:=by rw[aQ];simp
    have h2:(nl (T0++[x]))[T0.length]?=some (x:Int):=aX (by simp);have h3:dF (T0.length+1) 0 ((T0.length:Nat):Int)=some (0,T0.length):=by unfold dF;rw[if_pos ⟨by omega,by omega,by omega⟩];simp
    have h4:((nl (T0++[x])).drop 0).take T0.length=nl T0:=by rw[gj,List.drop_zero,List.take_left' (aQ T0)]
    have h5:app (nl ins) [(x:Int)]=some (nl (ins++[x])):=by rw[bx (by rw[aQ];simp only[B6,JB];omega),gj];rfl
    have h6:dK .i64 (((T0.length+1:Nat)):Int) 1=((T0.length:Nat):Int):=by rw[qT (by omega)];omega
    unfold tC;simp only[h1,tP (show(0:Int)<((T0.length+1:Nat):Int) by omega),UA,h6,ae (show T0.length<T0.length+1 by omega),dg,h2,h3,h4,h5,ax,R.at' x hxN,aQ];exact(congrArg (λo=>Jo o _) r1).trans rfl
   ·rcases A4.1 hz with hz|hz
    ·obtain⟨a1,a2⟩:=hl z hz y hy;refine⟨λh=>JR _ (a1 h),λh=>?_⟩;have:=(hperm y).2 (a2 h);rw[<- Jm];exact JR _ this
    rw[B4]at hz;subst hz;exact r3 y hy
   show N-(nl (ins++[x])).length<N-(nl ins).length;rw[aQ,aQ];simp only[JE,B6,JB];omega)
  (seen0.set v true,nl [v],nl [],nl [],cG N near fc inn dr,())
  ⟨[],[v],[],seen0.set v true,rfl,⟨by simp[hs],by simp,by simp;exact⟨hv,hvi,hvs⟩,λx=>by
   by_cases e:x=v
   ·subst e;rw[Jx (by rw[hs];exact hv)];simp
   rw[Js (Ne.symm e)];simp[e],by simp,by simp;exact .nil (by simp),by simp,by simp⟩,λx hx=>absurd hx (by simp)⟩
 refine⟨en,ins,seen,?_,⟨by simpa using q1.nod,λx hx=>by
  obtain⟨a,b,_⟩:=q1.lt x (by simpa using hx);exact⟨a,b⟩,by simpa using q1.vm,by simpa using q1.cn,q1.enp,q1.enod,by simpa using q2⟩,q1.len,by simpa using q1.sn⟩
 obtain⟨c,hsv⟩:∃ c,seen0[v]?=some c:=⟨_,A1 (by omega)⟩;unfold Zy;simp only[ae (show v<seen0.length by omega),dg,hsv];exact(congrArg (λo=>Jo o _) hr).trans rfl
end
end Go.Vm
