/-
 A search by breadth, for whatever way it is printed: it ends, and it finds what can be reached.
-/
import Derived.Test.YtganppkchbnikaaGreatDoorL34H
open List renaming getElem?_eq_getElem->A1,getElem?_eq_some_iff->A2,mem_append->A4,mem_cons->A8,mem_singleton->B4,length_cons->B6,append_assoc->Jm,getElem?_set_ne->Js,mem_of_getElem?->Jv,append_nil->Jz,length_nil->JB,length_append->JE,getElem?_append_left->JM,mem_append_left->JR,getElem_mem->Ko,mem_iff_getElem->KK
open Nat renaming le_refl->B2,eq_zero_or_pos->Ku
open Option.some renaming inj->B7
set_option linter.unusedVariables false
set_option linter.unusedSimpArgs false
namespace Go.Vm
set_option maxRecDepth 100000
attribute [local irreducible] aa
def zg(x:List Int×List Int×Int×Int×Unit):Option ((List Int×List Int×Int×Int×Unit)⊕((List Int×Unit)⊕Empty)):=
 cond (neI x.2.2.2.1 x.2.2.1) ((ay x.1.length x.2.2.2.1).bind λj1=>(x.1[j1]?).bind λy2=>(app x.2.1 [y2]).bind λa3=>some (.inl (x.1,a3,x.2.2.1,y2,()))) (some (.inr (.inl (x.2.1,()))))
structure Bfs (N u:Nat)(enter pass:Nat->Bool)(F:List Int)(Q:List Nat):Prop where
 len:F.length=N
 u0:Q[0]?=some u
 nod:Q.Nodup
 lt:∀ x∈Q,x<N
 un:∀ y,y<N->(y∉Q\/y=u)->F[y]?=some (-1)
 par:∀ k y,0<k->Q[k]?=some y->∃ j x:Nat,j<k/\Q[j]?=some x/\F[y]?=some (x:Int)/\pass y=true/\(x=u->enter y=true)
section
variable {N u:Nat}{enter goal pass:Nat->Bool}{F:List Int}{Q:List Nat}
theorem dZ{N:Nat}{Q:List Nat}(h:Q.Nodup)(hl:∀ x∈Q,x<N):Q.length<=N:=by
 have:=gx N (l:=nl Q) (by
  unfold nl;exact h.map (λ(u:Nat)=>(u:Int)) (λa b hab e=>hab (by omega))) (λe he=>by
  simp only[nl,List.mem_map]at he;obtain⟨w,h1,rfl⟩:=he;have:=hl w h1;omega)
 rwa[aQ]at this
theorem Bfs.size(h:Bfs N u enter pass F Q):Q.length<=N:=dZ h.nod h.lt
theorem Bfs.chain (h:Bfs N u enter pass F Q)(hN:N<=100000):∀(k x:Nat) (p:List Nat),Q[k]?=some x->p.length+k<=1000000 ->
  ∃ R:List Nat,aa zg (F,nl p,(u:Int),(x:Int),())=some (.inl (nl (p++R),()))/\(∀ z∈R,z∈Q)/\R.length<=k/\(x=u->R=[])/\(x≠u->∃ R',x::R=R'++[u]/\∃ s R'',R'=R''++[s]/\enter s=true):=by
 intro k;induction k using Nat.strongRecOn with
 |_ k ih=>
  intro x p hk hp;by_cases hx:x=u
  ·subst hx;refine⟨[],?_,by simp,by simp,λ_=>rfl,λh=>absurd rfl h⟩;rw[Jz];apply cJ;unfold zg;simp only[Hz rfl,UB]
  have hk0:0<k:=by
   rcases Ku k with h0|h0
   ·subst h0;rw[h.u0]at hk;exact absurd (B7 hk).symm hx
   exact h0
  obtain⟨j,y,hj,hy,hF,_,hen⟩:=h.par k x hk0 hk;obtain⟨R,r1,r2,r3,r4,r5⟩:=ih j hj y (p++[y]) hy (by simp;omega);have hxl:x<F.length:=(A2.1 hF).1;have hstep:zg (F,nl p,(u:Int),(x:Int),())=some (.inl (F,nl (p++[y]),(u:Int),(y:Int),())):=by unfold zg;simp only[Ir (show(x:Int)≠(u:Int) by omega),UA,ae hxl,Option.bind_some,hF,bx (show(nl p).length+[(y:Int)].length<=68719476736 by rw[aQ];simp only[B6,JB];omega)];rw[gj];rfl
  refine⟨y::R,?_,?_,by simp only[B6];omega,λe=>absurd e hx,λ_=>?_⟩
  ·rw[fD hstep,r1,Jm];rfl
  ·intro z hz;rcases A8.1 hz with rfl|hz
   ·exact Jv hy
   exact r2 z hz
  by_cases hyu:y=u
  ·have hR:=r4 hyu;subst hR;exact⟨[x],by rw[hyu];rfl,x,[],rfl,hen hyu⟩
  obtain⟨R',q1,s,R'',q2,q3⟩:=r5 hyu;exact⟨x::R',by rw[q1];rfl,s,x::R'',by rw[q2];rfl,q3⟩
structure Fnd (N u:Nat)(enter goal:Nat->Bool)(P:List Nat):Prop where
 fst:P[0]?=some u
 snd:∃ s,P[1]?=some s/\enter s=true
 lst:∃ y,P.getLast?=some y/\goal y=true/\y≠u
 len:2<=P.length/\P.length<=N+2
 lt:∀ z∈P,z<N
theorem Bfs.found (h:Bfs N u enter pass F Q)(hN:N<=100000){k x y:Nat}(hk:Q[k]?=some x)(hy:y < N)(hyu:y≠u)(hg:goal y=true)(he:x=u->enter y=true) :
  ∃ P:List Nat,aa zg (F,nl [y,x],(u:Int),(x:Int),())=some (.inl (nl P,()))/\Fnd N u enter goal P.reverse/\P.length<=1000000:=by
 have hs:=h.size;have hkl:k<Q.length:=(A2.1 hk).1;obtain⟨R,r1,r2,r3,r4,r5⟩:=h.chain hN k x [y,x] hk (by simp;omega);have hxN:=h.lt x (Jv hk);have hlen:([y,x]++R).length<=N+2:=by simp;omega
 refine⟨[y,x]++R,r1,⟨?_,?_,⟨y,by simp,hg,hyu⟩,⟨by simp,by rw[List.length_reverse];exact hlen⟩,?_⟩,by omega⟩
 ·by_cases hx:x=u
  ·rw[r4 hx,hx];rfl
  obtain⟨R',q1,_⟩:=r5 hx;have:[y,x]++R=y::(R'++[u]):=by rw[<- q1];rfl
  rw[this];simp
 ·by_cases hx:x=u
  ·rw[r4 hx];exact⟨y,rfl,he hx⟩
  obtain⟨R',q1,s,R'',q2,q3⟩:=r5 hx;refine⟨s,?_,q3⟩;have:[y,x]++R=y::(R''++[s]++[u]):=by rw[<- q2,<- q1];rfl
  rw[this];simp
 intro z hz;rw[List.mem_reverse]at hz;rcases A4.1 hz with hz|hz
 ·rcases A8.1 hz with rfl|hz
  ·exact hy
  rw[B4]at hz;subst hz;exact hxN
 exact h.lt z (r2 z hz)
structure Sm (N u:Nat)(nb:Nat->List Nat)(enter goal pass:Nat->Bool){σ τ:Type}(B13:σ->Option (σ⊕((List Int×Unit)⊕(τ⊕Empty))))(st:List Int->List Nat->Nat->Nat->Nat->σ)(B9:τ->Option (τ⊕((List Int×Unit)⊕(Unit⊕Empty))))(sq:List Int->List Nat->Nat->τ):Prop where
 nbv:∀ x,x<N->∀ y∈nb x,y<N
 stop:∀ F Q h x,B13 (st F Q h x (nb x).length)=some (.inr (.inr (.inl (sq F Q h))))
 self:∀ F Q h x m,(nb x)[m]?=some u->B13 (st F Q h x m)=some (.inl (st F Q h x (m+1)))
 seen:∀ F Q h x m y c,(nb x)[m]?=some y->y≠u->F[y]?=some ((c:Nat):Int)->B13 (st F Q h x m)=some (.inl (st F Q h x (m+1)))
 out:∀ F Q h m y,(nb u)[m]?=some y->y<N->y≠u->F[y]?=some (-1)->enter y=false->B13 (st F Q h u m)=some (.inl (st F Q h u (m+1)))
 gl:∀ F Q h x m y p,(nb x)[m]?=some y->y≠u->F[y]?=some (-1)->(x=u->enter y=true)->goal y=true->y<N->aa zg (F,nl [y,x],(u:Int),(x:Int),())=some (.inl (nl p,()))->p.length<=1000000->B13 (st F Q h x m)=some (.inr (.inl (nl p.reverse,())))
 ps:∀ F Q h x m y,(nb x)[m]?=some y->y≠u->F[y]?=some (-1)->(x=u->enter y=true)->goal y=false->pass y=true->y<N->Q.length<=N->B13 (st F Q h x m)=some (.inl (st (F.set y (x:Int)) (Q++[y]) h x (m+1)))
 no:∀ F Q h x m y,(nb x)[m]?=some y->y≠u->F[y]?=some (-1)->(x=u->enter y=true)->goal y=false->pass y=false->y<N->B13 (st F Q h x m)=some (.inl (st F Q h x (m+1)))
 e9a:∀ F Q h x z,Q[h]?=some x->x<N->aa B13 (st F Q h x 0)=some (.inl (z,()))->B9 (sq F Q h)=some (.inr (.inl (z,())))
 e9b:∀ F Q h x F' Q',Q[h]?=some x->x<N->h<N->aa B13 (st F Q h x 0)=some (.inr (.inl (sq F' Q' h)))->B9 (sq F Q h)=some (.inl (sq F' Q' (h+1)))
 e9c:∀ F Q,B9 (sq F Q Q.length)=some (.inr (.inr (.inl ())))
variable {nb:Nat->List Nat}{σ τ:Type}{B13:σ->Option (σ⊕((List Int×Unit)⊕(τ⊕Empty)))}{st:List Int->List Nat->Nat->Nat->Nat->σ}{B9:τ->Option (τ⊕((List Int×Unit)⊕(Unit⊕Empty)))}{sq:List Int->List Nat->Nat->τ}
def Lkd(u:Nat)(enter goal pass:Nat->Bool)(Q:List Nat)(x y:Nat):Prop:=y=u\/y∈Q\/(x=u/\enter y=false)\/(goal y=false/\pass y=false)
theorem Lkd.mono{x y:Nat}{Q':List Nat}(h:Lkd u enter goal pass Q x y)(hq:∀ z∈Q,z∈Q'):Lkd u enter goal pass Q' x y:=by
 rcases h with h|h|h
 ·exact .inl h
 ·exact .inr (.inl (hq _ h))
 exact .inr (.inr h)
theorem Sm.round (S:Sm N u nb enter goal pass B13 st B9 sq)(hN:N<=100000){h x:Nat}:∀(n m:Nat) (F:List Int) (Q:List Nat),(nb x).length - m<=n->m<=(nb x).length->Bfs N u enter pass F Q->Q[h]?=some x->(∀ j y,j < m->(nb x)[j]?=some y->Lkd u enter goal pass Q x y) ->
  (∃ P,aa B13 (st F Q h x m)=some (.inl (nl P,()))/\Fnd N u enter goal P)\/∃ F' R,aa B13 (st F Q h x m)=some (.inr (.inl (sq F' (Q++R) h)))/\Bfs N u enter pass F' (Q++R)/\∀ y∈nb x,Lkd u enter goal pass (Q++R) x y:=by
 intro n;induction n with
 |zero=>
  intro m F Q hn hm hB hx hl;have:m=(nb x).length:=by omega
  subst this;refine .inr ⟨F,[],?_,by simpa using hB,λy hy=>?_⟩
  ·rw[cJ (S.stop F Q h x),Jz]
  obtain⟨j,h1,h2⟩:=KK.1 hy;rw[Jz];exact hl j y h1 ((A1 h1).trans (congrArg some h2))
 |succ n ih=>
  intro m F Q hn hm hB hx hl;by_cases hmm:m=(nb x).length
  ·subst hmm;refine .inr ⟨F,[],?_,by simpa using hB,λy hy=>?_⟩
   ·rw[cJ (S.stop F Q h x),Jz]
   obtain⟨j,h1,h2⟩:=KK.1 hy;rw[Jz];exact hl j y h1 ((A1 h1).trans (congrArg some h2))
  have hml:m<(nb x).length:=by omega
  have hxN:=hB.lt x (Jv hx);have hy:(nb x)[m]?=some (nb x)[m]:=A1 hml;have hyN:=S.nbv x hxN _ (Ko hml);generalize (nb x)[m]=y at hy hyN;have ext:∀ Q',(∀ z∈Q,z∈Q')->Lkd u enter goal pass Q' x y->∀ j z,j<m+1->(nb x)[j]?=some z->Lkd u enter goal pass Q' x z:=by
   intro Q' hq hl' j z hj hz;by_cases hjm:j=m
   ·subst hjm;rw[hy]at hz;cases hz;exact hl'
   exact(hl j z (by omega) hz).mono hq
  have skip:B13 (st F Q h x m)=some (.inl (st F Q h x (m+1)))->Lkd u enter goal pass Q x y->_:=λh1 h2=>by have:=ih (m+1) F Q (by omega) (by omega) hB hx (ext Q (λ_ h=>h) h2);rw[<- fD h1]at this;exact this
  by_cases hyu:y=u
  ·exact skip (S.self F Q h x m (by rw[<- hyu];exact hy)) (.inl hyu)
  by_cases hyQ:y∈Q
  ·obtain⟨k,k1,k2⟩:=KK.1 hyQ;have hk:Q[k]?=some y:=(A1 k1).trans (congrArg some k2);have hk0:0<k:=by
    rcases Ku k with h0|h0
    ·subst h0;rw[hB.u0]at hk;exact absurd (B7 hk).symm hyu
    exact h0
   obtain⟨j,z,_,_,hF,_⟩:=hB.par k y hk0 hk;exact skip (S.seen F Q h x m y z hy hyu hF) (.inr (.inl hyQ))
  have hF:=hB.un y hyN (.inl hyQ);by_cases hen:x=u/\enter y=false
  ·obtain⟨rfl,he⟩:=hen;exact skip (S.out F Q h m y hy hyN hyu hF he) (.inr (.inr (.inl ⟨rfl,he⟩)))
  have hen:x=u->enter y=true:=λe=>by
   cases he:enter y with
   |true=>rfl
   |false=>exact absurd ⟨e,he⟩ hen
  cases hg:goal y with
  |true=>obtain⟨P,p1,p2,p3⟩:=hB.found (goal:=goal) hN hx hyN hyu hg hen;exact .inl ⟨P.reverse,cJ (S.gl F Q h x m y P hy hyu hF hen hg hyN p1 p3),p2⟩
  |false=>
   cases hp:pass y with
   |false=>exact skip (S.no F Q h x m y hy hyu hF hen hg hp hyN) (.inr (.inr (.inr ⟨hg,hp⟩)))
   |true=>
    have hxl:h<Q.length:=(A2.1 hx).1;have hB':Bfs N u enter pass (F.set y (x:Int)) (Q++[y]):=by
     refine⟨by simp[hB.len],?_,?_,?_,λz hz h1=>?_,λk z hk hz=>?_⟩
     ·rw[JM (by omega)];exact hB.u0
     ·rw[List.nodup_append];exact⟨hB.nod,by simp,λa ha b hb e=>hyQ (by rw[B4]at hb;rw[<- hb,<- e];exact ha)⟩
     ·intro z hz;rcases A4.1 hz with hz|hz
      ·exact hB.lt z hz
      rw[B4]at hz;subst hz;exact hyN
     ·have hzy:z≠y:=by
       rintro rfl;rcases h1 with h1|h1
       ·exact h1 (by simp)
       exact hyu h1
      rw[Js (Ne.symm hzy)];exact hB.un z hz (h1.imp (λh h'=>h (JR _ h')) id)
     by_cases hkl:k<Q.length
     ·rw[JM hkl]at hz;obtain⟨j,w,w1,w2,w3,w4⟩:=hB.par k z hk hz;have hzQ:=Jv hz;refine⟨j,w,w1,by rw[JM (by omega)];exact w2,?_,w4⟩;rw[Js (by rintro rfl;exact hyQ hzQ)];exact w3
     have hlt:=(A2.1 hz).1;simp only[JE,B6,JB]at hlt;have hkq:k=Q.length:=by omega
     subst hkq;rw[List.getElem?_append_right (B2 _),Nat.sub_self]at hz;cases hz;exact⟨h,x,hxl,by rw[JM hxl];exact hx,List.getElem?_set_self (by rw[hB.len];exact hyN),hp,hen⟩
    have h1:=S.ps F Q h x m y hy hyu hF hen hg hp hyN hB.size;rw[fD h1];rcases ih (m+1) (F.set y (x:Int)) (Q++[y]) (by omega) (by omega) hB' (by rw[JM hxl];exact hx) (ext (Q++[y]) (λz hz=>JR _ hz) (.inr (.inl (by simp))))with h2|⟨F',R,r1,r2,r3⟩
    ·exact .inl h2
    rw[Jm]at r1 r2 r3;exact .inr ⟨F',[y]++R,r1,r2,r3⟩
theorem Sm.all (S:Sm N u nb enter goal pass B13 st B9 sq)(hN:N<=100000):∀(n h:Nat) (F:List Int) (Q:List Nat),N+1 - h<=n->h<=Q.length->Bfs N u enter pass F Q->(∀ j x,j < h->Q[j]?=some x->∀ y∈nb x,Lkd u enter goal pass Q x y) ->
  (∃ P,aa B9 (sq F Q h)=some (.inl (nl P,()))/\Fnd N u enter goal P)\/∃ Q',aa B9 (sq F Q h)=some (.inr (.inl ()))/\(∃ F',Bfs N u enter pass F' Q')/\∀ x∈Q',∀ y∈nb x,Lkd u enter goal pass Q' x y:=by
 intro n;induction n with
 |zero=>intro h F Q hn hh hB _;have:=hB.size;omega
 |succ n ih=>
  intro h F Q hn hh hB hl;by_cases hq:h=Q.length
  ·subst hq;refine .inr ⟨Q,cJ (S.e9c F Q),⟨F,hB⟩,λx hx=>?_⟩;obtain⟨j,j1,j2⟩:=KK.1 hx;exact hl j x j1 ((A1 j1).trans (congrArg some j2))
  have hlt:h<Q.length:=by omega
  have hx:Q[h]?=some Q[h]:=A1 hlt;have hxN:=hB.lt _ (Ko hlt);generalize Q[h]=x at hx hxN;rcases S.round hN (h:=h) (x:=x) _ 0 F Q (B2 _) (Nat.zero_le _) hB hx (λj y hj=>absurd hj (Nat.not_lt_zero _))with⟨P,p1,p2⟩|⟨F',R,r1,r2,r3⟩
  ·exact .inl ⟨P,cJ (S.e9a F Q h x _ hx hxN p1),p2⟩
  have hs:=hB.size;have h1:=S.e9b F Q h x F' (Q++R) hx hxN (by omega) r1;rw[fD h1];refine ih (h+1) F' (Q++R) (by omega) (by rw[JE];omega) r2 λj z hj hz y hy=>?_;by_cases hjh:j=h
  ·subst hjh;rw[JM hlt,hx]at hz;cases hz;exact r3 y hy
  rw[JM (by omega)]at hz;exact(hl j z (by omega) hz y hy).mono λw hw=>JR _ hw
end
end Go.Vm
