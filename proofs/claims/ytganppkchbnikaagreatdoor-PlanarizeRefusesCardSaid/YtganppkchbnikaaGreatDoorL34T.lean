/-
 A digraph is embedded, or not: all loops end.
-/
import Derived.Test.YtganppkchbnikaaGreatDoorL34S
open Option renaming bind_some->dg,bind->Jo
open List renaming getElem?_eq_getElem->A1,replicate->A5
open Sum renaming elim->A9,elim_inl->Ke
open Int renaming le_refl->JO
set_option linter.unusedVariables false
set_option linter.unusedSimpArgs false
namespace Go.Vm
set_option maxRecDepth 100000
attribute [local irreducible] aa
structure Rws (N K:Nat)(C:List (List Int)):Prop where
 len:C.length=N
 row:∀ x,x<N->(aJ C x).length<=K
theorem Rws.set{N K K':Nat}{C:List (List Int)}(h:Rws N K C)(hK:K<=K'){x:Nat}(hx:x<N){l:List Int}(hl:l.length<=K'):Rws N K' (C.set x l):=by
 refine⟨by simp[h.len],λu hu=>?_⟩;rw[pR (by rw[h.len];exact hx)];split
 ·exact hl
 have:=h.row u hu;omega
theorem Rws.mono{N K K':Nat}{C:List (List Int)}(h:Rws N K C)(hK:K<=K'):Rws N K' C:=⟨h.len,λx hx=>by have:=h.row x hx;omega⟩
section
variable {N:Nat}{E:List (Int×Int×Unit)}{D M bl near:List (List Int)}{nb:Nat->List Nat}
theorem zi {C:List (List Int)}{K L v y:Nat}(hC:Rws N K C)(hD:Sq N D)(hM:Sq N M)(hL:Low N M)(hv:v < N)(hy:y < N)(hK:K<=10000000000)(hLL:L<=1000)(p q r t:Int) :
  ∃ C',aa lm ((N:Int),E,C,D,M,bl,near,(v:Int),(y:Int),p,q,r,t,(L:Int),0,())=some (.inl ((N:Int),E,C',D,M,bl,near,p,q,r,t,()))/\Rws N (K+L) C':=by
 obtain⟨r,hr,C',rfl,q1⟩:=aI (f:=lm)
  (λs=>∃(n y:Nat) (C:List (List Int)),n<=L/\s=((N:Int),E,C,D,M,bl,near,(v:Int),(y:Int),p,q,r,t,(L:Int),(n:Int),())/\y<N/\Rws N (K+n) C) (λs=>(s.2.2.2.2.2.2.2.2.2.2.2.2.2.1-s.2.2.2.2.2.2.2.2.2.2.2.2.2.2.1).toNat)
  (λw=>∃ C',w=.inl ((N:Int),E,C',D,M,bl,near,p,q,r,t,())/\Rws N (K+L) C')
  (by
   rintro s ⟨n,y,C,hn,rfl,hy,h1⟩;by_cases hlt:n<L
   ·obtain⟨d,hd⟩:∃ d,(aJ D v)[y]?=some d:=⟨_,A1 (by rw[hD.row v hv];exact hy)⟩;obtain⟨c,hc⟩:∃ c,(aJ M v)[y]?=some c:=⟨_,A1 (by rw[hM.row v hv];exact hy)⟩;obtain⟨z,hz,rfl⟩:=hL v y c hv hc;have ha:app (aJ C v) [d]=some (aJ C v++[d]):=bx (by have:=h1.row v hv;simp;omega);refine .inl ⟨((N:Int),E,C.set v (aJ C v++[d]),D,M,bl,near,(v:Int),(z:Int),p,q,r,t,(L:Int),((n+1:Nat):Int),()),?_,⟨n+1,z,_,by omega,rfl,hz,h1.set (by omega) hv (by have:=h1.row v hv;simp;omega)⟩,?_⟩
    ·unfold lm;simp only[aC (show(n:Int)<(L:Int) by omega),UA,ae (show v<C.length by rw[h1.len];exact hv),ae (show v<D.length by rw[hD.len];exact hv),ae (show y<(aJ D v).length by rw[hD.row v hv];exact hy),hd,ha,if_true,ae (show v<M.length by rw[hM.len];exact hv),ae (show y<(aJ M v).length by rw[hM.row v hv];exact hy),hc,dg,bv (show n<9223372036854775807 by omega)]
    show((L:Int)-((n+1:Nat):Int)).toNat<((L:Int)-((n:Nat):Int)).toNat;omega
   have:n=L:=by omega
   subst this;refine .inr ⟨_,?_,C,rfl,h1⟩;unfold lm;simp only[bi (JO _),UB])
  ((N:Int),E,C,D,M,bl,near,(v:Int),(y:Int),p,q,r,t,(L:Int),((0:Nat):Int),()) ⟨0,y,C,by omega,rfl,hy,hC⟩
 exact⟨C',hr,q1⟩
theorem vS (hN:N<=64){C:List (List Int)}{K:Nat}(hC:Rws N K C)(hD:Sq N D)(hM:Sq N M)(hL:Low N M)(R:Nr N near nb)(hnl:near.length=N)(hK:K<=9000000000)(p q:Int) :
  ∃ C',aa jP ((N:Int),E,C,D,M,bl,near,p,q,(N:Int),0,())=some (.inl ((N:Int),E,C',D,bl,p,q,()))/\Rws N (K+64000) C':=by
 obtain⟨r,hr,C',rfl,q1⟩:=aI (f:=jP)
  (λs=>∃(n:Nat) (C:List (List Int)),n<=N/\s=((N:Int),E,C,D,M,bl,near,p,q,(N:Int),(n:Int),())/\Rws N (K+1000*n) C) (λs=>(s.2.2.2.2.2.2.2.2.2.1-s.2.2.2.2.2.2.2.2.2.2.1).toNat)
  (λw=>∃ C',w=.inl ((N:Int),E,C',D,bl,p,q,())/\Rws N (K+64000) C')
  (by
   rintro s ⟨n,C,hn,rfl,h1⟩;by_cases hlt:n<N
   ·have hsub:aJ near n=nl (nb n):=by unfold aJ;rw[R.at' n hlt];rfl
    have hlen:=R.len n;have dec:((N:Int)-((n+1:Nat):Int)).toNat<((N:Int)-((n:Nat):Int)).toNat:=by omega
    cases hnb:nb n with
    |nil=>refine .inl ⟨((N:Int),E,C,D,M,bl,near,p,q,(N:Int),((n+1:Nat):Int),()),?_,⟨n+1,C,by omega,rfl,h1.mono (by omega)⟩,dec⟩;unfold jP;simp only[aC (show(n:Int)<(N:Int) by omega),UA,ae (show n<near.length by omega),dg,hsub,hnb,aQ,List.length_nil,cW (show((0:Nat):Int)=0 by omega),bv (show n<9223372036854775807 by omega)]
    |cons y l=>have hy:y<N:=R.lt n hlt y (by rw[hnb];simp);rw[hnb]at hsub hlen;obtain⟨C',e1,e2⟩:=zi (E:=E) (bl:=bl) (near:=near) (L:=(y::l).length) h1 hD hM hL hlt hy (by omega) hlen p q (N:Int) (n:Int);refine .inl ⟨((N:Int),E,C',D,M,bl,near,p,q,(N:Int),((n+1:Nat):Int),()),?_,⟨n+1,C',by omega,rfl,e2.mono (by omega)⟩,dec⟩;unfold jP;simp only[aC (show(n:Int)<(N:Int) by omega),UA,ae (show n<near.length by omega),dg,hsub,aQ,bN (show(((y::l).length:Nat):Int)≠0 by simp;omega),UB,show ay (y::l).length 0=some 0 from ae (i:=0) (by simp),show(nl (y::l))[0]?=some (y:Int)from rfl];refine(congrArg (λo=>Jo o _) e1).trans ?_;simp only[dg,Ke,bv (show n<9223372036854775807 by omega)]
   have:n=N:=by omega
   subst this;refine .inr ⟨_,?_,C,rfl,h1.mono (by omega)⟩;unfold jP;simp only[bi (JO _),UB])
  ((N:Int),E,C,D,M,bl,near,p,q,(N:Int),((0:Nat):Int),()) ⟨0,C,by omega,rfl,hC⟩
 exact⟨C',hr,q1⟩
theorem AY (G:Dg N E){B:List Int}(hB:Blo E B){k a b:Nat}(hk:(k:Int)∈B)(hE:E[k]?=some ((a:Int),(b:Int),()))(ha:a < N) :
  ∃ near nb dr,Zbc (((N:Int),E,()),B,())=some (cG N near [] (A5 N false) dr,())/\Nr N near nb/\near.length=N /\
   ∃ ok inn' dr' fc',Zac (cG N near [] (A5 N false) dr,(a:Int),(b:Int),())=some (ok,cG N near fc' inn' dr',()) /\
   ∃ M,Zx (cG N near fc' inn' dr',())=some (M,())/\Sq N M/\Low N M:=by
 obtain⟨near,nb,dr,h1,h2,h3,h4,h5,h6⟩:=uP G hB;have hirr:∀ x,x<N->x∉nb x:=λx hx hm=>by
  obtain⟨e,he,hj⟩:=(h4 x x).1 hm;obtain⟨k,rfl⟩:∃ k:Nat,e=(k:Int):=⟨e.toNat,by have:=hj.lt;omega⟩;obtain⟨a,b,ha,hb,hab,hE⟩:=G.arc k (by have:=hj.lt;omega);rcases Jn.arc hE hj with⟨r1,r2⟩|⟨r1,r2⟩
  ·exact hab (r1.symm.trans r2)
  exact hab (r2.symm.trans r1)
 have hsym:∀ x y,x<N->y∈nb x->x∈nb y:=λx y _ hm=>by obtain⟨e,he,hj⟩:=(h4 x y).1 hm;exact(h4 y x).2 ⟨e,he,hj.symm⟩
 obtain⟨ok,inn',dr',fc',e1,e2⟩:=Ea (J:=Jn E) (B:=B) (u:=a) (v:=b) (inn:=A5 N false) G.n h2 h3 hsym hirr Jn.symm hB.firm h4 ha ((h4 a b).2 ⟨_,hk,Jn.mk hE⟩) (by simp) h5 h6;obtain⟨M,m1,m2,m3⟩:=zH (near:=near) (inn:=inn') (dr:=dr') G.n e2;exact⟨near,nb,dr,h1,h2,h3,ok,inn',dr',fc',e1,M,m1,m2,m3⟩
theorem uA(G:Dg N E):∃ M ok,Zbf (((N:Int),E,()),())=some (M,ok,()):=by
 have hN:=G.n;obtain⟨D,d1,d2⟩:=Di G;obtain⟨bl,b1,b2,b3⟩:=yX G;obtain⟨r,hr,hq⟩:=aI (f:=mg)
  (λs=>∃(n:Nat) (C:List (List Int)),n<=bl.length/\s=((N:Int),E,C,D,bl,((bl.length:Nat):Int),(n:Int),())/\Rws N (100000*n) C) (λs=>(s.2.2.2.2.2.1-s.2.2.2.2.2.2.1).toNat)
  (λw=>w=.inl (false,())\/∃ C',w=.inr (.inl (C',())))
  (by
   rintro s ⟨n,C,hn,rfl,h1⟩;by_cases hlt:n<bl.length
   ·have hy:bl[n]?=some bl[n]:=A1 hlt;have hym:bl[n]∈bl:=List.getElem_mem hlt;generalize bl[n]=B at hy hym;have hB:=b2 B hym;have dec:(((bl.length:Nat):Int)-((n+1:Nat):Int)).toNat<(((bl.length:Nat):Int)-((n:Nat):Int)).toNat:=by omega
    obtain⟨e,l,hBe⟩:=List.exists_cons_of_ne_nil hB.ne;obtain⟨u,w,hj⟩:=hB.edge e (by rw[hBe];simp);obtain⟨k,rfl⟩:∃ k:Nat,e=(k:Int):=⟨e.toNat,by have:=hj.lt;omega⟩;obtain⟨a,b,ha,hb,hab,hE⟩:=G.arc k (by have:=hj.lt;omega);have g0:aL B 0=some (k:Int):=by rw[hBe];rfl
    by_cases hl:B.length=1
    ·obtain⟨x1,hx1⟩:∃ d,(aJ D a)[b]?=some d:=⟨_,A1 (by rw[d2.row a ha];exact hb)⟩;obtain⟨x2,hx2⟩:∃ d,(aJ D b)[a]?=some d:=⟨_,A1 (by rw[d2.row b hb];exact ha)⟩;have a1:app (aJ C a) [x1]=some (aJ C a++[x1]):=bx (by have:=h1.row a ha;simp;omega);have h1':Rws N (100000*n+1) (C.set a (aJ C a++[x1])):=h1.set (by omega) ha (by have:=h1.row a ha;simp;omega);have a2:app (aJ (C.set a (aJ C a++[x1])) b) [x2]=some (aJ (C.set a (aJ C a++[x1])) b++[x2]):=bx (by have:=h1'.row b hb;simp;omega);refine .inl ⟨((N:Int),E,(C.set a (aJ C a++[x1])).set b (aJ (C.set a (aJ C a++[x1])) b++[x2]),D,bl,((bl.length:Nat):Int),((n+1:Nat):Int),()),?_,⟨n+1,_,by omega,rfl,h1'.set (by omega) hb (by have:=h1'.row b hb;simp;omega)⟩,dec⟩;unfold mg;simp only[aC (show(n:Int)<((bl.length:Nat):Int) by omega),UA,ae hlt,dg,hy,g0,ax,hE,cW (show((B.length:Nat):Int)=1 by omega),ae (show a<C.length by rw[h1.len];exact ha),ae (show a<D.length by rw[d2.len];exact ha),ae (show b<(aJ D a).length by rw[d2.row a ha];exact hb),hx1,a1,if_true,ae (show b<(C.set a (aJ C a++[x1])).length by rw[h1'.len];exact hb),ae (show b<D.length by rw[d2.len];exact hb),ae (show a<(aJ D b).length by rw[d2.row b hb];exact ha),hx2,a2,bv (show n<9223372036854775807 by omega)]
    obtain⟨near,nb,dr,n1,n2,n3,ok,inn',dr',fc',e1,M,m1,m2,m3⟩:=AY G hB (by rw[hBe];simp) hE ha;cases ok with
    |false=>refine .inr ⟨_,?_,.inl rfl⟩;unfold mg;simp only[aC (show(n:Int)<((bl.length:Nat):Int) by omega),UA,ae hlt,dg,hy,g0,ax,hE,bN (show((B.length:Nat):Int)≠1 by omega),UB,n1];refine(congrArg (λo=>Jo o _) e1).trans ?_;simp only[dg,Bool.not_false,UA]
    |true=>obtain⟨C',c1,c2⟩:=vS (E:=E) (bl:=bl) hN h1 d2 m2 m3 n2 n3 (by omega) ((bl.length:Nat):Int) (n:Int);refine .inl ⟨((N:Int),E,C',D,bl,((bl.length:Nat):Int),((n+1:Nat):Int),()),?_,⟨n+1,_,by omega,rfl,c2.mono (by omega)⟩,dec⟩;unfold mg;simp only[aC (show(n:Int)<((bl.length:Nat):Int) by omega),UA,ae hlt,dg,hy,g0,ax,hE,bN (show((B.length:Nat):Int)≠1 by omega),UB,n1];refine(congrArg (λo=>Jo o _) e1).trans ?_;simp only[dg,Bool.not_true,UB];refine(congrArg (λo=>Jo o _) m1).trans ?_;simp only[dg,n3];refine(congrArg (λo=>Jo o _) c1).trans ?_;simp only[dg,Ke,bv (show n<9223372036854775807 by omega)]
   have:n=bl.length:=by omega
   subst this;refine .inr ⟨_,?_,.inr ⟨C,rfl⟩⟩;unfold mg;simp only[bi (JO _),UB])
  ((N:Int),E,A5 N [],D,bl,((bl.length:Nat):Int),((0:Nat):Int),()) ⟨0,_,by omega,rfl,by simp,λx hx=>by unfold aJ;rw[List.getElem?_replicate,if_pos hx];simp⟩
 have hm1:bG (.slice I) (N:Int) (N:Int)=some (A5 N []):=cy (e:=.slice I) (Nat.le_refl N) (by omega);have key:Zbf (((N:Int),E,()),())=(some r:Option _).bind (A9 (λz5=>some ([],(z5.1,()))) (A9 (λz6=>some (z6.1,(true,()))) (λ_=>none))):=by unfold Zbf;simp only[hm1,dg,d1,b1];exact congrArg (λo=>Jo o _) hr
 rw[key];rcases hq with rfl|⟨C',rfl⟩
 ·exact⟨[],false,rfl⟩
 exact⟨C',true,rfl⟩
end
end Go.Vm
