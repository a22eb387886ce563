/-
 A call without shapes: loops round by round, calls in their place; what it comes to is what the call comes to.
-/
import Derived.Test.YtganppkchbnikaaGreatDoorVmPack
open Bool renaming and_eq_true->np,not_eq_true'->Jw,or_eq_false_iff->Lo
open Nat renaming eq_of_beq_eq_true->A3,beq->A7,ble->JK,add_sub_cancel->Me
open List renaming mem_cons->A8,all_eq_true->B5,mem_cons_of_mem->Jq,length_append->JE,take_left->KF
open Array renaming replicate->KZ
set_option linter.unusedVariables false
set_option linter.unusedSimpArgs false
namespace Go.Vm
noncomputable section
section
variable {C:Ctx}{s:St}{R:Type}{G0:Heap}
def On(G0:Heap)(K K':St->Option R):Prop:=∀ s',(∃ X,s'.G=X++G0)->K s'=K' s'
theorem oB{α:Type}{b:Bool}{x y x' y':α}(h:x=x')(k:y=y'):cond b x y=cond b x' y':=by rw[h,k]
theorem dV{A B D:Heap}(h:∃ X,A=X++B)(k:∃ X,B=X++D):∃ X,A=X++D:=by obtain⟨X,rfl⟩:=h;obtain⟨Y,rfl⟩:=k;exact⟨X++Y,by simp⟩
theorem tA{o:Oper}{K K':St->Option R}(hs:∃ X,s.G=X++G0)(h:On G0 K K'):aZ C o s K=aZ C o s K':=by
 by_cases hb:∀ op xt x y yt,o.op≠.binOp op xt x y yt
 ·rw[lr hb,lr hb (K:=K')];cases hr:aZ C o s some with
  |none=>rfl
  |some s'=>exact h s' (dV (nZ o s' hr) hs)
 simp only[Classical.not_forall,Classical.not_not]at hb;obtain⟨op,xt,x,y,yt,ho⟩:=hb;have e:∀ v,K (ag o.dst v s)=K' (ag o.dst v s):=λv=>h _ (by cases o.dst<;>exact hs);simp only[au];unfold aK;rw[ho];simp only[e]
theorem vW(o:Oper)(s:St):∃ X,(ij C o s).G=X++s.G:=by
 unfold ij;split
 ·exact⟨[],rfl⟩
 exact cN (G0:=s.G) (wt C o s) ⟨dx s.G (wt C o s) s.G,rfl⟩
theorem vv(id:Nat)(s:St):∃ X,(ov C id s).G=X++s.G:=by
 unfold ov;cases C.frz.any λi=>A7 i id with
 |false=>exact⟨[],rfl⟩
 |true=>exact cN (G0:=s.G) _ ⟨dx s.G _ s.G,rfl⟩
theorem tU(id:Nat)(s:St):∃ X,(sN C id s).G=X++s.G:=by
 unfold sN;split
 ·rename_i p _;have h1:∃ X,(kY (c9 s.G p.1) s).G=X++s.G:=cN (G0:=s.G) _ ⟨dx s.G _ s.G,rfl⟩;refine dV ?_ h1;unfold mL;split
  ·rename_i x _;cases(c9 (kY (c9 s.G p.1) s).G p.1).isEmpty with
   |false=>exact⟨[],rfl⟩
   |true=>exact cN (G0:=(kY (c9 s.G p.1) s).G) _ ⟨qM _ _ _,rfl⟩
  exact⟨[],rfl⟩
 exact⟨[],rfl⟩
theorem oe(all:List Oper):∀{l:List Oper} {s:St} {K K':St->Option R},(∃ X,s.G=X++G0)->On G0 K K'->dj C all l s K=dj C all l s K'
 |[],s,K,K',hs,h=>h s hs
 |o::r,s,K,K',hs,h=>by
  have run:∀ s1:St,s1.G=s.G->aZ C o (ij C o s1) (λs'=>dj C all r s' K)=aZ C o (ij C o s1) (λs'=>dj C all r s' K'):=λs1 e=>
   tA (dV (vW o s1) (e▸hs)) λs' hs'=>oe all hs' h
  have skip:∀ s1:St,s1.G=s.G->dj C all r (ag o.dst (.av .undef) s1) K=dj C all r (ag o.dst (.av .undef) s1) K':=λs1 e=>
   oe all (by cases o.dst<;>exact e▸hs) h
  simp only[dj];split
  ·exact run s rfl
  split
  ·rfl
  split
  ·exact oB (oB (run _ rfl) (skip _ rfl)) (oB (skip _ rfl) (run _ rfl))
  ·exact skip _ rfl
  rfl
theorem sd(all:List Oper)(kd:Nat->Bool):∀{l:List Oper} {i:Nat} {e:Env} {G:Heap} {K K':Env->Heap->Option R},(∃ X,G=X++G0)->(∀ e G,(∃ X,G=X++G0)->K e G=K' e G)->mE C all kd i l e G K=mE C all kd i l e G K'
 |[],i,e,G,K,K',hs,h=>h e G hs
 |o::r,i,e,G,K,K',hs,h=>by
  have run:∀ e':Env,cond (iX C o (dD all o e')) (aZ C o { env:=dD all o e',G:=G } (fun s'=>cond (!kd i || iA C G s'.G) (mE C all kd (i+1) r (ag o.dst (s'.env.get (o.dst.getD 0)) { env:=e',G:=[] }).env s'.G K) none)) none
    = cond (iX C o (dD all o e')) (aZ C o { env:=dD all o e',G:=G } (λs'=>cond (!kd i||iA C G s'.G) (mE C all kd (i+1) r (ag o.dst (s'.env.get (o.dst.getD 0)) { env:=e',G:=[] }).env s'.G K') none)) none:=λe'=>
   oB (tA hs λs' hs'=>oB (sd all kd hs' h) rfl) rfl
  have skip:∀ e':Env,mE C all kd (i+1) r e' G K=mE C all kd (i+1) r e' G K':=λe'=>sd all kd hs h;simp only[mE];split
  ·exact run e
  split
  ·rfl
  split
  ·exact oB (oB (run _) (skip _)) (oB (skip _) (run _))
  ·exact skip _
  rfl
theorem rh:∀(N:List (Nat×Heap)) (G:Heap),∃ X,N.foldr (λp G=>p.2++G) G=X++G
 |[],G=>⟨[],rfl⟩
 |p::r,G=>by obtain⟨X,hX⟩:=rh r G;exact⟨p.2++X,by rw[List.foldr_cons,hX,List.append_assoc]⟩
theorem vf{lt:Bool}{all:List Oper}{K K':St->Option R}(hs:∃ X,s.G=X++G0)(h:On G0 K K'):jy C lt all s K=jy C lt all s K':=by unfold jy;dsimp only;congr 1;congr 1;funext e N;rw[sd all _ (dV (rh N s.G) hs) λe' G' hG'=>h { env:=e',G:=G' } hG']
def LOn(L:Loops):Prop:=∀(key:Nat) (R:Type) (G0:Heap) (s:St) (K K':Ex->St->Option R),(∃ X,s.G=X++G0)->(∀ e,On G0 (K e) (K' e))->L key R s K=L key R s K'
theorem rW{L:Loops}(hL:LOn L):∀(c:Code) {s:St} {K K':Ex->St->Option R},(∃ X,s.G=X++G0)->(∀ e,On G0 (K e) (K' e))->cO C L c K s=cO C L c K' s:=by
 intro c;induction c with
 |skip=>intro s K K' hs h;exact h _ s hs
 |region id ops d=>intro s K K' hs h;simp only[cO];rw[oe _ (dV (tU id s) hs) (h .normal),vf (dV (vv id _) (dV (tU id s) hs)) (h .normal)]
 |seq a b iha ihb=>
  intro s K K' hs h;simp only[cO];split
  ·rename_i s1 hmin;refine h .normal s1 ?_;cases hm:C.min with
   |false=>rw[hm]at hmin;cases hmin
   |true=>rw[hm]at hmin;rw[(pC hmin).2];exact hs
  refine iha hs λe s' hs'=>?_;cases e with
  |normal=>exact ihb hs' h
  |exit i=>exact h _ s' hs'
  |ret=>exact h _ s' hs'
 |cond x a b iha ihb=>
  intro s K K' hs h;simp only[cO];split
  ·rw[iha hs h,ihb hs h]
  rfl
 |block id a ih=>
  intro s K K' hs h;simp only[cO];refine ih hs λe s' hs'=>?_;cases e with
  |normal=>exact h _ s' hs'
  |exit i=>dsimp only;rw[h .normal s' hs',h (.exit i) s' hs']
  |ret=>exact h _ s' hs'
 |loop a _=>intro s K K' hs h;exact hL _ R G0 s K K' hs h
 |exit id=>intro s K K' hs h;exact h _ s hs
 |ret=>intro s K K' hs h;exact h _ s hs
 |_=>intro s K K' hs h;rfl
end
def o4:Atom->List Nat
 |.own i=>[i]
 |.view i _ _=>[i]
 |.ptr i _=>[i]
 |.aptr i _ _=>[i]
 |.clo _ c=>c
 |.cut i _ _=>[i]
 |.ownd i=>[i]
 |.sub i _ _=>[i]
 |.saptr i _ _ _=>[i]
 |.iptr i _ _ _ _=>[i]
 |.ownm i=>[i]
 |_=>[]
def yL:SV->List Nat
 |.av a=>o4 a
 |.agg l=>l.flatMap o4
 |.tup l=>l.flatMap λp=>p.2.flatMap o4
def qy:Option Obj->List Nat
 |some (.box l)=>l.flatMap o4
 |_=>[]
def kq(i:Nat):List Nat->Bool
 |[]=>false
 |j::r=>cond (A7 i j) true (kq i r)
noncomputable def reach(G:Heap):Nat->List Nat->List Nat->List Nat
 |0,_,acc=>acc
 |_+1,[],acc=>acc
 |n+1,i::r,acc=>cond (kq i acc) (reach G n r acc) (reach G n (qy (G.get i)++r) (i::acc))
noncomputable def fZ(G0:Heap)(keep:List Nat):Heap->List Nat->Heap
 |[],_=>[]
 |p::r,seen=>cond (kq p.1 seen) (fZ G0 keep r seen) (cond (G0.has p.1||kq p.1 keep) (p::fZ G0 keep r (p.1::seen)) (fZ G0 keep r (p.1::seen)))
section
variable {P:Program}{C:Ctx}{w0:World}{M:Own}{m:Mem}
theorem qg{i:Nat}:∀{l:List Nat},kq i l=true↔i∈l
 |[]=>by simp[kq]
 |j::r=>by
  unfold kq;cases h:A7 i j with
  |true=>simp[A3 h]
  |false=>simp[Nat.ne_of_beq_eq_false h,qg]
theorem mY(G0:Heap)(keep:List Nat)(i:Nat):∀(L:Heap) (seen:List Nat),Heap.get (fZ G0 keep L seen) i=if i∈seen\/(G0.has i||kq i keep)=false then none else Heap.get L i
 |[],seen=>by simp[fZ,Heap.get_nil0,Heap.get_pair]
 |(k,o)::r,seen=>by
  unfold fZ;cases hs:kq k seen with
  |true=>
   have hk:=qg.1 hs;rw[UA,mY G0 keep i r seen,Heap.get_cons];by_cases e:k=i
   ·subst e;rw[if_pos (.inl hk),if_pos (.inl hk)]
   rw[if_neg e]
  |false=>
   have hk:k∉seen:=λh=>by rw[qg.2 h]at hs;cases hs
   rw[UB];have tl:Heap.get (fZ G0 keep r (k::seen)) i=if k=i\/i∈seen\/(G0.has i||kq i keep)=false then none else Heap.get r i:=by
    rw[mY G0 keep i r (k::seen)];by_cases e:k=i
    ·subst e;rw[if_pos (.inl (by simp)),if_pos (.inl rfl)]
    have:(i∈k::seen\/(G0.has i||kq i keep)=false)↔(k=i\/i∈seen\/(G0.has i||kq i keep)=false):=by
     rw[A8,or_assoc];constructor
     ·rintro(h|h)
      ·exact .inl h.symm
      exact .inr h
     rintro(h|h)
     ·exact .inl h.symm
     exact .inr h
    by_cases h2:(k=i\/i∈seen\/(G0.has i||kq i keep)=false)
    ·rw[if_pos h2,if_pos (this.2 h2)]
    rw[if_neg h2,if_neg λh=>h2 (this.1 h)]
   rw[Heap.get_cons];by_cases e:k=i
   ·subst e;rw[if_pos rfl];cases hc:(G0.has k||kq k keep)with
    |true=>rw[UA,Heap.get_cons,if_pos rfl,if_neg (by simp[hk])]
    |false=>rw[UB,tl,if_pos (.inl rfl),if_pos (.inr rfl)]
   rw[if_neg e];have tl':Heap.get (fZ G0 keep r (k::seen)) i=if i∈seen\/(G0.has i||kq i keep)=false then none else Heap.get r i:=by rw[tl];simp only[e,false_or]
   cases hc:(G0.has k||kq k keep)with
   |true=>rw[UA,Heap.get_cons,if_neg e,tl']
   |false=>rw[UB,tl']
theorem Heap.get_none{G:Heap}{i:Nat}(h:G.has i=false):G.get i=none:=by
 cases hg:G.get i with
 |none=>rfl
 |some o=>rw[Heap.has_of_get hg]at h;cases h
theorem tg{G0 pre:Heap}(keep:List Nat)(i:Nat):(∀ o,(fZ G0 keep pre []++G0).get i=some o->(pre++G0).get i=some o)/\(G0.has i=true->(fZ G0 keep pre []++G0).get i=(pre++G0).get i):=by
 rw[Heap.get_append,mY,Heap.get_append];by_cases h:i∈([]:List Nat)\/(G0.has i||kq i keep)=false
 ·rw[if_pos h];rcases h with h|h
  ·cases h
  rw[Lo]at h;refine⟨λo ho=>?_,λhg=>by rw[h.1]at hg;cases hg⟩;dsimp only at ho;rw[Heap.get_none h.1]at ho;cases ho
 rw[if_neg h];exact⟨λo ho=>ho,λ_=>rfl⟩
theorem Heap.pair_mem:∀{G:Heap} {i:Nat} {o:Obj},G.get i=some o->(i,o)∈G
 |[],_,_,h=>by cases h
 |(k,v)::r,i,o,h=>by
  rw[Heap.get_cons]at h;split at h
  ·rename_i e;subst e;cases h;simp
  exact Jq _ (Heap.pair_mem h)
theorem tw {m:Mem}(hi:Inv C w0 M m){Gi:Heap}(hsub:∀ id o,Gi.get id=some o->m.G.get id=some o)(hbox:∀ id l,Gi.get id=some (.box l)->l.all (fun a=>cB Gi a)=true)(hp:nr M ⟨m.w,m.F,m.ι,Gi⟩) :
  Inv C w0 M ⟨m.w,m.F,m.ι,Gi⟩:=by
 refine⟨hi.kept,?_,?_,?_,hi.fro,hi.glob,hi.bnd,hp⟩
 ·intro id o ho;have hr:=hi.objs id o (hsub id o ho);cases o with
  |dead=>trivial
  |arr τ l=>exact hr
  |deep _ _ _ _=>exact hr
  |map _ _ _=>exact hr
  |box l=>obtain⟨b,c,el,h1,h2,h0,h3⟩:=hr;exact⟨b,c,el,h1,h2,h0,fS hsub h3 (hbox id l ho)⟩
 ·intro id o b ho hob hb;exact hi.own id o b (hsub id o ho) hob hb
 intro i j o p b ho hoo hp hop h1 h2;exact hi.inj i j o p b (hsub i o ho) hoo (hsub j p hp) hop h1 h2
end
def mU(key:Nat):List Code->Option Code
 |[]=>none
 |c::r=>cond (A7 (bT c) key) (some c) (mU key r)
def dN(e:Env):Nat->Env->Env
 |0,acc=>acc
 |n+1,acc=>dN e n ((n,e.get n)::acc)
def oD(N:Nat)(G1:Heap)(s:St):St:=
 let e:=dN s.env N []
 let pre:=s.G.take (s.G.length-G1.length)
 let new:=fZ G1 (reach s.G 1000 ((e.flatMap λp=>yL p.2)++pre.flatMap λp=>cond (G1.has p.1) (qy (some p.2)) []) []) pre []
 cond (JK 60 pre.length) (cond ((e.all λp=>iw (new++G1) p.2)&&gh (new++G1) new) { env:=e,G:=new++G1 } { env:=e,G:=s.G }) { env:=e,G:=s.G }
noncomputable def fH(C:Ctx)(l:List Code)(N:Nat):Nat->Option Heap->Loops
 |0,_=>λ_ _ _ _=>none
 |n+1,g=>λkey _ s K=>match mU key l with
  |none=>none
  |some c=>cO C (fH C l N n none) c (λe s'=>match e with
   |.normal=>fH C l N n (some (g.getD s.G)) key _ s' K
   |.exit i=>K (.exit i) s'
   |.ret=>K .ret s') (oD N (g.getD s.G) s)
noncomputable def qA(C:Ctx)(l:List Code)(N n:Nat):Loops:=fH C l N n none
theorem rC{N:Nat}{G1:Heap}{s:St}(h:∃ X,s.G=X++G1):∃ X,(oD N G1 s).G=X++G1:=by
 unfold oD;dsimp only;cases JK 60 (s.G.take (s.G.length-G1.length)).length with
 |false=>exact h
 |true=>
  rw[UA];cases(((dN s.env N []).all λp=>iw (fZ G1 _ _ []++G1) p.2)&&gh (fZ G1 _ _ []++G1) (fZ G1 _ _ []))with
  |true=>exact⟨_,rfl⟩
  |false=>exact h
theorem mt (C:Ctx)(l:List Code)(N:Nat):∀(n:Nat) (g:Option Heap) (key:Nat) (R:Type) (G0:Heap) (s:St) (K K':Ex->St->Option R),(∃ X,s.G=X++g.getD s.G)->(∃ Y,g.getD s.G=Y++G0)->(∀ e,On G0 (K e) (K' e)) ->
  fH C l N n g key R s K=fH C l N n g key R s K'
 |0,_,_,_,_,_,_,_,_,_,_=>rfl
 |n+1,g,key,R,G0,s,K,K',h1,h2,h=>by
  unfold fH;split
  ·rfl
  refine rW (G0:=g.getD s.G) (λkey R G0 s K K' hs h=>mt C l N n none key R G0 s K K' ⟨[],rfl⟩ hs h) _ (rC h1) λe s' hs'=>?_;cases e with
  |normal=>exact mt C l N n (some (g.getD s.G)) key R G0 s' K K' hs' h2 h
  |exit i=>exact h _ s' (dV hs' h2)
  |ret=>exact h _ s' (dV hs' h2)
theorem rg(C:Ctx)(l:List Code)(N n:Nat):LOn (qA C l N n):=λkey R G0 s K K' hs h=>mt C l N n none key R G0 s K K' ⟨[],rfl⟩ hs h
theorem m5(e:Env):∀(n:Nat) (acc:Env) (t:Nat),(dN e n acc).get t=if t<n then e.get t else acc.get t
 |0,acc,t=>by simp[dN]
 |n+1,acc,t=>by
  unfold dN;rw[m5 e n _ t,Env.get_cons];by_cases h1:t<n
  ·rw[if_pos h1,if_pos (by omega)]
  rw[if_neg h1];by_cases h2:n=t
  ·subst h2;rw[if_pos rfl,if_pos (by omega)]
  rw[if_neg h2,if_neg (by omega)]
section
variable {P:Program}{C:Ctx}{w0:World}{M:Own}{N:Nat}{x:Code}{Q:Exit->Act->World->Prop}{a:Act}{w:World}
def sM(P:Program)(x:Code)(Q:Exit->Act->World->Prop)(a:Act)(w:World):Prop:=∀(b:Frame) (k:List Item) (cs:List Frame),∃ e a' w',Q e a' w'/\Arrives P (lone (b.at a (.code x::.inLoop x::k)) cs w) b k cs e a' w'
theorem se(h:x.wp P (Exit.then (sM P x Q) Q) a w):sM P x Q a w:=by
 intro b k cs;obtain⟨e,a₁,w₁,hq,harr⟩:=h b (.inLoop x::k) cs;cases e with
 |normal=>obtain⟨e₂,a₂,w₂,hq₂,harr₂⟩:=hq b k cs;exact⟨e₂,a₂,w₂,hq₂,.of_steps (Steps.trans harr (.one step_inLoop)) harr₂⟩
 |exit id=>exact⟨_,a₁,w₁,hq,.pass (x:=.inLoop x) rfl (λ_ _=>.inl (by simp)) harr⟩
 |goto l=>exact⟨_,a₁,w₁,hq,.pass (x:=.inLoop x) rfl (λ_ _=>.inl (by simp)) harr⟩
 |ret=>exact⟨_,a₁,w₁,hq,.pass (x:=.inLoop x) rfl (λ_ _=>.inl (by simp)) harr⟩
 |panic ch=>exact⟨_,a₁,w₁,hq,.pass (x:=.inLoop x) rfl (λ_ _=>.inl (by simp)) harr⟩
 |outgrown=>exact⟨_,a₁,w₁,hq,.pass (x:=.inLoop x) rfl (λ_ _=>.inl (by simp)) harr⟩
theorem oC(h:sM P x Q a w):(Code.loop x).wp P Q a w:=by intro b k cs;obtain⟨e,a',w',hq,harr⟩:=h b k cs;exact⟨e,a',w',hq,.of_steps (.one step_loop) harr⟩
theorem uL:∀{l:List Code},aH (l.map bT)=true->∀{x:Code},x∈l->mU (bT x) l=some x
 |d::r,hn,x,hx=>by
  simp only[List.map_cons,aH,np,Jw,List.any_eq_false]at hn;unfold mU;rcases A8.1 hx with rfl|hx
  ·rw[show A7 (bT x) (bT x)=true from Nat.beq_refl _];rfl
  have:=hn.1 (bT x) (List.mem_map_of_mem hx);rw[Bool.not_eq_true]at this;rw[this];exact uL hn.2 hx
theorem o7{G:Heap}{v:SV}:∀{e:Env} {t:Nat},(∀ p∈e,iw G p.2=true)->Env.get e t=v->iw G v=true
 |[],t,_,h=>by subst h;rfl
 |(k,x)::r,t,ha,h=>by
  rw[Env.get_cons]at h;split at h
  ·subst h;exact ha (k,x) (by simp)
  exact o7 (λp hp=>ha p (Jq _ hp)) h
theorem DG {a:Act}{m m1:Mem}{s:St}{G1:Heap}(hi1:Inv C w0 M m1)(hG1:m1.G=G1)(hs:Sim C w0 M N a m s.env)(hG:m.G=s.G)(hsuf:∃ X,s.G=X++G1) :
  ∃ m',m'.w=m.w/\m'.G=(oD N G1 s).G/\Sim C w0 M N a m' (oD N G1 s).env:=by
 have he:∀ t,RelSV m (a.tmps.getD t undef) ((dN s.env N []).get t):=λt=>by
  rw[m5];split
  ·exact hs.env t
  trivial
 have plain:∃ m',m'.w=m.w/\m'.G=s.G/\Sim C w0 M N a m' (dN s.env N []):=⟨m,rfl,hG,hs.inv,hs.defers,hs.size,he⟩;obtain⟨pre,hpre⟩:=hsuf;have hp:s.G.take (s.G.length-G1.length)=pre:=by rw[hpre,JE,Me];exact KF
 unfold oD;rw[hp];dsimp only;generalize hkeep:reach s.G 1000 ((dN s.env N []).flatMap (λp=>yL p.2)++pre.flatMap λp=>cond (G1.has p.1) (qy (some p.2)) []) []=keep;cases JK 60 pre.length with
 |false=>exact plain
 |true=>
  rw[UA];cases hc:(((dN s.env N []).all λp=>iw (fZ G1 keep pre []++G1) p.2)&&gh (fZ G1 keep pre []++G1) (fZ G1 keep pre []))with
  |false=>exact plain
  |true=>
   rw[UA];rw[np]at hc;have hget:=λi=>tg (G0:=G1) (pre:=pre) keep i;have hsub:∀ id o,(fZ G1 keep pre []++G1).get id=some o->m.G.get id=some o:=λid o ho=>by rw[hG,hpre];exact(hget id).1 o ho
   have hold:∀ id,G1.has id=true->(fZ G1 keep pre []++G1).get id=m.G.get id:=λid h=>by rw[(hget id).2 h,hG,hpre]
   have hbox:∀ id l,(fZ G1 keep pre []++G1).get id=some (.box l)->l.all (λa=>cB (fZ G1 keep pre []++G1) a)=true:=by
    intro id l hl;rw[B5];intro at' ha';rw[Heap.get_append]at hl;split at hl
    ·rename_i o hx;cases hl;have h2:=hc.2;unfold gh at h2;rw[B5]at h2;exact B5.1 (h2 _ (Heap.pair_mem hx)) at' ha'
    obtain⟨b,c,el,_,_,_,hr3⟩:=hi1.objs id _ (by rw[hG1];exact hl);have hh:=gq hr3 at' ha';refine jW (λi hg=>?_) hh;rw[hG1]at hg;obtain⟨o,ho⟩:=Heap.get_of_has hg;have:(fZ G1 keep pre []++G1).get i=m.G.get i:=hold i hg;cases hx:(fZ G1 keep pre []++G1).get i with
    |some o'=>exact Heap.has_of_get hx
    |none=>
     rw[Heap.get_append]at hx;split at hx
     ·cases hx
     rw[ho]at hx;cases hx
   have hpins:nr M ⟨m.w,m.F,m.ι,fZ G1 keep pre []++G1⟩:=by
    refine⟨λi v hv=>?_,λm0 h0=>?_⟩
    ·obtain⟨o1,k1,_⟩:=hi1.pin.1 i v hv;obtain⟨o,k2,k3⟩:=hs.inv.pin.1 i v hv;exact⟨o,(hold i (by rw[<- hG1];exact Heap.has_of_get k1)).trans k2,k3⟩
    have e0:=hs.inv.pin.2 m0 h0;have e1:=hi1.pin.2 m0 h0;refine⟨e0.fro,λid o ho=>?_⟩;obtain⟨o1,k1,_⟩:=e1.get id o ho;obtain⟨o',k2,k3⟩:=e0.get id o ho;exact⟨o',(hold id (by rw[<- hG1];exact Heap.has_of_get k1)).trans k2,k3⟩
   refine⟨⟨m.w,m.F,m.ι,fZ G1 keep pre []++G1⟩,rfl,rfl,tw hs.inv hsub hbox hpins,hs.defers,hs.size,λt=>?_⟩;refine px hsub (he t) ?_;have:=hc.1;rw[B5]at this;cases hm:Env.get (dN s.env N []) t with
   |av x=>exact o7 this hm
   |agg x=>exact o7 this hm
   |tup x=>exact o7 this hm
theorem rx(hC:CtxOK P C)(hD:gE P){body:Code}(hd:dc N body=true)(hn:aH ((aG body).map bT)=true):∀ n,∀ x∈aG body,ll P C w0 M N (qA C (aG body) N n) x:=by
 have key:∀ n,∀ x∈aG body,∀{R:Type} {res:R} {K:Ex->St->Option R} {Q:Exit->Act->World->Prop} {s:St} {a:Act} {m:Mem} (g:Option Heap) (m1:Mem),Inv C w0 M m1->m1.G=g.getD s.G->(∃ X,s.G=X++g.getD s.G) ->
   Sim C w0 M N a m s.env->m.G=s.G->fH C (aG body) N n g (bT x) R s K=some res ->
   (∀ e s' a' m',K e s'=some res->m'.G=s'.G->Sim C w0 M N a' m' s'.env->Q (oc e) a' m'.w)->sM P x Q a m.w:=by
  intro n;induction n with
  |zero=>intro x _ R res K Q s a m g m1 _ _ _ _ _ h _;cases h
  |succ n ih=>
   intro x hx R res K Q s a m g m1 hi1 hG1 hsuf hs hG h hQ;unfold fH at h;rw[uL hn hx]at h;dsimp only at h;obtain⟨_,h2,h3⟩:=fq (N:=N) hx;obtain⟨m2,e1,e2,e3⟩:=DG hi1 hG1 hs hG hsuf;rw[<- e1]
   open Classical in
   have h':cO C (fH C (aG body) N n none) x (fun e s'=>if ∃ X,s'.G=X++g.getD s.G then (match e with
     |.normal=>fH C (aG body) N n (some (g.getD s.G)) (bT x) R s' K
     |.exit i=>K (.exit i) s'
     |.ret=>K .ret s')else none) (oD N (g.getD s.G) s)=some res:=by
    rw[<- h];refine rW (G0:=g.getD s.G) (rg C _ N n) x (rC hsuf) λe s' hs'=>?_;rw[if_pos hs']
   refine se (kR (s:=oD N (g.getD s.G) s) hC hD x (λy hy=>by intro R res K Q s a m hs hG h hQ;exact oC (ih y (h2 y hy) none m hs.inv hG ⟨[],rfl⟩ hs hG h hQ)) (h3 hd) e3 e2 h' ?_);intro e s' a' m' k1 k2 k3;split at k1
   ·rename_i hsuf';cases e with
    |normal=>exact ih x hx (some (g.getD s.G)) m1 hi1 hG1 hsuf' k3 k2 k1 hQ
    |exit i=>exact hQ (.exit i) s' a' m' k1 k2 k3
    |ret=>exact hQ .ret s' a' m' k1 k2 k3
   cases k1
 intro n x hx R res K Q s a m hs hG h hQ;exact oC (key n x hx none m hs.inv hG ⟨[],rfl⟩ hs hG h hQ)
end
structure Hint where
 frz:List Nat:=[]
 deep:List Nat:=[]
 light:List Nat:=[]
 hold:List (Nat×Nat):=[]
 vars:List Nat:=[]
 min:Bool:=false
def CE:SV->Option (Bool×List Atom)
 |.agg l=>some (true,l)
 |.av (.val τ x)=>cond τ.isAgg (some (true,da τ x)) (some (false,[.val τ x]))
 |.av a=>some (false,[a])
 |.tup _=>none
def mW:List SV->Option (List (Bool×List Atom))
 |[]=>some []
 |v::r=>match CE v,mW r with
  |some c,some l=>some (c::l)
  |_,_=>none
def Ek:List SV->Option SV
 |[v]=>some v
 |l=>match mW l with
  |some c=>some (.tup c)
  |none=>none
def rZ(T:Tab)(s:St):List ResultVar->Option (List SV)
 |[]=>some []
 |v::r=>match(match v with
  |.tmp t=>some (s.env.get t)
  |.cell x t=>match T.get t with
   |some τ=>cond τ.isClo none (fU s (.cell x t) τ)
   |none=>none),rZ T s r with
  |some sv,some l=>some (sv::l)
  |_,_=>none
def gb(G0:Heap)(s:St)(sv:SV):Heap:=
 let pre:=s.G.take (s.G.length-G0.length)
 fZ G0 (reach s.G 1000 (yL sv++pre.flatMap λp=>cond (G0.has p.1) (qy (some p.2)) []) []) pre []
def nH(T:Tab)(rs:List ResultVar)(G0:Heap)(s:St):Option (SV×Heap):=
 match rZ T s rs with
 |some svs=>match Ek svs with
  |some sv=>cond (iw (gb G0 s sv++G0) sv&&gh (gb G0 s sv++G0) (gb G0 s sv)) (some (sv,gb G0 s sv)) none
  |none=>none
 |none=>none
def ut:Nat->List SV->Env
 |_,[]=>[]
 |n,v::r=>(n,v)::ut (n+1) r
def By (fn : Func) (body : Code) : Bool := !(fn.name == "runtime.NumGoroutine") && dc fn.ntmps body && aH ((aG body).map bT)
abbrev CX:=Nat->Option Hint
def iT:List (Nat×Hint)->CX
 |[],_=>none
 |p::r,f=>cond (A7 p.1 f) (some p.2) (iT r f)
noncomputable section
variable (P:Program)(C:Ctx)(H:CX)
def wb(run:Nat->Heap->List SV->Option (SV×Heap))(h:Hint):Ctx:={ C with frz:=h.frz,deep:=h.deep,light:=h.light,hold:=h.hold,vars:=h.vars,min:=h.min,inl:=λg=>match H g with
 |some _=>some (run g)
 |none=>C.inl g }
def yA(run:Nat->Heap->List SV->Option (SV×Heap))(h:Hint)(fn:Func)(body:Code)(G:Heap)(vs:List SV):Option (SV×Heap):=
 cO (wb C H run h) (qA (wb C H run h) (aG body) fn.ntmps 400) body (λe s=>match e with
  |.exit _=>none
  |.normal=>nH C.tab fn.results.toList G s
  |.ret=>nH C.tab fn.results.toList G s) { env:=ut 0 vs,G:=G }
def nN:Nat->Nat->Heap->List SV->Option (SV×Heap)
 |0,_,_,_=>none
 |n+1,f,G,vs=>match H f with
  |none=>none
  |some h=>match P.funcs[f]? with
   |none=>none
   |some fn=>match fn.body with
    |none=>none
    |some body=>yA C H (nN n) h fn body G vs
end
def mV(P:Program)(l:List (Nat×Hint)):Bool:=l.all λp=>match P.funcs[p.1]? with
 |some fn=>(match fn.body with
  |some body=>By fn body
  |none=>false)
 |none=>false
section
variable {P:Program}{C:Ctx}{w0:World}{M:Own}{m:Mem}
theorem zQ {G0 pre:Heap}{s:St}{sv:SV}(hs:s.G=pre++G0)(i:Nat) :
  (∀ o,(gb G0 s sv++G0).get i=some o->s.G.get i=some o)/\(G0.has i=true->(gb G0 s sv++G0).get i=s.G.get i):=by
 have hp:s.G.take (s.G.length-G0.length)=pre:=by rw[hs,JE,Me];exact KF
 unfold gb;rw[hp];dsimp only;rw[Heap.get_append,mY,hs,Heap.get_append];by_cases h:i∈([]:List Nat)\/(G0.has i||kq i (reach (pre++G0) 1000 (yL sv++pre.flatMap λp=>cond (G0.has p.1) (qy (some p.2)) []) []))=false
 ·rw[if_pos h];rcases h with h|h
  ·cases h
  rw[Lo]at h;refine⟨λo ho=>?_,λhg=>by rw[h.1]at hg;cases hg⟩;dsimp only at ho;rw[Heap.get_none h.1]at ho;cases ho
 rw[if_neg h];exact⟨λo ho=>ho,λ_=>rfl⟩
theorem vC{u:Value}:∀{sv:SV} {c:Bool×List Atom},RelSV m u sv->CE sv=some c->eW m u c
 |.agg l,c,h,hc=>by cases hc;exact h
 |.av (.val τ x),c,h,hc=>by
  obtain⟨cs,rfl,hr⟩:=h;have hc:cond τ.isAgg (some (true,da τ x)) (some (false,[.val τ x]))=some c:=hc;cases ha:τ.isAgg with
  |true=>
   rw[ha]at hc;cases hc
   exact⟨cs,by simp[toV,ha],hr.one,bm hr⟩
  |false=>
   rw[ha]at hc;cases hc
   obtain⟨v,rfl,_⟩:=hr.single ha;exact⟨_,rfl,by simpa[toV,ha]using hr,ha⟩
 |.av .u,c,h,hc=>by cases hc;exact⟨_,rfl,trivial⟩
 |.av .undef,c,h,hc=>by cases hc;exact⟨_,rfl,h⟩
 |.av (.nils _),c,h,hc=>by cases hc;exact⟨_,rfl,h⟩
 |.av (.own _),c,h,hc=>by cases hc;exact⟨_,rfl,h⟩
 |.av (.view _ _ _),c,h,hc=>by cases hc;exact⟨_,rfl,h⟩
 |.av (.ptr _ _),c,h,hc=>by cases hc;exact⟨_,rfl,h⟩
 |.av (.aptr _ _ _),c,h,hc=>by cases hc;exact⟨_,rfl,h⟩
 |.av (.clo _ _),c,h,hc=>by cases hc;exact⟨_,rfl,h⟩
 |.av (.cut _ _ _),c,h,hc=>by cases hc;exact⟨_,rfl,h⟩
 |.av (.bnd _ _),c,h,hc=>by cases hc;exact⟨_,rfl,h⟩
 |.av (.ownd _),c,h,hc=>by cases hc;exact⟨_,rfl,h⟩
 |.av (.sub _ _ _),c,h,hc=>by cases hc;exact⟨_,rfl,h⟩
 |.av (.saptr _ _ _ _),c,h,hc=>by cases hc;exact⟨_,rfl,h⟩
 |.av (.ownm _),c,h,hc=>by cases hc;exact⟨_,rfl,h⟩
 |.av (.iptr _ _ _ _ _),c,h,hc=>by cases hc;exact⟨_,rfl,h⟩
 |.tup _,_,_,hc=>by cases hc
theorem oM:∀{us:List Value} {svs:List SV} {c:List (Bool×List Atom)},Rel2 (RelSV m) us svs->mW svs=some c->Rel2 (eW m) us c
 |[],[],c,_,hc=>by cases hc;trivial
 |[],_::_,_,h,_=>h.elim
 |_::_,[],_,h,_=>h.elim
 |u::us,v::r,c,h,hc=>by
  unfold mW at hc;split at hc
  ·rename_i c1 l1 h1 h2;cases hc;exact⟨vC h.1 h1,oM h.2 h2⟩
  cases hc
theorem u9{us:List Value}{svs:List SV}{sv:SV}(h:Rel2 (RelSV m) us svs)(hj:Ek svs=some sv):RelSV m (eL us) sv:=by
 have many (hj:(match mW svs with|some c=>some (SV.tup c)|none=>none)=some sv) (ho:eL us=.tuple us.toArray):RelSV m (eL us) sv:=by
  split at hj
  ·rename_i c hc;cases hj;exact⟨us,ho,oM h hc⟩
  cases hj
 match us,svs,h with
 |[],[],_=>exact many hj rfl
 |[u],[v],h=>cases hj;exact h.1
 |_::_::_,_::_::_,_=>exact many hj rfl
theorem pu {N:Nat}{a:Act}{s:St}(hT:cb P C.tab=true)(hs:Sim C w0 M N a m s.env)(hG:m.G=s.G):∀{rs:List ResultVar} {svs:List SV},rZ C.tab s rs=some svs ->
  ∃ us:List Value,(rs.mapM (mX a)).run P m.w=.ok us m.w/\Rel2 (RelSV m) us svs
 |[],svs,h=>by cases h;exact⟨[],by simp,trivial⟩
 |v::r,svs,h=>by
  unfold rZ at h;split at h
  ·rename_i sv l h1 h2;cases h;have one:∃ u,(mX a v).run P m.w=.ok u m.w/\RelSV m u sv:=by
    cases v with
    |tmp t=>cases h1;exact⟨_,by simp[mX],hs.env t⟩
    |cell x t=>
     dsimp only at h1;split at h1
     ·rename_i τ hτ;cases hcl:τ.isClo with
      |true=>rw[hcl]at h1;cases h1
      |false=>rw[hcl]at h1;exact pi hs hG h1 (aj hT hτ hcl)
     cases h1
   obtain⟨u,r1,r2⟩:=one;obtain⟨us,q1,q2⟩:=pu hT hs hG h2;exact⟨u::us,by simp[List.mapM_cons,Sem.run_bind,r1,q1,Result.andThen],r2,q2⟩
  cases h
theorem uR:∀(n:Nat) (vs:List SV) (t:Nat),(ut n vs).get t=if n<=t then(vs[t-n]?).getD (.av .u)else .av .u
 |n,[],t=>by simp[ut,Env.get_nil0,Env.get_pair]
 |n,v::r,t=>by
  unfold ut;rw[Env.get_cons,uR (n+1) r t];by_cases e:n=t
  ·subst e;simp
  rw[if_neg e];by_cases h:n<=t
  ·rw[if_pos h,if_pos (by omega),show t-n=(t-(n+1))+1 by omega];simp
  rw[if_neg h,if_neg (by omega)]
theorem vQ (hC:CtxOK P C)(hD:gE P){H:CX}{run:Nat->Heap->List SV->Option (SV×Heap)}(hr:∀ g h,H g=some h->km P C.glob g (run g)){f:Nat}{fn:Func}{body:Code}(hf:P.funcs[f]?=some fn)(hb:fn.body=some body)(hok:By fn body=true)(h:Hint) :
  km P C.glob f (yA C H run h fn body):=by
 intro C1 w0 M m us vs sv X hglob hi hrel hrun;simp only [By,np,Jw] at hok;obtain ⟨⟨hn,hd⟩,hkeys⟩:=hok;have hn' : ¬ fn.name = "runtime.NumGoroutine" := by simpa using hn
 let C2:=wb C H run h
 have hC2:CtxOK P C2:=⟨hC.tab,hC.eqs,hC.maps,hC.con,λg r hg=>by
  have hg:(match H g with|some _=>some (run g)|none=>C.inl g)=some r:=hg;split at hg
  ·rename_i h' hh;cases hg;exact hr g h' hh
  exact hC.inl g r hg⟩
 let M2:Own:=⟨M.wr,M.rd,M.pin,some m⟩
 have hi2:Inv C2 w0 M2 m:=⟨hi.kept,hi.objs,hi.own,hi.inj,hi.fro,λg τ x hx=>hi.glob g τ x (by rw[hglob];exact hx),hi.bnd,hi.pin.1,λm0 h0=>by cases h0;exact Evo.refl m⟩;refine .inl ⟨by simp[callFunc,hf,hn',hb],?_⟩;refine calls_of_wp hf hb ?_;have hs:Sim C2 w0 M2 fn.ntmps { tmps:=us.toArray++KZ (fn.ntmps-us.toArray.size) undef,defers:=[] } m (ut 0 vs):=by
  refine⟨hi2,rfl,by simp;omega,λt=>?_⟩;rw[uR,if_pos (Nat.zero_le _),Nat.sub_zero];cases hv:vs[t]? with
  |none=>trivial
  |some v=>
   obtain⟨u,h1,h2⟩:=hrel.get hv;have:(us.toArray++KZ (fn.ntmps-us.toArray.size) undef).getD t undef=u:=by have hlt:=(List.getElem?_eq_some_iff.1 h1).1;rw[Array.getD_eq_getD_getElem?,Array.getElem?_append_left (by simpa using hlt)];simp[h1]
   rw[this];exact h2
 -- what goes on behind is asked of memories that grew at their head alone
 open Classical in
 let K (e:Ex) (s:St):Option (SV×Heap):=match e with
  |.exit _=>none
  |.normal=>nH C.tab fn.results.toList m.G s
  |.ret=>nH C.tab fn.results.toList m.G s
 open Classical in
 have hrun':cO C2 (qA C2 (aG body) fn.ntmps 400) body (λe s=>if(∃ X,s.G=X++m.G)then K e s else none) { env:=ut 0 vs,G:=m.G }=some (sv,X):=by rw[<- hrun];refine rW (G0:=m.G) (rg C2 _ _ _) body ⟨[],rfl⟩ λe s' hs'=>?_;rw[if_pos hs']
 have fin {s':St} {a':Act} {m':Mem} (hsuf:∃ X,s'.G=X++m.G) (h1:nH C.tab fn.results.toList m.G s'=some (sv,X)) (h2:m'.G=s'.G) (h3:Sim C2 w0 M2 fn.ntmps a' m' s'.env) :
   a'.defers=[]/\∃ v,(Go.results fn a'.tmps).run P m'.w=.ok v m'.w/\∃ v',Ending.returned v=.returned v'/\∃ m'',m''.w=m'.w/\m''.G=X++m.G/\Inv C1 w0 M m''/\Evo m m''/\RelSV m'' v' sv:=by
  unfold nH at h1;split at h1
  ·rename_i svs hsv;split at h1
   ·rename_i sv' hj;cases hc:(iw (gb m.G s' sv'++m.G) sv'&&gh (gb m.G s' sv'++m.G) (gb m.G s' sv'))with
    |false=>rw[hc]at h1;cases h1
    |true=>
     rw[hc]at h1;cases h1;rw[np]at hc;obtain⟨vals,r1,r2⟩:=pu (P:=P) (C:=C2) hC.tab h3 h2 hsv;obtain⟨pre,hpre⟩:=hsuf;have hget:=λi=>zQ (sv:=sv) hpre i;have hsub:∀ id o,(gb m.G s' sv++m.G).get id=some o->m'.G.get id=some o:=λid o ho=>by rw[h2];exact(hget id).1 o ho
     have hevo:Evo m m':=h3.inv.pin.2 m rfl;have hevo2:Evo m ⟨m'.w,m'.F,m'.ι,gb m.G s' sv++m.G⟩:=⟨hevo.fro,λid o ho=>by
      obtain⟨o',k1,k2⟩:=hevo.get id o ho;exact⟨o',by show(gb m.G s' sv++m.G).get id=_;rw[(hget id).2 (Heap.has_of_get ho),<- h2];exact k1,k2⟩⟩
     have hpins:nr M ⟨m'.w,m'.F,m'.ι,gb m.G s' sv++m.G⟩:=bI hevo2 hi.pin;have hinv:Inv C1 w0 M m'->Inv C1 w0 M ⟨m'.w,m'.F,m'.ι,gb m.G s' sv++m.G⟩:=λhi'=>by
      refine tw hi' hsub (λid l hl=>?_) hpins;rw[Heap.get_append]at hl;rw[B5];intro at' ha';split at hl
      ·rename_i o hx;cases hl;obtain⟨p,hp1,hp2⟩:∃ p∈gb m.G s' sv,p=(id,Obj.box l):=by
        have:∀{G:Heap} {i:Nat} {o:Obj},G.get i=some o->(i,o)∈G:=by
         intro G;induction G with
         |nil=>intro i o h;cases h
         |cons q r ih=>
          intro i o h;obtain⟨k,v⟩:=q;rw[Heap.get_cons]at h;split at h
          ·rename_i e;subst e;cases h;simp
          exact Jq _ (ih h)
        exact⟨_,this hx,rfl⟩
       have:=hc.2;unfold gh at this;rw[B5]at this;have:=this p hp1;rw[hp2]at this;exact B5.1 this at' ha'
      obtain⟨b,c,el,_,_,_,hr3⟩:=hi.objs id _ hl;have hh:=gq hr3 at' ha';exact jW (λi hg=>by
       obtain⟨o,ho⟩:=Heap.get_of_has hg;obtain⟨o',k1,_⟩:=hevo2.get i o ho;exact Heap.has_of_get k1) hh
     refine⟨h3.defers,eL vals,?_,_,rfl,⟨m'.w,m'.F,m'.ι,gb m.G s' sv++m.G⟩,rfl,rfl,hinv ?_,hevo2,px hsub (u9 r2 hj) hc.1⟩
     ·have hf':Go.results fn a'.tmps=(do let vs <- fn.results.mapM (mX a');pure (if h:vs.size=1 then vs[0]else .tuple vs)):=by unfold Go.results;congr 1
      have hrun:(Go.results fn a'.tmps).run P m'.w=((fn.results.toList.mapM (mX a')).run P m'.w).andThen λvs w'=>.ok (eL vs) w':=by
       rw[hf'];simp only[Array.mapM_eq_mapM_toList,Sem.run_bind,map_eq_pure_bind,bind_assoc,pure_bind,Sem.run_pure];congr 1;funext l w';match l with
       |[]=>rfl
       |[u]=>rfl
       |_::_::_=>simp[eL]
      rw[hrun,r1];rfl
     exact⟨h3.inv.kept,h3.inv.objs,h3.inv.own,h3.inv.inj,h3.inv.fro,λg τ x hx=>h3.inv.glob g τ x (by rw[hglob]at hx;exact hx),h3.inv.bnd,λi v hv=>h3.inv.pin.1 i v hv,λmb hb'=>(hi.pin.2 mb hb').trans hevo⟩
   cases h1
  cases h1
 refine kR (s:={ env:=ut 0 vs,G:=m.G }) hC2 hD body (rx hC2 hD hd hkeys 400) hd hs rfl hrun' ?_;intro e s' a' m' h1 h2 h3;split at h1
 ·rename_i hsuf;cases e with
  |normal=>exact fin hsuf h1 h2 h3
  |exit i=>cases h1
  |ret=>exact fin hsuf h1 h2 h3
 cases h1
theorem nP(hC:CtxOK P C)(hD:gE P){l:List (Nat×Hint)}(hl:mV P l=true):∀ n f,km P C.glob f (nN P C (iT l) n f)
 |0,f=>λC1 w0 M m us vs sv X _ _ _ h=>by cases h
 |n+1,f=>by
  have ih:=nP hC hD hl n;intro C1 w0 M m us vs sv X h1 h2 h3 h;unfold nN at h;split at h
  ·cases h
  rename_i hh hhint;have hmem:∀{l:List (Nat×Hint)} {f:Nat} {h:Hint},iT l f=some h->(f,h)∈l:=by
   intro l;induction l with
   |nil=>intro f h e;cases e
   |cons p r ih=>
    intro f h e;unfold iT at e;cases hk:A7 p.1 f with
    |true=>rw[hk]at e;cases e;rw[<- A3 hk];simp
    |false=>rw[hk]at e;exact Jq _ (ih e)
  have hck:=B5.1 hl _ (hmem hhint);split at h
  ·cases h
  rename_i fn hf;simp only[hf]at hck;split at h
  ·cases h
  rename_i body hb;simp only[hb]at hck;exact vQ hC hD (λg _ _=>ih g) hf hb hck hh C1 w0 M m us vs sv X h1 h2 h3 h
end
end
end Go.Vm
