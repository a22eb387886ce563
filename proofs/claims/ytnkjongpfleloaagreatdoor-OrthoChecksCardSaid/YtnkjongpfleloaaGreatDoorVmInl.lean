/-
 A call without shapes: loops round by round, calls in their place; what it comes to is what the call comes to.
-/
import Derived.Test.YtnkjongpfleloaaGreatDoorVmPack
open Bool renaming and_eq_true->np,not_eq_true'->L7,or_eq_false_iff->Sj
open Nat renaming eq_of_beq_eq_true->xy,beq->A3,ble->RD,add_sub_cancel->TC
open List renaming mem_cons->A6,all_eq_true->A9,mem_cons_of_mem->RB,length_append->RT,take_left->SF
open Array renaming replicate->SR
set_option linter.unusedVariables false
set_option linter.unusedSimpArgs false
namespace Go.Vm
noncomputable section
section
variable {C:Ctx}{s:St}{R:Type}{G0:Heap}
def On(G0:Heap)(K K':St->Option R):Prop:=∀ s',(∃ X,s'.G=X++G0)->K s'=K' s'
theorem oM{α:Type}{b:Bool}{x y x' y':α}(h:x=x')(k:y=y'):cond b x y=cond b x' y':=by rw[h,k]
theorem gO{A B D:Heap}(h:∃ X,A=X++B)(k:∃ X,B=X++D):∃ X,A=X++D:=by obtain⟨X,rfl⟩:=h;obtain⟨Y,rfl⟩:=k;exact⟨X++Y,by simp⟩
theorem uA{o:Oper}{K K':St->Option R}(hs:∃ X,s.G=X++G0)(h:On G0 K K'):bj C o s K=bj C o s K':=by
 by_cases hb:∀ op xt x y yt,o.op≠.binOp op xt x y yt
 ·rw[lT hb,lT hb (K:=K')];cases hr:bj C o s some with
  |none=>rfl
  |some s'=>exact h s' (gO (oG o s' hr) hs)
 simp only[Classical.not_forall,Classical.not_not]at hb;obtain⟨op,xt,x,y,yt,ho⟩:=hb;have e:∀ v,K (ah o.dst v s)=K' (ah o.dst v s):=λv=>h _ (by cases o.dst<;>exact hs);simp only[aB];unfold aQ;rw[ho];simp only[e]
theorem wX(o:Oper)(s:St):∃ X,(im C o s).G=X++s.G:=by
 unfold im;split
 ·exact⟨[],rfl⟩
 exact eD (G0:=s.G) (xM C o s) ⟨eo s.G (xM C o s) s.G,rfl⟩
theorem xa(id:Nat)(s:St):∃ X,(oe C id s).G=X++s.G:=by
 unfold oe;cases C.frz.any λi=>A3 i id with
 |false=>exact⟨[],rfl⟩
 |true=>exact eD (G0:=s.G) _ ⟨eo s.G _ s.G,rfl⟩
theorem ou(all:List Oper):∀{l:List Oper} {s:St} {K K':St->Option R},(∃ X,s.G=X++G0)->On G0 K K'->dG C all l s K=dG C all l s K'
 |[],s,K,K',hs,h=>h s hs
 |o::r,s,K,K',hs,h=>by
  have run:∀ s1:St,s1.G=s.G->bj C o (im C o s1) (λs'=>dG C all r s' K)=bj C o (im C o s1) (λs'=>dG C all r s' K'):=λs1 e=>
   uA (gO (wX o s1) (e▸hs)) λs' hs'=>ou all hs' h
  have skip:∀ s1:St,s1.G=s.G->dG C all r (ah o.dst (.av .undef) s1) K=dG C all r (ah o.dst (.av .undef) s1) K':=λs1 e=>
   ou all (by cases o.dst<;>exact e▸hs) h
  simp only[dG];split
  ·exact run s rfl
  split
  ·rfl
  split
  ·exact oM (oM (run _ rfl) (skip _ rfl)) (oM (skip _ rfl) (run _ rfl))
  ·exact skip _ rfl
  rfl
theorem uj(all:List Oper)(kd:Nat->Bool):∀{l:List Oper} {i:Nat} {e:Env} {G:Heap} {K K':Env->Heap->Option R},(∃ X,G=X++G0)->(∀ e G,(∃ X,G=X++G0)->K e G=K' e G)->mJ C all kd i l e G K=mJ C all kd i l e G K'
 |[],i,e,G,K,K',hs,h=>h e G hs
 |o::r,i,e,G,K,K',hs,h=>by
  have run:∀ e':Env,cond (jl C o (dT all o e')) (bj C o { env:=dT all o e',G:=G } (fun s'=>cond (!kd i || ic C G s'.G) (mJ C all kd (i+1) r (ah o.dst (s'.env.get (o.dst.getD 0)) { env:=e',G:=[] }).env s'.G K) none)) none
    = cond (jl C o (dT all o e')) (bj C o { env:=dT all o e',G:=G } (λs'=>cond (!kd i||ic C G s'.G) (mJ C all kd (i+1) r (ah o.dst (s'.env.get (o.dst.getD 0)) { env:=e',G:=[] }).env s'.G K') none)) none:=λe'=>
   oM (uA hs λs' hs'=>oM (uj all kd hs' h) rfl) rfl
  have skip:∀ e':Env,mJ C all kd (i+1) r e' G K=mJ C all kd (i+1) r e' G K':=λe'=>uj all kd hs h;simp only[mJ];split
  ·exact run e
  split
  ·rfl
  split
  ·exact oM (oM (run _) (skip _)) (oM (skip _) (run _))
  ·exact skip _
  rfl
theorem sE:∀(N:List (Nat×Heap)) (G:Heap),∃ X,N.foldr (λp G=>p.2++G) G=X++G
 |[],G=>⟨[],rfl⟩
 |p::r,G=>by obtain⟨X,hX⟩:=sE r G;exact⟨p.2++X,by rw[List.foldr_cons,hX,List.append_assoc]⟩
theorem wu{lt:Bool}{all:List Oper}{K K':St->Option R}(hs:∃ X,s.G=X++G0)(h:On G0 K K'):ke C lt all s K=ke C lt all s K':=by unfold ke;dsimp only;congr 1;congr 1;funext e N;rw[uj all _ (gO (sE N s.G) hs) λe' G' hG'=>h { env:=e',G:=G' } hG']
def LOn(L:Loops):Prop:=∀(key:Nat) (R:Type) (G0:Heap) (s:St) (K K':Ex->St->Option R),(∃ X,s.G=X++G0)->(∀ e,On G0 (K e) (K' e))->L key R s K=L key R s K'
theorem tZ{L:Loops}(hL:LOn L):∀(c:Code) {s:St} {K K':Ex->St->Option R},(∃ X,s.G=X++G0)->(∀ e,On G0 (K e) (K' e))->dd C L c K s=dd C L c K' s:=by
 intro c;induction c with
 |skip=>intro s K K' hs h;exact h _ s hs
 |region id ops d=>intro s K K' hs h;simp only[dd];rw[ou _ hs (h .normal),wu (gO (xa id s) hs) (h .normal)]
 |seq a b iha ihb=>
  intro s K K' hs h;simp only[dd];split
  ·rename_i s1 hmin;refine h .normal s1 ?_;cases hm:C.min with
   |false=>rw[hm]at hmin;cases hmin
   |true=>rw[hm]at hmin;rw[(ry hmin).2];exact hs
  refine iha hs λe s' hs'=>?_;cases e with
  |normal=>exact ihb hs' h
  |exit i=>exact h _ s' hs'
  |ret=>exact h _ s' hs'
 |cond x a b iha ihb=>
  intro s K K' hs h;simp only[dd];split
  ·rw[iha hs h,ihb hs h]
  rfl
 |block id a ih=>
  intro s K K' hs h;simp only[dd];refine ih hs λe s' hs'=>?_;cases e with
  |normal=>exact h _ s' hs'
  |exit i=>dsimp only;rw[h .normal s' hs',h (.exit i) s' hs']
  |ret=>exact h _ s' hs'
 |loop a _=>intro s K K' hs h;exact hL _ R G0 s K K' hs h
 |exit id=>intro s K K' hs h;exact h _ s hs
 |ret=>intro s K K' hs h;exact h _ s hs
 |_=>intro s K K' hs h;rfl
end
def pn:Atom->List Nat
 |.own i=>[i]
 |.view i _ _=>[i]
 |.ptr i _=>[i]
 |.aptr i _ _=>[i]
 |.clo _ c=>c
 |.cut i _ _=>[i]
 |.ownd i=>[i]
 |.sub i _ _=>[i]
 |.saptr i _ _ _=>[i]
 |.iptr i _ _ _ _=>[i]
 |.ownm i=>[i]
 |_=>[]
def za:SV->List Nat
 |.av a=>pn a
 |.agg l=>l.flatMap pn
 |.tup l=>l.flatMap λp=>p.2.flatMap pn
def pO:Option Obj->List Nat
 |some (.box l)=>l.flatMap pn
 |_=>[]
def kI(i:Nat):List Nat->Bool
 |[]=>false
 |j::r=>cond (A3 i j) true (kI i r)
noncomputable def sx(G:Heap):Nat->List Nat->List Nat->List Nat
 |0,_,acc=>acc
 |_+1,[],acc=>acc
 |n+1,i::r,acc=>cond (kI i acc) (sx G n r acc) (sx G n (pO (G.get i)++r) (i::acc))
noncomputable def gn(G0:Heap)(keep:List Nat):Heap->List Nat->Heap
 |[],_=>[]
 |p::r,seen=>cond (kI p.1 seen) (gn G0 keep r seen) (cond (G0.has p.1||kI p.1 keep) (p::gn G0 keep r (p.1::seen)) (gn G0 keep r (p.1::seen)))
section
variable {P:Program}{C:Ctx}{w0:World}{M:Own}{m:Mem}
theorem qk{i:Nat}:∀{l:List Nat},kI i l=true↔i∈l
 |[]=>by simp[kI]
 |j::r=>by
  unfold kI;cases h:A3 i j with
  |true=>simp[xy h]
  |false=>simp[Nat.ne_of_beq_eq_false h,qk]
theorem nE(G0:Heap)(keep:List Nat)(i:Nat):∀(L:Heap) (seen:List Nat),Heap.get (gn G0 keep L seen) i=if i∈seen\/(G0.has i||kI i keep)=false then none else Heap.get L i
 |[],seen=>by simp[gn,Heap.get_nil0,Heap.get_pair]
 |(k,o)::r,seen=>by
  unfold gn;cases hs:kI k seen with
  |true=>
   have hk:=qk.1 hs;rw[UA,nE G0 keep i r seen,Heap.get_cons];by_cases e:k=i
   ·subst e;rw[if_pos (.inl hk),if_pos (.inl hk)]
   rw[if_neg e]
  |false=>
   have hk:k∉seen:=λh=>by rw[qk.2 h]at hs;cases hs
   rw[UB];have tl:Heap.get (gn G0 keep r (k::seen)) i=if k=i\/i∈seen\/(G0.has i||kI i keep)=false then none else Heap.get r i:=by
    rw[nE G0 keep i r (k::seen)];by_cases e:k=i
    ·subst e;rw[if_pos (.inl (by simp)),if_pos (.inl rfl)]
    have:(i∈k::seen\/(G0.has i||kI i keep)=false)↔(k=i\/i∈seen\/(G0.has i||kI i keep)=false):=by
     rw[A6,or_assoc];constructor
     ·rintro(h|h)
      ·exact .inl h.symm
      exact .inr h
     rintro(h|h)
     ·exact .inl h.symm
     exact .inr h
    by_cases h2:(k=i\/i∈seen\/(G0.has i||kI i keep)=false)
    ·rw[if_pos h2,if_pos (this.2 h2)]
    rw[if_neg h2,if_neg λh=>h2 (this.1 h)]
   rw[Heap.get_cons];by_cases e:k=i
   ·subst e;rw[if_pos rfl];cases hc:(G0.has k||kI k keep)with
    |true=>rw[UA,Heap.get_cons,if_pos rfl,if_neg (by simp[hk])]
    |false=>rw[UB,tl,if_pos (.inl rfl),if_pos (.inr rfl)]
   rw[if_neg e];have tl':Heap.get (gn G0 keep r (k::seen)) i=if i∈seen\/(G0.has i||kI i keep)=false then none else Heap.get r i:=by rw[tl];simp only[e,false_or]
   cases hc:(G0.has k||kI k keep)with
   |true=>rw[UA,Heap.get_cons,if_neg e,tl']
   |false=>rw[UB,tl']
theorem Heap.get_none{G:Heap}{i:Nat}(h:G.has i=false):G.get i=none:=by
 cases hg:G.get i with
 |none=>rfl
 |some o=>rw[Heap.has_of_get hg]at h;cases h
theorem vO{G0 pre:Heap}(keep:List Nat)(i:Nat):(∀ o,(gn G0 keep pre []++G0).get i=some o->(pre++G0).get i=some o)/\(G0.has i=true->(gn G0 keep pre []++G0).get i=(pre++G0).get i):=by
 rw[Heap.get_append,nE,Heap.get_append];by_cases h:i∈([]:List Nat)\/(G0.has i||kI i keep)=false
 ·rw[if_pos h];rcases h with h|h
  ·cases h
  rw[Sj]at h;refine⟨λo ho=>?_,λhg=>by rw[h.1]at hg;cases hg⟩;dsimp only at ho;rw[Heap.get_none h.1]at ho;cases ho
 rw[if_neg h];exact⟨λo ho=>ho,λ_=>rfl⟩
theorem Heap.pair_mem:∀{G:Heap} {i:Nat} {o:Obj},G.get i=some o->(i,o)∈G
 |[],_,_,h=>by cases h
 |(k,v)::r,i,o,h=>by
  rw[Heap.get_cons]at h;split at h
  ·rename_i e;subst e;cases h;simp
  exact RB _ (Heap.pair_mem h)
theorem vM {m:Mem}(hi:Inv C w0 M m){Gi:Heap}(hsub:∀ id o,Gi.get id=some o->m.G.get id=some o)(hbox:∀ id l,Gi.get id=some (.box l)->l.all (fun a=>cU Gi a)=true)(hp:nU M ⟨m.w,m.F,m.ι,Gi⟩) :
  Inv C w0 M ⟨m.w,m.F,m.ι,Gi⟩:=by
 refine⟨hi.kept,?_,?_,?_,hi.fro,hi.glob,hi.bnd,hp⟩
 ·intro id o ho;have hr:=hi.objs id o (hsub id o ho);cases o with
  |dead=>trivial
  |arr τ l=>exact hr
  |deep _ _ _ _=>exact hr
  |map _ _ _=>exact hr
  |box l=>obtain⟨b,c,el,h1,h2,h0,h3⟩:=hr;exact⟨b,c,el,h1,h2,h0,gh hsub h3 (hbox id l ho)⟩
 ·intro id o b ho hob hb;exact hi.own id o b (hsub id o ho) hob hb
 intro i j o p b ho hoo hp hop h1 h2;exact hi.inj i j o p b (hsub i o ho) hoo (hsub j p hp) hop h1 h2
end
def m9(key:Nat):List Code->Option Code
 |[]=>none
 |c::r=>cond (A3 (cp c) key) (some c) (m9 key r)
def ee(e:Env):Nat->Env->Env
 |0,acc=>acc
 |n+1,acc=>ee e n ((n,e.get n)::acc)
def oT(N:Nat)(G1:Heap)(s:St):St:=
 let e:=ee s.env N []
 let pre:=s.G.take (s.G.length-G1.length)
 let new:=gn G1 (sx s.G 1000 ((e.flatMap λp=>za p.2)++pre.flatMap λp=>cond (G1.has p.1) (pO (some p.2)) []) []) pre []
 cond (RD 60 pre.length) (cond ((e.all λp=>gV (new++G1) p.2)&&gF (new++G1) new) { env:=e,G:=new++G1 } { env:=e,G:=s.G }) { env:=e,G:=s.G }
noncomputable def fU(C:Ctx)(l:List Code)(N:Nat):Nat->Option Heap->Loops
 |0,_=>λ_ _ _ _=>none
 |n+1,g=>λkey _ s K=>match m9 key l with
  |none=>none
  |some c=>dd C (fU C l N n none) c (λe s'=>match e with
   |.normal=>fU C l N n (some (g.getD s.G)) key _ s' K
   |.exit i=>K (.exit i) s'
   |.ret=>K .ret s') (oT N (g.getD s.G) s)
noncomputable def qV(C:Ctx)(l:List Code)(N n:Nat):Loops:=fU C l N n none
theorem sD{N:Nat}{G1:Heap}{s:St}(h:∃ X,s.G=X++G1):∃ X,(oT N G1 s).G=X++G1:=by
 unfold oT;dsimp only;cases RD 60 (s.G.take (s.G.length-G1.length)).length with
 |false=>exact h
 |true=>
  rw[UA];cases(((ee s.env N []).all λp=>gV (gn G1 _ _ []++G1) p.2)&&gF (gn G1 _ _ []++G1) (gn G1 _ _ []))with
  |true=>exact⟨_,rfl⟩
  |false=>exact h
theorem mE (C:Ctx)(l:List Code)(N:Nat):∀(n:Nat) (g:Option Heap) (key:Nat) (R:Type) (G0:Heap) (s:St) (K K':Ex->St->Option R),(∃ X,s.G=X++g.getD s.G)->(∃ Y,g.getD s.G=Y++G0)->(∀ e,On G0 (K e) (K' e)) ->
  fU C l N n g key R s K=fU C l N n g key R s K'
 |0,_,_,_,_,_,_,_,_,_,_=>rfl
 |n+1,g,key,R,G0,s,K,K',h1,h2,h=>by
  unfold fU;split
  ·rfl
  refine tZ (G0:=g.getD s.G) (λkey R G0 s K K' hs h=>mE C l N n none key R G0 s K K' ⟨[],rfl⟩ hs h) _ (sD h1) λe s' hs'=>?_;cases e with
  |normal=>exact mE C l N n (some (g.getD s.G)) key R G0 s' K K' hs' h2 h
  |exit i=>exact h _ s' (gO hs' h2)
  |ret=>exact h _ s' (gO hs' h2)
theorem sW(C:Ctx)(l:List Code)(N n:Nat):LOn (qV C l N n):=λkey R G0 s K K' hs h=>mE C l N n none key R G0 s K K' ⟨[],rfl⟩ hs h
theorem nc(e:Env):∀(n:Nat) (acc:Env) (t:Nat),(ee e n acc).get t=if t<n then e.get t else acc.get t
 |0,acc,t=>by simp[ee]
 |n+1,acc,t=>by
  unfold ee;rw[nc e n _ t,Env.get_cons];by_cases h1:t<n
  ·rw[if_pos h1,if_pos (by omega)]
  rw[if_neg h1];by_cases h2:n=t
  ·subst h2;rw[if_pos rfl,if_pos (by omega)]
  rw[if_neg h2,if_neg (by omega)]
section
variable {P:Program}{C:Ctx}{w0:World}{M:Own}{N:Nat}{x:Code}{Q:Exit->Act->World->Prop}{a:Act}{w:World}
def tG(P:Program)(x:Code)(Q:Exit->Act->World->Prop)(a:Act)(w:World):Prop:=∀(b:Frame) (k:List Item) (cs:List Frame),∃ e a' w',Q e a' w'/\Arrives P (lone (b.at a (.code x::.inLoop x::k)) cs w) b k cs e a' w'
theorem tO(h:x.wp P (Exit.then (tG P x Q) Q) a w):tG P x Q a w:=by
 intro b k cs;obtain⟨e,a₁,w₁,hq,harr⟩:=h b (.inLoop x::k) cs;cases e with
 |normal=>obtain⟨e₂,a₂,w₂,hq₂,harr₂⟩:=hq b k cs;exact⟨e₂,a₂,w₂,hq₂,.of_steps (Steps.trans harr (.one step_inLoop)) harr₂⟩
 |exit id=>exact⟨_,a₁,w₁,hq,.pass (x:=.inLoop x) rfl (λ_ _=>.inl (by simp)) harr⟩
 |goto l=>exact⟨_,a₁,w₁,hq,.pass (x:=.inLoop x) rfl (λ_ _=>.inl (by simp)) harr⟩
 |ret=>exact⟨_,a₁,w₁,hq,.pass (x:=.inLoop x) rfl (λ_ _=>.inl (by simp)) harr⟩
 |panic ch=>exact⟨_,a₁,w₁,hq,.pass (x:=.inLoop x) rfl (λ_ _=>.inl (by simp)) harr⟩
 |outgrown=>exact⟨_,a₁,w₁,hq,.pass (x:=.inLoop x) rfl (λ_ _=>.inl (by simp)) harr⟩
theorem pc(h:tG P x Q a w):(Code.loop x).wp P Q a w:=by intro b k cs;obtain⟨e,a',w',hq,harr⟩:=h b k cs;exact⟨e,a',w',hq,.of_steps (.one step_loop) harr⟩
theorem uN:∀{l:List Code},aM (l.map cp)=true->∀{x:Code},x∈l->m9 (cp x) l=some x
 |d::r,hn,x,hx=>by
  simp only[List.map_cons,aM,np,L7,List.any_eq_false]at hn;unfold m9;rcases A6.1 hx with rfl|hx
  ·rw[show A3 (cp x) (cp x)=true from Nat.beq_refl _];rfl
  have:=hn.1 (cp x) (List.mem_map_of_mem hx);rw[Bool.not_eq_true]at this;rw[this];exact uN hn.2 hx
theorem pu{G:Heap}{v:SV}:∀{e:Env} {t:Nat},(∀ p∈e,gV G p.2=true)->Env.get e t=v->gV G v=true
 |[],t,_,h=>by subst h;rfl
 |(k,x)::r,t,ha,h=>by
  rw[Env.get_cons]at h;split at h
  ·subst h;exact ha (k,x) (by simp)
  exact pu (λp hp=>ha p (RB _ hp)) h
theorem HE {a:Act}{m m1:Mem}{s:St}{G1:Heap}(hi1:Inv C w0 M m1)(hG1:m1.G=G1)(hs:Sim C w0 M N a m s.env)(hG:m.G=s.G)(hsuf:∃ X,s.G=X++G1) :
  ∃ m',m'.w=m.w/\m'.G=(oT N G1 s).G/\Sim C w0 M N a m' (oT N G1 s).env:=by
 have he:∀ t,RelSV m (a.tmps.getD t undef) ((ee s.env N []).get t):=λt=>by
  rw[nc];split
  ·exact hs.env t
  trivial
 have plain:∃ m',m'.w=m.w/\m'.G=s.G/\Sim C w0 M N a m' (ee s.env N []):=⟨m,rfl,hG,hs.inv,hs.defers,hs.size,he⟩;obtain⟨pre,hpre⟩:=hsuf;have hp:s.G.take (s.G.length-G1.length)=pre:=by rw[hpre,RT,TC];exact SF
 unfold oT;rw[hp];dsimp only;generalize hkeep:sx s.G 1000 ((ee s.env N []).flatMap (λp=>za p.2)++pre.flatMap λp=>cond (G1.has p.1) (pO (some p.2)) []) []=keep;cases RD 60 pre.length with
 |false=>exact plain
 |true=>
  rw[UA];cases hc:(((ee s.env N []).all λp=>gV (gn G1 keep pre []++G1) p.2)&&gF (gn G1 keep pre []++G1) (gn G1 keep pre []))with
  |false=>exact plain
  |true=>
   rw[UA];rw[np]at hc;have hget:=λi=>vO (G0:=G1) (pre:=pre) keep i;have hsub:∀ id o,(gn G1 keep pre []++G1).get id=some o->m.G.get id=some o:=λid o ho=>by rw[hG,hpre];exact(hget id).1 o ho
   have hold:∀ id,G1.has id=true->(gn G1 keep pre []++G1).get id=m.G.get id:=λid h=>by rw[(hget id).2 h,hG,hpre]
   have hbox:∀ id l,(gn G1 keep pre []++G1).get id=some (.box l)->l.all (λa=>cU (gn G1 keep pre []++G1) a)=true:=by
    intro id l hl;rw[A9];intro at' ha';rw[Heap.get_append]at hl;split at hl
    ·rename_i o hx;cases hl;have h2:=hc.2;unfold gF at h2;rw[A9]at h2;exact A9.1 (h2 _ (Heap.pair_mem hx)) at' ha'
    obtain⟨b,c,el,_,_,_,hr3⟩:=hi1.objs id _ (by rw[hG1];exact hl);have hh:=gH hr3 at' ha';refine ks (λi hg=>?_) hh;rw[hG1]at hg;obtain⟨o,ho⟩:=Heap.get_of_has hg;have:(gn G1 keep pre []++G1).get i=m.G.get i:=hold i hg;cases hx:(gn G1 keep pre []++G1).get i with
    |some o'=>exact Heap.has_of_get hx
    |none=>
     rw[Heap.get_append]at hx;split at hx
     ·cases hx
     rw[ho]at hx;cases hx
   have hpins:nU M ⟨m.w,m.F,m.ι,gn G1 keep pre []++G1⟩:=by
    refine⟨λi v hv=>?_,λm0 h0=>?_⟩
    ·obtain⟨o1,k1,_⟩:=hi1.pin.1 i v hv;obtain⟨o,k2,k3⟩:=hs.inv.pin.1 i v hv;exact⟨o,(hold i (by rw[<- hG1];exact Heap.has_of_get k1)).trans k2,k3⟩
    have e0:=hs.inv.pin.2 m0 h0;have e1:=hi1.pin.2 m0 h0;refine⟨e0.fro,λid o ho=>?_⟩;obtain⟨o1,k1,_⟩:=e1.get id o ho;obtain⟨o',k2,k3⟩:=e0.get id o ho;exact⟨o',(hold id (by rw[<- hG1];exact Heap.has_of_get k1)).trans k2,k3⟩
   refine⟨⟨m.w,m.F,m.ι,gn G1 keep pre []++G1⟩,rfl,rfl,vM hs.inv hsub hbox hpins,hs.defers,hs.size,λt=>?_⟩;refine qC hsub (he t) ?_;have:=hc.1;rw[A9]at this;cases hm:Env.get (ee s.env N []) t with
   |av x=>exact pu this hm
   |agg x=>exact pu this hm
   |tup x=>exact pu this hm
theorem sr(hC:CtxOK P C)(hD:kZ P){body:Code}(hd:d8 N body=true)(hn:aM ((aO body).map cp)=true):∀ n,∀ x∈aO body,lB P C w0 M N (qV C (aO body) N n) x:=by
 have key:∀ n,∀ x∈aO body,∀{R:Type} {res:R} {K:Ex->St->Option R} {Q:Exit->Act->World->Prop} {s:St} {a:Act} {m:Mem} (g:Option Heap) (m1:Mem),Inv C w0 M m1->m1.G=g.getD s.G->(∃ X,s.G=X++g.getD s.G) ->
   Sim C w0 M N a m s.env->m.G=s.G->fU C (aO body) N n g (cp x) R s K=some res ->
   (∀ e s' a' m',K e s'=some res->m'.G=s'.G->Sim C w0 M N a' m' s'.env->Q (od e) a' m'.w)->tG P x Q a m.w:=by
  intro n;induction n with
  |zero=>intro x _ R res K Q s a m g m1 _ _ _ _ _ h _;cases h
  |succ n ih=>
   intro x hx R res K Q s a m g m1 hi1 hG1 hsuf hs hG h hQ;unfold fU at h;rw[uN hn hx]at h;dsimp only at h;obtain⟨_,h2,h3⟩:=fH (N:=N) hx;obtain⟨m2,e1,e2,e3⟩:=HE hi1 hG1 hs hG hsuf;rw[<- e1]
   open Classical in
   have h':dd C (fU C (aO body) N n none) x (fun e s'=>if ∃ X,s'.G=X++g.getD s.G then (match e with
     |.normal=>fU C (aO body) N n (some (g.getD s.G)) (cp x) R s' K
     |.exit i=>K (.exit i) s'
     |.ret=>K .ret s')else none) (oT N (g.getD s.G) s)=some res:=by
    rw[<- h];refine tZ (G0:=g.getD s.G) (sW C _ N n) x (sD hsuf) λe s' hs'=>?_;rw[if_pos hs']
   refine tO (kM (s:=oT N (g.getD s.G) s) hC hD x (λy hy=>by intro R res K Q s a m hs hG h hQ;exact pc (ih y (h2 y hy) none m hs.inv hG ⟨[],rfl⟩ hs hG h hQ)) (h3 hd) e3 e2 h' ?_);intro e s' a' m' k1 k2 k3;split at k1
   ·rename_i hsuf';cases e with
    |normal=>exact ih x hx (some (g.getD s.G)) m1 hi1 hG1 hsuf' k3 k2 k1 hQ
    |exit i=>exact hQ (.exit i) s' a' m' k1 k2 k3
    |ret=>exact hQ .ret s' a' m' k1 k2 k3
   cases k1
 intro n x hx R res K Q s a m hs hG h hQ;exact pc (key n x hx none m hs.inv hG ⟨[],rfl⟩ hs hG h hQ)
end
structure Hint where
 frz:List Nat:=[]
 deep:List Nat:=[]
 light:List Nat:=[]
 hold:List (Nat×Nat):=[]
 vars:List Nat:=[]
 min:Bool:=false
def G8:SV->Option (Bool×List Atom)
 |.agg l=>some (true,l)
 |.av (.val τ x)=>cond τ.isAgg (some (true,dv τ x)) (some (false,[.val τ x]))
 |.av a=>some (false,[a])
 |.tup _=>none
def nk:List SV->Option (List (Bool×List Atom))
 |[]=>some []
 |v::r=>match G8 v,nk r with
  |some c,some l=>some (c::l)
  |_,_=>none
def D5:List SV->Option SV
 |[v]=>some v
 |l=>match nk l with
  |some c=>some (.tup c)
  |none=>none
def un(T:Tab)(s:St):List ResultVar->Option (List SV)
 |[]=>some []
 |v::r=>match(match v with
  |.tmp t=>some (s.env.get t)
  |.cell x t=>match T.get t with
   |some τ=>cond τ.isClo none (gD s (.cell x t) τ)
   |none=>none),un T s r with
  |some sv,some l=>some (sv::l)
  |_,_=>none
def gy(G0:Heap)(s:St)(sv:SV):Heap:=
 let pre:=s.G.take (s.G.length-G0.length)
 gn G0 (sx s.G 1000 (za sv++pre.flatMap λp=>cond (G0.has p.1) (pO (some p.2)) []) []) pre []
def oI(T:Tab)(rs:List ResultVar)(G0:Heap)(s:St):Option (SV×Heap):=
 match un T s rs with
 |some svs=>match D5 svs with
  |some sv=>cond (gV (gy G0 s sv++G0) sv&&gF (gy G0 s sv++G0) (gy G0 s sv)) (some (sv,gy G0 s sv)) none
  |none=>none
 |none=>none
def vT:Nat->List SV->Env
 |_,[]=>[]
 |n,v::r=>(n,v)::vT (n+1) r
def HI (fn : Func) (body : Code) : Bool := !(fn.name == "runtime.NumGoroutine") && d8 fn.ntmps body && aM ((aO body).map cp)
abbrev Gw:=Nat->Option Hint
def k8:List (Nat×Hint)->Gw
 |[],_=>none
 |p::r,f=>cond (A3 p.1 f) (some p.2) (k8 r f)
noncomputable section
variable (P:Program)(C:Ctx)(H:Gw)
def w9(run:Nat->Heap->List SV->Option (SV×Heap))(h:Hint):Ctx:={ C with frz:=h.frz,deep:=h.deep,light:=h.light,hold:=h.hold,vars:=h.vars,min:=h.min,inl:=λg=>match H g with
 |some _=>some (run g)
 |none=>C.inl g }
def AG(run:Nat->Heap->List SV->Option (SV×Heap))(h:Hint)(fn:Func)(body:Code)(G:Heap)(vs:List SV):Option (SV×Heap):=
 dd (w9 C H run h) (qV (w9 C H run h) (aO body) fn.ntmps 400) body (λe s=>match e with
  |.exit _=>none
  |.normal=>oI C.tab fn.results.toList G s
  |.ret=>oI C.tab fn.results.toList G s) { env:=vT 0 vs,G:=G }
def qA:Nat->Nat->Heap->List SV->Option (SV×Heap)
 |0,_,_,_=>none
 |n+1,f,G,vs=>match H f with
  |none=>none
  |some h=>match P.funcs[f]? with
   |none=>none
   |some fn=>match fn.body with
    |none=>none
    |some body=>AG C H (qA n) h fn body G vs
end
def rt(P:Program)(l:List (Nat×Hint)):Bool:=l.all λp=>match P.funcs[p.1]? with
 |some fn=>(match fn.body with
  |some body=>HI fn body
  |none=>false)
 |none=>false
section
variable {P:Program}{C:Ctx}{w0:World}{M:Own}{m:Mem}
theorem Cq {G0 pre:Heap}{s:St}{sv:SV}(hs:s.G=pre++G0)(i:Nat) :
  (∀ o,(gy G0 s sv++G0).get i=some o->s.G.get i=some o)/\(G0.has i=true->(gy G0 s sv++G0).get i=s.G.get i):=by
 have hp:s.G.take (s.G.length-G0.length)=pre:=by rw[hs,RT,TC];exact SF
 unfold gy;rw[hp];dsimp only;rw[Heap.get_append,nE,hs,Heap.get_append];by_cases h:i∈([]:List Nat)\/(G0.has i||kI i (sx (pre++G0) 1000 (za sv++pre.flatMap λp=>cond (G0.has p.1) (pO (some p.2)) []) []))=false
 ·rw[if_pos h];rcases h with h|h
  ·cases h
  rw[Sj]at h;refine⟨λo ho=>?_,λhg=>by rw[h.1]at hg;cases hg⟩;dsimp only at ho;rw[Heap.get_none h.1]at ho;cases ho
 rw[if_neg h];exact⟨λo ho=>ho,λ_=>rfl⟩
theorem wN{u:Value}:∀{sv:SV} {c:Bool×List Atom},RelSV m u sv->G8 sv=some c->fy m u c
 |.agg l,c,h,hc=>by cases hc;exact h
 |.av (.val τ x),c,h,hc=>by
  obtain⟨cs,rfl,hr⟩:=h;have hc:cond τ.isAgg (some (true,dv τ x)) (some (false,[.val τ x]))=some c:=hc;cases ha:τ.isAgg with
  |true=>
   rw[ha]at hc;cases hc
   exact⟨cs,by simp[toV,ha],hr.one,bv hr⟩
  |false=>
   rw[ha]at hc;cases hc
   obtain⟨v,rfl,_⟩:=hr.single ha;exact⟨_,rfl,by simpa[toV,ha]using hr,ha⟩
 |.av .u,c,h,hc=>by cases hc;exact⟨_,rfl,trivial⟩
 |.av .undef,c,h,hc=>by cases hc;exact⟨_,rfl,h⟩
 |.av (.nils _),c,h,hc=>by cases hc;exact⟨_,rfl,h⟩
 |.av (.own _),c,h,hc=>by cases hc;exact⟨_,rfl,h⟩
 |.av (.view _ _ _),c,h,hc=>by cases hc;exact⟨_,rfl,h⟩
 |.av (.ptr _ _),c,h,hc=>by cases hc;exact⟨_,rfl,h⟩
 |.av (.aptr _ _ _),c,h,hc=>by cases hc;exact⟨_,rfl,h⟩
 |.av (.clo _ _),c,h,hc=>by cases hc;exact⟨_,rfl,h⟩
 |.av (.cut _ _ _),c,h,hc=>by cases hc;exact⟨_,rfl,h⟩
 |.av (.bnd _ _),c,h,hc=>by cases hc;exact⟨_,rfl,h⟩
 |.av (.ownd _),c,h,hc=>by cases hc;exact⟨_,rfl,h⟩
 |.av (.sub _ _ _),c,h,hc=>by cases hc;exact⟨_,rfl,h⟩
 |.av (.saptr _ _ _ _),c,h,hc=>by cases hc;exact⟨_,rfl,h⟩
 |.av (.ownm _),c,h,hc=>by cases hc;exact⟨_,rfl,h⟩
 |.av (.iptr _ _ _ _ _),c,h,hc=>by cases hc;exact⟨_,rfl,h⟩
 |.tup _,_,_,hc=>by cases hc
theorem ph:∀{us:List Value} {svs:List SV} {c:List (Bool×List Atom)},Rel2 (RelSV m) us svs->nk svs=some c->Rel2 (fy m) us c
 |[],[],c,_,hc=>by cases hc;trivial
 |[],_::_,_,h,_=>h.elim
 |_::_,[],_,h,_=>h.elim
 |u::us,v::r,c,h,hc=>by
  unfold nk at hc;split at hc
  ·rename_i c1 l1 h1 h2;cases hc;exact⟨wN h.1 h1,ph h.2 h2⟩
  cases hc
theorem w8{us:List Value}{svs:List SV}{sv:SV}(h:Rel2 (RelSV m) us svs)(hj:D5 svs=some sv):RelSV m (eV us) sv:=by
 have many (hj:(match nk svs with|some c=>some (SV.tup c)|none=>none)=some sv) (ho:eV us=.tuple us.toArray):RelSV m (eV us) sv:=by
  split at hj
  ·rename_i c hc;cases hj;exact⟨us,ho,ph h hc⟩
  cases hj
 match us,svs,h with
 |[],[],_=>exact many hj rfl
 |[u],[v],h=>cases hj;exact h.1
 |_::_::_,_::_::_,_=>exact many hj rfl
theorem p8 {N:Nat}{a:Act}{s:St}(hT:cA P C.tab=true)(hs:Sim C w0 M N a m s.env)(hG:m.G=s.G):∀{rs:List ResultVar} {svs:List SV},un C.tab s rs=some svs ->
  ∃ us:List Value,(rs.mapM (nM a)).run P m.w=.ok us m.w/\Rel2 (RelSV m) us svs
 |[],svs,h=>by cases h;exact⟨[],by simp,trivial⟩
 |v::r,svs,h=>by
  unfold un at h;split at h
  ·rename_i sv l h1 h2;cases h;have one:∃ u,(nM a v).run P m.w=.ok u m.w/\RelSV m u sv:=by
    cases v with
    |tmp t=>cases h1;exact⟨_,by simp[nM],hs.env t⟩
    |cell x t=>
     dsimp only at h1;split at h1
     ·rename_i τ hτ;cases hcl:τ.isClo with
      |true=>rw[hcl]at h1;cases h1
      |false=>rw[hcl]at h1;exact qH hs hG h1 (aj hT hτ hcl)
     cases h1
   obtain⟨u,r1,r2⟩:=one;obtain⟨us,q1,q2⟩:=p8 hT hs hG h2;exact⟨u::us,by simp[List.mapM_cons,Sem.run_bind,r1,q1,Result.andThen],r2,q2⟩
  cases h
theorem uU:∀(n:Nat) (vs:List SV) (t:Nat),(vT n vs).get t=if n<=t then(vs[t-n]?).getD (.av .u)else .av .u
 |n,[],t=>by simp[vT,Env.get_nil0,Env.get_pair]
 |n,v::r,t=>by
  unfold vT;rw[Env.get_cons,uU (n+1) r t];by_cases e:n=t
  ·subst e;simp
  rw[if_neg e];by_cases h:n<=t
  ·rw[if_pos h,if_pos (by omega),show t-n=(t-(n+1))+1 by omega];simp
  rw[if_neg h,if_neg (by omega)]
theorem xq (hC:CtxOK P C)(hD:kZ P){H:Gw}{run:Nat->Heap->List SV->Option (SV×Heap)}(hr:∀ g h,H g=some h->na P C.glob g (run g)){f:Nat}{fn:Func}{body:Code}(hf:P.funcs[f]?=some fn)(hb:fn.body=some body)(hok:HI fn body=true)(h:Hint) :
  na P C.glob f (AG C H run h fn body):=by
 intro C1 w0 M m us vs sv X hglob hi hrel hrun;simp only [HI,np,L7] at hok;obtain ⟨⟨hn,hd⟩,hkeys⟩:=hok;have hn' : ¬ fn.name = "runtime.NumGoroutine" := by simpa using hn
 let C2:=w9 C H run h
 have hC2:CtxOK P C2:=⟨hC.tab,hC.eqs,hC.maps,hC.con,λg r hg=>by
  have hg:(match H g with|some _=>some (run g)|none=>C.inl g)=some r:=hg;split at hg
  ·rename_i h' hh;cases hg;exact hr g h' hh
  exact hC.inl g r hg⟩
 let M2:Own:=⟨M.wr,M.rd,M.pin,some m⟩
 have hi2:Inv C2 w0 M2 m:=⟨hi.kept,hi.objs,hi.own,hi.inj,hi.fro,λg τ x hx=>hi.glob g τ x (by rw[hglob];exact hx),hi.bnd,hi.pin.1,λm0 h0=>by cases h0;exact Evo.refl m⟩;refine .inl ⟨by simp[callFunc,hf,hn',hb],?_⟩;refine calls_of_wp hf hb ?_;have hs:Sim C2 w0 M2 fn.ntmps { tmps:=us.toArray++SR (fn.ntmps-us.toArray.size) undef,defers:=[] } m (vT 0 vs):=by
  refine⟨hi2,rfl,by simp;omega,λt=>?_⟩;rw[uU,if_pos (Nat.zero_le _),Nat.sub_zero];cases hv:vs[t]? with
  |none=>trivial
  |some v=>
   obtain⟨u,h1,h2⟩:=hrel.get hv;have:(us.toArray++SR (fn.ntmps-us.toArray.size) undef).getD t undef=u:=by have hlt:=(List.getElem?_eq_some_iff.1 h1).1;rw[Array.getD_eq_getD_getElem?,Array.getElem?_append_left (by simpa using hlt)];simp[h1]
   rw[this];exact h2
 -- what goes on behind is asked of memories that grew at their head alone
 open Classical in
 let K (e:Ex) (s:St):Option (SV×Heap):=match e with
  |.exit _=>none
  |.normal=>oI C.tab fn.results.toList m.G s
  |.ret=>oI C.tab fn.results.toList m.G s
 open Classical in
 have hrun':dd C2 (qV C2 (aO body) fn.ntmps 400) body (λe s=>if(∃ X,s.G=X++m.G)then K e s else none) { env:=vT 0 vs,G:=m.G }=some (sv,X):=by rw[<- hrun];refine tZ (G0:=m.G) (sW C2 _ _ _) body ⟨[],rfl⟩ λe s' hs'=>?_;rw[if_pos hs']
 have fin {s':St} {a':Act} {m':Mem} (hsuf:∃ X,s'.G=X++m.G) (h1:oI C.tab fn.results.toList m.G s'=some (sv,X)) (h2:m'.G=s'.G) (h3:Sim C2 w0 M2 fn.ntmps a' m' s'.env) :
   a'.defers=[]/\∃ v,(Go.results fn a'.tmps).run P m'.w=.ok v m'.w/\∃ v',Ending.returned v=.returned v'/\∃ m'',m''.w=m'.w/\m''.G=X++m.G/\Inv C1 w0 M m''/\Evo m m''/\RelSV m'' v' sv:=by
  unfold oI at h1;split at h1
  ·rename_i svs hsv;split at h1
   ·rename_i sv' hj;cases hc:(gV (gy m.G s' sv'++m.G) sv'&&gF (gy m.G s' sv'++m.G) (gy m.G s' sv'))with
    |false=>rw[hc]at h1;cases h1
    |true=>
     rw[hc]at h1;cases h1;rw[np]at hc;obtain⟨vals,r1,r2⟩:=p8 (P:=P) (C:=C2) hC.tab h3 h2 hsv;obtain⟨pre,hpre⟩:=hsuf;have hget:=λi=>Cq (sv:=sv) hpre i;have hsub:∀ id o,(gy m.G s' sv++m.G).get id=some o->m'.G.get id=some o:=λid o ho=>by rw[h2];exact(hget id).1 o ho
     have hevo:Evo m m':=h3.inv.pin.2 m rfl;have hevo2:Evo m ⟨m'.w,m'.F,m'.ι,gy m.G s' sv++m.G⟩:=⟨hevo.fro,λid o ho=>by
      obtain⟨o',k1,k2⟩:=hevo.get id o ho;exact⟨o',by show(gy m.G s' sv++m.G).get id=_;rw[(hget id).2 (Heap.has_of_get ho),<- h2];exact k1,k2⟩⟩
     have hpins:nU M ⟨m'.w,m'.F,m'.ι,gy m.G s' sv++m.G⟩:=cd hevo2 hi.pin;have hinv:Inv C1 w0 M m'->Inv C1 w0 M ⟨m'.w,m'.F,m'.ι,gy m.G s' sv++m.G⟩:=λhi'=>by
      refine vM hi' hsub (λid l hl=>?_) hpins;rw[Heap.get_append]at hl;rw[A9];intro at' ha';split at hl
      ·rename_i o hx;cases hl;obtain⟨p,hp1,hp2⟩:∃ p∈gy m.G s' sv,p=(id,Obj.box l):=by
        have:∀{G:Heap} {i:Nat} {o:Obj},G.get i=some o->(i,o)∈G:=by
         intro G;induction G with
         |nil=>intro i o h;cases h
         |cons q r ih=>
          intro i o h;obtain⟨k,v⟩:=q;rw[Heap.get_cons]at h;split at h
          ·rename_i e;subst e;cases h;simp
          exact RB _ (ih h)
        exact⟨_,this hx,rfl⟩
       have:=hc.2;unfold gF at this;rw[A9]at this;have:=this p hp1;rw[hp2]at this;exact A9.1 this at' ha'
      obtain⟨b,c,el,_,_,_,hr3⟩:=hi.objs id _ hl;have hh:=gH hr3 at' ha';exact ks (λi hg=>by
       obtain⟨o,ho⟩:=Heap.get_of_has hg;obtain⟨o',k1,_⟩:=hevo2.get i o ho;exact Heap.has_of_get k1) hh
     refine⟨h3.defers,eV vals,?_,_,rfl,⟨m'.w,m'.F,m'.ι,gy m.G s' sv++m.G⟩,rfl,rfl,hinv ?_,hevo2,qC hsub (w8 r2 hj) hc.1⟩
     ·have hf':Go.results fn a'.tmps=(do let vs <- fn.results.mapM (nM a');pure (if h:vs.size=1 then vs[0]else .tuple vs)):=by unfold Go.results;congr 1
      have hrun:(Go.results fn a'.tmps).run P m'.w=((fn.results.toList.mapM (nM a')).run P m'.w).andThen λvs w'=>.ok (eV vs) w':=by
       rw[hf'];simp only[Array.mapM_eq_mapM_toList,Sem.run_bind,map_eq_pure_bind,bind_assoc,pure_bind,Sem.run_pure];congr 1;funext l w';match l with
       |[]=>rfl
       |[u]=>rfl
       |_::_::_=>simp[eV]
      rw[hrun,r1];rfl
     exact⟨h3.inv.kept,h3.inv.objs,h3.inv.own,h3.inv.inj,h3.inv.fro,λg τ x hx=>h3.inv.glob g τ x (by rw[hglob]at hx;exact hx),h3.inv.bnd,λi v hv=>h3.inv.pin.1 i v hv,λmb hb'=>(hi.pin.2 mb hb').trans hevo⟩
   cases h1
  cases h1
 refine kM (s:={ env:=vT 0 vs,G:=m.G }) hC2 hD body (sr hC2 hD hd hkeys 400) hd hs rfl hrun' ?_;intro e s' a' m' h1 h2 h3;split at h1
 ·rename_i hsuf;cases e with
  |normal=>exact fin hsuf h1 h2 h3
  |exit i=>cases h1
  |ret=>exact fin hsuf h1 h2 h3
 cases h1
theorem sS(hC:CtxOK P C)(hD:kZ P){l:List (Nat×Hint)}(hl:rt P l=true):∀ n f,na P C.glob f (qA P C (k8 l) n f)
 |0,f=>λC1 w0 M m us vs sv X _ _ _ h=>by cases h
 |n+1,f=>by
  have ih:=sS hC hD hl n;intro C1 w0 M m us vs sv X h1 h2 h3 h;unfold qA at h;split at h
  ·cases h
  rename_i hh hhint;have hmem:∀{l:List (Nat×Hint)} {f:Nat} {h:Hint},k8 l f=some h->(f,h)∈l:=by
   intro l;induction l with
   |nil=>intro f h e;cases e
   |cons p r ih=>
    intro f h e;unfold k8 at e;cases hk:A3 p.1 f with
    |true=>rw[hk]at e;cases e;rw[<- xy hk];simp
    |false=>rw[hk]at e;exact RB _ (ih e)
  have hck:=A9.1 hl _ (hmem hhint);split at h
  ·cases h
  rename_i fn hf;simp only[hf]at hck;split at h
  ·cases h
  rename_i body hb;simp only[hb]at hck;exact xq hC hD (λg _ _=>ih g) hf hb hck hh C1 w0 M m us vs sv X h1 h2 h3 h
end
end
end Go.Vm
