/-
 A call without shapes: loops round by round, calls in their place; what it comes to is what the call comes to.
-/
import Derived.Test.YtdijhiodknmjaaaGreatDoorVmPack
open Bool renaming and_eq_true->sg,not_eq_true'->Vg
open Nat renaming beq->A3,eq_of_beq_eq_true->A6
open List renaming mem_cons->A9,all_eq_true->U5,mem_cons_of_mem->Vk
open Array renaming replicate->WH
set_option linter.unusedVariables false
set_option linter.unusedSimpArgs false
namespace Go.Vm
section
variable {C:Ctx}{s:St}{R:Type}{G0:Heap}
def On(G0:Heap)(K K':St->Option R):Prop:=∀ s',(∃ X,s'.G=X++G0)->K s'=K' s'
theorem Eh{α:Type}{b:Bool}{x y x' y':α}(h:x=x')(k:y=y'):cond b x y=cond b x' y':=by rw[h,k]
theorem zE{A B D:Heap}(h:∃ X,A=X++B)(k:∃ X,B=X++D):∃ X,A=X++D:=by obtain⟨X,rfl⟩:=h;obtain⟨Y,rfl⟩:=k;exact⟨X++Y,by simp⟩
theorem J0{o:Oper}{K K':St->Option R}(hs:∃ X,s.G=X++G0)(h:On G0 K K'):ax C o s K=ax C o s K':=by
 by_cases hb:∀ op xt x y yt,o.op≠.binOp op xt x y yt
 ·rw[zy hb,zy hb (K:=K')];cases hr:ax C o s some with
  |none=>rfl
  |some s'=>exact h s' (zE (Dr o s' hr) hs)
 simp only[Classical.not_forall,Classical.not_not]at hb;obtain⟨op,xt,x,y,yt,ho⟩:=hb;have e:∀ v,K (aC o.dst v s)=K' (aC o.dst v s):=λv=>h _ (by cases o.dst<;>exact hs);unfold ax;rw[ho];simp only[e]
theorem LF(o:Oper)(s:St):∃ X,(ug C o s).G=X++s.G:=by
 unfold ug;split
 ·exact⟨[],rfl⟩
 exact mX (G0:=s.G) (LQ C o s) ⟨mM s.G (LQ C o s) s.G,rfl⟩
theorem Mh(id:Nat)(s:St):∃ X,(CZ C id s).G=X++s.G:=by
 unfold CZ;cases C.frz.any λi=>A3 i id with
 |false=>exact⟨[],rfl⟩
 |true=>exact mX (G0:=s.G) _ ⟨mM s.G _ s.G,rfl⟩
theorem DD(all:List Oper):∀{l:List Oper} {s:St} {K K':St->Option R},(∃ X,s.G=X++G0)->On G0 K K'->km C all l s K=km C all l s K'
 |[],s,K,K',hs,h=>h s hs
 |o::r,s,K,K',hs,h=>by
  have run:∀ s1:St,s1.G=s.G->ax C o (ug C o s1) (λs'=>km C all r s' K)=ax C o (ug C o s1) (λs'=>km C all r s' K'):=λs1 e=>
   J0 (zE (LF o s1) (e▸hs)) λs' hs'=>DD all hs' h
  have skip:∀ s1:St,s1.G=s.G->km C all r (aC o.dst (.av .undef) s1) K=km C all r (aC o.dst (.av .undef) s1) K':=λs1 e=>
   DD all (by cases o.dst<;>exact e▸hs) h
  simp only[km];split
  ·exact run s rfl
  split
  ·rfl
  split
  ·exact Eh (Eh (run _ rfl) (skip _ rfl)) (Eh (skip _ rfl) (run _ rfl))
  ·exact skip _ rfl
  rfl
theorem I3(all:List Oper)(kd:Nat->Bool):∀{l:List Oper} {i:Nat} {e:Env} {G:Heap} {K K':Env->Heap->Option R},(∃ X,G=X++G0)->(∀ e G,(∃ X,G=X++G0)->K e G=K' e G)->Bc C all kd i l e G K=Bc C all kd i l e G K'
 |[],i,e,G,K,K',hs,h=>h e G hs
 |o::r,i,e,G,K,K',hs,h=>by
  have run:∀ e':Env,cond (vG C o (kY all o e')) (ax C o { env:=kY all o e',G:=G } (fun s'=>cond (!kd i || uG C G s'.G) (Bc C all kd (i+1) r (aC o.dst (s'.env.get (o.dst.getD 0)) { env:=e',G:=[] }).env s'.G K) none)) none
    = cond (vG C o (kY all o e')) (ax C o { env:=kY all o e',G:=G } (λs'=>cond (!kd i||uG C G s'.G) (Bc C all kd (i+1) r (aC o.dst (s'.env.get (o.dst.getD 0)) { env:=e',G:=[] }).env s'.G K') none)) none:=λe'=>
   Eh (J0 hs λs' hs'=>Eh (I3 all kd hs' h) rfl) rfl
  have skip:∀ e':Env,Bc C all kd (i+1) r e' G K=Bc C all kd (i+1) r e' G K':=λe'=>I3 all kd hs h;simp only[Bc];split
  ·exact run e
  split
  ·rfl
  split
  ·exact Eh (Eh (run _) (skip _)) (Eh (skip _) (run _))
  ·exact skip _
  rfl
theorem Hx:∀(N:List (Nat×Heap)) (G:Heap),∃ X,N.foldr (λp G=>p.2++G) G=X++G
 |[],G=>⟨[],rfl⟩
 |p::r,G=>by obtain⟨X,hX⟩:=Hx r G;exact⟨p.2++X,by rw[List.foldr_cons,hX,List.append_assoc]⟩
theorem Ls{lt:Bool}{all:List Oper}{K K':St->Option R}(hs:∃ X,s.G=X++G0)(h:On G0 K K'):wx C lt all s K=wx C lt all s K':=by unfold wx;dsimp only;congr 1;congr 1;funext e N;rw[I3 all _ (zE (Hx N s.G) hs) λe' G' hG'=>h { env:=e',G:=G' } hG']
def LOn(L:Loops):Prop:=∀(key:Nat) (R:Type) (G0:Heap) (s:St) (K K':Ex->St->Option R),(∃ X,s.G=X++G0)->(∀ e,On G0 (K e) (K' e))->L key R s K=L key R s K'
theorem Np{L:Loops}(hL:LOn L):∀(c:Code) {s:St} {K K':Ex->St->Option R},(∃ X,s.G=X++G0)->(∀ e,On G0 (K e) (K' e))->jQ C L c K s=jQ C L c K' s:=by
 intro c;induction c with
 |skip=>intro s K K' hs h;exact h _ s hs
 |region id ops d=>intro s K K' hs h;simp only[jQ];rw[DD _ hs (h .normal),Ls (zE (Mh id s) hs) (h .normal)]
 |seq a b iha ihb=>
  intro s K K' hs h;simp only[jQ];split
  ·rename_i s1 hmin;refine h .normal s1 ?_;cases hm:C.min with
   |false=>rw[hm]at hmin;cases hmin
   |true=>rw[hm]at hmin;rw[(EY hmin).2];exact hs
  refine iha hs λe s' hs'=>?_;cases e with
  |normal=>exact ihb hs' h
  |exit i=>exact h _ s' hs'
  |ret=>exact h _ s' hs'
 |cond x a b iha ihb=>
  intro s K K' hs h;simp only[jQ];split
  ·rw[iha hs h,ihb hs h]
  rfl
 |block id a ih=>
  intro s K K' hs h;simp only[jQ];refine ih hs λe s' hs'=>?_;cases e with
  |normal=>exact h _ s' hs'
  |exit i=>dsimp only;rw[h .normal s' hs',h (.exit i) s' hs']
  |ret=>exact h _ s' hs'
 |loop a _=>intro s K K' hs h;exact hL _ R G0 s K K' hs h
 |exit id=>intro s K K' hs h;exact h _ s hs
 |ret=>intro s K K' hs h;exact h _ s hs
 |_=>intro s K K' hs h;rfl
end
def Cn(key:Nat):List Code->Option Code
 |[]=>none
 |c::r=>cond (A3 (ee c) key) (some c) (Cn key r)
def tQ(e:Env):Nat->Env->Env
 |0,acc=>acc
 |n+1,acc=>tQ e n ((n,e.get n)::acc)
noncomputable def wT(C:Ctx)(l:List Code)(N:Nat):Nat->Loops
 |0=>λ_ _ _ _=>none
 |n+1=>λkey _ s K=>match Cn key l with
  |none=>none
  |some c=>jQ C (wT C l N n) c (λe s'=>match e with
   |.normal=>wT C l N n key _ s' K
   |.exit i=>K (.exit i) s'
   |.ret=>K .ret s') { env:=tQ s.env N [],G:=s.G }
theorem C6(C:Ctx)(l:List Code)(N:Nat):∀ n,LOn (wT C l N n)
 |0=>λ_ _ _ _ _ _ _ _=>rfl
 |n+1=>λkey R G0 s K K' hs h=>by
  unfold wT;split
  ·rfl
  refine Np (C6 C l N n) _ hs λe s' hs'=>?_;cases e with
  |normal=>exact C6 C l N n key R G0 s' K K' hs' h
  |exit i=>exact h _ s' hs'
  |ret=>exact h _ s' hs'
theorem Cq(e:Env):∀(n:Nat) (acc:Env) (t:Nat),(tQ e n acc).get t=if t<n then e.get t else acc.get t
 |0,acc,t=>by simp[tQ]
 |n+1,acc,t=>by
  unfold tQ;rw[Cq e n _ t,Env.get_cons];by_cases h1:t<n
  ·rw[if_pos h1,if_pos (by omega)]
  rw[if_neg h1];by_cases h2:n=t
  ·subst h2;rw[if_pos rfl,if_pos (by omega)]
  rw[if_neg h2,if_neg (by omega)]
section
variable {P:Program}{C:Ctx}{w0:World}{M:Own}{N:Nat}{x:Code}{Q:Exit->Act->World->Prop}{a:Act}{w:World}
def Ir(P:Program)(x:Code)(Q:Exit->Act->World->Prop)(a:Act)(w:World):Prop:=∀(b:Frame) (k:List Item) (cs:List Frame),∃ e a' w',Q e a' w'/\Arrives P (lone (b.at a (.code x::.inLoop x::k)) cs w) b k cs e a' w'
theorem Ju(h:x.wp P (Exit.then (Ir P x Q) Q) a w):Ir P x Q a w:=by
 intro b k cs;obtain⟨e,a₁,w₁,hq,harr⟩:=h b (.inLoop x::k) cs;cases e with
 |normal=>obtain⟨e₂,a₂,w₂,hq₂,harr₂⟩:=hq b k cs;exact⟨e₂,a₂,w₂,hq₂,.of_steps (Steps.trans harr (.one step_inLoop)) harr₂⟩
 |exit id=>exact⟨_,a₁,w₁,hq,.pass (x:=.inLoop x) rfl (λ_ _=>.inl (by simp)) harr⟩
 |goto l=>exact⟨_,a₁,w₁,hq,.pass (x:=.inLoop x) rfl (λ_ _=>.inl (by simp)) harr⟩
 |ret=>exact⟨_,a₁,w₁,hq,.pass (x:=.inLoop x) rfl (λ_ _=>.inl (by simp)) harr⟩
 |panic ch=>exact⟨_,a₁,w₁,hq,.pass (x:=.inLoop x) rfl (λ_ _=>.inl (by simp)) harr⟩
 |outgrown=>exact⟨_,a₁,w₁,hq,.pass (x:=.inLoop x) rfl (λ_ _=>.inl (by simp)) harr⟩
theorem Eb(h:Ir P x Q a w):(Code.loop x).wp P Q a w:=by intro b k cs;obtain⟨e,a',w',hq,harr⟩:=h b k cs;exact⟨e,a',w',hq,.of_steps (.one step_loop) harr⟩
theorem Kj:∀{l:List Code},aP (l.map ee)=true->∀{x:Code},x∈l->Cn (ee x) l=some x
 |d::r,hn,x,hx=>by
  simp only[List.map_cons,aP,sg,Vg,List.any_eq_false]at hn;unfold Cn;rcases A9.1 hx with rfl|hx
  ·rw[show A3 (ee x) (ee x)=true from Nat.beq_refl _];rfl
  have:=hn.1 (ee x) (List.mem_map_of_mem hx);rw[Bool.not_eq_true]at this;rw[this];exact Kj hn.2 hx
theorem O4(hC:CtxOK P C)(hD:Bo P){body:Code}(hd:kI N body=true)(hn:aP ((aX body).map ee)=true):∀ n,∀ x∈aX body,Dh P C w0 M N (wT C (aX body) N n) x:=by
 have key:∀ n,∀ x∈aX body,∀{R:Type} {res:R} {K:Ex->St->Option R} {Q:Exit->Act->World->Prop} {s:St} {a:Act} {m:Mem},
   Sim C w0 M N a m s.env->m.G=s.G->wT C (aX body) N n (ee x) R s K=some res ->
   (∀ e s' a' m',K e s'=some res->m'.G=s'.G->Sim C w0 M N a' m' s'.env->Q (DM e) a' m'.w)->Ir P x Q a m.w:=by
  intro n;induction n with
  |zero=>intro x _ R res K Q s a m _ _ h _;cases h
  |succ n ih=>
   intro x hx R res K Q s a m hs hG h hQ;unfold wT at h;rw[Kj hn hx]at h;dsimp only at h;obtain⟨_,h2,h3⟩:=qP (N:=N) hx;have hs':Sim C w0 M N a m (tQ s.env N []):=⟨hs.inv,hs.defers,hs.size,λt=>by
    rw[Cq];split
    ·exact hs.env t
    trivial⟩
   refine Ju (BU (s:={ env:=tQ s.env N [],G:=s.G }) hC hD x (λy hy=>by intro R res K Q s a m hs hG h hQ;exact Eb (ih y (h2 y hy) hs hG h hQ)) (h3 hd) hs' hG h ?_);intro e s' a' m' k1 k2 k3;cases e with
   |normal=>exact ih x hx k3 k2 k1 hQ
   |exit i=>exact hQ (.exit i) s' a' m' k1 k2 k3
   |ret=>exact hQ .ret s' a' m' k1 k2 k3
 intro n x hx R res K Q s a m hs hG h hQ;exact Eb (key n x hx hs hG h hQ)
end
structure Hint where
 frz:List Nat:=[]
 deep:List Nat:=[]
 light:List Nat:=[]
 hold:List (Nat×Nat):=[]
 vars:List Nat:=[]
 min:Bool:=false
def EM:Atom->List Nat
 |.own i=>[i]
 |.view i _ _=>[i]
 |.ptr i _=>[i]
 |.aptr i _ _=>[i]
 |.clo _ c=>c
 |.cut i _ _=>[i]
 |.ownd i=>[i]
 |.sub i _ _=>[i]
 |.saptr i _ _ _=>[i]
 |.iptr i _ _ _ _=>[i]
 |.ownm i=>[i]
 |_=>[]
def S0:SV->List Nat
 |.av a=>EM a
 |.agg l=>l.flatMap EM
 |.tup l=>l.flatMap λp=>p.2.flatMap EM
def Lb:Option Obj->List Nat
 |some (.box l)=>l.flatMap EM
 |_=>[]
def yO(i:Nat):List Nat->Bool
 |[]=>false
 |j::r=>cond (A3 i j) true (yO i r)
def Nz(G:Heap):Nat->List Nat->List Nat->List Nat
 |0,_,acc=>acc
 |_+1,[],acc=>acc
 |n+1,i::r,acc=>cond (yO i acc) (Nz G n r acc) (Nz G n (Lb (G.get i)++r) (i::acc))
def Iu(G0:Heap)(keep:List Nat):Heap->List Nat->Heap
 |[],_=>[]
 |p::r,seen=>cond (yO p.1 seen) (Iu G0 keep r seen) (cond (G0.has p.1||yO p.1 keep) (p::Iu G0 keep r (p.1::seen)) (Iu G0 keep r (p.1::seen)))
def Pb:SV->Option (Bool×List Atom)
 |.agg l=>some (true,l)
 |.av (.val τ x)=>cond τ.isAgg (some (true,kH τ x)) (some (false,[.val τ x]))
 |.av a=>some (false,[a])
 |.tup _=>none
def Ce:List SV->Option (List (Bool×List Atom))
 |[]=>some []
 |v::r=>match Pb v,Ce r with
  |some c,some l=>some (c::l)
  |_,_=>none
def QG:List SV->Option SV
 |[v]=>some v
 |l=>match Ce l with
  |some c=>some (.tup c)
  |none=>none
def In(T:Tab)(s:St):List ResultVar->Option (List SV)
 |[]=>some []
 |v::r=>match(match v with
  |.tmp t=>some (s.env.get t)
  |.cell x t=>match T.get t with
   |some τ=>cond τ.isClo none (ry s (.cell x t) τ)
   |none=>none),In T s r with
  |some sv,some l=>some (sv::l)
  |_,_=>none
def sr(G0:Heap)(s:St)(sv:SV):Heap:=
 let pre:=s.G.take (s.G.length-G0.length)
 Iu G0 (Nz s.G 1000 (S0 sv++pre.flatMap λp=>cond (G0.has p.1) (Lb (some p.2)) []) []) pre []
def Dd(T:Tab)(rs:List ResultVar)(G0:Heap)(s:St):Option (SV×Heap):=
 match In T s rs with
 |some svs=>match QG svs with
  |some sv=>cond (AD (sr G0 s sv++G0) sv&&yi (sr G0 s sv++G0) (sr G0 s sv)) (some (sv,sr G0 s sv)) none
  |none=>none
 |none=>none
def Kl:Nat->List SV->Env
 |_,[]=>[]
 |n,v::r=>(n,v)::Kl (n+1) r
def Tu (fn : Func) (body : Code) : Bool := !(fn.name == "runtime.NumGoroutine") && kI fn.ntmps body && aP ((aX body).map ee)
abbrev PQ:=Nat->Option Hint
def zn:List (Nat×Hint)->PQ
 |[],_=>none
 |p::r,f=>cond (A3 p.1 f) (some p.2) (zn r f)
noncomputable section
variable (P:Program)(C:Ctx)(H:PQ)
def Mf(run:Nat->Heap->List SV->Option (SV×Heap))(h:Hint):Ctx:={ C with frz:=h.frz,deep:=h.deep,light:=h.light,hold:=h.hold,vars:=h.vars,min:=h.min,inl:=λg=>match H g with
 |some _=>some (run g)
 |none=>C.inl g }
def Nu(run:Nat->Heap->List SV->Option (SV×Heap))(h:Hint)(fn:Func)(body:Code)(G:Heap)(vs:List SV):Option (SV×Heap):=
 jQ (Mf C H run h) (wT (Mf C H run h) (aX body) fn.ntmps 400) body (λe s=>match e with
  |.exit _=>none
  |.normal=>Dd C.tab fn.results.toList G s
  |.ret=>Dd C.tab fn.results.toList G s) { env:=Kl 0 vs,G:=G }
def GH:Nat->Nat->Heap->List SV->Option (SV×Heap)
 |0,_,_,_=>none
 |n+1,f,G,vs=>match H f with
  |none=>none
  |some h=>match P.funcs[f]? with
   |none=>none
   |some fn=>match fn.body with
    |none=>none
    |some body=>Nu C H (GH n) h fn body G vs
end
def Hs(P:Program)(l:List (Nat×Hint)):Bool:=l.all λp=>match P.funcs[p.1]? with
 |some fn=>(match fn.body with
  |some body=>Tu fn body
  |none=>false)
 |none=>false
section
variable {P:Program}{C:Ctx}{w0:World}{M:Own}{m:Mem}
theorem E1{i:Nat}:∀{l:List Nat},yO i l=true↔i∈l
 |[]=>by simp[yO]
 |j::r=>by
  unfold yO;cases h:A3 i j with
  |true=>simp[A6 h]
  |false=>simp[Nat.ne_of_beq_eq_false h,E1]
theorem FP(G0:Heap)(keep:List Nat)(i:Nat):∀(L:Heap) (seen:List Nat),Heap.get (Iu G0 keep L seen) i=if i∈seen\/(G0.has i||yO i keep)=false then none else Heap.get L i
 |[],seen=>by simp[Iu,Heap.get]
 |(k,o)::r,seen=>by
  unfold Iu;cases hs:yO k seen with
  |true=>
   have hk:=E1.1 hs;rw[U3,FP G0 keep i r seen,Heap.get_cons];by_cases e:k=i
   ·subst e;rw[if_pos (.inl hk),if_pos (.inl hk)]
   rw[if_neg e]
  |false=>
   have hk:k∉seen:=λh=>by rw[E1.2 h]at hs;cases hs
   rw[U4];have tl:Heap.get (Iu G0 keep r (k::seen)) i=if k=i\/i∈seen\/(G0.has i||yO i keep)=false then none else Heap.get r i:=by
    rw[FP G0 keep i r (k::seen)];by_cases e:k=i
    ·subst e;rw[if_pos (.inl (by simp)),if_pos (.inl rfl)]
    have:(i∈k::seen\/(G0.has i||yO i keep)=false)↔(k=i\/i∈seen\/(G0.has i||yO i keep)=false):=by
     rw[A9,or_assoc];constructor
     ·rintro(h|h)
      ·exact .inl h.symm
      exact .inr h
     rintro(h|h)
     ·exact .inl h.symm
     exact .inr h
    by_cases h2:(k=i\/i∈seen\/(G0.has i||yO i keep)=false)
    ·rw[if_pos h2,if_pos (this.2 h2)]
    rw[if_neg h2,if_neg λh=>h2 (this.1 h)]
   rw[Heap.get_cons];by_cases e:k=i
   ·subst e;rw[if_pos rfl];cases hc:(G0.has k||yO k keep)with
    |true=>rw[U3,Heap.get_cons,if_pos rfl,if_neg (by simp[hk])]
    |false=>rw[U4,tl,if_pos (.inl rfl),if_pos (.inr rfl)]
   rw[if_neg e];have tl':Heap.get (Iu G0 keep r (k::seen)) i=if i∈seen\/(G0.has i||yO i keep)=false then none else Heap.get r i:=by rw[tl];simp only[e,false_or]
   cases hc:(G0.has k||yO k keep)with
   |true=>rw[U3,Heap.get_cons,if_neg e,tl']
   |false=>rw[U4,tl']
theorem Heap.get_none{G:Heap}{i:Nat}(h:G.has i=false):G.get i=none:=by
 cases hg:G.get i with
 |none=>rfl
 |some o=>rw[Heap.has_of_get hg]at h;cases h
theorem NY {G0 pre:Heap}{s:St}{sv:SV}(hs:s.G=pre++G0)(i:Nat) :
  (∀ o,(sr G0 s sv++G0).get i=some o->s.G.get i=some o)/\(G0.has i=true->(sr G0 s sv++G0).get i=s.G.get i):=by
 have hp:s.G.take (s.G.length-G0.length)=pre:=by rw[hs,List.length_append,Nat.add_sub_cancel];exact List.take_left
 unfold sr;rw[hp];dsimp only;rw[Heap.get_append,FP,hs,Heap.get_append];by_cases h:i∈([]:List Nat)\/(G0.has i||yO i (Nz (pre++G0) 1000 (S0 sv++pre.flatMap λp=>cond (G0.has p.1) (Lb (some p.2)) []) []))=false
 ·rw[if_pos h];rcases h with h|h
  ·cases h
  rw[Bool.or_eq_false_iff]at h;refine⟨λo ho=>?_,λhg=>by rw[h.1]at hg;cases hg⟩;dsimp only at ho;rw[Heap.get_none h.1]at ho;cases ho
 rw[if_neg h];exact⟨λo ho=>ho,λ_=>rfl⟩
theorem Lw{u:Value}:∀{sv:SV} {c:Bool×List Atom},RelSV m u sv->Pb sv=some c->pJ m u c
 |.agg l,c,h,hc=>by cases hc;exact h
 |.av (.val τ x),c,h,hc=>by
  obtain⟨cs,rfl,hr⟩:=h;have hc:cond τ.isAgg (some (true,kH τ x)) (some (false,[.val τ x]))=some c:=hc;cases ha:τ.isAgg with
  |true=>
   rw[ha]at hc;cases hc
   exact⟨cs,by simp[toV,ha],hr.one,cg hr⟩
  |false=>
   rw[ha]at hc;cases hc
   obtain⟨v,rfl,_⟩:=hr.single ha;exact⟨_,rfl,by simpa[toV,ha]using hr,ha⟩
 |.av .u,c,h,hc=>by cases hc;exact⟨_,rfl,trivial⟩
 |.av .undef,c,h,hc=>by cases hc;exact⟨_,rfl,h⟩
 |.av (.nils _),c,h,hc=>by cases hc;exact⟨_,rfl,h⟩
 |.av (.own _),c,h,hc=>by cases hc;exact⟨_,rfl,h⟩
 |.av (.view _ _ _),c,h,hc=>by cases hc;exact⟨_,rfl,h⟩
 |.av (.ptr _ _),c,h,hc=>by cases hc;exact⟨_,rfl,h⟩
 |.av (.aptr _ _ _),c,h,hc=>by cases hc;exact⟨_,rfl,h⟩
 |.av (.clo _ _),c,h,hc=>by cases hc;exact⟨_,rfl,h⟩
 |.av (.cut _ _ _),c,h,hc=>by cases hc;exact⟨_,rfl,h⟩
 |.av (.bnd _ _),c,h,hc=>by cases hc;exact⟨_,rfl,h⟩
 |.av (.ownd _),c,h,hc=>by cases hc;exact⟨_,rfl,h⟩
 |.av (.sub _ _ _),c,h,hc=>by cases hc;exact⟨_,rfl,h⟩
 |.av (.saptr _ _ _ _),c,h,hc=>by cases hc;exact⟨_,rfl,h⟩
 |.av (.ownm _),c,h,hc=>by cases hc;exact⟨_,rfl,h⟩
 |.av (.iptr _ _ _ _ _),c,h,hc=>by cases hc;exact⟨_,rfl,h⟩
 |.tup _,_,_,hc=>by cases hc
theorem DV:∀{us:List Value} {svs:List SV} {c:List (Bool×List Atom)},Rel2 (RelSV m) us svs->Ce svs=some c->Rel2 (pJ m) us c
 |[],[],c,_,hc=>by cases hc;trivial
 |[],_::_,_,h,_=>h.elim
 |_::_,[],_,h,_=>h.elim
 |u::us,v::r,c,h,hc=>by
  unfold Ce at hc;split at hc
  ·rename_i c1 l1 h1 h2;cases hc;exact⟨Lw h.1 h1,DV h.2 h2⟩
  cases hc
theorem Lu{us:List Value}{svs:List SV}{sv:SV}(h:Rel2 (RelSV m) us svs)(hj:QG svs=some sv):RelSV m (sK us) sv:=by
 have many (hj:(match Ce svs with|some c=>some (SV.tup c)|none=>none)=some sv) (ho:sK us=.tuple us.toArray):RelSV m (sK us) sv:=by
  split at hj
  ·rename_i c hc;cases hj;exact⟨us,ho,DV h hc⟩
  cases hj
 match us,svs,h with
 |[],[],_=>exact many hj rfl
 |[u],[v],h=>cases hj;exact h.1
 |_::_::_,_::_::_,_=>exact many hj rfl
theorem Fj {N:Nat}{a:Act}{s:St}(hT:eL P C.tab=true)(hs:Sim C w0 M N a m s.env)(hG:m.G=s.G):∀{rs:List ResultVar} {svs:List SV},In C.tab s rs=some svs ->
  ∃ us:List Value,(rs.mapM (Ek a)).run P m.w=.ok us m.w/\Rel2 (RelSV m) us svs
 |[],svs,h=>by cases h;exact⟨[],by simp,trivial⟩
 |v::r,svs,h=>by
  unfold In at h;split at h
  ·rename_i sv l h1 h2;cases h;have one:∃ u,(Ek a v).run P m.w=.ok u m.w/\RelSV m u sv:=by
    cases v with
    |tmp t=>cases h1;exact⟨_,by simp[Ek],hs.env t⟩
    |cell x t=>
     dsimp only at h1;split at h1
     ·rename_i τ hτ;cases hcl:τ.isClo with
      |true=>rw[hcl]at h1;cases h1
      |false=>rw[hcl]at h1;exact Fc hs hG h1 (ah hT hτ hcl)
     cases h1
   obtain⟨u,r1,r2⟩:=one;obtain⟨us,q1,q2⟩:=Fj hT hs hG h2;exact⟨u::us,by simp[List.mapM_cons,Sem.run_bind,r1,q1,Result.andThen],r2,q2⟩
  cases h
theorem RH {m:Mem}(hi:Inv C w0 M m){Gi:Heap}(hsub:∀ id o,Gi.get id=some o->m.G.get id=some o)(hbox:∀ id l,Gi.get id=some (.box l)->l.all (fun a=>gL Gi a)=true)(hp:Gv M ⟨m.w,m.F,m.ι,Gi⟩) :
  Inv C w0 M ⟨m.w,m.F,m.ι,Gi⟩:=by
 refine⟨hi.kept,?_,?_,?_,hi.fro,hi.glob,hi.bnd,hp⟩
 ·intro id o ho;have hr:=hi.objs id o (hsub id o ho);cases o with
  |dead=>trivial
  |arr τ l=>exact hr
  |deep _ _ _ _=>exact hr
  |map _ _ _=>exact hr
  |box l=>obtain⟨b,c,el,h1,h2,h0,h3⟩:=hr;exact⟨b,c,el,h1,h2,h0,sD hsub h3 (hbox id l ho)⟩
 ·intro id o b ho hob hb;exact hi.own id o b (hsub id o ho) hob hb
 intro i j o p b ho hoo hp hop h1 h2;exact hi.inj i j o p b (hsub i o ho) hoo (hsub j p hp) hop h1 h2
theorem J3:∀(n:Nat) (vs:List SV) (t:Nat),(Kl n vs).get t=if n<=t then(vs[t-n]?).getD (.av .u)else .av .u
 |n,[],t=>by simp[Kl,Env.get]
 |n,v::r,t=>by
  unfold Kl;rw[Env.get_cons,J3 (n+1) r t];by_cases e:n=t
  ·subst e;simp
  rw[if_neg e];by_cases h:n<=t
  ·rw[if_pos h,if_pos (by omega),show t-n=(t-(n+1))+1 by omega];simp
  rw[if_neg h,if_neg (by omega)]
theorem LU (hC:CtxOK P C)(hD:Bo P){H:PQ}{run:Nat->Heap->List SV->Option (SV×Heap)}(hr:∀ g h,H g=some h->CD P C.glob g (run g)){f:Nat}{fn:Func}{body:Code}(hf:P.funcs[f]?=some fn)(hb:fn.body=some body)(hok:Tu fn body=true)(h:Hint) :
  CD P C.glob f (Nu C H run h fn body):=by
 intro C1 w0 M m us vs sv X hglob hi hrel hrun;simp only [Tu,sg,Vg] at hok;obtain ⟨⟨hn,hd⟩,hkeys⟩:=hok;have hn' : ¬ fn.name = "runtime.NumGoroutine" := by simpa using hn
 let C2:=Mf C H run h
 have hC2:CtxOK P C2:=⟨hC.tab,hC.eqs,hC.maps,hC.con,λg r hg=>by
  have hg:(match H g with|some _=>some (run g)|none=>C.inl g)=some r:=hg;split at hg
  ·rename_i h' hh;cases hg;exact hr g h' hh
  exact hC.inl g r hg⟩
 let M2:Own:=⟨M.wr,M.rd,M.pin,some m⟩
 have hi2:Inv C2 w0 M2 m:=⟨hi.kept,hi.objs,hi.own,hi.inj,hi.fro,λg τ x hx=>hi.glob g τ x (by rw[hglob];exact hx),hi.bnd,hi.pin.1,λm0 h0=>by cases h0;exact Evo.refl m⟩;refine .inl ⟨by simp[callFunc,hf,hn',hb],?_⟩;refine calls_of_wp hf hb ?_;have hs:Sim C2 w0 M2 fn.ntmps { tmps:=us.toArray++WH (fn.ntmps-us.toArray.size) undef,defers:=[] } m (Kl 0 vs):=by
  refine⟨hi2,rfl,by simp;omega,λt=>?_⟩;rw[J3,if_pos (Nat.zero_le _),Nat.sub_zero];cases hv:vs[t]? with
  |none=>trivial
  |some v=>
   obtain⟨u,h1,h2⟩:=hrel.get hv;have:(us.toArray++WH (fn.ntmps-us.toArray.size) undef).getD t undef=u:=by have hlt:=(List.getElem?_eq_some_iff.1 h1).1;rw[Array.getD_eq_getD_getElem?,Array.getElem?_append_left (by simpa using hlt)];simp[h1]
   rw[this];exact h2
 -- what goes on behind is asked of memories that grew at their head alone
 open Classical in
 let K (e:Ex) (s:St):Option (SV×Heap):=match e with
  |.exit _=>none
  |.normal=>Dd C.tab fn.results.toList m.G s
  |.ret=>Dd C.tab fn.results.toList m.G s
 open Classical in
 have hrun':jQ C2 (wT C2 (aX body) fn.ntmps 400) body (λe s=>if(∃ X,s.G=X++m.G)then K e s else none) { env:=Kl 0 vs,G:=m.G }=some (sv,X):=by rw[<- hrun];refine Np (G0:=m.G) (C6 C2 _ _ _) body ⟨[],rfl⟩ λe s' hs'=>?_;rw[if_pos hs']
 have fin {s':St} {a':Act} {m':Mem} (hsuf:∃ X,s'.G=X++m.G) (h1:Dd C.tab fn.results.toList m.G s'=some (sv,X)) (h2:m'.G=s'.G) (h3:Sim C2 w0 M2 fn.ntmps a' m' s'.env) :
   a'.defers=[]/\∃ v,(Go.results fn a'.tmps).run P m'.w=.ok v m'.w/\∃ v',Ending.returned v=.returned v'/\∃ m'',m''.w=m'.w/\m''.G=X++m.G/\Inv C1 w0 M m''/\Evo m m''/\RelSV m'' v' sv:=by
  unfold Dd at h1;split at h1
  ·rename_i svs hsv;split at h1
   ·rename_i sv' hj;cases hc:(AD (sr m.G s' sv'++m.G) sv'&&yi (sr m.G s' sv'++m.G) (sr m.G s' sv'))with
    |false=>rw[hc]at h1;cases h1
    |true=>
     rw[hc]at h1;cases h1;rw[sg]at hc;obtain⟨vals,r1,r2⟩:=Fj (P:=P) (C:=C2) hC.tab h3 h2 hsv;obtain⟨pre,hpre⟩:=hsuf;have hget:=λi=>NY (sv:=sv) hpre i;have hsub:∀ id o,(sr m.G s' sv++m.G).get id=some o->m'.G.get id=some o:=λid o ho=>by rw[h2];exact(hget id).1 o ho
     have hevo:Evo m m':=h3.inv.pin.2 m rfl;have hevo2:Evo m ⟨m'.w,m'.F,m'.ι,sr m.G s' sv++m.G⟩:=⟨hevo.fro,λid o ho=>by
      obtain⟨o',k1,k2⟩:=hevo.get id o ho;exact⟨o',by show(sr m.G s' sv++m.G).get id=_;rw[(hget id).2 (Heap.has_of_get ho),<- h2];exact k1,k2⟩⟩
     have hpins:Gv M ⟨m'.w,m'.F,m'.ι,sr m.G s' sv++m.G⟩:=dB hevo2 hi.pin;have hinv:Inv C1 w0 M m'->Inv C1 w0 M ⟨m'.w,m'.F,m'.ι,sr m.G s' sv++m.G⟩:=λhi'=>by
      refine RH hi' hsub (λid l hl=>?_) hpins;rw[Heap.get_append]at hl;rw[U5];intro at' ha';split at hl
      ·rename_i o hx;cases hl;obtain⟨p,hp1,hp2⟩:∃ p∈sr m.G s' sv,p=(id,Obj.box l):=by
        have:∀{G:Heap} {i:Nat} {o:Obj},G.get i=some o->(i,o)∈G:=by
         intro G;induction G with
         |nil=>intro i o h;cases h
         |cons q r ih=>
          intro i o h;obtain⟨k,v⟩:=q;rw[Heap.get_cons]at h;split at h
          ·rename_i e;subst e;cases h;simp
          exact Vk _ (ih h)
        exact⟨_,this hx,rfl⟩
       have:=hc.2;unfold yi at this;rw[U5]at this;have:=this p hp1;rw[hp2]at this;exact U5.1 this at' ha'
      obtain⟨b,c,el,_,_,_,hr3⟩:=hi.objs id _ hl;have hh:=wz hr3 at' ha';exact Cj (λi hg=>by
       obtain⟨o,ho⟩:=Heap.get_of_has hg;obtain⟨o',k1,_⟩:=hevo2.get i o ho;exact Heap.has_of_get k1) hh
     refine⟨h3.defers,sK vals,?_,_,rfl,⟨m'.w,m'.F,m'.ι,sr m.G s' sv++m.G⟩,rfl,rfl,hinv ?_,hevo2,JC hsub (Lu r2 hj) hc.1⟩
     ·have hf':Go.results fn a'.tmps=(do let vs <- fn.results.mapM (Ek a');pure (if h:vs.size=1 then vs[0]else .tuple vs)):=by unfold Go.results;congr 1
      have hrun:(Go.results fn a'.tmps).run P m'.w=((fn.results.toList.mapM (Ek a')).run P m'.w).andThen λvs w'=>.ok (sK vs) w':=by
       rw[hf'];simp only[Array.mapM_eq_mapM_toList,Sem.run_bind,map_eq_pure_bind,bind_assoc,pure_bind,Sem.run_pure];congr 1;funext l w';match l with
       |[]=>rfl
       |[u]=>rfl
       |_::_::_=>simp[sK]
      rw[hrun,r1];rfl
     exact⟨h3.inv.kept,h3.inv.objs,h3.inv.own,h3.inv.inj,h3.inv.fro,λg τ x hx=>h3.inv.glob g τ x (by rw[hglob]at hx;exact hx),h3.inv.bnd,λi v hv=>h3.inv.pin.1 i v hv,λmb hb'=>(hi.pin.2 mb hb').trans hevo⟩
   cases h1
  cases h1
 refine BU (s:={ env:=Kl 0 vs,G:=m.G }) hC2 hD body (O4 hC2 hD hd hkeys 400) hd hs rfl hrun' ?_;intro e s' a' m' h1 h2 h3;split at h1
 ·rename_i hsuf;cases e with
  |normal=>exact fin hsuf h1 h2 h3
  |exit i=>cases h1
  |ret=>exact fin hsuf h1 h2 h3
 cases h1
theorem HX(hC:CtxOK P C)(hD:Bo P){l:List (Nat×Hint)}(hl:Hs P l=true):∀ n f,CD P C.glob f (GH P C (zn l) n f)
 |0,f=>λC1 w0 M m us vs sv X _ _ _ h=>by cases h
 |n+1,f=>by
  have ih:=HX hC hD hl n;intro C1 w0 M m us vs sv X h1 h2 h3 h;unfold GH at h;split at h
  ·cases h
  rename_i hh hhint;have hmem:∀{l:List (Nat×Hint)} {f:Nat} {h:Hint},zn l f=some h->(f,h)∈l:=by
   intro l;induction l with
   |nil=>intro f h e;cases e
   |cons p r ih=>
    intro f h e;unfold zn at e;cases hk:A3 p.1 f with
    |true=>rw[hk]at e;cases e;rw[<- A6 hk];simp
    |false=>rw[hk]at e;exact Vk _ (ih e)
  have hck:=U5.1 hl _ (hmem hhint);split at h
  ·cases h
  rename_i fn hf;simp only[hf]at hck;split at h
  ·cases h
  rename_i body hb;simp only[hb]at hck;exact LU hC hD (λg _ _=>ih g) hf hb hck hh C1 w0 M m us vs sv X h1 h2 h3 h
end
end Go.Vm
