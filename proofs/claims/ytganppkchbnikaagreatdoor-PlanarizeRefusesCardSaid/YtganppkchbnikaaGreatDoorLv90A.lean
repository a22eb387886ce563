/-
 layoutlaw34.awake, run in the machine: what is common.
-/
import Derived.Test.YtganppkchbnikaaGreatDoorVmE
import Derived.Test.YtganppkchbnikaaGreatDoorVmLoop2
import Derived.Test.YtganppkchbnikaaGreatDoorSA
import Derived.Test.YtganppkchbnikaaGreatDoorD90A
open Bool renaming and_eq_true->np
open Nat renaming beq->A7
open List renaming all_eq_true->B5
set_option linter.unusedVariables false
set_option linter.unusedSimpArgs false
namespace Go.Vm
open Go.Proofs
noncomputable section
set_option maxRecDepth 1000000
def DK{α:Type}(f:α->α->Bool):List α->List α->Bool
 |[],[]=>true
 |a::l,b::r=>f a b&&DK f l r
 |_,_=>false
noncomputable def fo:(τ:Ty)->τ.den->τ.den->Bool
 |.int _,a,b=>eqI a b
 |.bool,a,b=>eqB a b
 |.str,a,b=>eqS a b
 |.slice e,x,y=>DK (fo e) x y
 |.prod a b,x,y=>fo a x.1 y.1&&fo b x.2 y.2
 |.unit,_,_=>true
 |.arr _ e,x,y=>DK (fo e) x y
 |.ptr e,x,y=>fo e x y
 |.clo _ e,x,y=>fo e x y
theorem sL{α:Type}{f:α->α->Bool}(hf:∀ a b,f a b=true->a=b):∀{l r:List α},DK f l r=true->l=r
 |[],[],_=>rfl
 |[],_::_,h=>by cases h
 |_::_,[],h=>by cases h
 |a::l,b::r,h=>by simp only[DK,np]at h;rw[hf a b h.1,sL hf h.2]
theorem fR:∀{τ:Ty} {x y:τ.den},fo τ x y=true->x=y
 |.int _,_,_,h=>eq_of_beq h
 |.bool,_,_,h=>eq_of_beq h
 |.str,_,_,h=>E8.1 h
 |.slice e,_,_,h=>sL (λ_ _=>fR (τ:=e)) h
 |.prod a b,x,y,h=>by simp only[fo,np]at h;exact Prod.ext (fR h.1) (fR h.2)
 |.unit,_,_,_=>rfl
 |.arr _ e,_,_,h=>sL (λ_ _=>fR (τ:=e)) h
 |.ptr e,_,_,h=>fR (τ:=e) h
 |.clo _ e,_,_,h=>fR (τ:=e) h
noncomputable def gv{τ:Ty}(o:Option τ.den)(r:τ.den):Bool:=match o with
 |some x=>fo τ x r
 |none=>false
theorem EA{τ:Ty}{o:Option τ.den}{r:τ.den}(h:gv o r=true):o=some r:=by
 cases o with
 |none=>cases h
 |some x=>exact congrArg some (fR h)
noncomputable def ptC(ins:List (Mode×Ty))(outs:List (Bool×Ty))(x0:(ac (ins.map (·.2))).den)(r0:(ac (outs.map (·.2)++aN ins)).den):Con:=⟨ins,outs,λx=>cond (fo _ x x0) (some r0) none,false⟩
theorem Eb {P:Program}{G:eO}{f:Nat}{ins:List (Mode×Ty)}{outs:List (Bool×Ty)}{M:(ac (ins.map (·.2))).den->Option (ac (outs.map (·.2)++aN ins)).den}(h:Con.Holds P G f ⟨ins,outs,M,false⟩)
  {x0:(ac (ins.map (·.2))).den} {r0:(ac (outs.map (·.2)++aN ins)).den} (e:M x0=some r0):Con.Holds P G f (ptC ins outs x0 r0):=by
 intro w F us x r hp hr;cases hx:fo _ x x0 with
 |false=>have hr:cond (fo _ x x0) (some r0) none=some r:=hr;rw[hx]at hr;cases hr
 |true=>have hr:cond (fo _ x x0) (some r0) none=some r:=hr;rw[hx]at hr;exact h w F us x r hp ((congrArg M (fR hx)).trans (e.trans hr))
noncomputable def Gq:Tab:=[(40,.slice I),(3,I),(28,.slice (.slice I)),(57,.slice .bool),(44,.prod I (.prod I .unit)),(78,.prod (.ptr .unit) (.prod (.slice I) (.prod (.slice I) (.prod I (.prod (.slice I) (.prod (.slice (.slice I)) .unit)))))),(77,.prod (.ptr .unit) (.prod (.slice I) (.prod (.slice I) (.prod I (.prod (.slice I) (.prod (.slice (.slice I)) .unit)))))),(87,.prod I (.prod (.slice (.slice I)) (.prod (.slice .bool) (.prod (.slice (.slice .bool)) (.prod (.slice (.slice I)) .unit))))),(22,.slice (.prod I (.prod I .unit))),(4,.bool),(24,.prod I (.prod (.slice (.prod I (.prod I .unit))) .unit)),(104,.prod (.slice (.prod I (.prod I .unit))) (.prod (.slice (.slice I)) .unit)),(73,.ptr .unit),(76,.ptr .unit),(81,.ptr .unit),(85,.slice (.slice .bool)),(115,.prod (.slice I) (.prod (.slice I) .unit)),(112,.slice (.prod (.slice I) (.prod (.slice I) .unit))),(107,.int .u64),(25,I),(30,.prod I (.prod (.slice (.prod I (.prod I .unit))) (.prod (.slice (.slice I)) .unit))),(32,.prod (.prod I (.prod (.slice (.prod I (.prod I .unit))) (.prod (.slice (.slice I)) .unit))) (.prod I (.prod (.slice (.slice I)) .unit)))]++tab
noncomputable def Ax(g:Nat):Option (Heap->List SV->Option (SV×Heap)):=cond (A7 g 130) (some app130) none
noncomputable def EB(l:List Fn):Ctx:={ tab:=Gq,con:=rn l,glob:=glob,eqs:=[44],maps:=[(50,(I,.bool))],inl:=Ax }
noncomputable def Iq(l:List Fn)(H:List (Nat×Hint)):Ctx:={ EB l with inl:=λg=>match iT H g with
 |some _=>some (nN Tryz.prog (EB l) (iT H) 60 g)
 |none=>Ax g }
theorem lB:cb Tryz.prog Gq=true:=by kernel_rfl
theorem rU:xi Tryz.prog Gq [44]=true:=by kernel_rfl
theorem pp:mn Tryz.prog [(50,(I,.bool))]=true:=by kernel_rfl
theorem wG{g:Nat}{r:Heap->List SV->Option (SV×Heap)}(h:Ax g=some r):km Tryz.prog glob g r:=by
 unfold Ax at h;cases hg:A7 g 130 with
 |false=>rw[hg]at h;cases h
 |true=>rw[hg]at h;cases h;rw[Nat.eq_of_beq_eq_true hg];exact zP
theorem Eq(l:List Fn):CtxOK Tryz.prog (EB l):=⟨lB,l5 lB rU,jO pp,af,λ_ _ h=>wG h⟩
theorem Ep(l:List Fn){H:List (Nat×Hint)}(hH:mV Tryz.prog H=true):CtxOK Tryz.prog (Iq l H):=⟨lB,l5 lB rU,jO pp,af,λg r h=>by
 have h:(match iT H g with
  |some _=>some (nN Tryz.prog (EB l) (iT H) 60 g)
  |none=>Ax g)=some r:=h
 split at h
 ·cases h;exact nP (Eq l) (jJ seat_ok.order) hH 60 g
 exact wG h⟩
noncomputable def gn(l:List Fn)(H:List (Nat×Hint))(h:Hint):Ctx:={ Iq l H with frz:=h.frz,deep:=h.deep,light:=h.light,hold:=h.hold,vars:=h.vars,min:=h.min }
theorem yk(l:List Fn){H:List (Nat×Hint)}(hH:mV Tryz.prog H=true)(h:Hint):CtxOK Tryz.prog (gn l H h):=⟨lB,l5 lB rU,jO pp,af,(Ep l hH).inl⟩
noncomputable def dP(C:Ctx)(body:Code)(N:Nat)(ins:List (Mode×Ty))(outs:ks)(x:(ac (ins.map (·.2))).den):Option (ac ((outs.map (·.2)).map (·.2)++aN ins)).den:=
 cO C (qA C (aG body) N 400) body (λe s=>match e with
  |.exit _=>none
  |.normal=>lP ins outs s
  |.ret=>lP ins outs s) { env:=dL ins 0 x,G:=aY ins 0 x }
theorem bh (l:List Fn)(H:List (Nat×Hint))(hH:mV Tryz.prog H=true)(ht:Hint){f:Nat}{fn:Func}{ins:List (Mode×Ty)}{outs:ks}(hf:Tryz.prog.funcs[f]?=some fn)(hb:fn.body=some (aW fn))
  (hk:(By fn (aW fn)&&lO Tryz.prog outs)=true) (hres:fn.results=(outs.map (·.1)).toArray) (hi:fC ins 0=[])
  {x0:(ac (ins.map (·.2))).den} {r0:(ac ((outs.map (·.2)).map (·.2)++aN ins)).den} (h:gv (dP (gn l H ht) (aW fn) fn.ntmps ins outs x0) r0=true):Con.Holds Tryz.prog glob f (ptC ins (outs.map (·.2)) x0 r0):=by
 simp only[np,By,Bool.not_eq_true']at hk;obtain⟨⟨⟨k1,k2⟩,k3⟩,k4⟩:=hk;exact Eb (wm (yk l hH ht) (jJ seat_ok.order) hf hb k1 (λw0 M _=>rx (yk l hH ht) (jJ seat_ok.order) k2 k3 400) k2 hi hres k4 (λ_=>rfl)) (EA h)
abbrev sW:Ty:=(.prod I (.prod I .unit))
abbrev DgT:Ty:=.prod I (.prod (.slice sW) .unit)
abbrev cj:Ty:=.prod I (.prod (.slice sW) (.prod (.slice (.slice I)) .unit))
abbrev rR:Ty:=.prod cj (.prod I (.prod (.slice (.slice I)) .unit))
theorem rl{α:Type}(a:Option α):kF a a=a:=by unfold kF;simp
theorem qY{P:Program}{G:eO}{f:Nat}{ins:List (Mode×Ty)}{outs:List (Bool×Ty)}{M M':(ac (ins.map (·.2))).den->Option (ac (outs.map (·.2)++aN ins)).den}{d:Bool}(h:Con.Holds P G f ⟨ins,outs,M,d⟩)(e:∀ x r,M' x=some r->M x=some r):Con.Holds P G f ⟨ins,outs,M',d⟩:=λw F us x r hp hr=>h w F us x r hp (e x r hr)
noncomputable def sO{α:Type}(x:List α×Unit):Option (List α×Unit):=(app [] x.1).bind λa=>some (a,())
theorem E1(x:List Int×Unit)(r:List Int×Unit)(h:sO x=some r):Zaz x=some r:=by
 obtain⟨l,u⟩:=x;cases l with
 |nil=>have e:(app ([]:List Int) []).bind (λa=>some (a,()))=some ([],()):=rfl;have h:(app ([]:List Int) []).bind (λa=>some (a,()))=some r:=h;show kF (some ([],())) ((app ([]:List Int) []).bind λa=>some (a,()))=some r;rw[e]at h ⊢;rw[rl];exact h
 |cons a l=>exact h
theorem EG(x:List (Int×Int×Unit)×Unit)(r:List (Int×Int×Unit)×Unit)(h:sO x=some r):Zaw x=some r:=by
 obtain⟨l,u⟩:=x;cases l with
 |nil=>have e:(app ([]:List (Int×Int×Unit)) []).bind (λa=>some (a,()))=some ([],()):=rfl;have h:(app ([]:List (Int×Int×Unit)) []).bind (λa=>some (a,()))=some r:=h;show kF (some ([],())) ((app ([]:List (Int×Int×Unit)) []).bind λa=>some (a,()))=some r;rw[e]at h ⊢;rw[rl];exact h
 |cons a l=>exact h
noncomputable def DJ:Fn:=⟨18,⟨[(.rd,.slice I)],[(true,.slice I)],sO,false⟩,qY Zaz_h.ok E1⟩
noncomputable def Cc:Fn:=⟨30,⟨[(.rd,.slice sW)],[(true,.slice sW)],sO,false⟩,qY Zaw_h.ok EG⟩
noncomputable def Bu{τ σ:Ty}:List (τ.den×σ.den)->τ.den->Option σ.den
 |[],_=>none
 |p::l,x=>cond (fo τ x p.1) (some p.2) (Bu l x)
noncomputable def lM(ins:List (Mode×Ty))(outs:List (Bool×Ty))(l:List ((ac (ins.map (·.2))).den×(ac (outs.map (·.2)++aN ins)).den)):Con:=⟨ins,outs,Bu (τ:=ac (ins.map (·.2))) (σ:=ac (outs.map (·.2)++aN ins)) l,false⟩
theorem dX{P:Program}{G:eO}{f:Nat}{ins:List (Mode×Ty)}{outs:List (Bool×Ty)}:Con.Holds P G f (lM ins outs []):=λ_ _ _ _ _ _ h=>by cases h
theorem bc {P:Program}{G:eO}{f:Nat}{ins:List (Mode×Ty)}{outs:List (Bool×Ty)}{x0:(ac (ins.map (·.2))).den}{r0:(ac (outs.map (·.2)++aN ins)).den}{l:List ((ac (ins.map (·.2))).den×(ac (outs.map (·.2)++aN ins)).den)}
  (h:Con.Holds P G f (ptC ins outs x0 r0)) (k:Con.Holds P G f (lM ins outs l)):Con.Holds P G f (lM ins outs ((x0,r0)::l)):=by
 intro w F us x r hp hr;have hr:cond (fo _ x x0) (some r0) (Bu l x)=some r:=hr;cases e:fo _ x x0 with
 |true=>rw[e]at hr;exact h w F us x r hp (by show cond (fo _ x x0) (some r0) none=some r;rw[e];exact hr)
 |false=>rw[e]at hr;exact k w F us x r hp hr
noncomputable def cs:List Fn:=[pM,DJ,uJ,wT,Cc,uQ,t7,BR,FO,FN,Fx,qx,Fm]
noncomputable def hs:List (Nat×Hint):=[(44,{}),(107,{}),(43,{}),(72,{}),(64,{}),(84,{}),(108,{}),(104,{}),(105,{}),(78,{}),(77,{}),(117,{}),(100,{}),(99,{}),(42,{ deep:=[10],light:=[7,8] }),(103,{}),(79,{}),(102,{}),(119,{ light:=[6] }),(101,{}),(73,{}),(47,{}),(14,{}),(33,{ deep:=[16],light:=[8,9] }),(109,{}),(31,{}),(81,{}),(80,{}),(106,{}),(75,{}),(50,{ deep:=[13] }),(49,{}),(48,{ deep:=[14,20],light:=[11,12] }),(74,{}),(32,{}),(13,{}),(9,{}),(12,{}),(6,{ deep:=[45],light:=[45],vars:=[2] }),(17,{}),(10,{}),(11,{}),(26,{}),(27,{}),(28,{}),(71,{}),(98,{})]
theorem ed:mV Tryz.prog hs=true:=by kernel_rfl
noncomputable def but(H:List (Nat×Hint))(ns:List Nat):List (Nat×Hint):=H.filter λp=>!(ns.any λn=>A7 n p.1)
theorem gk{H:List (Nat×Hint)}{ns:List Nat}(h:mV Tryz.prog H=true):mV Tryz.prog (but H ns)=true:=B5.2 λp hp=>B5.1 h p (List.mem_filter.1 hp).1
end
end Go.Vm
