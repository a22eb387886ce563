/-
 layoutlaw43.lives, run in the machine: what is common.
-/
import Derived.Test.YtnkjongpfleloaaGreatDoorVmE
import Derived.Test.YtnkjongpfleloaaGreatDoorVmLoop2
import Derived.Test.YtnkjongpfleloaaGreatDoorXG
import Derived.Test.YtnkjongpfleloaaGreatDoorD43A
open Bool renaming and_eq_true->np
open Nat renaming beq->A3
open List renaming all_eq_true->A9
set_option linter.unusedVariables false
set_option linter.unusedSimpArgs false
namespace Go.Vm
open Go.Proofs
noncomputable section
set_option maxRecDepth 1000000
def Ey{α:Type}(f:α->α->Bool):List α->List α->Bool
 |[],[]=>true
 |a::l,b::r=>f a b&&Ey f l r
 |_,_=>false
noncomputable def gd:(τ:Ty)->τ.den->τ.den->Bool
 |.int _,a,b=>eqI a b
 |.bool,a,b=>eqB a b
 |.str,a,b=>eqS a b
 |.slice e,x,y=>Ey (gd e) x y
 |.prod a b,x,y=>gd a x.1 y.1&&gd b x.2 y.2
 |.unit,_,_=>true
 |.arr _ e,x,y=>Ey (gd e) x y
 |.ptr e,x,y=>gd e x y
 |.clo _ e,x,y=>gd e x y
theorem tu{α:Type}{f:α->α->Bool}(hf:∀ a b,f a b=true->a=b):∀{l r:List α},Ey f l r=true->l=r
 |[],[],_=>rfl
 |[],_::_,h=>by cases h
 |_::_,[],h=>by cases h
 |a::l,b::r,h=>by simp only[Ey,np]at h;rw[hf a b h.1,tu hf h.2]
theorem gA:∀{τ:Ty} {x y:τ.den},gd τ x y=true->x=y
 |.int _,_,_,h=>eq_of_beq h
 |.bool,_,_,h=>eq_of_beq h
 |.str,_,_,h=>Kq.1 h
 |.slice e,_,_,h=>tu (λ_ _=>gA (τ:=e)) h
 |.prod a b,x,y,h=>by simp only[gd,np]at h;exact Prod.ext (gA h.1) (gA h.2)
 |.unit,_,_,_=>rfl
 |.arr _ e,_,_,h=>tu (λ_ _=>gA (τ:=e)) h
 |.ptr e,_,_,h=>gA (τ:=e) h
 |.clo _ e,_,_,h=>gA (τ:=e) h
noncomputable def bE{τ:Ty}(o:Option τ.den)(r:τ.den):Bool:=match o with
 |some x=>gd τ x r
 |none=>false
theorem dh{τ:Ty}{o:Option τ.den}{r:τ.den}(h:bE o r=true):o=some r:=by
 cases o with
 |none=>cases h
 |some x=>exact congrArg some (gA h)
noncomputable def ptC(ins:List (Mode×Ty))(outs:List (Bool×Ty))(x0:(aa (ins.map (·.2))).den)(r0:(aa (outs.map (·.2)++aS ins)).den):Con:=⟨ins,outs,λx=>cond (gd _ x x0) (some r0) none,false⟩
theorem cG {P:Program}{G:l6}{f:Nat}{ins:List (Mode×Ty)}{outs:List (Bool×Ty)}{M:(aa (ins.map (·.2))).den->Option (aa (outs.map (·.2)++aS ins)).den}(h:Con.Holds P G f ⟨ins,outs,M,false⟩)
  {x0:(aa (ins.map (·.2))).den} {r0:(aa (outs.map (·.2)++aS ins)).den} (e:M x0=some r0):Con.Holds P G f (ptC ins outs x0 r0):=by
 intro w F us x r hp hr;cases hx:gd _ x x0 with
 |false=>have hr:cond (gd _ x x0) (some r0) none=some r:=hr;rw[hx]at hr;cases hr
 |true=>have hr:cond (gd _ x x0) (some r0) none=some r:=hr;rw[hx]at hr;exact h w F us x r hp ((congrArg M (gA hx)).trans (e.trans hr))
noncomputable def Nb:Tab:=[(64,(.slice I)),(3,I),(190,yQ4),(57,aN),(152,(.slice .bool)),(36,yQ2),(170,.prod (.ptr .unit) (.prod (.slice I) (.prod (.slice I) (.prod I (.prod (.slice I) (.prod (.slice (.slice I)) .unit)))))),(178,NO),(192,(.slice gM)),(22,(.slice yQ2)),(4,.bool),(24,gL),(223,Km),(195,.prod (.slice (.prod I (.prod I (.prod I (.prod I (.prod I (.prod .bool .unit))))))) (.prod (.clo 0 .unit) .unit)),(168,.ptr .unit),(199,gM),(176,(.slice (.slice .bool))),(233,Gb),(140,(.slice yQ4)),(67,bg),(59,cT),(65,(.slice .str)),(25,(.slice yQ2)),(230,(.slice Gb)),(142,pi),(61,(.prod cT (.prod I HR))),(41,yQ2),(172,.ptr .unit),(26,fi),(200,(.int .u64)),(31,I)]++tab
noncomputable def FY(g:Nat):Option (Heap->List SV->Option (SV×Heap)):=cond (A3 g 248) (some app248) none
noncomputable def Ki(l:List Fn):Ctx:={ tab:=Nb,con:=so l,glob:=glob,eqs:=[36,41],maps:=[(103,(I,.bool))],inl:=FY }
noncomputable def Oj(l:List Fn)(H:List (Nat×Hint)):Ctx:={ Ki l with inl:=λg=>match k8 H g with
 |some _=>some (qA Tryz.prog (Ki l) (k8 H) 60 g)
 |none=>FY g }
theorem lA:cA Tryz.prog Nb=true:=by kernel_rfl
theorem t7:yx Tryz.prog Nb [36,41]=true:=by kernel_rfl
theorem qB:oD Tryz.prog [(103,(I,.bool))]=true:=by kernel_rfl
theorem BG{g:Nat}{r:Heap->List SV->Option (SV×Heap)}(h:FY g=some r):na Tryz.prog glob g r:=by
 unfold FY at h;cases hg:A3 g 248 with
 |false=>rw[hg]at h;cases h
 |true=>rw[hg]at h;cases h;rw[Nat.eq_of_beq_eq_true hg];exact Cp
theorem Kl(l:List Fn):CtxOK Tryz.prog (Ki l):=⟨lA,ua lA t7,pp qB,ab,λ_ _ h=>BG h⟩
theorem JM(l:List Fn){H:List (Nat×Hint)}(hH:rt Tryz.prog H=true):CtxOK Tryz.prog (Oj l H):=⟨lA,ua lA t7,pp qB,ab,λg r h=>by
 have h:(match k8 H g with
  |some _=>some (qA Tryz.prog (Ki l) (k8 H) 60 g)
  |none=>FY g)=some r:=h
 split at h
 ·cases h;exact sS (Kl l) (pJ seat_ok.order) hH 60 g
 exact BG h⟩
noncomputable def cg(l:List Fn)(H:List (Nat×Hint))(h:Hint):Ctx:={ Oj l H with frz:=h.frz,deep:=h.deep,light:=h.light,hold:=h.hold,vars:=h.vars,min:=h.min }
theorem yr(l:List Fn){H:List (Nat×Hint)}(hH:rt Tryz.prog H=true)(h:Hint):CtxOK Tryz.prog (cg l H h):=⟨lA,ua lA t7,pp qB,ab,(JM l hH).inl⟩
noncomputable def br(C:Ctx)(body:Code)(N:Nat)(ins:List (Mode×Ty))(outs:lY)(x:(aa (ins.map (·.2))).den):Option (aa ((outs.map (·.2)).map (·.2)++aS ins)).den:=
 dd C (qV C (aO body) N 400) body (λe s=>match e with
  |.exit _=>none
  |.normal=>l5 ins outs s
  |.ret=>l5 ins outs s) { env:=ep ins 0 x,G:=bi ins 0 x }
theorem am (l:List Fn)(H:List (Nat×Hint))(hH:rt Tryz.prog H=true)(ht:Hint){f:Nat}{fn:Func}{ins:List (Mode×Ty)}{outs:lY}(hf:Tryz.prog.funcs[f]?=some fn)(hb:fn.body=some (aI fn))
  (hk:(HI fn (aI fn)&&oX Tryz.prog outs)=true) (hres:fn.results=(outs.map (·.1)).toArray) (hi:fN ins 0=[])
  {x0:(aa (ins.map (·.2))).den} {r0:(aa ((outs.map (·.2)).map (·.2)++aS ins)).den} (h:bE (br (cg l H ht) (aI fn) fn.ntmps ins outs x0) r0=true):Con.Holds Tryz.prog glob f (ptC ins (outs.map (·.2)) x0 r0):=by
 simp only[np,HI,Bool.not_eq_true']at hk;obtain⟨⟨⟨k1,k2⟩,k3⟩,k4⟩:=hk;exact cG (xR (yr l hH ht) (pJ seat_ok.order) hf hb k1 (λw0 M _=>sr (yr l hH ht) (pJ seat_ok.order) k2 k3 400) k2 hi hres k4 (λ_=>rfl)) (dh h)
abbrev bm:Ty:=(.prod I (.prod I .unit))
abbrev DgT:Ty:=.prod I (.prod (.slice bm) .unit)
abbrev ba:Ty:=.prod I (.prod (.slice bm) (.prod (.slice (.slice I)) .unit))
abbrev fC:Ty:=.prod ba (.prod I (.prod (.slice (.slice I)) .unit))
abbrev cm:Ty:=.prod ba (.prod (.slice I) (.prod (.slice .str) (.prod I .unit)))
abbrev ea:Ty:=.prod I (.prod I (.prod I (.prod I (.prod I (.prod .bool .unit)))))
abbrev eC:Ty:=.prod (.slice I) (.prod (.slice (.prod I (.prod I (.prod I (.prod I .unit))))) .unit)
theorem sG{α:Type}(a:Option α):lW a a=a:=by unfold lW;simp
theorem sb{P:Program}{G:l6}{f:Nat}{ins:List (Mode×Ty)}{outs:List (Bool×Ty)}{M M':(aa (ins.map (·.2))).den->Option (aa (outs.map (·.2)++aS ins)).den}{d:Bool}(h:Con.Holds P G f ⟨ins,outs,M,d⟩)(e:∀ x r,M' x=some r->M x=some r):Con.Holds P G f ⟨ins,outs,M',d⟩:=λw F us x r hp hr=>h w F us x r hp (e x r hr)
noncomputable def tq{α:Type}(x:List α×Unit):Option (List α×Unit):=(app [] x.1).bind λa=>some (a,())
theorem Kg(x:List Int×Unit)(r:List Int×Unit)(h:tq x=some r):Zbb x=some r:=by
 obtain⟨l,u⟩:=x;cases l with
 |nil=>have e:(app ([]:List Int) []).bind (λa=>some (a,()))=some ([],()):=rfl;have h:(app ([]:List Int) []).bind (λa=>some (a,()))=some r:=h;show lW (some ([],())) ((app ([]:List Int) []).bind λa=>some (a,()))=some r;rw[e]at h ⊢;rw[sG];exact h
 |cons a l=>exact h
theorem JU(x:List (Int×Int×Unit)×Unit)(r:List (Int×Int×Unit)×Unit)(h:tq x=some r):Zbk x=some r:=by
 obtain⟨l,u⟩:=x;cases l with
 |nil=>have e:(app ([]:List (Int×Int×Unit)) []).bind (λa=>some (a,()))=some ([],()):=rfl;have h:(app ([]:List (Int×Int×Unit)) []).bind (λa=>some (a,()))=some r:=h;show lW (some ([],())) ((app ([]:List (Int×Int×Unit)) []).bind λa=>some (a,()))=some r;rw[e]at h ⊢;rw[sG];exact h
 |cons a l=>exact h
noncomputable def HU:Fn:=⟨64,⟨[(.rd,.slice I)],[(true,.slice I)],tq,false⟩,sb Ct Kg⟩
noncomputable def F5:Fn:=⟨99,⟨[(.rd,.slice bm)],[(true,.slice bm)],tq,false⟩,sb CI JU⟩
noncomputable def Jk{τ σ:Ty}:List (τ.den×σ.den)->τ.den->Option σ.den
 |[],_=>none
 |p::l,x=>cond (gd τ x p.1) (some p.2) (Jk l x)
noncomputable def cZ(ins:List (Mode×Ty))(outs:List (Bool×Ty))(l:List ((aa (ins.map (·.2))).den×(aa (outs.map (·.2)++aS ins)).den)):Con:=⟨ins,outs,Jk (τ:=aa (ins.map (·.2))) (σ:=aa (outs.map (·.2)++aS ins)) l,false⟩
theorem aX{P:Program}{G:l6}{f:Nat}{ins:List (Mode×Ty)}{outs:List (Bool×Ty)}:Con.Holds P G f (cZ ins outs []):=λ_ _ _ _ _ _ h=>by cases h
theorem ag {P:Program}{G:l6}{f:Nat}{ins:List (Mode×Ty)}{outs:List (Bool×Ty)}{x0:(aa (ins.map (·.2))).den}{r0:(aa (outs.map (·.2)++aS ins)).den}{l:List ((aa (ins.map (·.2))).den×(aa (outs.map (·.2)++aS ins)).den)}
  (h:Con.Holds P G f (ptC ins outs x0 r0)) (k:Con.Holds P G f (cZ ins outs l)):Con.Holds P G f (cZ ins outs ((x0,r0)::l)):=by
 intro w F us x r hp hr;have hr:cond (gd _ x x0) (some r0) (Jk l x)=some r:=hr;cases e:gd _ x x0 with
 |true=>rw[e]at hr;exact h w F us x r hp (by show cond (gd _ x x0) (some r0) none=some r;rw[e];exact hr)
 |false=>rw[e]at hr;exact k w F us x r hp hr
noncomputable def cs:List Fn:=[Br,HU,LG,OX,LQ,F5,sJ,ur,PR,K3,Ox,Oe,O8,K1,P4,La,Pu,LN,KR,LB,Zep_h,Jw,LJ,Zcv_h,Zcd_h,O0,P8,K7,PU,sk,PC,Om,OF,Oi,ON,Lp,QG,LT,Oo,Lc,OM,OB,mU,zl,LU,Ll,Zby_h]
noncomputable def hs:List (Nat×Hint):=[(138,{}),(225,{}),(137,{}),(184,{}),(158,{}),(119,{}),(226,{}),(222,{}),(223,{}),(189,{}),(188,{}),(237,{}),(218,{}),(217,{}),(136,{ deep:=[10],light:=[7,8] }),(221,{}),(190,{}),(220,{}),(239,{ light:=[6] }),(219,{}),(185,{}),(141,{}),(60,{}),(101,{ deep:=[16],light:=[8,9] }),(227,{}),(100,{}),(192,{}),(191,{}),(224,{}),(165,{}),(187,{}),(144,{ deep:=[13] }),(143,{}),(142,{ deep:=[14,20],light:=[11,12] }),(186,{}),(96,{}),(57,{}),(9,{ frz:=[7] }),(25,{}),(10,{}),(66,{}),(65,{}),(59,{}),(27,{}),(26,{ deep:=[45],light:=[45],vars:=[2] }),(107,{}),(63,{})]
theorem bt:rt Tryz.prog hs=true:=by kernel_rfl
noncomputable def but(H:List (Nat×Hint))(ns:List Nat):List (Nat×Hint):=H.filter λp=>!(ns.any λn=>A3 n p.1)
theorem bZ{H:List (Nat×Hint)}{ns:List Nat}(h:rt Tryz.prog H=true):rt Tryz.prog (but H ns)=true:=A9.2 λp hp=>A9.1 h p (List.mem_filter.1 hp).1
end
end Go.Vm
