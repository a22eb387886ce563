/-
 layoutlaw34.awake, run in the machine: points.
-/
import Derived.Test.YtganppkchbnikaaGreatDoorLv90A
set_option linter.unusedVariables false
set_option linter.unusedSimpArgs false
namespace Go.Vm
open Go.Proofs
noncomputable section
set_option maxRecDepth 1000000
noncomputable def BN:(ac [DgT]).den:=((5,([(0,1,())],())),())
noncomputable def BJ:(ac [(.slice (.slice I))]).den:=([[0]],())
theorem G6:gv (τ:=ac [(.slice (.slice I))]) (dP (gn cs hs {}) (aW Tryz.f47) Tryz.f47.ntmps [(.rd,DgT)] [(.tmp 2,false,(.slice (.slice I)))] BN) BJ=true:=by kernel_rfl
noncomputable def b68_h:Fn:=⟨47,ptC [(.rd,DgT)] [(false,(.slice (.slice I)))] BN BJ,bh cs hs ed {} (outs:=[(.tmp 2,false,(.slice (.slice I)))]) Tryz.func47 (by kernel_rfl) (by kernel_rfl) (by kernel_rfl) rfl G6⟩
noncomputable def xa:(ac [DgT]).den:=((5,([(0,1,())],())),())
noncomputable def yf:(ac [cj,I]).den:=((5,([(0,1,())],([[0],[1],[],[],[]],()))),0,())
noncomputable def tu:Fn:=⟨47,lM [(.rd,DgT)] [(false,(.slice (.slice I)))] [(BN,BJ)],bc b68_h.ok (dX)⟩
theorem Ha:gv (τ:=ac [cj,I]) (dP (gn (tu::cs) (but hs [47]) {}) (aW Tryz.f14) Tryz.f14.ntmps [(.rd,DgT)] [(.cell 2 30,false,cj),(.tmp 3,false,I)] xa) yf=true:=by kernel_rfl
noncomputable def e70_h:Fn:=⟨14,ptC [(.rd,DgT)] [(false,cj),(false,I)] xa yf,bh (tu::cs) (but hs [47]) (gk ed) {} (outs:=[(.cell 2 30,false,cj),(.tmp 3,false,I)]) Tryz.func14 (by kernel_rfl) (by kernel_rfl) (by kernel_rfl) rfl Ha⟩
noncomputable def DM:(ac [DgT]).den:=((5,([(0,1,()),(0,2,())],())),())
noncomputable def AP:(ac [(.slice (.slice I))]).den:=([[0],[1]],())
theorem Hh:gv (τ:=ac [(.slice (.slice I))]) (dP (gn cs hs {}) (aW Tryz.f47) Tryz.f47.ntmps [(.rd,DgT)] [(.tmp 2,false,(.slice (.slice I)))] DM) AP=true:=by kernel_rfl
noncomputable def b72_h:Fn:=⟨47,ptC [(.rd,DgT)] [(false,(.slice (.slice I)))] DM AP,bh cs hs ed {} (outs:=[(.tmp 2,false,(.slice (.slice I)))]) Tryz.func47 (by kernel_rfl) (by kernel_rfl) (by kernel_rfl) rfl Hh⟩
noncomputable def xK:(ac [DgT]).den:=((5,([(0,1,()),(0,2,())],())),())
noncomputable def xl:(ac [cj,I]).den:=((5,([(0,1,()),(0,2,())],([[0,2],[1],[3],[],[]],()))),0,())
noncomputable def tx:Fn:=⟨47,lM [(.rd,DgT)] [(false,(.slice (.slice I)))] [(DM,AP)],bc b72_h.ok (dX)⟩
theorem Hi:gv (τ:=ac [cj,I]) (dP (gn (tx::cs) (but hs [47]) {}) (aW Tryz.f14) Tryz.f14.ntmps [(.rd,DgT)] [(.cell 2 30,false,cj),(.tmp 3,false,I)] xK) xl=true:=by kernel_rfl
noncomputable def e74_h:Fn:=⟨14,ptC [(.rd,DgT)] [(false,cj),(false,I)] xK xl,bh (tx::cs) (but hs [47]) (gk ed) {} (outs:=[(.cell 2 30,false,cj),(.tmp 3,false,I)]) Tryz.func14 (by kernel_rfl) (by kernel_rfl) (by kernel_rfl) rfl Hi⟩
noncomputable def Am:(ac [DgT]).den:=((5,([(0,1,()),(0,2,()),(0,3,())],())),())
noncomputable def Em:(ac [(.slice (.slice I))]).den:=([[0],[1],[2]],())
theorem Gt:gv (τ:=ac [(.slice (.slice I))]) (dP (gn cs hs {}) (aW Tryz.f47) Tryz.f47.ntmps [(.rd,DgT)] [(.tmp 2,false,(.slice (.slice I)))] Am) Em=true:=by kernel_rfl
noncomputable def b76_h:Fn:=⟨47,ptC [(.rd,DgT)] [(false,(.slice (.slice I)))] Am Em,bh cs hs ed {} (outs:=[(.tmp 2,false,(.slice (.slice I)))]) Tryz.func47 (by kernel_rfl) (by kernel_rfl) (by kernel_rfl) rfl Gt⟩
noncomputable def xn:(ac [DgT]).den:=((5,([(0,1,()),(0,2,()),(0,3,())],())),())
noncomputable def ym:(ac [cj,I]).den:=((5,([(0,1,()),(0,2,()),(0,3,())],([[0,2,4],[1],[3],[5],[]],()))),0,())
noncomputable def tQ:Fn:=⟨47,lM [(.rd,DgT)] [(false,(.slice (.slice I)))] [(Am,Em)],bc b76_h.ok (dX)⟩
theorem GH:gv (τ:=ac [cj,I]) (dP (gn (tQ::cs) (but hs [47]) {}) (aW Tryz.f14) Tryz.f14.ntmps [(.rd,DgT)] [(.cell 2 30,false,cj),(.tmp 3,false,I)] xn) ym=true:=by kernel_rfl
noncomputable def e78_h:Fn:=⟨14,ptC [(.rd,DgT)] [(false,cj),(false,I)] xn ym,bh (tQ::cs) (but hs [47]) (gk ed) {} (outs:=[(.cell 2 30,false,cj),(.tmp 3,false,I)]) Tryz.func14 (by kernel_rfl) (by kernel_rfl) (by kernel_rfl) rfl GH⟩
noncomputable def CC:(ac [DgT]).den:=((5,([(0,1,()),(0,2,()),(0,3,()),(0,4,())],())),())
noncomputable def AM:(ac [(.slice (.slice I))]).den:=([[0],[1],[2],[3]],())
theorem Gn:gv (τ:=ac [(.slice (.slice I))]) (dP (gn cs hs {}) (aW Tryz.f47) Tryz.f47.ntmps [(.rd,DgT)] [(.tmp 2,false,(.slice (.slice I)))] CC) AM=true:=by kernel_rfl
noncomputable def b80_h:Fn:=⟨47,ptC [(.rd,DgT)] [(false,(.slice (.slice I)))] CC AM,bh cs hs ed {} (outs:=[(.tmp 2,false,(.slice (.slice I)))]) Tryz.func47 (by kernel_rfl) (by kernel_rfl) (by kernel_rfl) rfl Gn⟩
noncomputable def wK:(ac [DgT]).den:=((5,([(0,1,()),(0,2,()),(0,3,()),(0,4,())],())),())
noncomputable def xA:(ac [cj,I]).den:=((5,([(0,1,()),(0,2,()),(0,3,()),(0,4,())],([[0,2,4,6],[1],[3],[5],[7]],()))),0,())
noncomputable def tN:Fn:=⟨47,lM [(.rd,DgT)] [(false,(.slice (.slice I)))] [(CC,AM)],bc b80_h.ok (dX)⟩
theorem Hl:gv (τ:=ac [cj,I]) (dP (gn (tN::cs) (but hs [47]) {}) (aW Tryz.f14) Tryz.f14.ntmps [(.rd,DgT)] [(.cell 2 30,false,cj),(.tmp 3,false,I)] wK) xA=true:=by kernel_rfl
noncomputable def e82_h:Fn:=⟨14,ptC [(.rd,DgT)] [(false,cj),(false,I)] wK xA,bh (tN::cs) (but hs [47]) (gk ed) {} (outs:=[(.cell 2 30,false,cj),(.tmp 3,false,I)]) Tryz.func14 (by kernel_rfl) (by kernel_rfl) (by kernel_rfl) rfl Hl⟩
noncomputable def D7:(ac [DgT]).den:=((5,([(0,1,()),(0,2,()),(0,3,()),(0,4,()),(1,2,())],())),())
noncomputable def D3:(ac [(.slice (.slice I))]).den:=([[0,1,4],[2],[3]],())
theorem GP:gv (τ:=ac [(.slice (.slice I))]) (dP (gn cs hs {}) (aW Tryz.f47) Tryz.f47.ntmps [(.rd,DgT)] [(.tmp 2,false,(.slice (.slice I)))] D7) D3=true:=by kernel_rfl
noncomputable def b84_h:Fn:=⟨47,ptC [(.rd,DgT)] [(false,(.slice (.slice I)))] D7 D3,bh cs hs ed {} (outs:=[(.tmp 2,false,(.slice (.slice I)))]) Tryz.func47 (by kernel_rfl) (by kernel_rfl) (by kernel_rfl) rfl GP⟩
noncomputable def xD:(ac [DgT]).den:=((5,([(0,1,()),(0,2,()),(0,3,()),(0,4,()),(1,2,())],())),())
noncomputable def yG:(ac [cj,I]).den:=((5,([(0,1,()),(0,2,()),(0,3,()),(0,4,()),(1,2,())],([[0,2,4,6],[1,8],[3,9],[5],[7]],()))),0,())
noncomputable def uO:Fn:=⟨47,lM [(.rd,DgT)] [(false,(.slice (.slice I)))] [(D7,D3)],bc b84_h.ok (dX)⟩
theorem Gx:gv (τ:=ac [cj,I]) (dP (gn (uO::cs) (but hs [47]) {}) (aW Tryz.f14) Tryz.f14.ntmps [(.rd,DgT)] [(.cell 2 30,false,cj),(.tmp 3,false,I)] xD) yG=true:=by kernel_rfl
noncomputable def e86_h:Fn:=⟨14,ptC [(.rd,DgT)] [(false,cj),(false,I)] xD yG,bh (uO::cs) (but hs [47]) (gk ed) {} (outs:=[(.cell 2 30,false,cj),(.tmp 3,false,I)]) Tryz.func14 (by kernel_rfl) (by kernel_rfl) (by kernel_rfl) rfl Gx⟩
noncomputable def DC:(ac [DgT]).den:=((5,([(0,1,()),(0,2,()),(0,3,()),(0,4,()),(1,2,()),(1,3,())],())),())
noncomputable def DY:(ac [(.slice (.slice I))]).den:=([[0,1,2,4,5],[3]],())
theorem GX:gv (τ:=ac [(.slice (.slice I))]) (dP (gn cs hs {}) (aW Tryz.f47) Tryz.f47.ntmps [(.rd,DgT)] [(.tmp 2,false,(.slice (.slice I)))] DC) DY=true:=by kernel_rfl
noncomputable def b88_h:Fn:=⟨47,ptC [(.rd,DgT)] [(false,(.slice (.slice I)))] DC DY,bh cs hs ed {} (outs:=[(.tmp 2,false,(.slice (.slice I)))]) Tryz.func47 (by kernel_rfl) (by kernel_rfl) (by kernel_rfl) rfl GX⟩
noncomputable def xg:(ac [DgT]).den:=((5,([(0,1,()),(0,2,()),(0,3,()),(0,4,()),(1,2,()),(1,3,())],())),())
noncomputable def xx:(ac [cj,I]).den:=((5,([(0,1,()),(0,2,()),(0,3,()),(0,4,()),(1,2,()),(1,3,())],([[0,4,2,6],[1,8,10],[3,9],[5,11],[7]],()))),0,())
noncomputable def ug:Fn:=⟨47,lM [(.rd,DgT)] [(false,(.slice (.slice I)))] [(DC,DY)],bc b88_h.ok (dX)⟩
theorem Hc:gv (τ:=ac [cj,I]) (dP (gn (ug::cs) (but hs [47]) {}) (aW Tryz.f14) Tryz.f14.ntmps [(.rd,DgT)] [(.cell 2 30,false,cj),(.tmp 3,false,I)] xg) xx=true:=by kernel_rfl
noncomputable def e90_h:Fn:=⟨14,ptC [(.rd,DgT)] [(false,cj),(false,I)] xg xx,bh (ug::cs) (but hs [47]) (gk ed) {} (outs:=[(.cell 2 30,false,cj),(.tmp 3,false,I)]) Tryz.func14 (by kernel_rfl) (by kernel_rfl) (by kernel_rfl) rfl Hc⟩
noncomputable def Bv:(ac [DgT]).den:=((5,([(0,1,()),(0,2,()),(0,3,()),(0,4,()),(1,2,()),(1,3,()),(1,4,())],())),())
noncomputable def D4:(ac [(.slice (.slice I))]).den:=([[0,1,2,3,4,5,6]],())
theorem Gw:gv (τ:=ac [(.slice (.slice I))]) (dP (gn cs hs {}) (aW Tryz.f47) Tryz.f47.ntmps [(.rd,DgT)] [(.tmp 2,false,(.slice (.slice I)))] Bv) D4=true:=by kernel_rfl
noncomputable def b92_h:Fn:=⟨47,ptC [(.rd,DgT)] [(false,(.slice (.slice I)))] Bv D4,bh cs hs ed {} (outs:=[(.tmp 2,false,(.slice (.slice I)))]) Tryz.func47 (by kernel_rfl) (by kernel_rfl) (by kernel_rfl) rfl Gw⟩
noncomputable def xu:(ac [DgT]).den:=((5,([(0,1,()),(0,2,()),(0,3,()),(0,4,()),(1,2,()),(1,3,()),(1,4,())],())),())
noncomputable def wY:(ac [cj,I]).den:=((5,([(0,1,()),(0,2,()),(0,3,()),(0,4,()),(1,2,()),(1,3,()),(1,4,())],([[0,4,6,2],[1,8,12,10],[3,9],[5,11],[7,13]],()))),0,())
noncomputable def tz:Fn:=⟨47,lM [(.rd,DgT)] [(false,(.slice (.slice I)))] [(Bv,D4)],bc b92_h.ok (dX)⟩
theorem GS:gv (τ:=ac [cj,I]) (dP (gn (tz::cs) (but hs [47]) {}) (aW Tryz.f14) Tryz.f14.ntmps [(.rd,DgT)] [(.cell 2 30,false,cj),(.tmp 3,false,I)] xu) wY=true:=by kernel_rfl
noncomputable def e94_h:Fn:=⟨14,ptC [(.rd,DgT)] [(false,cj),(false,I)] xu wY,bh (tz::cs) (but hs [47]) (gk ed) {} (outs:=[(.cell 2 30,false,cj),(.tmp 3,false,I)]) Tryz.func14 (by kernel_rfl) (by kernel_rfl) (by kernel_rfl) rfl GS⟩
end
end Go.Vm
