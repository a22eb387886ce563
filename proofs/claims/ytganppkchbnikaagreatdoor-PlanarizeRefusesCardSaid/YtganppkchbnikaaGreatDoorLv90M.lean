/-
 layoutlaw34.awake, run in the machine: points.
-/
import Derived.Test.YtganppkchbnikaaGreatDoorLv90Ea
import Derived.Test.YtganppkchbnikaaGreatDoorLv90Eb
import Derived.Test.YtganppkchbnikaaGreatDoorLv90Ec
set_option linter.unusedVariables false
set_option linter.unusedSimpArgs false
namespace Go.Vm
open Go.Proofs
noncomputable section
set_option maxRecDepth 1000000
noncomputable def uV:(ac [DgT]).den:=((5,([(0,1,()),(0,2,()),(0,3,()),(0,4,()),(1,2,()),(1,3,()),(1,4,()),(2,3,()),(2,4,()),(3,4,())],())),())
noncomputable def vJ:(ac [(.slice I),I]).den:=([0,1,2,3,4,5,6,7,8],0,())
noncomputable def tZ:Fn:=⟨14,lM [(.rd,DgT)] [(false,cj),(false,I)] [(xa,yf),(xK,xl),(xn,ym),(wK,xA),(xD,yG),(xg,xx),(xu,wY),(wH,xE),(tc,si),(sR,td)],bc e70_h.ok (bc e74_h.ok (bc e78_h.ok (bc e82_h.ok (bc e86_h.ok (bc e90_h.ok (bc e94_h.ok (bc e98_h.ok (bc e102_h.ok (bc e104_h.ok (dX))))))))))⟩
theorem Fj:gv (τ:=ac [(.slice I),I]) (dP (gn (tZ::cs) (but hs [14]) {}) (aW Tryz.f12) Tryz.f12.ntmps [(.rd,DgT)] [(.tmp 2,false,(.slice I)),(.tmp 3,false,I)] uV) vJ=true:=by kernel_rfl
noncomputable def m106_h:Fn:=⟨12,ptC [(.rd,DgT)] [(false,(.slice I)),(false,I)] uV vJ,bh (tZ::cs) (but hs [14]) (gk ed) {} (outs:=[(.tmp 2,false,(.slice I)),(.tmp 3,false,I)]) Tryz.func12 (by kernel_rfl) (by kernel_rfl) (by kernel_rfl) rfl Fj⟩
noncomputable def uY:(ac [DgT]).den:=((5,([(0,1,()),(0,2,()),(0,3,()),(0,4,()),(1,2,()),(1,3,()),(1,4,()),(2,3,()),(2,4,()),(3,4,())],())),())
noncomputable def wl:(ac [rR,I,I]).den:=(((6,([(0,5,()),(0,2,()),(0,3,()),(0,4,()),(1,2,()),(1,3,()),(1,4,()),(2,3,()),(2,4,()),(5,1,()),(3,5,()),(5,4,())],([[0,4,2,6],[19,12,8,10],[3,14,9,16],[5,20,11,15],[23,7,17,13],[21,1,22,18]],()))),(5,([[0,18],[2],[4],[6],[8],[10],[12],[14],[16],[20,22]],()))),1,0,())
noncomputable def uq:Fn:=⟨12,lM [(.rd,DgT)] [(false,(.slice I)),(false,I)] [(uV,vJ)],bc m106_h.ok (dX)⟩
noncomputable def uB:Fn:=⟨14,lM [(.rd,DgT)] [(false,cj),(false,I)] [(xa,yf),(xK,xl),(xn,ym),(wK,xA),(xD,yG),(xg,xx),(xu,wY),(wH,xE),(tc,si),(sR,td)],bc e70_h.ok (bc e74_h.ok (bc e78_h.ok (bc e82_h.ok (bc e86_h.ok (bc e90_h.ok (bc e94_h.ok (bc e98_h.ok (bc e102_h.ok (bc e104_h.ok (dX))))))))))⟩
theorem EL:gv (τ:=ac [rR,I,I]) (dP (gn (uq::uB::cs) (but hs [12,14]) { deep:=[45],light:=[45],vars:=[2] }) (aW Tryz.f6) Tryz.f6.ntmps [(.rd,DgT)] [(.cell 2 32,false,rR),(.tmp 3,false,I),(.tmp 4,false,I)] uY) wl=true:=by kernel_rfl
noncomputable def p113_h:Fn:=⟨6,ptC [(.rd,DgT)] [(false,rR),(false,I),(false,I)] uY wl,bh (uq::uB::cs) (but hs [12,14]) (gk ed) { deep:=[45],light:=[45],vars:=[2] } (outs:=[(.cell 2 32,false,rR),(.tmp 3,false,I),(.tmp 4,false,I)]) Tryz.func6 (by kernel_rfl) (by kernel_rfl) (by kernel_rfl) rfl EL⟩
end
end Go.Vm
