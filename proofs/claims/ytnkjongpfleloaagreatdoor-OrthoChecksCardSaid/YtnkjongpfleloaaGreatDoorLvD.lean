/-
 layoutlaw43.lives, run in the machine: points.
-/
import Derived.Test.YtnkjongpfleloaaGreatDoorLvM5
import Derived.Test.YtnkjongpfleloaaGreatDoorLvK3
import Derived.Test.YtnkjongpfleloaaGreatDoorLvC4
import Derived.Test.YtnkjongpfleloaaGreatDoorLvS5
import Derived.Test.YtnkjongpfleloaaGreatDoorLvR5
import Derived.Test.YtnkjongpfleloaaGreatDoorLvPl
set_option linter.unusedVariables false
set_option linter.unusedSimpArgs false
namespace Go.Vm
open Go.Proofs
noncomputable section
set_option maxRecDepth 1000000
noncomputable def EW:(aa [DgT]).den:=((3,([(0,(1,())),(0,(2,())),(1,(2,()))],())),())
noncomputable def Fu:(aa [(.slice bm),(.slice (.slice bm)),I,I,I]).den:=([(1,(1,())),(2,(2,())),(1,(2,()))],[[(1,(1,())),(2,(1,())),(2,(2,()))],[(1,(1,())),(1,(2,()))],[(2,(2,())),(1,(2,()))]],0,1,0,())
noncomputable def zW:Fn:=⟨26,cZ [(.rd,DgT)] [(false,fC),(false,I),(false,I)] [(If,Jh)],ag p20_h.ok (aX)⟩
noncomputable def yF:Fn:=⟨27,cZ [(.rd,ba),(.rd,I)] [(false,cm),(false,I)] [(Hi,Jd)],ag s28_h.ok (aX)⟩
noncomputable def zX:Fn:=⟨30,cZ [(.rd,bg)] [(false,bg),(true,I)] [(N8,MS)],ag f3_h.ok (aX)⟩
noncomputable def By:Fn:=⟨31,cZ [(.rd,bg)] [(true,(.slice yQ2)),(true,I)] [(NP,Nc)],ag q0_h.ok (aX)⟩
theorem NS:bE (τ:=aa [(.slice bm),(.slice (.slice bm)),I,I,I]) (br (cg (zW::yF::zX::By::cs) (but hs [26,27,30,31]) { frz:=[7] }) (aI Tryz.f9) Tryz.f9.ntmps [(.rd,DgT)] [(.tmp 2,false,(.slice bm)),(.tmp 3,false,(.slice (.slice bm))),(.tmp 4,false,I),(.tmp 5,false,I),(.tmp 6,false,I)] EW) Fu=true:=by kernel_rfl
noncomputable def d29_h:Fn:=⟨9,ptC [(.rd,DgT)] [(false,(.slice bm)),(false,(.slice (.slice bm))),(false,I),(false,I),(false,I)] EW Fu,am (zW::yF::zX::By::cs) (but hs [26,27,30,31]) (bZ bt) { frz:=[7] } (outs:=[(.tmp 2,false,(.slice bm)),(.tmp 3,false,(.slice (.slice bm))),(.tmp 4,false,I),(.tmp 5,false,I),(.tmp 6,false,I)]) Tryz.func9 (by kernel_rfl) (by kernel_rfl) (by kernel_rfl) rfl NS⟩
noncomputable def GA:(aa [DgT]).den:=((4,([(0,(1,())),(1,(2,())),(2,(3,())),(3,(0,()))],())),())
noncomputable def Ix:(aa [(.slice bm),(.slice (.slice bm)),I,I,I]).den:=([(1,(1,())),(2,(1,())),(2,(2,())),(1,(2,()))],[[(1,(1,())),(2,(1,()))],[(2,(1,())),(2,(2,()))],[(2,(2,())),(1,(2,()))],[(1,(2,())),(1,(1,()))]],0,0,0,())
noncomputable def yP:Fn:=⟨26,cZ [(.rd,DgT)] [(false,fC),(false,I),(false,I)] [(Fa,EZ)],ag p55_h.ok (aX)⟩
noncomputable def As:Fn:=⟨27,cZ [(.rd,ba),(.rd,I)] [(false,cm),(false,I)] [(Gq,Gz)],ag s63_h.ok (aX)⟩
noncomputable def Ac:Fn:=⟨30,cZ [(.rd,bg)] [(false,bg),(true,I)] [(Nm,ML)],ag f4_h.ok (aX)⟩
noncomputable def zG:Fn:=⟨31,cZ [(.rd,bg)] [(true,(.slice yQ2)),(true,I)] [(NU,Nh)],ag q1_h.ok (aX)⟩
theorem MY:bE (τ:=aa [(.slice bm),(.slice (.slice bm)),I,I,I]) (br (cg (yP::As::Ac::zG::cs) (but hs [26,27,30,31]) { frz:=[7] }) (aI Tryz.f9) Tryz.f9.ntmps [(.rd,DgT)] [(.tmp 2,false,(.slice bm)),(.tmp 3,false,(.slice (.slice bm))),(.tmp 4,false,I),(.tmp 5,false,I),(.tmp 6,false,I)] GA) Ix=true:=by kernel_rfl
noncomputable def d64_h:Fn:=⟨9,ptC [(.rd,DgT)] [(false,(.slice bm)),(false,(.slice (.slice bm))),(false,I),(false,I),(false,I)] GA Ix,am (yP::As::Ac::zG::cs) (but hs [26,27,30,31]) (bZ bt) { frz:=[7] } (outs:=[(.tmp 2,false,(.slice bm)),(.tmp 3,false,(.slice (.slice bm))),(.tmp 4,false,I),(.tmp 5,false,I),(.tmp 6,false,I)]) Tryz.func9 (by kernel_rfl) (by kernel_rfl) (by kernel_rfl) rfl MY⟩
noncomputable def xE:(aa [DgT]).den:=((5,([(0,(1,())),(0,(2,())),(1,(2,())),(0,(3,())),(1,(3,())),(2,(3,())),(0,(4,())),(1,(4,())),(2,(4,())),(3,(4,()))],())),())
noncomputable def ym:(aa [(.slice bm),(.slice (.slice bm)),I,I,I]).den:=([(4,(2,())),(4,(4,())),(3,(3,())),(4,(3,())),(2,(3,()))],[[(4,(2,())),(5,(2,())),(5,(4,())),(4,(4,()))],[(4,(2,())),(3,(2,())),(3,(3,()))],[(4,(4,())),(3,(4,())),(3,(3,()))],[(4,(2,())),(4,(3,()))],[(4,(4,())),(4,(3,()))],[(3,(3,())),(4,(3,()))],[(4,(2,())),(4,(1,())),(2,(1,())),(2,(3,()))],[(4,(4,())),(4,(5,())),(2,(5,())),(2,(3,()))],[(3,(3,())),(2,(3,()))],[(4,(3,())),(6,(3,())),(6,(6,())),(1,(6,())),(1,(3,())),(2,(3,()))]],1,12,0,())
noncomputable def uX:Fn:=⟨26,cZ [(.rd,DgT)] [(false,fC),(false,I),(false,I)] [(wA,xL)],ag p113_h.ok (aX)⟩
noncomputable def vj:Fn:=⟨27,cZ [(.rd,ba),(.rd,I)] [(false,cm),(false,I)] [(xX,wL)],ag s124_h.ok (aX)⟩
noncomputable def vq:Fn:=⟨30,cZ [(.rd,cm)] [(false,cm),(false,I)] [(Nk,Mw)],ag f5_h.ok (aX)⟩
noncomputable def vI:Fn:=⟨31,cZ [(.rd,bg)] [(true,(.slice yQ2)),(true,I)] [(Mj,ND)],ag q2_h.ok (aX)⟩
theorem JQ:bE (τ:=aa [(.slice bm),(.slice (.slice bm)),I,I,I]) (br (cg (uX::vj::vq::vI::cs) (but hs [26,27,30,31]) { frz:=[7] }) (aI Tryz.f9) Tryz.f9.ntmps [(.rd,DgT)] [(.tmp 2,false,(.slice bm)),(.tmp 3,false,(.slice (.slice bm))),(.tmp 4,false,I),(.tmp 5,false,I),(.tmp 6,false,I)] xE) ym=true:=by kernel_rfl
noncomputable def d125_h:Fn:=⟨9,ptC [(.rd,DgT)] [(false,(.slice bm)),(false,(.slice (.slice bm))),(false,I),(false,I),(false,I)] xE ym,am (uX::vj::vq::vI::cs) (but hs [26,27,30,31]) (bZ bt) { frz:=[7] } (outs:=[(.tmp 2,false,(.slice bm)),(.tmp 3,false,(.slice (.slice bm))),(.tmp 4,false,I),(.tmp 5,false,I),(.tmp 6,false,I)]) Tryz.func9 (by kernel_rfl) (by kernel_rfl) (by kernel_rfl) rfl JQ⟩
noncomputable def xI:(aa [DgT]).den:=((6,([(0,(1,())),(0,(2,())),(1,(2,())),(0,(3,())),(1,(3,())),(2,(3,())),(0,(4,())),(1,(4,())),(2,(4,())),(3,(4,())),(0,(5,())),(1,(5,())),(2,(5,())),(3,(5,())),(4,(5,()))],())),())
noncomputable def wG:(aa [(.slice bm),(.slice (.slice bm)),I,I,I]).den:=([],[],0,0,11,())
theorem J4:bE (τ:=aa [(.slice bm),(.slice (.slice bm)),I,I,I]) (br (cg cs hs { frz:=[7] }) (aI Tryz.f9) Tryz.f9.ntmps [(.rd,DgT)] [(.tmp 2,false,(.slice bm)),(.tmp 3,false,(.slice (.slice bm))),(.tmp 4,false,I),(.tmp 5,false,I),(.tmp 6,false,I)] xI) wG=true:=by kernel_rfl
noncomputable def d129_h:Fn:=⟨9,ptC [(.rd,DgT)] [(false,(.slice bm)),(false,(.slice (.slice bm))),(false,I),(false,I),(false,I)] xI wG,am cs hs bt { frz:=[7] } (outs:=[(.tmp 2,false,(.slice bm)),(.tmp 3,false,(.slice (.slice bm))),(.tmp 4,false,I),(.tmp 5,false,I),(.tmp 6,false,I)]) Tryz.func9 (by kernel_rfl) (by kernel_rfl) (by kernel_rfl) rfl J4⟩
noncomputable def tD:(aa []).den:=(())
noncomputable def s7:(aa [.bool]).den:=(true,())
noncomputable def vf:Fn:=⟨9,cZ [(.rd,DgT)] [(false,(.slice bm)),(false,(.slice (.slice bm))),(false,I),(false,I),(false,I)] [(EW,Fu),(GA,Ix),(xE,ym),(xI,wG)],ag d29_h.ok (ag d64_h.ok (ag d125_h.ok (ag d129_h.ok (aX))))⟩
theorem HO:bE (τ:=aa [.bool]) (br (cg (vf::cs) (but hs [9]) {}) (aI Tryz.f6) Tryz.f6.ntmps [] [(.tmp 0,false,.bool)] tD) s7=true:=by kernel_rfl
noncomputable def lives_h:Fn:=⟨6,ptC [] [(false,.bool)] tD s7,am (vf::cs) (but hs [9]) (bZ bt) {} (outs:=[(.tmp 0,false,.bool)]) Tryz.func6 (by kernel_rfl) (by kernel_rfl) (by kernel_rfl) rfl HO⟩
noncomputable def trueCon:Con:=ptC [] [(false,.bool)] tD s7
theorem KG:Con.Holds Tryz.prog glob 6 trueCon:=lives_h.ok
end
end Go.Vm
