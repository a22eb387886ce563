/-
 Facts of the program's text.
-/
import Derived.Test.YtdijhiodknmjaaaGreatDoorCards
import Derived.Test.YtdijhiodknmjaaaGreatDoorTieF
import Derived.WalkKit
import Derived.ProofKit
import Derived.OpenShut
import Derived.Deep.DeepHandedRow
import Derived.Lib.LaidTab
import Derived.SevenTiedAt
open Option.some renaming inj->L9
set_option linter.unusedVariables false
set_option linter.unusedSimpArgs false
set_option maxRecDepth 100000
namespace Go.Proofs.YtdijhiodknmjaaaGreatDoor.auditFinds
open Go.ChangeShapes Go.WideShapes Go.ChangeAt Go.RowKit
theorem clo:Tryz.pinned.checked.prog.closure 3=[3,4,5,6,10,26,62,116,197,198,117,63,118,200,199,119,120,121,202,201,276,64,123,122,203,124,204,65,14,27,66,125,126,176,95,94,173,228,262,256,348,349,174,263,355,356,357,358,359,175,264,360,171,261,265,177,266,267,362,361,444,363,445,446,207,280,370,281,282,371,283,234,208,284,372,374,456,531,455,530,570,324,419,518,253,418,509,515,566,510,561,511,562,563,512,564,565,586,513,514,516,517,373,451,452,453,454,285,375,300,287,380,462,463,540,575,541,376,457,532,533,571,587,588,592,594,534,535,572,573,461,539,286,377,378,458,459,460,536,574,538,537,379,205,277,367,449,279,368,369,450,278,206,74,147,96,127,135,209,210,289,288,211,238,132,220,83,157,251,158,221,317,179,268,347,290,381,464,542,382,383,239,291,384,292,67,128,212,293,294,385,465,295,225,321,322,323,296,386,213,297,319,387,224,320,413,414,500,501,552,578,579,589,580,581,590,591,593,582,583,584,585,502,415,416,503,554,555,556,553,316,504,505,557,506,558,508,559,560,507,417,298,388,466,397,493,408,303,398,496,543,467,469,544,468,471,470,473,472,474,389,475,390,476,478,479,477,480,406,401,495,494,524,525,569,299,215,214,301,391,481,482,392,483,545,484,485,546,486,547,548,393,487,302,394,395,396,328,430,431,488,549,489,550,576,551,577,490,491,492,216,304,318,407,409,410,497,411,498,412,499,305,306,217,222,307,308,399,400,402,403,309,404,310,405,218,311,312,313,315,314,219,129,139,130,223,260,68,131,226,227,325,420,519,520,421,422,521,326,423,424,425,522,567,426,327,427,523,568,428,429,526,69,133,229,230,134,231,329,330,432,331,433,136,72,146,70,138,137,232,332,333,233,235,335,435,434,527,334,336,28,71,140,236,91,337,38,76,148,237,143,144,40,338,436,437,438,141,142,145,29,73,75,77,149,78,32,82,30,79,37,151,243,340,439,341,150,240,339,241,39,242,152,244,153,245,342,440,343,441,344,345,246,247,346,442,80,154,8,13,33,84,15,34,35,85,159,160,252,254,161,162,255,36,86,87,88,163,89,164,257,258,350,165,259,351,443,528,352,353,354,16,17,18,41,42,90,92,166,168,167,93,169,170,172,43,97,178,98,31,81,155,248,156,249,250,44,99,11,7,12,9,19,20,45,100,180,269,270,181,101,182,183,184,102,185,103,46,104,186,47,105,21,48,49,22,50,23,51,52,24,53,106,187,188,271,54,107,55,108,190,189,272,273,364,365,447,274,366,448,529,275,56,109,191,192,193,194,57,110,58,25,59,60,112,111,195,61,113,196,114,115]:=by kernel_rfl
theorem unf:Tryz.pinned.checked.prog.unfollowed 3=true:=by unfold Program.unfollowed;rw[clo];kernel_rfl
theorem T2:(Rows.auditFindsRow.inPlace==Tryz.pinned.checked.prog.inPlace 3)=true:=by unfold Program.inPlace;rw[clo];kernel_rfl
theorem TV:(Rows.auditFindsRow.unfollowed==Tryz.pinned.checked.prog.unfollowed 3)=true:=by rw[unf];rfl
theorem TR:(Rows.auditFindsRow.recurses==Tryz.pinned.checked.prog.recurses 3)=true:=by unfold Program.recurses;rw[unf];rfl
theorem Uh:(Rows.auditFindsRow.named==Tryz.pinned.checked.prog.varsNamed 3)=true:=by unfold Program.varsNamed;rw[clo];kernel_rfl
theorem Ur:laidOutB Tryz.pinned.checked.prog=true:=by kernel_rfl
theorem TQ:mapsRowed Tryz.pinned.checked.prog=true:=by kernel_rfl
theorem T1:(Tryz.pinned.checked.prog.stops == [])=true:=by kernel_rfl
theorem Ua:(Tryz.pinned.checked.prog.stopKnobs == [])=true:=by kernel_rfl
theorem Ug:(Rows.auditFindsRow.plainKeys==Tryz.pinned.checked.prog.plainKeys)=true:=by kernel_rfl
theorem T0:Tryz.pinned.checked.prog.stopsHeard=true:=by kernel_rfl
theorem Tj:Tryz.pinned.checked.prog.mayEnter=true:=by kernel_rfl
theorem Tc:(Rows.auditFindsRow.lifted==Tryz.pinned.checked.prog.liftsFinal)=true:=by kernel_rfl
theorem closed:joinedFacts Tryz.pinned.checked.prog 3 Tryz.f3 (OpenSpec.ofChange Rows.auditFindsSpec).bare Rows.auditFindsRow=true:=by unfold joinedFacts;rw[T2,TV,TR,Uh,Ur,TQ,T1,Ua,Ug,T0,Tj,Tc];kernel_rfl
theorem gof:Tryz.pinned.checked.prog.goes 3=false:=by unfold Program.goes;rw[clo,unf];kernel_rfl
theorem goes:false=Rows.auditFindsRow.goesBy Tryz.pinned.checked.prog:=by
 have hn : Tryz.pinned.checked.prog.funcNamed "layout/layoutlaw58.AuditFinds" = some 3 := by kernel_rfl
 have hs:Rows.auditFindsRow.start=.entering:=rfl;have hf : Rows.auditFindsRow.func = "layout/layoutlaw58.AuditFinds" := rfl
 unfold OpenClaim.goesBy Program.goesAt Program.goesFrom;rw[hs,hf,hn,Option.any_some,gof];rfl
theorem pl1:Tryz.prog.funcNamed "layout/layoutlaw58.AuditFinds"=some 3:=by kernel_rfl
theorem pl2:false=Tryz.pinned.checked.prog.looks []:=by kernel_rfl
theorem pl3:(Tryz.f3.params.toList.all λu=>!Tryz.prog.wantsStandIn u)=true:=by kernel_rfl
end Go.Proofs.YtdijhiodknmjaaaGreatDoor.auditFinds
