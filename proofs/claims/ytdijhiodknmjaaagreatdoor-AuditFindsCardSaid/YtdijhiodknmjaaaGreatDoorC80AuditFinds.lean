/-
 THE LAW AuditFinds: for every input that its row speaks of the call returns true and leaves its arguments as they were; its listed variables are tied to the text.
 Conditions: those of the given row alone.
-/
import Derived.Test.YtdijhiodknmjaaaGreatDoorLG
import Derived.Test.YtdijhiodknmjaaaGreatDoorD80
import Derived.Test.YtdijhiodknmjaaaGreatDoorVmE
import Derived.Test.YtdijhiodknmjaaaGreatDoorCards
import Derived.Test.YtdijhiodknmjaaaGreatDoorTieF
import Derived.WalkKit
import Derived.ProofKit
import Derived.OpenShut
import Derived.Deep.DeepHandedRow
import Derived.Lib.LaidTab
import Derived.SevenTiedAt
open Option.some renaming inj->L9
set_option linter.unusedVariables false
set_option linter.unusedSimpArgs false
set_option maxRecDepth 100000
namespace Go.Proofs.YtdijhiodknmjaaaGreatDoor.auditFinds
open Go.ChangeShapes Go.WideShapes Go.ChangeAt Go.RowKit Go.Vm
theorem own:ownKnob Tryz.prog.godebug=none:=by kernel_rfl
theorem Sh:laidOutB Tryz.prog=true:=by kernel_rfl
theorem HP:(Rows.auditFindsRow.laid.filter λx=>x.2.handleName?.isSome)=[]:=by kernel_rfl
theorem g2 : Tryz.prog.globalNamed "math/bits.deBruijn64tab" = some 2 := by kernel_rfl
theorem gt2:(Tryz.prog.globals[2]?).map (·.type)=some 469:=by kernel_rfl
theorem g6 : Tryz.prog.globalNamed "layout/rotation.limits" = some 6 := by kernel_rfl
theorem gt6:(Tryz.prog.globals[6]?).map (·.type)=some 436:=by kernel_rfl
theorem PR{W:World}(h:laidMetH Tryz.prog Rows.auditFindsRow.laid W):∀ g τ x,qU glob g=some ⟨τ,x⟩->Rd W (λb=>b<W.heap.size) (.ptr τ) [.pointer (some ⟨g,0,none⟩)] x:=by
 refine Ud λp hp=>?_;simp only[glob,List.mem_cons,List.not_mem_nil,or_false]at hp;rcases hp with rfl|rfl
 ·exact E0 h HP (name := "math/bits.deBruijn64tab") (d := Rows.laid_math_bits_deBruijn64tab) (by simp [Rows.auditFindsRow]) g2 gt2 (by kernel_rfl) (by kernel_rfl)
 exact E0 h HP (name := "layout/rotation.limits") (d := Rows.laid_layout_rotation_limits) (by simp [Rows.auditFindsRow]) g6 gt6 (by kernel_rfl) (by kernel_rfl)
noncomputable def CV(os:Os):World:=
 { World.holding Tryz.prog os ⟨#[],#[],[]⟩ with heap:=(((((((World.holding Tryz.prog os ⟨#[],#[],[]⟩).heap.modify 0 (fun
   |.cells _ t frozen=>.cells #[.int .u64 1,.int .u64 10,.int .u64 100,.int .u64 1000,.int .u64 10000,.int .u64 100000,.int .u64 1000000,.int .u64 10000000,.int .u64 100000000,.int .u64 1000000000,.int .u64 10000000000,.int .u64 100000000000,.int .u64 1000000000000,.int .u64 10000000000000,.int .u64 100000000000000,.int .u64 1000000000000000,.int .u64 10000000000000000,.int .u64 100000000000000000,.int .u64 1000000000000000000,.int .u64 10000000000000000000] t frozen
   |o=>o)).modify 1 (fun
   |.cells _ t frozen=>.cells #[.int .u8 0,.int .u8 1,.int .u8 28,.int .u8 2,.int .u8 29,.int .u8 14,.int .u8 24,.int .u8 3,.int .u8 30,.int .u8 22,.int .u8 20,.int .u8 15,.int .u8 25,.int .u8 17,.int .u8 4,.int .u8 8,.int .u8 31,.int .u8 27,.int .u8 13,.int .u8 23,.int .u8 21,.int .u8 19,.int .u8 16,.int .u8 7,.int .u8 26,.int .u8 12,.int .u8 18,.int .u8 6,.int .u8 11,.int .u8 5,.int .u8 10,.int .u8 9] t frozen
   |o=>o)).modify 2 (fun
   |.cells _ t frozen=>.cells #[.int .u8 0,.int .u8 1,.int .u8 56,.int .u8 2,.int .u8 57,.int .u8 49,.int .u8 28,.int .u8 3,.int .u8 61,.int .u8 58,.int .u8 42,.int .u8 50,.int .u8 38,.int .u8 29,.int .u8 17,.int .u8 4,.int .u8 62,.int .u8 47,.int .u8 59,.int .u8 36,.int .u8 45,.int .u8 43,.int .u8 51,.int .u8 22,.int .u8 53,.int .u8 39,.int .u8 33,.int .u8 30,.int .u8 24,.int .u8 18,.int .u8 12,.int .u8 5,.int .u8 63,.int .u8 55,.int .u8 48,.int .u8 27,.int .u8 60,.int .u8 41,.int .u8 37,.int .u8 16,.int .u8 46,.int .u8 35,.int .u8 44,.int .u8 21,.int .u8 52,.int .u8 32,.int .u8 23,.int .u8 11,.int .u8 54,.int .u8 26,.int .u8 40,.int .u8 15,.int .u8 34,.int .u8 20,.int .u8 31,.int .u8 10,.int .u8 25,.int .u8 14,.int .u8 19,.int .u8 9,.int .u8 13,.int .u8 8,.int .u8 7,.int .u8 6] t frozen
   |o=>o)).modify 3 (fun
   |.cells _ t frozen=>.cells (Go.Pinned.utf8FirstZ.map λ(n:Nat)=>Value.int .u8 (n:Int)).toArray t frozen
   |o=>o)).modify 4 (fun
   |.cells _ t frozen=>.cells #[.int .u8 128,.int .u8 191,.int .u8 160,.int .u8 191,.int .u8 128,.int .u8 159,.int .u8 144,.int .u8 191,.int .u8 128,.int .u8 143,.int .u8 0,.int .u8 0,.int .u8 0,.int .u8 0,.int .u8 0,.int .u8 0,.int .u8 0,.int .u8 0,.int .u8 0,.int .u8 0,.int .u8 0,.int .u8 0,.int .u8 0,.int .u8 0,.int .u8 0,.int .u8 0,.int .u8 0,.int .u8 0,.int .u8 0,.int .u8 0,.int .u8 0,.int .u8 0] t frozen
   |o=>o)).modify 6 (fun
   |.cells _ t frozen=>.cells #[.int .i64 16384,.int .i64 32768] t frozen
   |o=>o)) }
theorem Qi(os:Os):laidMet Tryz.prog Rows.auditFindsRow.laid ((CV os).forCall (λ_ _=>0) ⟨#[],#[.agg #[.string ByteArray.empty,.bool false,.slice none 0 0,.slice none 0 0,.slice none 0 0],.agg #[.int .i64 0,.int .i64 0,.int .i64 0,.int .i64 0,.int .i64 0],.agg #[.slice none 0 0,.slice none 0 0,.slice none 0 0,.slice none 0 0,.int .i64 0,.int .i64 0,.int .i64 0,.int .i64 0,.int .i64 0,.int .i64 0,.slice none 0 0]],[]⟩).memory:=
 laidMet_of_run' 8 (by kernel_rfl) (by kernel_rfl)
theorem Uf(os:Os){H:Type}(enc:TypeId×Value->H):∃ places,DataW.whole enc Tryz.prog ((CV os).forCall (λ_ _=>0) ⟨#[],#[.agg #[.string ByteArray.empty,.bool false,.slice none 0 0,.slice none 0 0,.slice none 0 0],.agg #[.int .i64 0,.int .i64 0,.int .i64 0,.int .i64 0,.int .i64 0],.agg #[.slice none 0 0,.slice none 0 0,.slice none 0 0,.slice none 0 0,.int .i64 0,.int .i64 0,.int .i64 0,.int .i64 0,.int .i64 0,.int .i64 0,.slice none 0 0]],[]⟩).memory Tryz.f3.params.toList Rows.auditFindsSpec.vars false (#[.agg #[.string ByteArray.empty,.bool false,.slice none 0 0,.slice none 0 0,.slice none 0 0],.agg #[.int .i64 0,.int .i64 0,.int .i64 0,.int .i64 0,.int .i64 0],.agg #[.slice none 0 0,.slice none 0 0,.slice none 0 0,.slice none 0 0,.int .i64 0,.int .i64 0,.int .i64 0,.int .i64 0,.int .i64 0,.int .i64 0,.slice none 0 0]]:Array Value).toList 8=some ([.agg [.lit (.string []),.lit (.bool false),.nil,.nil,.nil],.agg [.lit (.int .i64 0),.lit (.int .i64 0),.lit (.int .i64 0),.lit (.int .i64 0),.lit (.int .i64 0)],.agg [.nil,.nil,.nil,.nil,.agg [.lit (.int .i64 0),.lit (.int .i64 0),.lit (.int .i64 0),.lit (.int .i64 0)],.lit (.int .i64 0),.lit (.int .i64 0),.nil]],[],places):=
 ⟨[],by kernel_rfl⟩
theorem funcF:Tryz.prog.funcs[3]?=some Tryz.f3:=by kernel_rfl
theorem Qm:∀ x,JA Za_c.ins x->∃ r,Za x=some (true,r):=λx hx=>⟨(),CX x hx⟩
theorem Tk{H:Type}(ds:List (DataW H))(h:ds.length=3):Rows.auditFindsSpec.fn H (ds++[])={ results:=[.lit (.bool true)],args:=ds }:=by
 match ds,h with
 |[d0,d1,d2],_=>rfl
theorem lifted (os:Os)(started:os.Started)(H:Type)(enc:TypeId×Value->H)(F:Stop.Interp) :
  ReturnsInHanded {} Tryz.checked os 3 .any ((OpenSpec.ofChange Rows.auditFindsSpec).preRow enc Tryz.prog Tryz.f3 Rows.auditFindsRow.domain false Rows.auditFindsRow.laid) (((OpenSpec.ofChange Rows.auditFindsSpec).at F).post enc Tryz.prog Tryz.f3 false true false false):=by
 obtain⟨places,hx⟩:=Uf os enc;refine returnsInHanded_of_row (C:=Tryz.checked) (s:=OpenSpec.ofChange Rows.auditFindsSpec) own started (by kernel_rfl) funcF
  (witness_row_at (enc:=enc) (C:=Tryz.checked) false (CV os) #[.agg #[.string ByteArray.empty,.bool false,.slice none 0 0,.slice none 0 0,.slice none 0 0],.agg #[.int .i64 0,.int .i64 0,.int .i64 0,.int .i64 0,.int .i64 0],.agg #[.slice none 0 0,.slice none 0 0,.slice none 0 0,.slice none 0 0,.int .i64 0,.int .i64 0,.int .i64 0,.int .i64 0,.int .i64 0,.int .i64 0,.slice none 0 0]] rfl (by kernel_rfl) (by kernel_rfl) (by kernel_rfl)
   (OpenSpec.preRow_of_cond 8 hx (by kernel_rfl) (λk hk=>by cases hk) (by kernel_rfl) (Qi os))) ?_
 intro W base args ds gs before hval hW _ _ _ hL _ _;exact Od (s:=Rows.auditFindsSpec) Sh funcF (by kernel_rfl) (by kernel_rfl) (by kernel_rfl) (tb:=4) (by kernel_rfl) (by kernel_rfl) rfl Tk Pr Qm (PR hL) hval hW
theorem clo:Tryz.pinned.checked.prog.closure 3=[3,4,5,6,10,26,62,116,197,198,117,63,118,200,199,119,120,121,202,201,276,64,123,122,203,124,204,65,14,27,66,125,126,176,95,94,173,228,262,256,348,349,174,263,355,356,357,358,359,175,264,360,171,261,265,177,266,267,362,361,444,363,445,446,207,280,370,281,282,371,283,234,208,284,372,374,456,531,455,530,570,324,419,518,253,418,509,515,566,510,561,511,562,563,512,564,565,586,513,514,516,517,373,451,452,453,454,285,375,300,287,380,462,463,540,575,541,376,457,532,533,571,587,588,592,594,534,535,572,573,461,539,286,377,378,458,459,460,536,574,538,537,379,205,277,367,449,279,368,369,450,278,206,74,147,96,127,135,209,210,289,288,211,238,132,220,83,157,251,158,221,317,179,268,347,290,381,464,542,382,383,239,291,384,292,67,128,212,293,294,385,465,295,225,321,322,323,296,386,213,297,319,387,224,320,413,414,500,501,552,578,579,589,580,581,590,591,593,582,583,584,585,502,415,416,503,554,555,556,553,316,504,505,557,506,558,508,559,560,507,417,298,388,466,397,493,408,303,398,496,543,467,469,544,468,471,470,473,472,474,389,475,390,476,478,479,477,480,406,401,495,494,524,525,569,299,215,214,301,391,481,482,392,483,545,484,485,546,486,547,548,393,487,302,394,395,396,328,430,431,488,549,489,550,576,551,577,490,491,492,216,304,318,407,409,410,497,411,498,412,499,305,306,217,222,307,308,399,400,402,403,309,404,310,405,218,311,312,313,315,314,219,129,139,130,223,260,68,131,226,227,325,420,519,520,421,422,521,326,423,424,425,522,567,426,327,427,523,568,428,429,526,69,133,229,230,134,231,329,330,432,331,433,136,72,146,70,138,137,232,332,333,233,235,335,435,434,527,334,336,28,71,140,236,91,337,38,76,148,237,143,144,40,338,436,437,438,141,142,145,29,73,75,77,149,78,32,82,30,79,37,151,243,340,439,341,150,240,339,241,39,242,152,244,153,245,342,440,343,441,344,345,246,247,346,442,80,154,8,13,33,84,15,34,35,85,159,160,252,254,161,162,255,36,86,87,88,163,89,164,257,258,350,165,259,351,443,528,352,353,354,16,17,18,41,42,90,92,166,168,167,93,169,170,172,43,97,178,98,31,81,155,248,156,249,250,44,99,11,7,12,9,19,20,45,100,180,269,270,181,101,182,183,184,102,185,103,46,104,186,47,105,21,48,49,22,50,23,51,52,24,53,106,187,188,271,54,107,55,108,190,189,272,273,364,365,447,274,366,448,529,275,56,109,191,192,193,194,57,110,58,25,59,60,112,111,195,61,113,196,114,115]:=by kernel_rfl
theorem unf:Tryz.pinned.checked.prog.unfollowed 3=true:=by unfold Program.unfollowed;rw[clo];kernel_rfl
theorem T2:(Rows.auditFindsRow.inPlace==Tryz.pinned.checked.prog.inPlace 3)=true:=by unfold Program.inPlace;rw[clo];kernel_rfl
theorem TV:(Rows.auditFindsRow.unfollowed==Tryz.pinned.checked.prog.unfollowed 3)=true:=by rw[unf];rfl
theorem TR:(Rows.auditFindsRow.recurses==Tryz.pinned.checked.prog.recurses 3)=true:=by unfold Program.recurses;rw[unf];rfl
theorem Uh:(Rows.auditFindsRow.named==Tryz.pinned.checked.prog.varsNamed 3)=true:=by unfold Program.varsNamed;rw[clo];kernel_rfl
theorem Ur:laidOutB Tryz.pinned.checked.prog=true:=by kernel_rfl
theorem TQ:mapsRowed Tryz.pinned.checked.prog=true:=by kernel_rfl
theorem T1:(Tryz.pinned.checked.prog.stops == [])=true:=by kernel_rfl
theorem Ua:(Tryz.pinned.checked.prog.stopKnobs == [])=true:=by kernel_rfl
theorem Ug:(Rows.auditFindsRow.plainKeys==Tryz.pinned.checked.prog.plainKeys)=true:=by kernel_rfl
theorem T0:Tryz.pinned.checked.prog.stopsHeard=true:=by kernel_rfl
theorem Tj:Tryz.pinned.checked.prog.mayEnter=true:=by kernel_rfl
theorem Tc:(Rows.auditFindsRow.lifted==Tryz.pinned.checked.prog.liftsFinal)=true:=by kernel_rfl
theorem closed:joinedFacts Tryz.pinned.checked.prog 3 Tryz.f3 (OpenSpec.ofChange Rows.auditFindsSpec).bare Rows.auditFindsRow=true:=by unfold joinedFacts;rw[T2,TV,TR,Uh,Ur,TQ,T1,Ua,Ug,T0,Tj,Tc];kernel_rfl
theorem gof:Tryz.pinned.checked.prog.goes 3=false:=by unfold Program.goes;rw[clo,unf];kernel_rfl
theorem goes:false=Rows.auditFindsRow.goesBy Tryz.pinned.checked.prog:=by
 have hn : Tryz.pinned.checked.prog.funcNamed "layout/layoutlaw58.AuditFinds" = some 3 := by kernel_rfl
 have hs:Rows.auditFindsRow.start=.entering:=rfl;have hf : Rows.auditFindsRow.func = "layout/layoutlaw58.AuditFinds" := rfl
 unfold OpenClaim.goesBy Program.goesAt Program.goesFrom;rw[hs,hf,hn,Option.any_some,gof];rfl
theorem Uw:Rows.AuditFindsSaid:=
 OpenClaim.holds_of_cond 3 Tryz.f3 rfl rfl rfl rfl rfl rfl rfl ⟨rfl,rfl,rfl,rfl,rfl⟩ rfl rfl rfl rfl rfl (by kernel_rfl) funcF closed
  (of_decide_eq_true (by kernel_rfl)) (by unfold Func.isWrapper;first|(rw[if_pos (by decide +kernel)];kernel_rfl)|(rw[if_neg (by decide +kernel)];exact⟨rfl,rfl⟩))
  (λos started H enc _ F=>by rw[OpenClaim.pre_eq_preRow];exact lifted os started H enc F)
theorem plain (f : FuncId) (fn : Func) (hf : Tryz.pinned.checked.prog.funcNamed "layout/layoutlaw58.AuditFinds" = some f) (hfn : Tryz.pinned.checked.prog.funcs[f]? = some fn) :
  false=Tryz.pinned.checked.prog.looks []/\∀(j:Nat) t,fn.params[j]?=some t->Tryz.pinned.checked.prog.wantsStandIn t=false:=by
 obtain rfl : f = 3 := L9 ((show Tryz.prog.funcNamed "layout/layoutlaw58.AuditFinds" = some 3 by kernel_rfl).symm.trans hf) |>.symm
 obtain rfl:fn=Tryz.f3:=(L9 (funcF.symm.trans hfn)).symm;refine⟨by kernel_rfl,λj t ht=>?_⟩;have hm:t∈Tryz.f3.params.toList:=List.mem_of_getElem? (by rw[Array.getElem?_toList];exact ht);have hall:(Tryz.f3.params.toList.all λu=>!Tryz.prog.wantsStandIn u)=true:=by kernel_rfl
 have:=List.all_eq_true.1 hall t hm;exact(show Tryz.prog.wantsStandIn t=false by simpa using this)
theorem wfT:Rows.auditFindsRow.wfByText (OpenSpec.ofChange Rows.auditFindsSpec)=true:=by kernel_rfl
theorem card:Rows.AuditFindsCardSaid:=
 Claim7.holds_tied_plain_at .later [] _ _ _ _ Uw (λ_ h=>by cases h) wfT (λ_ h=>by cases h) BQ rfl ⟨rfl,rfl⟩ (by as_aux_lemma=>kernel_rfl) rfl plain goes
end Go.Proofs.YtdijhiodknmjaaaGreatDoor.auditFinds
