/-
 THE LAW AuditCounts: for every input that its row speaks of the call returns true and leaves its arguments as they were; its listed variables are tied to the text.
 Conditions: those of the given row alone.
-/
import Derived.Test.YtbedeedclaafjaaGreatDoorLA
import Derived.Test.YtbedeedclaafjaaGreatDoorD61
import Derived.Test.YtbedeedclaafjaaGreatDoorVmD
import Derived.Test.YtbedeedclaafjaaGreatDoorCards
import Derived.Test.YtbedeedclaafjaaGreatDoorTie
import Derived.WalkKit
import Derived.ProofKit
import Derived.OpenShut
import Derived.Deep.DeepHandedRow
import Derived.Lib.LaidTab
import Derived.SevenTiedAt
set_option linter.unusedVariables false
set_option linter.unusedSimpArgs false
set_option maxRecDepth 100000
namespace Go.Proofs.YtbedeedclaafjaaGreatDoor.auditCounts
open Go.ChangeShapes Go.WideShapes Go.ChangeAt Go.RowKit Go.Vm
theorem own : ownKnob Tryz.prog.godebug=none:=by kernel_rfl
theorem Ew : laidOutB Tryz.prog=true:=by kernel_rfl
theorem rf : (Rows.auditCountsRow.laid.filter fun x=>x.2.handleName?.isSome)=[]:=by kernel_rfl
theorem g1 : Tryz.prog.globalNamed "layout/rotation.limits" = some 1 := by kernel_rfl
theorem gt1 : (Tryz.prog.globals[1]?).map (·.type)=some 414:=by kernel_rfl
theorem g3 : Tryz.prog.globalNamed "math/bits.deBruijn64tab" = some 3 := by kernel_rfl
theorem gt3 : (Tryz.prog.globals[3]?).map (·.type)=some 529:=by kernel_rfl
theorem Bm {W : World} (h : laidMetH Tryz.prog Rows.auditCountsRow.laid W) : ∀ g τ x,da glob g=some ⟨τ,x⟩→Rd W (fun b=>b < W.heap.size) (.ptr τ) [.pointer (some ⟨g,0,none⟩)] x:=by
 refine GR fun p hp=>?_
 simp only [glob,List.mem_cons,List.not_mem_nil,or_false] at hp
 rcases hp with rfl | rfl
 ·exact oB h rf (name := "layout/rotation.limits") (d := Rows.laid_layout_rotation_limits) (by simp [Rows.auditCountsRow]) g1 gt1 (by kernel_rfl) (by kernel_rfl)
 ·exact oB h rf (name := "math/bits.deBruijn64tab") (d := Rows.laid_math_bits_deBruijn64tab) (by simp [Rows.auditCountsRow]) g3 gt3 (by kernel_rfl) (by kernel_rfl)
noncomputable def mS (os : Os) : World :=
 { World.holding Tryz.prog os ⟨#[],#[],[]⟩ with heap:=(((((((World.holding Tryz.prog os ⟨#[],#[],[]⟩).heap.modify 0 (fun
   | .cells _ t frozen=>.cells #[.int .u64 1,.int .u64 10,.int .u64 100,.int .u64 1000,.int .u64 10000,.int .u64 100000,.int .u64 1000000,.int .u64 10000000,.int .u64 100000000,.int .u64 1000000000,.int .u64 10000000000,.int .u64 100000000000,.int .u64 1000000000000,.int .u64 10000000000000,.int .u64 100000000000000,.int .u64 1000000000000000,.int .u64 10000000000000000,.int .u64 100000000000000000,.int .u64 1000000000000000000,.int .u64 10000000000000000000] t frozen
   | o=>o)).modify 1 (fun
   | .cells _ t frozen=>.cells #[.int .i64 16384,.int .i64 32768] t frozen
   | o=>o)).modify 2 (fun
   | .cells _ t frozen=>.cells #[.int .u8 0,.int .u8 1,.int .u8 28,.int .u8 2,.int .u8 29,.int .u8 14,.int .u8 24,.int .u8 3,.int .u8 30,.int .u8 22,.int .u8 20,.int .u8 15,.int .u8 25,.int .u8 17,.int .u8 4,.int .u8 8,.int .u8 31,.int .u8 27,.int .u8 13,.int .u8 23,.int .u8 21,.int .u8 19,.int .u8 16,.int .u8 7,.int .u8 26,.int .u8 12,.int .u8 18,.int .u8 6,.int .u8 11,.int .u8 5,.int .u8 10,.int .u8 9] t frozen
   | o=>o)).modify 3 (fun
   | .cells _ t frozen=>.cells #[.int .u8 0,.int .u8 1,.int .u8 56,.int .u8 2,.int .u8 57,.int .u8 49,.int .u8 28,.int .u8 3,.int .u8 61,.int .u8 58,.int .u8 42,.int .u8 50,.int .u8 38,.int .u8 29,.int .u8 17,.int .u8 4,.int .u8 62,.int .u8 47,.int .u8 59,.int .u8 36,.int .u8 45,.int .u8 43,.int .u8 51,.int .u8 22,.int .u8 53,.int .u8 39,.int .u8 33,.int .u8 30,.int .u8 24,.int .u8 18,.int .u8 12,.int .u8 5,.int .u8 63,.int .u8 55,.int .u8 48,.int .u8 27,.int .u8 60,.int .u8 41,.int .u8 37,.int .u8 16,.int .u8 46,.int .u8 35,.int .u8 44,.int .u8 21,.int .u8 52,.int .u8 32,.int .u8 23,.int .u8 11,.int .u8 54,.int .u8 26,.int .u8 40,.int .u8 15,.int .u8 34,.int .u8 20,.int .u8 31,.int .u8 10,.int .u8 25,.int .u8 14,.int .u8 19,.int .u8 9,.int .u8 13,.int .u8 8,.int .u8 7,.int .u8 6] t frozen
   | o=>o)).modify 4 (fun
   | .cells _ t frozen=>.cells (Go.Pinned.utf8FirstZ.map fun (n : Nat)=>Value.int .u8 (n : Int)).toArray t frozen
   | o=>o)).modify 5 (fun
   | .cells _ t frozen=>.cells #[.int .u8 128,.int .u8 191,.int .u8 160,.int .u8 191,.int .u8 128,.int .u8 159,.int .u8 144,.int .u8 191,.int .u8 128,.int .u8 143,.int .u8 0,.int .u8 0,.int .u8 0,.int .u8 0,.int .u8 0,.int .u8 0,.int .u8 0,.int .u8 0,.int .u8 0,.int .u8 0,.int .u8 0,.int .u8 0,.int .u8 0,.int .u8 0,.int .u8 0,.int .u8 0,.int .u8 0,.int .u8 0,.int .u8 0,.int .u8 0,.int .u8 0,.int .u8 0] t frozen
   | o=>o)) }
theorem BF (os : Os) : laidMet Tryz.prog Rows.auditCountsRow.laid ((mS os).forCall (fun _ _=>0) ⟨#[],#[.agg #[.string ByteArray.empty,.bool false,.slice none 0 0,.slice none 0 0,.slice none 0 0],.agg #[.slice none 0 0,.slice none 0 0,.slice none 0 0,.slice none 0 0,.int .i64 0,.int .i64 0,.int .i64 0,.int .i64 0,.int .i64 0,.int .i64 0,.slice none 0 0]],[]⟩).memory :=
 laidMet_of_run' 8 (by kernel_rfl) (by kernel_rfl)
theorem GK (os : Os) {H : Type} (enc : TypeId×Value→H) : ∃ places,DataW.whole enc Tryz.prog ((mS os).forCall (fun _ _=>0) ⟨#[],#[.agg #[.string ByteArray.empty,.bool false,.slice none 0 0,.slice none 0 0,.slice none 0 0],.agg #[.slice none 0 0,.slice none 0 0,.slice none 0 0,.slice none 0 0,.int .i64 0,.int .i64 0,.int .i64 0,.int .i64 0,.int .i64 0,.int .i64 0,.slice none 0 0]],[]⟩).memory Tryz.f3.params.toList Rows.auditCountsSpec.vars false (#[.agg #[.string ByteArray.empty,.bool false,.slice none 0 0,.slice none 0 0,.slice none 0 0],.agg #[.slice none 0 0,.slice none 0 0,.slice none 0 0,.slice none 0 0,.int .i64 0,.int .i64 0,.int .i64 0,.int .i64 0,.int .i64 0,.int .i64 0,.slice none 0 0]] : Array Value).toList 8=some ([.agg [.lit (.string []),.lit (.bool false),.nil,.nil,.nil],.agg [.nil,.nil,.nil,.nil,.agg [.lit (.int .i64 0),.lit (.int .i64 0),.lit (.int .i64 0),.lit (.int .i64 0)],.lit (.int .i64 0),.lit (.int .i64 0),.nil]],[],places) :=
 ⟨[],by kernel_rfl⟩
theorem funcF : Tryz.prog.funcs[3]?=some Tryz.f3:=by kernel_rfl
theorem AI : ∀ x,uB Zj_c.ins x→∃ r,Zj x=some (true,r):=fun x hx=>⟨(),ma x hx⟩
theorem Gc {H : Type} (ds : List (DataW H)) (h : ds.length=2) : Rows.auditCountsSpec.fn H (ds++[])={ results:=[.lit (.bool true)],args:=ds }:=by
 match ds,h with
 | [d0,d1],_=>rfl
theorem Gb (os : Os) (started : os.Started) (H : Type) (enc : TypeId×Value→H) (F : Stop.Interp) :
  ReturnsInHanded {} Tryz.checked os 3 .any ((OpenSpec.ofChange Rows.auditCountsSpec).preRow enc Tryz.prog Tryz.f3 Rows.auditCountsRow.domain false Rows.auditCountsRow.laid) (((OpenSpec.ofChange Rows.auditCountsSpec).at F).post enc Tryz.prog Tryz.f3 false true false false):=by
 obtain ⟨places,hx⟩:=GK os enc
 refine returnsInHanded_of_row (C:=Tryz.checked) (s:=OpenSpec.ofChange Rows.auditCountsSpec) own started (by kernel_rfl) funcF
  (witness_row_at (enc:=enc) (C:=Tryz.checked) false (mS os) #[.agg #[.string ByteArray.empty,.bool false,.slice none 0 0,.slice none 0 0,.slice none 0 0],.agg #[.slice none 0 0,.slice none 0 0,.slice none 0 0,.slice none 0 0,.int .i64 0,.int .i64 0,.int .i64 0,.int .i64 0,.int .i64 0,.int .i64 0,.slice none 0 0]] rfl (by kernel_rfl) (by kernel_rfl) (by kernel_rfl)
   (OpenSpec.preRow_of_cond 8 hx (by kernel_rfl) (fun k hk=>by cases hk) (by kernel_rfl) (BF os))) ?_
 intro W base args ds gs before hval hW _ _ _ hL _ _
 exact zZ (s:=Rows.auditCountsSpec) Ew funcF (by kernel_rfl) (by kernel_rfl) (by kernel_rfl) (tb:=4) (by kernel_rfl) (by kernel_rfl) rfl Gc Ct AI (Bm hL) hval hW
theorem clo : Tryz.pinned.checked.prog.closure 3 = [3, 4, 5, 6, 11, 20, 39, 80, 145, 146, 81, 40, 82, 148, 147, 83, 84, 85, 150, 149, 221, 41, 87, 86, 151, 88, 152, 42, 21, 22, 43, 89, 90, 155, 94, 130, 212, 178, 305, 301, 389, 390, 213, 306, 396, 397, 398, 399, 400, 214, 273, 365, 210, 274, 268, 156, 225, 307, 313, 312, 403, 314, 404, 405, 157, 226, 315, 227, 228, 316, 229, 184, 158, 230, 317, 319, 411, 485, 410, 484, 525, 272, 364, 473, 298, 363, 464, 470, 520, 465, 515, 466, 516, 517, 467, 518, 519, 541, 468, 469, 471, 472, 318, 406, 407, 408, 409, 231, 320, 246, 233, 325, 417, 418, 494, 530, 495, 321, 412, 486, 487, 526, 542, 543, 547, 549, 488, 489, 527, 528, 416, 493, 232, 322, 323, 413, 414, 415, 490, 529, 492, 491, 324, 153, 222, 309, 401, 224, 310, 311, 402, 223, 154, 51, 113, 91, 92, 101, 159, 160, 235, 234, 161, 188, 98, 170, 68, 134, 217, 135, 171, 263, 216, 308, 220, 236, 326, 419, 496, 327, 328, 189, 237, 329, 238, 44, 93, 162, 239, 240, 330, 420, 241, 175, 269, 270, 271, 242, 331, 163, 243, 266, 332, 174, 267, 358, 359, 455, 456, 506, 533, 534, 544, 535, 536, 545, 546, 548, 537, 538, 539, 540, 457, 360, 361, 458, 508, 509, 510, 507, 262, 459, 460, 511, 461, 512, 463, 513, 514, 462, 362, 244, 333, 421, 342, 448, 353, 249, 343, 451, 497, 422, 424, 498, 423, 426, 425, 428, 427, 429, 334, 430, 335, 431, 433, 434, 432, 435, 351, 346, 450, 449, 479, 480, 523, 245, 165, 164, 247, 336, 436, 437, 337, 438, 499, 439, 440, 500, 441, 501, 502, 338, 442, 248, 339, 340, 341, 278, 376, 377, 443, 503, 444, 504, 531, 505, 532, 445, 446, 447, 166, 250, 264, 352, 354, 355, 452, 356, 453, 357, 454, 251, 252, 167, 172, 253, 254, 344, 345, 347, 348, 255, 349, 256, 350, 168, 257, 258, 259, 261, 260, 169, 95, 105, 96, 173, 265, 45, 97, 176, 177, 275, 366, 474, 475, 367, 368, 476, 276, 369, 370, 371, 477, 521, 372, 277, 373, 478, 522, 374, 375, 481, 46, 99, 179, 180, 100, 181, 279, 280, 378, 281, 379, 102, 49, 112, 47, 104, 103, 182, 282, 283, 183, 185, 285, 381, 380, 482, 284, 286, 23, 48, 106, 186, 127, 287, 32, 53, 114, 187, 109, 110, 59, 288, 382, 383, 384, 107, 108, 111, 24, 50, 52, 54, 115, 55, 29, 67, 25, 56, 31, 117, 193, 290, 385, 291, 116, 190, 289, 191, 58, 192, 118, 194, 119, 195, 292, 386, 293, 387, 294, 295, 196, 197, 296, 388, 57, 120, 12, 14, 30, 69, 26, 60, 61, 121, 198, 199, 297, 299, 200, 201, 300, 62, 122, 123, 124, 202, 125, 203, 302, 303, 391, 204, 304, 392, 483, 524, 393, 394, 395, 15, 27, 28, 63, 64, 126, 128, 205, 207, 206, 129, 208, 209, 211, 65, 131, 215, 132, 18, 37, 76, 142, 77, 143, 144, 66, 133, 7, 13, 9, 8, 16, 33, 70, 136, 218, 219, 137, 71, 138, 139, 140, 72, 141, 73, 34, 36, 75, 35, 74, 17, 10, 19, 38, 79, 78] := by kernel_rfl
theorem unf : Tryz.pinned.checked.prog.unfollowed 3 = true := by unfold Program.unfollowed; rw [clo]; kernel_rfl
theorem fact0 : (Rows.auditCountsRow.inPlace == Tryz.pinned.checked.prog.inPlace 3) = true := by unfold Program.inPlace; rw [clo]; kernel_rfl
theorem fact1 : (Rows.auditCountsRow.unfollowed == Tryz.pinned.checked.prog.unfollowed 3) = true := by rw [unf]; rfl
theorem fact2 : (Rows.auditCountsRow.recurses == Tryz.pinned.checked.prog.recurses 3) = true := by unfold Program.recurses; rw [unf]; rfl
theorem fact3 : (Rows.auditCountsRow.named == Tryz.pinned.checked.prog.varsNamed 3) = true := by unfold Program.varsNamed; rw [clo]; kernel_rfl
theorem fact4 : laidOutB Tryz.pinned.checked.prog = true := by kernel_rfl
theorem fact5 : mapsRowed Tryz.pinned.checked.prog = true := by kernel_rfl
theorem fact6 : (Tryz.pinned.checked.prog.stops == []) = true := by kernel_rfl
theorem fact7 : (Tryz.pinned.checked.prog.stopKnobs == []) = true := by kernel_rfl
theorem fact8 : (Rows.auditCountsRow.plainKeys == Tryz.pinned.checked.prog.plainKeys) = true := by kernel_rfl
theorem fact9 : Tryz.pinned.checked.prog.stopsHeard = true := by kernel_rfl
theorem fact10 : Tryz.pinned.checked.prog.mayEnter = true := by kernel_rfl
theorem fact11 : (Rows.auditCountsRow.lifted == Tryz.pinned.checked.prog.liftsFinal) = true := by kernel_rfl
theorem closed : joinedFacts Tryz.pinned.checked.prog 3 Tryz.f3 (OpenSpec.ofChange Rows.auditCountsSpec).bare Rows.auditCountsRow = true := by
  unfold joinedFacts
  rw [fact0, fact1, fact2, fact3, fact4, fact5, fact6, fact7, fact8, fact9, fact10, fact11]
  kernel_rfl
theorem gof : Tryz.pinned.checked.prog.goes 3 = false := by unfold Program.goes; rw [clo, unf]; kernel_rfl
theorem goes : false = Rows.auditCountsRow.goesBy Tryz.pinned.checked.prog := by
  have hn : Tryz.pinned.checked.prog.funcNamed "layout/layoutlaw58.AuditCounts" = some 3 := by kernel_rfl
  have hs : Rows.auditCountsRow.start = .entering := rfl
  have hf : Rows.auditCountsRow.func = "layout/layoutlaw58.AuditCounts" := rfl
  unfold OpenClaim.goesBy Program.goesAt Program.goesFrom
  rw [hs, hf, hn, Option.any_some, gof]
  rfl
theorem IA : Rows.AuditCountsSaid :=
 OpenClaim.holds_of_cond 3 Tryz.f3 rfl rfl rfl rfl rfl rfl rfl ⟨rfl,rfl,rfl,rfl,rfl⟩ rfl rfl rfl rfl rfl (by kernel_rfl) funcF closed
  (of_decide_eq_true (by kernel_rfl)) (by unfold Func.isWrapper; first | (rw [if_pos (by decide +kernel)]; kernel_rfl) | (rw [if_neg (by decide +kernel)]; exact ⟨rfl,rfl⟩))
  (fun os started H enc _ F=>by rw [OpenClaim.pre_eq_preRow]; exact Gb os started H enc F)
theorem plain (f : FuncId) (fn : Func) (hf : Tryz.pinned.checked.prog.funcNamed "layout/layoutlaw58.AuditCounts" = some f) (hfn : Tryz.pinned.checked.prog.funcs[f]? = some fn) :
  false=Tryz.pinned.checked.prog.looks []∧∀ (j : Nat) t,fn.params[j]?=some t→Tryz.pinned.checked.prog.wantsStandIn t=false:=by
 obtain rfl : f = 3 := Option.some.inj ((show Tryz.prog.funcNamed "layout/layoutlaw58.AuditCounts" = some 3 by kernel_rfl).symm.trans hf) |>.symm
 obtain rfl : fn=Tryz.f3:=(Option.some.inj (funcF.symm.trans hfn)).symm
 refine ⟨by kernel_rfl,fun j t ht=>?_⟩
 have hm : t∈Tryz.f3.params.toList:=List.mem_of_getElem? (by rw [Array.getElem?_toList]; exact ht)
 have hall : (Tryz.f3.params.toList.all fun u=>!Tryz.prog.wantsStandIn u)=true:=by kernel_rfl
 have:=List.all_eq_true.1 hall t hm
 exact (show Tryz.prog.wantsStandIn t=false by simpa using this)
theorem wfT : Rows.auditCountsRow.wfByText (OpenSpec.ofChange Rows.auditCountsSpec)=true := by kernel_rfl
theorem card : Rows.AuditCountsCardSaid :=
 Claim7.holds_tied_plain_at .later [] _ _ _ _ IA (fun _ h=>by cases h) wfT (fun _ h=>by cases h) auditCounts_row_tie rfl ⟨rfl,rfl⟩ (by as_aux_lemma => kernel_rfl) rfl plain goes
end Go.Proofs.YtbedeedclaafjaaGreatDoor.auditCounts
