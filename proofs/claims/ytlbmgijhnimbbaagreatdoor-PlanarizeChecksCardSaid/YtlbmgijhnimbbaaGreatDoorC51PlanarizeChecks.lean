/-
 THE LAW PlanarizeChecks: for every input that its row speaks of the call returns true and leaves its arguments as they were; its listed variables are tied to the text.
 Conditions: those of the given row alone.
-/
import Derived.Test.YtlbmgijhnimbbaaGreatDoorKC
import Derived.Test.YtlbmgijhnimbbaaGreatDoorDP34
import Derived.Test.YtlbmgijhnimbbaaGreatDoorVmD
import Derived.Test.YtlbmgijhnimbbaaGreatDoorCards
import Derived.Test.YtlbmgijhnimbbaaGreatDoorTie
import Derived.WalkKit
import Derived.ProofKit
import Derived.OpenShut
import Derived.Deep.DeepHandedRow
import Derived.Lib.LaidTab
import Derived.SevenTiedAt
set_option linter.unusedVariables false
set_option linter.unusedSimpArgs false
set_option maxRecDepth 100000
namespace Go.Proofs.YtlbmgijhnimbbaaGreatDoor.planarizeChecks
open Go.ChangeShapes Go.WideShapes Go.ChangeAt Go.RowKit Go.Vm
theorem own : ownKnob Tryz.prog.godebug=none:=by kernel_rfl
theorem Db : laidOutB Tryz.prog=true:=by kernel_rfl
theorem zB : (Rows.planarizeChecksRow.laid.filter fun x=>x.2.handleName?.isSome)=[]:=by kernel_rfl
theorem g0 : Tryz.prog.globalNamed "layout/rotation.limits" = some 0 := by kernel_rfl
theorem gt0 : (Tryz.prog.globals[0]?).map (·.type)=some 98:=by kernel_rfl
theorem CF {W : World} (h : laidMetH Tryz.prog Rows.planarizeChecksRow.laid W) : ∀ g τ x,dA glob g=some ⟨τ,x⟩→Rd W (fun b=>b < W.heap.size) (.ptr τ) [.pointer (some ⟨g,0,none⟩)] x:=by
 refine Fy fun p hp=>?_
 simp only [glob,List.mem_cons,List.not_mem_nil,or_false] at hp
 subst hp
 ·exact wP h zB (name := "layout/rotation.limits") (d := Rows.laid_layout_rotation_limits) (by simp [Rows.planarizeChecksRow]) g0 gt0 (by kernel_rfl) (by kernel_rfl)
noncomputable def mA (os : Os) : World :=
 { World.holding Tryz.prog os ⟨#[],#[],[]⟩ with heap:=((World.holding Tryz.prog os ⟨#[],#[],[]⟩).heap.modify 0 (fun
   | .cells _ t frozen=>.cells #[.int .i64 16384,.int .i64 32768] t frozen
   | o=>o)) }
theorem Cq (os : Os) : laidMet Tryz.prog Rows.planarizeChecksRow.laid ((mA os).forCall (fun _ _=>0) ⟨#[],#[.agg #[.int .i64 0,.slice none 0 0],.agg #[.int .i64 0,.slice none 0 0,.slice none 0 0,.int .i64 0,.slice none 0 0]],[]⟩).memory :=
 laidMet_of_run' 8 (by kernel_rfl) (by kernel_rfl)
theorem Fs (os : Os) {H : Type} (enc : TypeId×Value→H) : ∃ places,DataW.whole enc Tryz.prog ((mA os).forCall (fun _ _=>0) ⟨#[],#[.agg #[.int .i64 0,.slice none 0 0],.agg #[.int .i64 0,.slice none 0 0,.slice none 0 0,.int .i64 0,.slice none 0 0]],[]⟩).memory Tryz.f3.params.toList Rows.planarizeChecksSpec.vars false (#[.agg #[.int .i64 0,.slice none 0 0],.agg #[.int .i64 0,.slice none 0 0,.slice none 0 0,.int .i64 0,.slice none 0 0]] : Array Value).toList 8=some ([.agg [.lit (.int .i64 0),.nil],.agg [.agg [.lit (.int .i64 0),.nil,.nil],.lit (.int .i64 0),.nil]],[],places) :=
 ⟨[],by kernel_rfl⟩
theorem funcF : Tryz.prog.funcs[3]?=some Tryz.f3:=by kernel_rfl
theorem Ba : ∀ x,uR Za_c.ins x→∃ r,Za x=some (true,r):=fun x hx=>⟨(),iT x hx⟩
theorem EH {H : Type} (ds : List (DataW H)) (h : ds.length=2) : Rows.planarizeChecksSpec.fn H (ds++[])={ results:=[.lit (.bool true)],args:=ds }:=by
 match ds,h with
 | [d0,d1],_=>rfl
theorem E3 (os : Os) (started : os.Started) (H : Type) (enc : TypeId×Value→H) (F : Stop.Interp) :
  ReturnsInHanded {} Tryz.checked os 3 .any ((OpenSpec.ofChange Rows.planarizeChecksSpec).preRow enc Tryz.prog Tryz.f3 Rows.planarizeChecksRow.domain false Rows.planarizeChecksRow.laid) (((OpenSpec.ofChange Rows.planarizeChecksSpec).at F).post enc Tryz.prog Tryz.f3 false true false false):=by
 obtain ⟨places,hx⟩:=Fs os enc
 refine returnsInHanded_of_row (C:=Tryz.checked) (s:=OpenSpec.ofChange Rows.planarizeChecksSpec) own started (by kernel_rfl) funcF
  (witness_row_at (enc:=enc) (C:=Tryz.checked) false (mA os) #[.agg #[.int .i64 0,.slice none 0 0],.agg #[.int .i64 0,.slice none 0 0,.slice none 0 0,.int .i64 0,.slice none 0 0]] rfl (by kernel_rfl) (by kernel_rfl) (by kernel_rfl)
   (OpenSpec.preRow_of_cond 8 hx (by kernel_rfl) (fun k hk=>by cases hk) (by kernel_rfl) (Cq os))) ?_
 intro W base args ds gs before hval hW _ _ _ hL _ _
 exact zH (s:=Rows.planarizeChecksSpec) Db funcF (by kernel_rfl) (by kernel_rfl) (by kernel_rfl) (tb:=4) (by kernel_rfl) (by kernel_rfl) rfl EH AN Ba (CF hL) hval hW
theorem F3 : Rows.PlanarizeChecksSaid :=
 OpenClaim.holds_of_cond 3 Tryz.f3 rfl rfl rfl rfl rfl rfl rfl ⟨rfl,rfl,rfl,rfl,rfl⟩ rfl rfl rfl rfl rfl (by kernel_rfl) funcF (by kernel_rfl)
  (of_decide_eq_true (by kernel_rfl)) (by unfold Func.isWrapper; first | (rw [if_pos (by decide +kernel)]; kernel_rfl) | (rw [if_neg (by decide +kernel)]; exact ⟨rfl,rfl⟩))
  (fun os started H enc _ F=>by rw [OpenClaim.pre_eq_preRow]; exact E3 os started H enc F)
theorem plain (f : FuncId) (fn : Func) (hf : Tryz.pinned.checked.prog.funcNamed "layout/layoutlaw34.PlanarizeChecks" = some f) (hfn : Tryz.pinned.checked.prog.funcs[f]? = some fn) :
  false=Tryz.pinned.checked.prog.looks []∧∀ (j : Nat) t,fn.params[j]?=some t→Tryz.pinned.checked.prog.wantsStandIn t=false:=by
 obtain rfl : f = 3 := Option.some.inj ((show Tryz.prog.funcNamed "layout/layoutlaw34.PlanarizeChecks" = some 3 by kernel_rfl).symm.trans hf) |>.symm
 obtain rfl : fn=Tryz.f3:=(Option.some.inj (funcF.symm.trans hfn)).symm
 refine ⟨by kernel_rfl,fun j t ht=>?_⟩
 have hm : t∈Tryz.f3.params.toList:=List.mem_of_getElem? (by rw [Array.getElem?_toList]; exact ht)
 have hall : (Tryz.f3.params.toList.all fun u=>!Tryz.prog.wantsStandIn u)=true:=by kernel_rfl
 have:=List.all_eq_true.1 hall t hm
 exact (show Tryz.prog.wantsStandIn t=false by simpa using this)
theorem card : Rows.PlanarizeChecksCardSaid :=
 Claim7.holds_tied_plain_at .later [] _ _ _ _ F3 (fun _ h=>by cases h) (by kernel_rfl) (fun _ h=>by cases h) planarizeChecks_row_tie rfl ⟨rfl,rfl⟩ (by kernel_rfl) rfl plain (by kernel_rfl)
end Go.Proofs.YtlbmgijhnimbbaaGreatDoor.planarizeChecks
