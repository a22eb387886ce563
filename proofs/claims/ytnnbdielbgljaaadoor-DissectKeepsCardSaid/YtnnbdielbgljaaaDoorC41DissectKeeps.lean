/-
 THE LAW DissectKeeps: for every input that its row speaks of the call returns true and leaves its arguments as they were; its listed variables are tied to the text.
 Conditions: those of the given row alone.
-/
import Derived.Test.YtnnbdielbgljaaaDoorKN
import Derived.Test.YtnnbdielbgljaaaDoorD41
import Derived.Test.YtnnbdielbgljaaaDoorVmD
import Derived.Test.YtnnbdielbgljaaaDoorCards
import Derived.Test.YtnnbdielbgljaaaDoorTie
import Derived.WalkKit
import Derived.ProofKit
import Derived.OpenShut
import Derived.Deep.DeepHandedRow
import Derived.Lib.LaidTab
import Derived.SevenTiedAt
set_option linter.unusedVariables false
set_option linter.unusedSimpArgs false
set_option maxRecDepth 100000
namespace Go.Proofs.YtnnbdielbgljaaaDoor.dissectKeeps
open Go.ChangeShapes Go.WideShapes Go.ChangeAt Go.RowKit Go.Vm
theorem own : ownKnob Tryd.prog.godebug=none:=by kernel_rfl
theorem EI : laidOutB Tryd.prog=true:=by kernel_rfl
theorem Ax : (Rows.dissectKeepsRow.laid.filter fun x=>x.2.handleName?.isSome)=[]:=by kernel_rfl
theorem g0 : Tryd.prog.globalNamed "layout/rotation.limits" = some 0 := by kernel_rfl
theorem gt0 : (Tryd.prog.globals[0]?).map (·.type)=some 81:=by kernel_rfl
theorem Cw {W : World} (h : laidMetH Tryd.prog Rows.dissectKeepsRow.laid W) : ∀ g τ x,eX glob g=some ⟨τ,x⟩→Rd W (fun b=>b < W.heap.size) (.ptr τ) [.pointer (some ⟨g,0,none⟩)] x:=by
 refine GL fun p hp=>?_
 simp only [glob,List.mem_cons,List.not_mem_nil,or_false] at hp
 subst hp
 ·exact xv h Ax (name := "layout/rotation.limits") (d := Rows.laid_layout_rotation_limits) (by simp [Rows.dissectKeepsRow]) g0 gt0 (by kernel_rfl) (by kernel_rfl)
noncomputable def nv (os : Os) : World :=
 { World.holding Tryd.prog os ⟨#[],#[],[]⟩ with heap:=((World.holding Tryd.prog os ⟨#[],#[],[]⟩).heap.modify 0 (fun
   | .cells _ t frozen=>.cells #[.int .i64 16384,.int .i64 32768] t frozen
   | o=>o)) }
theorem DS (os : Os) : laidMet Tryd.prog Rows.dissectKeepsRow.laid ((nv os).forCall (fun _ _=>0) ⟨#[],#[.agg #[.int .i64 0,.slice none 0 0,.slice none 0 0,.slice none 0 0,.slice none 0 0,.int .i64 0]],[]⟩).memory :=
 laidMet_of_run' 8 (by kernel_rfl) (by kernel_rfl)
theorem GT (os : Os) {H : Type} (enc : TypeId×Value→H) : ∃ places,DataW.whole enc Tryd.prog ((nv os).forCall (fun _ _=>0) ⟨#[],#[.agg #[.int .i64 0,.slice none 0 0,.slice none 0 0,.slice none 0 0,.slice none 0 0,.int .i64 0]],[]⟩).memory Tryd.f6.params.toList Rows.dissectKeepsSpec.vars false (#[.agg #[.int .i64 0,.slice none 0 0,.slice none 0 0,.slice none 0 0,.slice none 0 0,.int .i64 0]] : Array Value).toList 8=some ([.agg [.agg [.lit (.int .i64 0),.nil,.nil],.nil,.nil,.lit (.int .i64 0)]],[],places) :=
 ⟨[],by kernel_rfl⟩
theorem funcF : Tryd.prog.funcs[6]?=some Tryd.f6:=by kernel_rfl
theorem DP : ∀ x,ws Zb_c.ins x→∃ r,Zb x=some (true,r):=fun x hx=>⟨(),lB x hx⟩
theorem Gh {H : Type} (ds : List (DataW H)) (h : ds.length=1) : Rows.dissectKeepsSpec.fn H (ds++[])={ results:=[.lit (.bool true)],args:=ds }:=by
 match ds,h with
 | [d0],_=>rfl
theorem Gu (os : Os) (started : os.Started) (H : Type) (enc : TypeId×Value→H) (F : Stop.Interp) :
  ReturnsInHanded {} Tryd.checked os 6 .any ((OpenSpec.ofChange Rows.dissectKeepsSpec).preRow enc Tryd.prog Tryd.f6 Rows.dissectKeepsRow.domain false Rows.dissectKeepsRow.laid) (((OpenSpec.ofChange Rows.dissectKeepsSpec).at F).post enc Tryd.prog Tryd.f6 false true false false):=by
 obtain ⟨places,hx⟩:=GT os enc
 refine returnsInHanded_of_row (C:=Tryd.checked) (s:=OpenSpec.ofChange Rows.dissectKeepsSpec) own started (by kernel_rfl) funcF
  (witness_row_at (enc:=enc) (C:=Tryd.checked) false (nv os) #[.agg #[.int .i64 0,.slice none 0 0,.slice none 0 0,.slice none 0 0,.slice none 0 0,.int .i64 0]] rfl (by kernel_rfl) (by kernel_rfl) (by kernel_rfl)
   (OpenSpec.preRow_of_cond 8 hx (by kernel_rfl) (fun k hk=>by cases hk) (by kernel_rfl) (DS os))) ?_
 intro W base args ds gs before hval hW _ _ _ hL _ _
 exact Bp (s:=Rows.dissectKeepsSpec) EI funcF (by kernel_rfl) (by kernel_rfl) (by kernel_rfl) (tb:=4) (by kernel_rfl) (by kernel_rfl) rfl Gh Ej DP (Cw hL) hval hW
theorem HN : Rows.DissectKeepsSaid :=
 OpenClaim.holds_of_cond 6 Tryd.f6 rfl rfl rfl rfl rfl rfl rfl ⟨rfl,rfl,rfl,rfl,rfl⟩ rfl rfl rfl rfl rfl (by kernel_rfl) funcF (by kernel_rfl)
  (of_decide_eq_true (by kernel_rfl)) (by unfold Func.isWrapper; first | (rw [if_pos (by decide +kernel)]; kernel_rfl) | (rw [if_neg (by decide +kernel)]; exact ⟨rfl,rfl⟩))
  (fun os started H enc _ F=>by rw [OpenClaim.pre_eq_preRow]; exact Gu os started H enc F)
theorem plain (f : FuncId) (fn : Func) (hf : Tryd.pinned.checked.prog.funcNamed "layout/layoutlaw41.DissectKeeps" = some f) (hfn : Tryd.pinned.checked.prog.funcs[f]? = some fn) :
  false=Tryd.pinned.checked.prog.looks []∧∀ (j : Nat) t,fn.params[j]?=some t→Tryd.pinned.checked.prog.wantsStandIn t=false:=by
 obtain rfl : f = 6 := Option.some.inj ((show Tryd.prog.funcNamed "layout/layoutlaw41.DissectKeeps" = some 6 by kernel_rfl).symm.trans hf) |>.symm
 obtain rfl : fn=Tryd.f6:=(Option.some.inj (funcF.symm.trans hfn)).symm
 refine ⟨by kernel_rfl,fun j t ht=>?_⟩
 have hm : t∈Tryd.f6.params.toList:=List.mem_of_getElem? (by rw [Array.getElem?_toList]; exact ht)
 have hall : (Tryd.f6.params.toList.all fun u=>!Tryd.prog.wantsStandIn u)=true:=by kernel_rfl
 have:=List.all_eq_true.1 hall t hm
 exact (show Tryd.prog.wantsStandIn t=false by simpa using this)
theorem card : Rows.DissectKeepsCardSaid :=
 Claim7.holds_tied_plain_at .later [] _ _ _ _ HN (fun _ h=>by cases h) (by kernel_rfl) (fun _ h=>by cases h) dissectKeeps_row_tie rfl ⟨rfl,rfl⟩ (by kernel_rfl) rfl plain (by kernel_rfl)
end Go.Proofs.YtnnbdielbgljaaaDoor.dissectKeeps
