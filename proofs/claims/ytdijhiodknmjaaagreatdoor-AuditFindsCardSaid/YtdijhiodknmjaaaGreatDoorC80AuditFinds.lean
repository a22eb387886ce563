/-
 THE LAW AuditFinds: for every input that its row speaks of the call returns true and leaves its arguments as they were; its listed variables are tied to the text.
 Conditions: those of the given row alone.
-/
import Derived.Test.YtdijhiodknmjaaaGreatDoorC80A
import Derived.Test.YtdijhiodknmjaaaGreatDoorC80B
open Option.some renaming inj->L9
set_option linter.unusedVariables false
set_option linter.unusedSimpArgs false
set_option maxRecDepth 100000
namespace Go.Proofs.YtdijhiodknmjaaaGreatDoor.auditFinds
open Go.ChangeShapes Go.WideShapes Go.ChangeAt Go.RowKit Go.Vm
theorem Uw:Rows.AuditFindsSaid:=
 OpenClaim.holds_of_cond 3 Tryz.f3 rfl rfl rfl rfl rfl rfl rfl ⟨rfl,rfl,rfl,rfl,rfl⟩ rfl rfl rfl rfl rfl (by kernel_rfl) funcF closed
  (of_decide_eq_true (by kernel_rfl)) (by unfold Func.isWrapper;first|(rw[if_pos (by decide +kernel)];kernel_rfl)|(rw[if_neg (by decide +kernel)];exact⟨rfl,rfl⟩))
  (λos started H enc _ F=>by rw[OpenClaim.pre_eq_preRow];exact lifted os started H enc F)
theorem plain (f : FuncId) (fn : Func) (hf : Tryz.pinned.checked.prog.funcNamed "layout/layoutlaw58.AuditFinds" = some f) (hfn : Tryz.pinned.checked.prog.funcs[f]? = some fn) :
  false=Tryz.pinned.checked.prog.looks []/\∀(j:Nat) t,fn.params[j]?=some t->Tryz.pinned.checked.prog.wantsStandIn t=false:=by
 obtain rfl:f=3:=(L9 (pl1.symm.trans hf)).symm
 obtain rfl:fn=Tryz.f3:=(L9 (funcF.symm.trans hfn)).symm;refine⟨pl2,λj t ht=>?_⟩;have hm:t∈Tryz.f3.params.toList:=List.mem_of_getElem? (by rw[Array.getElem?_toList];exact ht)
 have:=List.all_eq_true.1 pl3 t hm;exact(show Tryz.prog.wantsStandIn t=false by simpa using this)
theorem wfT:Rows.auditFindsRow.wfByText (OpenSpec.ofChange Rows.auditFindsSpec)=true:=by kernel_rfl
theorem card:Rows.AuditFindsCardSaid:=
 Claim7.holds_tied_plain_at .later [] _ _ _ _ Uw (λ_ h=>by cases h) wfT (λ_ h=>by cases h) BQ rfl ⟨rfl,rfl⟩ (by as_aux_lemma=>kernel_rfl) rfl plain goes
end Go.Proofs.YtdijhiodknmjaaaGreatDoor.auditFinds
