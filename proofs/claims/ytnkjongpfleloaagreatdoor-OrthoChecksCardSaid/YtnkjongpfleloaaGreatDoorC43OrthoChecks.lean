/-
 THE LAW OrthoChecks: for every input that its row speaks of the call returns true and leaves its arguments as they were; its listed variables are tied to the text.
 Conditions: those of the given row alone.
-/
import Derived.Test.YtnkjongpfleloaaGreatDoorV43K
import Derived.Test.YtnkjongpfleloaaGreatDoorD43
import Derived.Test.YtnkjongpfleloaaGreatDoorVmE
import Derived.Test.YtnkjongpfleloaaGreatDoorCards
import Derived.Test.YtnkjongpfleloaaGreatDoorTie
import Derived.WalkKit
import Derived.ProofKit
import Derived.OpenShut
import Derived.Deep.DeepHandedRow
import Derived.Lib.LaidTab
import Derived.SevenTiedAt
open Option.some renaming inj->B6
set_option linter.unusedVariables false
set_option linter.unusedSimpArgs false
set_option maxRecDepth 100000
namespace Go.Proofs.YtnkjongpfleloaaGreatDoor.orthoChecks
open Go.ChangeShapes Go.WideShapes Go.ChangeAt Go.RowKit Go.Vm
theorem own:ownKnob Tryz.prog.godebug=none:=by kernel_rfl
theorem J5:laidOutB Tryz.prog=true:=by kernel_rfl
theorem C9:(Rows.orthoChecksRow.laid.filter λx=>x.2.handleName?.isSome)=[]:=by kernel_rfl
theorem g0 : Tryz.prog.globalNamed "layout/rotation.limits" = some 0 := by kernel_rfl
theorem gt0:(Tryz.prog.globals[0]?).map (·.type)=some 159:=by kernel_rfl
theorem HV {W:World} (h:laidMetH Tryz.prog Rows.orthoChecksRow.laid W):∀ g τ x,gb glob g=some ⟨τ,x⟩->Rd W (fun b=>b < W.heap.size) (.ptr τ) [.pointer (some ⟨g,0,none⟩)] x:=by refine Po fun p hp=>?_;simp only [glob,List.mem_cons,List.not_mem_nil,or_false] at hp;subst hp;exact xY h C9 (name := "layout/rotation.limits") (d := Rows.laid_layout_rotation_limits) (by simp [Rows.orthoChecksRow]) g0 gt0 (by kernel_rfl) (by kernel_rfl)
noncomputable def n8(os:Os):World:=
 { World.holding Tryz.prog os ⟨#[],#[],[]⟩ with heap:=((World.holding Tryz.prog os ⟨#[],#[],[]⟩).heap.modify 0 (fun
   |.cells _ t frozen=>.cells #[.int .i64 16384,.int .i64 32768] t frozen
   |o=>o)) }
theorem GD(os:Os):laidMet Tryz.prog Rows.orthoChecksRow.laid ((n8 os).forCall (λ_ _=>0) ⟨#[],#[.agg #[.int .i64 0,.slice none 0 0],.slice none 0 0,.slice none 0 0],[]⟩).memory:=
 laidMet_of_run' 8 (by kernel_rfl) (by kernel_rfl)
theorem Ok(os:Os){H:Type}(enc:TypeId×Value->H):∃ places,DataW.whole enc Tryz.prog ((n8 os).forCall (λ_ _=>0) ⟨#[],#[.agg #[.int .i64 0,.slice none 0 0],.slice none 0 0,.slice none 0 0],[]⟩).memory Tryz.f3.params.toList Rows.orthoChecksSpec.vars false (#[.agg #[.int .i64 0,.slice none 0 0],.slice none 0 0,.slice none 0 0]:Array Value).toList 8=some ([.agg [.lit (.int .i64 0),.nil],.nil,.nil],[],places):=
 ⟨[],by kernel_rfl⟩
theorem funcF:Tryz.prog.funcs[3]?=some Tryz.f3:=by kernel_rfl
theorem IB:∀ x,vi Zn_c.ins x->∃ r,Zn x=some (true,r):=λx hx=>⟨(),rA x hx⟩
theorem MB{H:Type}(ds:List (DataW H))(h:ds.length=3):Rows.orthoChecksSpec.fn H (ds++[])={ results:=[.lit (.bool true)],args:=ds }:=by
 match ds,h with
 |[d0,d1,d2],_=>rfl
theorem lifted (os:Os)(started:os.Started)(H:Type)(enc:TypeId×Value->H)(F:Stop.Interp) :
  ReturnsInHanded {} Tryz.checked os 3 .any ((OpenSpec.ofChange Rows.orthoChecksSpec).preRow enc Tryz.prog Tryz.f3 Rows.orthoChecksRow.domain false Rows.orthoChecksRow.laid) (((OpenSpec.ofChange Rows.orthoChecksSpec).at F).post enc Tryz.prog Tryz.f3 false true false false):=by
 obtain⟨places,hx⟩:=Ok os enc;refine returnsInHanded_of_row (C:=Tryz.checked) (s:=OpenSpec.ofChange Rows.orthoChecksSpec) own started (by kernel_rfl) funcF
  (witness_row_at (enc:=enc) (C:=Tryz.checked) false (n8 os) #[.agg #[.int .i64 0,.slice none 0 0],.slice none 0 0,.slice none 0 0] rfl (by kernel_rfl) (by kernel_rfl) (by kernel_rfl)
   (OpenSpec.preRow_of_cond 8 hx (by kernel_rfl) (λk hk=>by cases hk) (by kernel_rfl) (GD os))) ?_
 intro W base args ds gs before hval hW _ _ _ hL _ _;exact Cz (s:=Rows.orthoChecksSpec) J5 funcF (by kernel_rfl) (by kernel_rfl) (by kernel_rfl) (tb:=4) (by kernel_rfl) (by kernel_rfl) rfl MB Is IB (HV hL) hval hW
theorem clo:Tryz.pinned.checked.prog.closure 3=[3,4,5,6,10,9,25,11,12,36,13,56,95,135,57,96,136,137,138,139,183,215,216,182,206,212,236,207,231,208,232,233,209,234,235,247,210,211,213,214,58,97,26,59,98,99,100,60,101,140,141,184,218,238,217,237,248,185,219,239,240,249,241,242,250,251,252,243,244,245,246,186,142,143,187,221,222,223,220,80,64,188,189,224,61,102,190,225,158,119,192,226,227,191,144,62,103,145,112,174,127,67,113,178,193,146,148,194,147,150,149,152,151,153,104,154,105,155,157,159,156,160,122,116,176,175,204,205,230,63,28,27,65,106,161,162,107,163,195,164,165,196,166,197,198,108,167,66,109,110,111,168,199,200,169,201,170,202,228,203,229,171,172,173,29,68,84,126,128,129,179,130,180,131,181,69,70,30,35,71,72,114,115,117,118,73,120,74,121,31,75,76,77,79,78,32,33,81,123,177,124,14,34,82,83,125,90,7,15,37,16,38,85,39,86,132,40,87,17,41,42,45,88,43,44,18,46,89,8,19,20,47,21,48,91,49,51,92,133,50,24,52,55,93,94,134,54,53,22,23]:=by kernel_rfl
theorem unf:Tryz.pinned.checked.prog.unfollowed 3=true:=by unfold Program.unfollowed;rw[clo];kernel_rfl
theorem Ps:(Rows.orthoChecksRow.inPlace==Tryz.pinned.checked.prog.inPlace 3)=true:=by unfold Program.inPlace;rw[clo];kernel_rfl
theorem P6:(Rows.orthoChecksRow.unfollowed==Tryz.pinned.checked.prog.unfollowed 3)=true:=by rw[unf];rfl
theorem OQ:(Rows.orthoChecksRow.recurses==Tryz.pinned.checked.prog.recurses 3)=true:=by unfold Program.recurses;rw[unf];rfl
theorem Og:(Rows.orthoChecksRow.named==Tryz.pinned.checked.prog.varsNamed 3)=true:=by unfold Program.varsNamed;rw[clo];kernel_rfl
theorem Oy:laidOutB Tryz.pinned.checked.prog=true:=by kernel_rfl
theorem OR:mapsRowed Tryz.pinned.checked.prog=true:=by kernel_rfl
theorem Od:(Tryz.pinned.checked.prog.stops == [])=true:=by kernel_rfl
theorem Py:(Tryz.pinned.checked.prog.stopKnobs == [])=true:=by kernel_rfl
theorem PX:(Rows.orthoChecksRow.plainKeys==Tryz.pinned.checked.prog.plainKeys)=true:=by kernel_rfl
theorem OC:Tryz.pinned.checked.prog.stopsHeard=true:=by kernel_rfl
theorem MD:Tryz.pinned.checked.prog.mayEnter=true:=by kernel_rfl
theorem M9:(Rows.orthoChecksRow.lifted==Tryz.pinned.checked.prog.liftsFinal)=true:=by kernel_rfl
theorem closed:joinedFacts Tryz.pinned.checked.prog 3 Tryz.f3 (OpenSpec.ofChange Rows.orthoChecksSpec).bare Rows.orthoChecksRow=true:=by unfold joinedFacts;rw[Ps,P6,OQ,Og,Oy,OR,Od,Py,PX,OC,MD,M9];kernel_rfl
theorem gof:Tryz.pinned.checked.prog.goes 3=false:=by unfold Program.goes;rw[clo,unf];kernel_rfl
theorem goes:false=Rows.orthoChecksRow.goesBy Tryz.pinned.checked.prog:=by
 have hn : Tryz.pinned.checked.prog.funcNamed "layout/layoutlaw43.OrthoChecks" = some 3 := by kernel_rfl
 have hs:Rows.orthoChecksRow.start=.entering:=rfl;have hf : Rows.orthoChecksRow.func = "layout/layoutlaw43.OrthoChecks" := rfl
 unfold OpenClaim.goesBy Program.goesAt Program.goesFrom;rw[hs,hf,hn,Option.any_some,gof];rfl
theorem PA:Rows.OrthoChecksSaid:=
 OpenClaim.holds_of_cond 3 Tryz.f3 rfl rfl rfl rfl rfl rfl rfl ⟨rfl,rfl,rfl,rfl,rfl⟩ rfl rfl rfl rfl rfl (by kernel_rfl) funcF closed
  (of_decide_eq_true (by kernel_rfl)) (by unfold Func.isWrapper;first|(rw[if_pos (by decide +kernel)];kernel_rfl)|(rw[if_neg (by decide +kernel)];exact⟨rfl,rfl⟩))
  (λos started H enc _ F=>by rw[OpenClaim.pre_eq_preRow];exact lifted os started H enc F)
theorem plain (f : FuncId) (fn : Func) (hf : Tryz.pinned.checked.prog.funcNamed "layout/layoutlaw43.OrthoChecks" = some f) (hfn : Tryz.pinned.checked.prog.funcs[f]? = some fn) :
  false=Tryz.pinned.checked.prog.looks []/\∀(j:Nat) t,fn.params[j]?=some t->Tryz.pinned.checked.prog.wantsStandIn t=false:=by
 obtain rfl : f = 3 := B6 ((show Tryz.prog.funcNamed "layout/layoutlaw43.OrthoChecks" = some 3 by kernel_rfl).symm.trans hf) |>.symm
 obtain rfl:fn=Tryz.f3:=(B6 (funcF.symm.trans hfn)).symm;refine⟨by kernel_rfl,λj t ht=>?_⟩;have hm:t∈Tryz.f3.params.toList:=List.mem_of_getElem? (by rw[Array.getElem?_toList];exact ht);have hall:(Tryz.f3.params.toList.all λu=>!Tryz.prog.wantsStandIn u)=true:=by kernel_rfl
 have:=List.all_eq_true.1 hall t hm;exact(show Tryz.prog.wantsStandIn t=false by simpa using this)
theorem wfT:Rows.orthoChecksRow.wfByText (OpenSpec.ofChange Rows.orthoChecksSpec)=true:=by kernel_rfl
theorem card:Rows.OrthoChecksCardSaid:=
 Claim7.holds_tied_plain_at .later [] _ _ _ _ PA (λ_ h=>by cases h) wfT (λ_ h=>by cases h) orthoChecks_row_tie rfl ⟨rfl,rfl⟩ (by as_aux_lemma=>kernel_rfl) rfl plain goes
end Go.Proofs.YtnkjongpfleloaaGreatDoor.orthoChecks
