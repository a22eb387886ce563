/-
 THE LAW StraightShifts: for every input that its row speaks of the call returns true and leaves its arguments as they were; its listed variables are tied to the text.
 Conditions: those of the given row alone.
-/
import Derived.Test.YtgdkanecejfeiaaGreatDoorSLA
import Derived.Test.YtgdkanecejfeiaaGreatDoorSD70
import Derived.Test.YtgdkanecejfeiaaGreatDoorSVmD
import Derived.Test.YtgdkanecejfeiaaGreatDoorCards
import Derived.Test.YtgdkanecejfeiaaGreatDoorTie
import Derived.WalkKit
import Derived.ProofKit
import Derived.OpenShut
import Derived.Deep.DeepHandedRow
import Derived.Lib.LaidTab
import Derived.SevenTiedAt
open Option.some renaming inj→B4
set_option linter.unusedVariables false
set_option linter.unusedSimpArgs false
set_option maxRecDepth 100000
namespace Go.Proofs.YtgdkanecejfeiaaGreatDoor.straightShifts
open Go.ChangeShapes Go.WideShapes Go.ChangeAt Go.RowKit Go.Vm
theorem own:ownKnob Tryz.prog.godebug=none:=by kernel_rfl
theorem Gb:laidOutB Tryz.prog=true:=by kernel_rfl
theorem C2:(Rows.straightShiftsRow.laid.filter fun x=>x.2.handleName?.isSome)=[]:=by kernel_rfl
theorem g0 : Tryz.prog.globalNamed "layout/rotation.limits" = some 0 := by kernel_rfl
theorem gt0:(Tryz.prog.globals[0]?).map (·.type)=some 135:=by kernel_rfl
theorem Fp {W:World} (h:laidMetH Tryz.prog Rows.straightShiftsRow.laid W):∀ g τ x,eK glob g=some ⟨τ,x⟩→Rd W (fun b=>b < W.heap.size) (.ptr τ) [.pointer (some ⟨g,0,none⟩)] x:=by
 refine JZ fun p hp=>?_
 simp only [glob,List.mem_cons,List.not_mem_nil,or_false] at hp
 subst hp
 ·exact yD h C2 (name := "layout/rotation.limits") (d := Rows.laid_layout_rotation_limits) (by simp [Rows.straightShiftsRow]) g0 gt0 (by kernel_rfl) (by kernel_rfl)
noncomputable def oJ (os:Os):World :=
 { World.holding Tryz.prog os ⟨#[],#[],[]⟩ with heap:=((World.holding Tryz.prog os ⟨#[],#[],[]⟩).heap.modify 0 (fun
   | .cells _ t frozen=>.cells #[.int .i64 16384,.int .i64 32768] t frozen
   | o=>o)) }
theorem DO (os:Os):laidMet Tryz.prog Rows.straightShiftsRow.laid ((oJ os).forCall (fun _ _=>0) ⟨#[],#[.agg #[.int .i64 0,.slice none 0 0,.slice none 0 0],.slice none 0 0],[]⟩).memory :=
 laidMet_of_run' 8 (by kernel_rfl) (by kernel_rfl)
theorem I6 (os:Os) {H:Type} (enc:TypeId×Value→H):∃ places,DataW.whole enc Tryz.prog ((oJ os).forCall (fun _ _=>0) ⟨#[],#[.agg #[.int .i64 0,.slice none 0 0,.slice none 0 0],.slice none 0 0],[]⟩).memory Tryz.f3.params.toList Rows.straightShiftsSpec.vars false (#[.agg #[.int .i64 0,.slice none 0 0,.slice none 0 0],.slice none 0 0]:Array Value).toList 8=some ([.agg [.lit (.int .i64 0),.nil,.nil],.nil],[],places) :=
 ⟨[],by kernel_rfl⟩
theorem funcF:Tryz.prog.funcs[3]?=some Tryz.f3:=by kernel_rfl
theorem D6:∀ x,wA Zb_c.ins x→∃ r,Zb x=some (true,r):=fun x hx=>⟨(),kQ x hx⟩
theorem Ie {H:Type} (ds:List (DataW H)) (h:ds.length=2):Rows.straightShiftsSpec.fn H (ds++[])={ results:=[.lit (.bool true)],args:=ds }:=by
 match ds,h with
 | [d0,d1],_=>rfl
theorem lifted (os:Os) (started:os.Started) (H:Type) (enc:TypeId×Value→H) (F:Stop.Interp) :
  ReturnsInHanded {} Tryz.checked os 3 .any ((OpenSpec.ofChange Rows.straightShiftsSpec).preRow enc Tryz.prog Tryz.f3 Rows.straightShiftsRow.domain false Rows.straightShiftsRow.laid) (((OpenSpec.ofChange Rows.straightShiftsSpec).at F).post enc Tryz.prog Tryz.f3 false true false false):=by
 obtain ⟨places,hx⟩:=I6 os enc
 refine returnsInHanded_of_row (C:=Tryz.checked) (s:=OpenSpec.ofChange Rows.straightShiftsSpec) own started (by kernel_rfl) funcF
  (witness_row_at (enc:=enc) (C:=Tryz.checked) false (oJ os) #[.agg #[.int .i64 0,.slice none 0 0,.slice none 0 0],.slice none 0 0] rfl (by kernel_rfl) (by kernel_rfl) (by kernel_rfl)
   (OpenSpec.preRow_of_cond 8 hx (by kernel_rfl) (fun k hk=>by cases hk) (by kernel_rfl) (DO os))) ?_
 intro W base args ds gs before hval hW _ _ _ hL _ _
 exact De (s:=Rows.straightShiftsSpec) Gb funcF (by kernel_rfl) (by kernel_rfl) (by kernel_rfl) (tb:=4) (by kernel_rfl) (by kernel_rfl) rfl Ie FY D6 (Fp hL) hval hW
theorem clo:Tryz.pinned.checked.prog.closure 3=[3,5,6,13,33,63,37,93,114,141,64,94,95,66,115,67,68,143,161,142,160,171,69,100,133,134,99,124,130,159,125,154,126,155,156,127,157,158,170,128,129,131,132,116,144,162,163,172,164,165,173,174,175,166,167,168,169,117,96,97,118,146,147,148,145,107,85,119,120,149,135,71,121,151,150,17,123,152,153,122,98,65,34,35,70,101,36,72,43,78,110,79,44,82,111,80,81,102,103,83,136,104,137,138,139,46,47,48,87,73,15,84,112,105,140,113,106,7,16,45,86,18,19,49,14,38,74,39,40,41,75,76,108,77,109,42,8,10,23,51,54,90,24,55,56,52,88,53,89,11,25,26,57,58,27,59,91,20,21,22,50,9]:=by kernel_rfl
theorem unf:Tryz.pinned.checked.prog.unfollowed 3=true:=by unfold Program.unfollowed; rw [clo]; kernel_rfl
theorem JW:(Rows.straightShiftsRow.inPlace == Tryz.pinned.checked.prog.inPlace 3)=true:=by unfold Program.inPlace; rw [clo]; kernel_rfl
theorem JQ:(Rows.straightShiftsRow.unfollowed == Tryz.pinned.checked.prog.unfollowed 3)=true:=by rw [unf]; rfl
theorem I8:(Rows.straightShiftsRow.recurses == Tryz.pinned.checked.prog.recurses 3)=true:=by unfold Program.recurses; rw [unf]; rfl
theorem Jg:(Rows.straightShiftsRow.named == Tryz.pinned.checked.prog.varsNamed 3)=true:=by unfold Program.varsNamed; rw [clo]; kernel_rfl
theorem Jk:laidOutB Tryz.pinned.checked.prog=true:=by kernel_rfl
theorem Jt:mapsRowed Tryz.pinned.checked.prog=true:=by kernel_rfl
theorem JB:(Tryz.pinned.checked.prog.stops == [])=true:=by kernel_rfl
theorem JV:(Tryz.pinned.checked.prog.stopKnobs == [])=true:=by kernel_rfl
theorem J2:(Rows.straightShiftsRow.plainKeys == Tryz.pinned.checked.prog.plainKeys)=true:=by kernel_rfl
theorem Js:Tryz.pinned.checked.prog.stopsHeard=true:=by kernel_rfl
theorem IB:Tryz.pinned.checked.prog.mayEnter=true:=by kernel_rfl
theorem IP:(Rows.straightShiftsRow.lifted == Tryz.pinned.checked.prog.liftsFinal)=true:=by kernel_rfl
theorem closed:joinedFacts Tryz.pinned.checked.prog 3 Tryz.f3 (OpenSpec.ofChange Rows.straightShiftsSpec).bare Rows.straightShiftsRow=true:=by
 unfold joinedFacts
 rw [JW,JQ,I8,Jg,Jk,Jt,JB,JV,J2,Js,IB,IP]
 kernel_rfl
theorem gof:Tryz.pinned.checked.prog.goes 3=false:=by unfold Program.goes; rw [clo,unf]; kernel_rfl
theorem goes:false=Rows.straightShiftsRow.goesBy Tryz.pinned.checked.prog:=by
 have hn : Tryz.pinned.checked.prog.funcNamed "layout/layoutlaw37.StraightShifts" = some 3 := by kernel_rfl
 have hs:Rows.straightShiftsRow.start=.entering:=rfl
 have hf : Rows.straightShiftsRow.func = "layout/layoutlaw37.StraightShifts" := rfl
 unfold OpenClaim.goesBy Program.goesAt Program.goesFrom
 rw [hs,hf,hn,Option.any_some,gof]
 rfl
theorem Kl:Rows.StraightShiftsSaid :=
 OpenClaim.holds_of_cond 3 Tryz.f3 rfl rfl rfl rfl rfl rfl rfl ⟨rfl,rfl,rfl,rfl,rfl⟩ rfl rfl rfl rfl rfl (by kernel_rfl) funcF closed
  (of_decide_eq_true (by kernel_rfl)) (by unfold Func.isWrapper; first | (rw [if_pos (by decide +kernel)]; kernel_rfl) | (rw [if_neg (by decide +kernel)]; exact ⟨rfl,rfl⟩))
  (fun os started H enc _ F=>by rw [OpenClaim.pre_eq_preRow]; exact lifted os started H enc F)
theorem plain (f : FuncId) (fn : Func) (hf : Tryz.pinned.checked.prog.funcNamed "layout/layoutlaw37.StraightShifts" = some f) (hfn : Tryz.pinned.checked.prog.funcs[f]? = some fn) :
  false=Tryz.pinned.checked.prog.looks []∧∀ (j:Nat) t,fn.params[j]?=some t→Tryz.pinned.checked.prog.wantsStandIn t=false:=by
 obtain rfl : f = 3 := B4 ((show Tryz.prog.funcNamed "layout/layoutlaw37.StraightShifts" = some 3 by kernel_rfl).symm.trans hf) |>.symm
 obtain rfl:fn=Tryz.f3:=(B4 (funcF.symm.trans hfn)).symm
 refine ⟨by kernel_rfl,fun j t ht=>?_⟩
 have hm:t∈Tryz.f3.params.toList:=List.mem_of_getElem? (by rw [Array.getElem?_toList]; exact ht)
 have hall:(Tryz.f3.params.toList.all fun u=>!Tryz.prog.wantsStandIn u)=true:=by kernel_rfl
 have:=List.all_eq_true.1 hall t hm
 exact (show Tryz.prog.wantsStandIn t=false by simpa using this)
theorem wfT:Rows.straightShiftsRow.wfByText (OpenSpec.ofChange Rows.straightShiftsSpec)=true:=by kernel_rfl
theorem card:Rows.StraightShiftsCardSaid :=
 Claim7.holds_tied_plain_at .later [] _ _ _ _ Kl (fun _ h=>by cases h) wfT (fun _ h=>by cases h) straightShifts_row_tie rfl ⟨rfl,rfl⟩ (by as_aux_lemma=>kernel_rfl) rfl plain goes
end Go.Proofs.YtgdkanecejfeiaaGreatDoor.straightShifts
