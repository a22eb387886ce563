/-
 THE LAW PlanarizeRefuses: for every input that its row speaks of the call returns true and leaves its arguments as they were; its listed variables are tied to the text.
 Conditions: those of the given row alone.
-/
import Derived.Test.YtganppkchbnikaaGreatDoorL34Z
import Derived.Test.YtganppkchbnikaaGreatDoorD90
import Derived.Test.YtganppkchbnikaaGreatDoorVmE
import Derived.Test.YtganppkchbnikaaGreatDoorCards
import Derived.Test.YtganppkchbnikaaGreatDoorTie
import Derived.WalkKit
import Derived.ProofKit
import Derived.OpenShut
import Derived.Deep.DeepHandedRow
import Derived.Lib.LaidTab
import Derived.SevenTiedAt
open Option.some renaming inj->B7
set_option linter.unusedVariables false
set_option linter.unusedSimpArgs false
set_option maxRecDepth 100000
namespace Go.Proofs.YtganppkchbnikaaGreatDoor.planarizeRefuses
open Go.ChangeShapes Go.WideShapes Go.ChangeAt Go.RowKit Go.Vm
theorem own:ownKnob Tryz.prog.godebug=none:=by kernel_rfl
theorem Fc:laidOutB Tryz.prog=true:=by kernel_rfl
theorem zA:(Rows.planarizeRefusesRow.laid.filter λx=>x.2.handleName?.isSome)=[]:=by kernel_rfl
theorem g0 : Tryz.prog.globalNamed "layout/rotation.limits" = some 0 := by kernel_rfl
theorem gt0:(Tryz.prog.globals[0]?).map (·.type)=some 68:=by kernel_rfl
theorem D6 {W:World} (h:laidMetH Tryz.prog Rows.planarizeRefusesRow.laid W):∀ g τ x,fJ glob g=some ⟨τ,x⟩->Rd W (fun b=>b < W.heap.size) (.ptr τ) [.pointer (some ⟨g,0,none⟩)] x:=by refine HM fun p hp=>?_;simp only [glob,List.mem_cons,List.not_mem_nil,or_false] at hp;subst hp;exact vB h zA (name := "layout/rotation.limits") (d := Rows.laid_layout_rotation_limits) (by simp [Rows.planarizeRefusesRow]) g0 gt0 (by kernel_rfl) (by kernel_rfl)
noncomputable def nK(os:Os):World:=
 { World.holding Tryz.prog os ⟨#[],#[],[]⟩ with heap:=((World.holding Tryz.prog os ⟨#[],#[],[]⟩).heap.modify 0 (fun
   |.cells _ t frozen=>.cells #[.int .i64 16384,.int .i64 32768] t frozen
   |o=>o)) }
theorem Aq(os:Os):laidMet Tryz.prog Rows.planarizeRefusesRow.laid ((nK os).forCall (λ_ _=>0) ⟨#[],#[.agg #[.int .i64 0,.slice none 0 0]],[]⟩).memory:=
 laidMet_of_run' 8 (by kernel_rfl) (by kernel_rfl)
theorem Iv(os:Os){H:Type}(enc:TypeId×Value->H):∃ places,DataW.whole enc Tryz.prog ((nK os).forCall (λ_ _=>0) ⟨#[],#[.agg #[.int .i64 0,.slice none 0 0]],[]⟩).memory Tryz.f3.params.toList Rows.planarizeRefusesSpec.vars false (#[.agg #[.int .i64 0,.slice none 0 0]]:Array Value).toList 8=some ([.agg [.lit (.int .i64 0),.nil]],[],places):=
 ⟨[],by kernel_rfl⟩
theorem funcF:Tryz.prog.funcs[3]?=some Tryz.f3:=by kernel_rfl
theorem AE:∀ x,tM Zo_c.ins x->∃ r,Zo x=some (true,r):=λx hx=>⟨(),l8 x hx⟩
theorem GR{H:Type}(ds:List (DataW H))(h:ds.length=1):Rows.planarizeRefusesSpec.fn H (ds++[])={ results:=[.lit (.bool true)],args:=ds }:=by
 match ds,h with
 |[d0],_=>rfl
theorem lifted (os:Os)(started:os.Started)(H:Type)(enc:TypeId×Value->H)(F:Stop.Interp) :
  ReturnsInHanded {} Tryz.checked os 3 .any ((OpenSpec.ofChange Rows.planarizeRefusesSpec).preRow enc Tryz.prog Tryz.f3 Rows.planarizeRefusesRow.domain false Rows.planarizeRefusesRow.laid) (((OpenSpec.ofChange Rows.planarizeRefusesSpec).at F).post enc Tryz.prog Tryz.f3 false true false false):=by
 obtain⟨places,hx⟩:=Iv os enc;refine returnsInHanded_of_row (C:=Tryz.checked) (s:=OpenSpec.ofChange Rows.planarizeRefusesSpec) own started (by kernel_rfl) funcF
  (witness_row_at (enc:=enc) (C:=Tryz.checked) false (nK os) #[.agg #[.int .i64 0,.slice none 0 0]] rfl (by kernel_rfl) (by kernel_rfl) (by kernel_rfl)
   (OpenSpec.preRow_of_cond 8 hx (by kernel_rfl) (λk hk=>by cases hk) (by kernel_rfl) (Aq os))) ?_
 intro W base args ds gs before hval hW _ _ _ hL _ _;exact yZ (s:=Rows.planarizeRefusesSpec) Fc funcF (by kernel_rfl) (by kernel_rfl) (by kernel_rfl) (tb:=4) (by kernel_rfl) (by kernel_rfl) rfl GR AQ AE (D6 hL) hval hW
theorem clo:Tryz.pinned.checked.prog.closure 3=[3,4,7,19,8,20,22,21,5,9,6,12,29,23,41,69,87,30,31,14,33,46,47,42,72,43,44,100,118,99,117,130,45,71,97,98,70,88,94,116,89,111,90,112,113,91,114,115,129,92,93,95,96,73,101,119,120,131,121,122,132,133,135,123,124,125,126,74,48,49,75,103,104,105,102,76,18,77,78,106,15,34,79,107,64,84,81,108,109,80,50,13,32,16,35,51,24,38,25,39,68,40,82,52,54,83,53,56,55,58,57,59,36,60,37,61,63,65,62,67,66,85,86,110,127,128,134,17,10,26,27,28,11]:=by kernel_rfl
theorem unf:Tryz.pinned.checked.prog.unfollowed 3=true:=by unfold Program.unfollowed;rw[clo];kernel_rfl
theorem Io:(Rows.planarizeRefusesRow.inPlace==Tryz.pinned.checked.prog.inPlace 3)=true:=by unfold Program.inPlace;rw[clo];kernel_rfl
theorem IB:(Rows.planarizeRefusesRow.unfollowed==Tryz.pinned.checked.prog.unfollowed 3)=true:=by rw[unf];rfl
theorem Im:(Rows.planarizeRefusesRow.recurses==Tryz.pinned.checked.prog.recurses 3)=true:=by unfold Program.recurses;rw[unf];rfl
theorem Hr:(Rows.planarizeRefusesRow.named==Tryz.pinned.checked.prog.varsNamed 3)=true:=by unfold Program.varsNamed;rw[clo];kernel_rfl
theorem Il:laidOutB Tryz.pinned.checked.prog=true:=by kernel_rfl
theorem Ht:mapsRowed Tryz.pinned.checked.prog=true:=by kernel_rfl
theorem HQ:(Tryz.pinned.checked.prog.stops == [])=true:=by kernel_rfl
theorem Hq:(Tryz.pinned.checked.prog.stopKnobs == [])=true:=by kernel_rfl
theorem HS:(Rows.planarizeRefusesRow.plainKeys==Tryz.pinned.checked.prog.plainKeys)=true:=by kernel_rfl
theorem IE:Tryz.pinned.checked.prog.stopsHeard=true:=by kernel_rfl
theorem GN:Tryz.pinned.checked.prog.mayEnter=true:=by kernel_rfl
theorem G4:(Rows.planarizeRefusesRow.lifted==Tryz.pinned.checked.prog.liftsFinal)=true:=by kernel_rfl
theorem GA:joinedFacts Tryz.pinned.checked.prog 3 Tryz.f3 (OpenSpec.ofChange Rows.planarizeRefusesSpec).bare Rows.planarizeRefusesRow=true:=by unfold joinedFacts;rw[Io,IB,Im,Hr,Il,Ht,HQ,Hq,HS,IE,GN,G4];kernel_rfl
theorem gof:Tryz.pinned.checked.prog.goes 3=false:=by unfold Program.goes;rw[clo,unf];kernel_rfl
theorem goes:false=Rows.planarizeRefusesRow.goesBy Tryz.pinned.checked.prog:=by
 have hn : Tryz.pinned.checked.prog.funcNamed "layout/layoutlaw34.PlanarizeRefuses" = some 3 := by kernel_rfl
 have hs:Rows.planarizeRefusesRow.start=.entering:=rfl;have hf : Rows.planarizeRefusesRow.func = "layout/layoutlaw34.PlanarizeRefuses" := rfl
 unfold OpenClaim.goesBy Program.goesAt Program.goesFrom;rw[hs,hf,hn,Option.any_some,gof];rfl
theorem Je:Rows.PlanarizeRefusesSaid:=
 OpenClaim.holds_of_cond 3 Tryz.f3 rfl rfl rfl rfl rfl rfl rfl ⟨rfl,rfl,rfl,rfl,rfl⟩ rfl rfl rfl rfl rfl (by kernel_rfl) funcF GA
  (of_decide_eq_true (by kernel_rfl)) (by unfold Func.isWrapper;first|(rw[if_pos (by decide +kernel)];kernel_rfl)|(rw[if_neg (by decide +kernel)];exact⟨rfl,rfl⟩))
  (λos started H enc _ F=>by rw[OpenClaim.pre_eq_preRow];exact lifted os started H enc F)
theorem plain (f : FuncId) (fn : Func) (hf : Tryz.pinned.checked.prog.funcNamed "layout/layoutlaw34.PlanarizeRefuses" = some f) (hfn : Tryz.pinned.checked.prog.funcs[f]? = some fn) :
  false=Tryz.pinned.checked.prog.looks []/\∀(j:Nat) t,fn.params[j]?=some t->Tryz.pinned.checked.prog.wantsStandIn t=false:=by
 obtain rfl : f = 3 := B7 ((show Tryz.prog.funcNamed "layout/layoutlaw34.PlanarizeRefuses" = some 3 by kernel_rfl).symm.trans hf) |>.symm
 obtain rfl:fn=Tryz.f3:=(B7 (funcF.symm.trans hfn)).symm;refine⟨by kernel_rfl,λj t ht=>?_⟩;have hm:t∈Tryz.f3.params.toList:=List.mem_of_getElem? (by rw[Array.getElem?_toList];exact ht);have hall:(Tryz.f3.params.toList.all λu=>!Tryz.prog.wantsStandIn u)=true:=by kernel_rfl
 have:=List.all_eq_true.1 hall t hm;exact(show Tryz.prog.wantsStandIn t=false by simpa using this)
theorem wfT:Rows.planarizeRefusesRow.wfByText (OpenSpec.ofChange Rows.planarizeRefusesSpec)=true:=by kernel_rfl
theorem card:Rows.PlanarizeRefusesCardSaid:=
 Claim7.holds_tied_plain_at .later [] _ _ _ _ Je (λ_ h=>by cases h) wfT (λ_ h=>by cases h) planarizeRefuses_row_tie rfl ⟨rfl,rfl⟩ (by as_aux_lemma=>kernel_rfl) rfl plain goes
end Go.Proofs.YtganppkchbnikaaGreatDoor.planarizeRefuses
