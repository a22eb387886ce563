/-
 Sort, SortFunc, Compact, Insert, Collect.
-/
import Derived.Shelf.Sort.Plain
import Derived.Shelf.Slices.CompactI
import Derived.Shelf.Slices.In.SortNone
import Derived.Shelf.Spec.SlicesInsert
import Derived.Shelf.Spec.SlicesInsertGrow
import Derived.Shelf.SlIterI.Collect
import Derived.Ground.GgzProg
import Derived.Ground.NamesProg
import Derived.Ground.Names2Prog
import Derived.Shelf.SlSortCmp.Whole1
import Derived.Ground.SlsfProg
import Derived.Test.YtganppkchbnikaaGreatDoorProg
import Derived.Test.YtganppkchbnikaaGreatDoorVmExt2
import Derived.Test.YtganppkchbnikaaGreatDoorVmExt3
import Derived.Test.YtganppkchbnikaaGreatDoorVmExt4
import Derived.Test.YtganppkchbnikaaGreatDoorVmPack
import Derived.RangeFuncBox
import Derived.RangeFuncLeaves
import Derived.OwnWalkIn
import Derived.TacticsInMore
import Derived.LoopNIn
import Derived.LoopIn
import Derived.Test.YtganppkchbnikaaGreatDoorVmInl
import Derived.Test.YtganppkchbnikaaGreatDoorVmInl2
import Derived.Deep.QuietTactic
import Derived.WalkKit
import Derived.Shelf.SlSortCmp.NoneTotal
open Bool renaming and_eq_true->np,not_eq_true'->Jw,false_eq_true->JS
open List renaming getElem?_eq_getElem->A1,mem_cons->A8,length_cons->B6,pairwise_cons->Jr,getElem?_cons_zero->Ju,length_nil->JB,pairwise_singleton->JI,getElem?_drop->J2,drop_eq_getElem_cons->J5,getElem?_take_of_lt->Kg,length_pos_iff->Kn,getElem_mem->Ko,nil_append->Kw,cons_append->KD,size_toArray->KU,append_toArray->Ls,push_toArray->LA,isEmpty_eq_false_iff->LL,ext_getElem->Ml
open Nat renaming eq_of_beq_eq_true->A3,beq->A7,le_refl->B2,ble->JK,lt_of_lt_of_le->JQ,add_zero->JY,mul_one->Km,zero_le->K0,zero_lt_one->Lk,ble_eq->MO
open Option.some renaming inj->B7
open Array renaming getElem?_eq_some_iff->Jt,getElem?_toList->JN,getElem?_eq_getElem->Kt,replicate_succ->Lm,replicate_zero->Ln,extract_size->L4
open Option renaming isSome_none->Lt
set_option linter.unusedVariables false
set_option linter.unusedSimpArgs false
/-
 DERIVED: THE SHELF's CONTRACTS AT THIS DUMP, IN PLAIN WORDS (tools/lay-plain.mjs out of 'TryzShelf.lean', which tools/lay-shelf.mjs wrote): THE SAME DECLARATIONS UNDER THE SAME NAMES: 'import', 'namespace', 'open', 'def', 'theorem' AND NOTHING ELSE: no command of the shelf's: FOR A HAND-IN. Each laying: the table of numbers ('.._ren') and one theorem, a field a fact of the dump's own or the kernel's comparison; each contract: ONE APPLICATION.
-/
namespace Go.Proofs
open Go.Shelf
def Tryz.laysNm221_ren:Go.Shelf.Ren:=⟨fun|21=>110|27=>127|28=>128|35=>134|39=>76|n=>n,fun|22=>40|3=>3|4=>4|0=>0|n=>n,fun|n=>n⟩
theorem Tryz.laysNm221:Go.Proofs.Lays2.n21 Tryz.prog Tryz.laysNm221_ren:={
 mixed:=by kernel_rfl
 f21:=Tryz.func110.trans (congrArg some (by kernel_rfl))
 f27:=Tryz.func127.trans (congrArg some (by kernel_rfl))
 f28:=Tryz.func128.trans (congrArg some (by kernel_rfl))
 f35:=Tryz.func134.trans (congrArg some (by kernel_rfl))
 f39:=Tryz.func76.trans (congrArg some (by kernel_rfl))
 t0:=Tryz.underlying0
 a0:=Tryz.isAgg0
 z0:=Tryz.sizeOf0
 v0:=Tryz.zeroValue0
 t3:=Tryz.underlying3
 a3:=Tryz.isAgg3
 z3:=Tryz.sizeOf3
 v3:=Tryz.zeroValue3
 t4:=Tryz.underlying4
 a4:=Tryz.isAgg4
 z4:=Tryz.sizeOf4
 v4:=Tryz.zeroValue4
 t22:=Tryz.underlying40
 a22:=Tryz.isAgg40
 z22:=Tryz.sizeOf40
 v22:=Tryz.zeroValue40
 i3:=by kernel_rfl }
def Tryz.lays189_ren:Go.Shelf.Ren:=⟨fun|189=>45|125=>71|257=>70|128=>97|129=>98|294=>88|295=>89|296=>90|297=>91|298=>92|299=>93|216=>94|300=>95|301=>96|328=>111|329=>112|330=>113|331=>114|332=>115|215=>116|343=>129|n=>n,fun|28=>40|3=>3|46=>107|0=>0|51=>129|53=>131|4=>4|183=>122|182=>121|131=>126|5=>5|9=>9|218=>140|222=>144|228=>153|229=>96|n=>n,fun|n=>n⟩
theorem Tryz.lays189:Go.Proofs.Lays.n189 Tryz.prog Tryz.lays189_ren:={
 mixed:=by kernel_rfl
 f125:=Tryz.func71.trans (congrArg some (by kernel_rfl))
 f128:=Tryz.func97.trans (congrArg some (by kernel_rfl))
 f129:=Tryz.func98.trans (congrArg some (by kernel_rfl))
 f189:=Tryz.func45.trans (congrArg some (by kernel_rfl))
 f215:=Tryz.func116.trans (congrArg some (by kernel_rfl))
 f216:=Tryz.func94.trans (congrArg some (by kernel_rfl))
 f257:=Tryz.func70.trans (congrArg some (by kernel_rfl))
 f294:=Tryz.func88.trans (congrArg some (by kernel_rfl))
 f295:=Tryz.func89.trans (congrArg some (by kernel_rfl))
 f296:=Tryz.func90.trans (congrArg some (by kernel_rfl))
 f297:=Tryz.func91.trans (congrArg some (by kernel_rfl))
 f298:=Tryz.func92.trans (congrArg some (by kernel_rfl))
 f299:=Tryz.func93.trans (congrArg some (by kernel_rfl))
 f300:=Tryz.func95.trans (congrArg some (by kernel_rfl))
 f301:=Tryz.func96.trans (congrArg some (by kernel_rfl))
 f328:=Tryz.func111.trans (congrArg some (by kernel_rfl))
 f329:=Tryz.func112.trans (congrArg some (by kernel_rfl))
 f330:=Tryz.func113.trans (congrArg some (by kernel_rfl))
 f331:=Tryz.func114.trans (congrArg some (by kernel_rfl))
 f332:=Tryz.func115.trans (congrArg some (by kernel_rfl))
 f343:=Tryz.func129.trans (congrArg some (by kernel_rfl))
 t0:=Tryz.underlying0
 a0:=Tryz.isAgg0
 z0:=Tryz.sizeOf0
 v0:=Tryz.zeroValue0
 t3:=Tryz.underlying3
 a3:=Tryz.isAgg3
 z3:=Tryz.sizeOf3
 v3:=Tryz.zeroValue3
 t4:=Tryz.underlying4
 a4:=Tryz.isAgg4
 z4:=Tryz.sizeOf4
 v4:=Tryz.zeroValue4
 t5:=Tryz.underlying5
 a5:=Tryz.isAgg5
 z5:=Tryz.sizeOf5
 v5:=Tryz.zeroValue5
 t9:=Tryz.underlying9
 a9:=Tryz.isAgg9
 z9:=Tryz.sizeOf9
 v9:=Tryz.zeroValue9
 t28:=Tryz.underlying40
 a28:=Tryz.isAgg40
 z28:=Tryz.sizeOf40
 v28:=Tryz.zeroValue40
 t46:=Tryz.underlying107
 a46:=Tryz.isAgg107
 z46:=Tryz.sizeOf107
 v46:=Tryz.zeroValue107
 t51:=Tryz.underlying129
 a51:=Tryz.isAgg129
 z51:=Tryz.sizeOf129
 v51:=Tryz.zeroValue129
 t53:=Tryz.underlying131
 a53:=Tryz.isAgg131
 z53:=Tryz.sizeOf131
 v53:=Tryz.zeroValue131
 t131:=Tryz.underlying126
 a131:=Tryz.isAgg126
 z131:=Tryz.sizeOf126
 v131:=Tryz.zeroValue126
 t182:=Tryz.underlying121
 a182:=Tryz.isAgg121
 z182:=Tryz.sizeOf121
 v182:=Tryz.zeroValue121
 t183:=Tryz.underlying122
 a183:=Tryz.isAgg122
 z183:=Tryz.sizeOf122
 v183:=Tryz.zeroValue122
 t218:=Tryz.underlying140
 a218:=Tryz.isAgg140
 z218:=Tryz.sizeOf140
 v218:=Tryz.zeroValue140
 t222:=Tryz.underlying144
 a222:=Tryz.isAgg144
 z222:=Tryz.sizeOf144
 v222:=Tryz.zeroValue144
 t228:=Tryz.underlying153
 a228:=Tryz.isAgg153
 z228:=Tryz.sizeOf153
 v228:=Tryz.zeroValue153
 t229:=Tryz.underlying96
 a229:=Tryz.isAgg96
 z229:=Tryz.sizeOf96
 v229:=Tryz.zeroValue96 }
def Tryz.laysNm220_ren:Go.Shelf.Ren:=⟨fun|20=>83|n=>n,fun|22=>40|3=>3|4=>4|0=>0|n=>n,fun|n=>n⟩
theorem Tryz.laysNm220:Go.Proofs.Lays2.n20 Tryz.prog Tryz.laysNm220_ren:={
 mixed:=by kernel_rfl
 f20:=Tryz.func83.trans (congrArg some (by kernel_rfl))
 t0:=Tryz.underlying0
 a0:=Tryz.isAgg0
 z0:=Tryz.sizeOf0
 v0:=Tryz.zeroValue0
 t3:=Tryz.underlying3
 a3:=Tryz.isAgg3
 z3:=Tryz.sizeOf3
 v3:=Tryz.zeroValue3
 t4:=Tryz.underlying4
 a4:=Tryz.isAgg4
 z4:=Tryz.sizeOf4
 v4:=Tryz.zeroValue4
 t22:=Tryz.underlying40
 a22:=Tryz.isAgg40
 z22:=Tryz.sizeOf40
 v22:=Tryz.zeroValue40
 i3:=by kernel_rfl }
def Tryz.laysAp_ren:Go.Shelf.Ren:=⟨fun|11=>130|n=>n,fun|24=>40|26=>3|28=>134|0=>0|33=>95|4=>4|n=>n,fun|n=>n⟩
theorem Tryz.laysAp:Go.Proofs.SlLaysZI.n11 Tryz.prog Tryz.laysAp_ren:={
 mixed:=by kernel_rfl
 f11:=⟨Tryz.f130.name,by decide,Tryz.func130.trans (congrArg some (by kernel_rfl))⟩
 t0:=Tryz.underlying0
 a0:=Tryz.isAgg0
 z0:=Tryz.sizeOf0
 v0:=Tryz.zeroValue0
 t24:=Tryz.underlying40
 a24:=Tryz.isAgg40
 z24:=Tryz.sizeOf40
 v24:=Tryz.zeroValue40
 t26:=Tryz.underlying3
 a26:=Tryz.isAgg3
 z26:=Tryz.sizeOf3
 v26:=Tryz.zeroValue3
 t28:=Tryz.underlying134
 a28:=Tryz.isAgg134
 z28:=Tryz.sizeOf134
 v28:=Tryz.zeroValue134
 i26:=by kernel_rfl }
def Tryz.laysSF_ren:Go.Shelf.Ren:=⟨fun|6=>73|15=>71|14=>101|28=>97|29=>98|20=>119|21=>120|22=>121|23=>122|24=>123|25=>124|26=>125|27=>126|46=>131|47=>112|48=>113|49=>132|50=>133|57=>135|n=>n,fun|22=>28|24=>40|25=>110|3=>3|39=>107|0=>0|53=>129|55=>131|4=>4|46=>122|45=>121|50=>126|5=>5|9=>9|66=>140|70=>144|76=>153|77=>96|n=>n,fun|n=>n⟩
theorem Tryz.laysSF:Go.Proofs.SlLaysF.n6 Tryz.prog Tryz.laysSF_ren:={
 mixed:=by kernel_rfl
 f6:=⟨Tryz.f73.name,by decide,Tryz.func73.trans (congrArg some (by kernel_rfl))⟩
 f14:=⟨Tryz.f101.name,by decide,Tryz.func101.trans (congrArg some (by kernel_rfl))⟩
 f15:=Tryz.func71.trans (congrArg some (by kernel_rfl))
 f20:=⟨Tryz.f119.name,by decide,Tryz.func119.trans (congrArg some (by kernel_rfl))⟩
 f21:=⟨Tryz.f120.name,by decide,Tryz.func120.trans (congrArg some (by kernel_rfl))⟩
 f22:=⟨Tryz.f121.name,by decide,Tryz.func121.trans (congrArg some (by kernel_rfl))⟩
 f23:=⟨Tryz.f122.name,by decide,Tryz.func122.trans (congrArg some (by kernel_rfl))⟩
 f24:=⟨Tryz.f123.name,by decide,Tryz.func123.trans (congrArg some (by kernel_rfl))⟩
 f25:=⟨Tryz.f124.name,by decide,Tryz.func124.trans (congrArg some (by kernel_rfl))⟩
 f26:=⟨Tryz.f125.name,by decide,Tryz.func125.trans (congrArg some (by kernel_rfl))⟩
 f27:=⟨Tryz.f126.name,by decide,Tryz.func126.trans (congrArg some (by kernel_rfl))⟩
 f28:=Tryz.func97.trans (congrArg some (by kernel_rfl))
 f29:=Tryz.func98.trans (congrArg some (by kernel_rfl))
 f46:=⟨Tryz.f131.name,by decide,Tryz.func131.trans (congrArg some (by kernel_rfl))⟩
 f47:=Tryz.func112.trans (congrArg some (by kernel_rfl))
 f48:=Tryz.func113.trans (congrArg some (by kernel_rfl))
 f49:=⟨Tryz.f132.name,by decide,Tryz.func132.trans (congrArg some (by kernel_rfl))⟩
 f50:=⟨Tryz.f133.name,by decide,Tryz.func133.trans (congrArg some (by kernel_rfl))⟩
 f57:=⟨Tryz.f135.name,by decide,Tryz.func135.trans (congrArg some (by kernel_rfl))⟩
 t0:=Tryz.underlying0
 a0:=Tryz.isAgg0
 z0:=Tryz.sizeOf0
 v0:=Tryz.zeroValue0
 t3:=Tryz.underlying3
 a3:=Tryz.isAgg3
 z3:=Tryz.sizeOf3
 v3:=Tryz.zeroValue3
 t4:=Tryz.underlying4
 a4:=Tryz.isAgg4
 z4:=Tryz.sizeOf4
 v4:=Tryz.zeroValue4
 t5:=Tryz.underlying5
 a5:=Tryz.isAgg5
 z5:=Tryz.sizeOf5
 v5:=Tryz.zeroValue5
 t9:=Tryz.underlying9
 a9:=Tryz.isAgg9
 z9:=Tryz.sizeOf9
 v9:=Tryz.zeroValue9
 t22:=Tryz.underlying28
 a22:=Tryz.isAgg28
 z22:=Tryz.sizeOf28
 v22:=Tryz.zeroValue28
 a24:=Tryz.isAgg40
 z24:=Tryz.sizeOf40
 t25:=Tryz.underlying110
 a25:=Tryz.isAgg110
 z25:=Tryz.sizeOf110
 v25:=Tryz.zeroValue110
 t39:=Tryz.underlying107
 a39:=Tryz.isAgg107
 z39:=Tryz.sizeOf107
 v39:=Tryz.zeroValue107
 t45:=Tryz.underlying121
 a45:=Tryz.isAgg121
 z45:=Tryz.sizeOf121
 v45:=Tryz.zeroValue121
 t46:=Tryz.underlying122
 a46:=Tryz.isAgg122
 z46:=Tryz.sizeOf122
 v46:=Tryz.zeroValue122
 t50:=Tryz.underlying126
 a50:=Tryz.isAgg126
 z50:=Tryz.sizeOf126
 v50:=Tryz.zeroValue126
 t53:=Tryz.underlying129
 a53:=Tryz.isAgg129
 z53:=Tryz.sizeOf129
 v53:=Tryz.zeroValue129
 t55:=Tryz.underlying131
 a55:=Tryz.isAgg131
 z55:=Tryz.sizeOf131
 v55:=Tryz.zeroValue131
 t66:=Tryz.underlying140
 a66:=Tryz.isAgg140
 z66:=Tryz.sizeOf140
 v66:=Tryz.zeroValue140
 t70:=Tryz.underlying144
 a70:=Tryz.isAgg144
 z70:=Tryz.sizeOf144
 v70:=Tryz.zeroValue144
 t76:=Tryz.underlying153
 a76:=Tryz.isAgg153
 z76:=Tryz.sizeOf153
 v76:=Tryz.zeroValue153
 t77:=Tryz.underlying96
 a77:=Tryz.isAgg96
 z77:=Tryz.sizeOf96
 v77:=Tryz.zeroValue96 }
end Go.Proofs

/-
 slices.Insert, Sort and Compact as contracts of the machine.
-/
namespace Go.Vm
open Go.Proofs
theorem EE(G:List (Nat×(Σ t:Ty,t.den))):Con.Holds Tryz.prog G 45 sortC:=
 vd (f:=45) (enters_of Tryz.lays189.f189 (by kernel_rfl) rfl) (λblk off cap zs w hH hb hs=>Any.slices_Sort_int Tryz.lays189 blk off cap zs w hH hb hs) (λp cap w=>Any.slices_Sort_int_none Tryz.lays189 p cap w) G
theorem vK(G:List (Nat×(Σ t:Ty,t.den))):Con.Holds Tryz.prog G 83 compactC:=
 qK Tryz.laysNm220 (enters_of Tryz.laysNm220.f20 (by kernel_rfl) rfl) G
theorem zu(G:List (Nat×(Σ t:Ty,t.den))):Con.Holds Tryz.prog G 110 insertC:=
 sw Tryz.laysNm221 (enters_of Tryz.laysNm221.f21 (by kernel_rfl) rfl) G
end Go.Vm

/-
 slices.AppendSeq(nil, slices.Values(s)) at ints: what it gives. Turned from the kit's proof of AppendSeq and from its worked proof of slices.Values: here the rounds keep what lay before the call, which is all that slices.Values asks.
-/
namespace Go.Proofs
open Go.RowKit Go.Maps Go.Sort Go.Shelf
variable {P:Program}{ρ:Ren}
attribute [local go_sem] Oper.semAt_some
def uH(F:Fence)(n:Nat)(P:Program)(g:Nat)(lb:Array Value)(enc:Int->Value)(S:List Int->Prop)(N:Nat)(w:World):Prop:=
 ∀(l:Nat) (J:List Int->World->Prop) (W:World),Below w.heap.size w W->(∀ pre W,J pre W->Below w.heap.size w W) ->
 (∀ pre x W1,J pre W1->pre.length<N->YieldAt F (n-1) P l #[enc x] W1 λe W'=>e=.returned (.bool true)/\J (pre++[x]) W'/\KeepsWalks W1 W') ->
 J [] W ->
 CallsIn F n P g (#[.func (.yield l) #[] #[]]++lb) W λe W'=>(∃ v,e=.returned v)/\∃ xs,S xs/\J xs W'
set_option maxRecDepth 100000 in
set_option maxHeartbeats 2000000 in
theorem oU (L:SlLaysZI.n11 P ρ)(F:Fence)(n:Nat)(h11:F.fn (ρ.f 11))(hro:F.round=none)(hn:2<=n)(g:Nat)(lb:Array Value)(hFg:F.fn g)(eg:∀ args w,(callFunc g args).run P w=.ok (.enter g args) w)
  (S:List Int->Prop) (N:Nat) (hN:N<=maxLen) (hNb:N*8<=140737488355328) (w:World) (hseq:uH F (n-1) P g lb encZ S N w) :
  CallsIn F n P (ρ.f 11) #[.slice none 0 0,.func (.func g) #[] lb] w λe w'=>∃(v:Value) (ss:List Int),e=.returned v/\S ss/\w'.ownsRow w.heap.size (ρ.t 26) 1 v ss.length (ss.map encZ)/\(v=.slice none 0 0↔ss=[])/\Below w.heap.size w w':=by
 have h1:1<=n:=by omega
 have mixed:=L.mixed;have t0:=L.t0;have a0:=L.a0;have z0:=L.z0;have v0:=L.v0;have t24:=L.t24;have a24:=L.a24;have z24:=L.z24;have v24:=L.v24;have t26:=L.t26;have a26:=L.a26;have z26:=L.z26;have v26:=L.v26;have t28:=L.t28;have a28:=L.a28;have z28:=L.z28;have v28:=L.v28
 have hne:ρ.t 24≠ρ.t 26:=λe=>by have h:=L.t24;rw[e,L.t26]at h;cases h
 have u0:=run_underlying L.t0;have u24:=run_underlying L.t24;have u26:=run_underlying L.t26;have u28:=run_underlying L.t28
 obtain⟨_,_,FG⟩:=L.f11;refine callsIn_of_wp_marks FG rfl h11 ?_ hro;simp only[SlBodyZ.n11_ntmps ρ,KU,B6,JB,Nat.reduceAdd,Nat.reduceSub,Lm,Ln,LA,Ls,Kw,KD]
 gi_wp2
 refine wpIn_rangeFunc ?_;intro fn hfn;rw[hro];obtain⟨W0,hW0⟩:∃ W0,w.alloc (.cells #[.slice none 0 0] (ρ.t 24))=W0:=⟨_,rfl⟩;have hs0:W0.heap.size=w.heap.size+1:=by rw[<- hW0];simp
 have hv0:W0.heap[w.heap.size]?=some (.cells #[.slice none 0 0] (ρ.t 24) (0,0)):=by rw[<- hW0];exact World.alloc_heap_new w _
 have hb0:Below w.heap.size w W0:=by rw[<- hW0];exact(Below.refl _ w).alloc (B2 _) _
 rw[hW0];obtain⟨W1,hW1⟩:∃ W1,(W0.alloc (.deferred (some []))).alloc (.loop (AnyZI.apRec ρ fn (.func (.func g) #[] lb) w.heap.size W0.heap.size .ready none))=W1:=⟨_,rfl⟩;have hold:∀ k,k<W0.heap.size->W1.heap[k]?=W0.heap[k]?:=λk hk=>by rw[<- hW1];exact(Below.heap_alloc _ _ k (by simp;omega)).trans (Below.heap_alloc _ _ k hk)
 have hb1:Below w.heap.size w W1:=by rw[<- hW1];exact(hb0.alloc hb0.size _).alloc (by have:=hb0.size;simp;omega) _
 have hs1:W1.heap.size=W0.heap.size+2:=by rw[<- hW1];simp
 have hM:AnyZI.ApAt ρ w fn (.func (.func g) #[] lb) w.heap.size (W0.heap.size+1) W0.heap.size [] W1:=
  ⟨⟨_,(hold w.heap.size (by omega)).trans hv0,⟨rfl,.inl ⟨rfl,rfl⟩⟩,by simp⟩,
   by rw[<- hW1];have:=World.alloc_heap_new (W0.alloc (.deferred (some []))) (.loop (AnyZI.apRec ρ fn (.func (.func g) #[] lb) w.heap.size W0.heap.size .ready none));rwa[World.size_alloc]at this,
   by rw[<- hW1];exact(Below.heap_alloc _ _ _ (by simp)).trans (World.alloc_heap_new W0 _),hb1⟩
 refine⟨W0.heap.size+1,[{ target:=.collected W0.heap.size,args:=#[] }],W1,{ target:=.fn (.func g) lb,args:=#[.func (.yield (W0.heap.size+1)) #[] #[]] },W1,g,
  #[.func (.yield (W0.heap.size+1)) #[] #[]]++lb,W1,?_,?_,?_,?_,λ_=>h1,?_⟩
 ·rw[<- hW1];exact run_enterLoop_outer _ _ _ _ _
 ·simp[resolve,go_sem]
 ·intro f' hf';simp[Target.leads]at hf';subst hf';exact hFg
 ·simp[invoke,go_sem,eg]
 refine(hseq (W0.heap.size+1) (AnyZI.ApAt ρ w fn (.func (.func g) #[] lb) w.heap.size (W0.heap.size+1) W0.heap.size) W1 hb1 (λpre W h=>h.below)
  (λpre x W hJ hl=>AnyZI.apYield { L with } F (n-1-1) w fn hfn _ w.heap.size (W0.heap.size+1) W0.heap.size (by omega) (by omega) (by omega) (B2 _) (by omega) N hN hNb pre x W hJ hl) hM).mono ?_
 rintro e W2 ⟨⟨v0,rfl⟩,ss,hS,h2⟩;obtain⟨v,hv,hrow,hnil⟩:=h2.box;have hend:=run_endLoop (P:=P) h2.L (by simp[AnyZI.apRec]);obtain⟨W3,hW3⟩:∃ W3,W2.putObj (W0.heap.size+1) (.loop { AnyZI.apRec ρ fn (.func (.func g) #[] lb) w.heap.size W0.heap.size .ready none with state:=.exhausted })=W3:=⟨_,rfl⟩;rw[hW3]at hend;have hg3:W2.grownBy W3 (some (W0.heap.size+1)):=by rw[<- hW3];exact grownBy_putObj_a _ _ _
 have hv3:W3.heap[w.heap.size]?=some (.cells #[v] (ρ.t 24) (0,0)):=by rw[<- hW3];exact(World.putObj_heap_other (by omega)).trans hv
 have hK3:W3.heap[W0.heap.size]?=some (.deferred (some [])):=by rw[<- hW3];exact(World.putObj_heap_other (by omega)).trans h2.K
 have hrow3:=hrow.kept hg3 (ownsRow_ne_a hrow h2.L (λcur e=>by first|cases e|exact hne (Obj.cells.inj e).2.1));have hb3:Below w.heap.size w W3:=h2.below.grown hg3 h2.below.size (λk e=>by cases e;omega);obtain⟨hc3,hf3⟩:=cell_of_box_a hv3;clear hW3;refine⟨none,W3,hend,?_⟩
 gi_wp2
 rw[<- hs0];refine⟨by simp,.inl ⟨_,_,rfl,run_takeDeferred hK3,?_⟩⟩;exact⟨_,results_tmp rfl _ _ _,v,ss,rfl,hS,hrow3.kept (grownBy_putObj_a _ _ _) (ownsRow_ne_a hrow3 hK3 (λcur e=>by first|cases e|exact hne (Obj.cells.inj e).2.1)),hnil,hb3.grown (grownBy_putObj_a _ _ _) hb3.size (λk e=>by cases e;omega)⟩
def fL{α:Type}(f:Nat->α)(k:Nat):List α:=(List.range k).map f
theorem rT{α:Type}(f:Nat->α)(k:Nat):fL f (k+1)=fL f k++[f k]:=by simp[fL,List.range_succ]
theorem pr{α:Type}(f:Nat->α)(k:Nat):(fL f k).length=k:=by simp[fL]
theorem ua(zs:List Int):fL (λj=>zs[j]?.getD 0) zs.length=zs:=by
 apply Ml
 ·simp[fL]
 intro i h1 h2;simp[fL,h2]
set_option maxRecDepth 100000 in
set_option maxHeartbeats 2000000 in
theorem sD (F:Fence)(n:Nat)(h7:F.fn 118)(hro:F.round=none)(hn:1<=n)(l Bs bo n₀ b off len cap:Nat)(zs:List Int)(hreach:len * 8<=140737488351232)(hb:b < n₀)(w0:World)(J:List Int->World->Prop)
  (hJB:∀ pre W,J pre W->Below n₀ w0 W)
  (hY:∀ pre x W,J pre W->pre.length<len->YieldAt F (n-1) Tryz.prog l #[.int .i64 x] W λe W'=>
   e=.returned (.bool true)/\J (pre++[x]) W'/\KeepsWalks W W')
  (W:World) (hBs:W.cell? ⟨Bs,bo,none⟩=some (.slice (some ⟨b,off,none⟩) len cap)) (hc:∀ j,j<len->w0.cell? ⟨b,off+j,none⟩=some (.int .i64 (zs[j]?.getD 0))) (h0:J [] W) :
  CallsIn F n Tryz.prog 118 #[.func (.yield l) #[] #[],.pointer (some ⟨Bs,bo,none⟩)] W λe W'=>(∃ v,e=.returned v)/\J (fL (λj=>zs[j]?.getD 0) len) W':=by
 refine callsIn_of_wp Tryz.func118 rfl h7 ?_ hro;simp only[Tryz.ntmps118,KU,B6,JB,Nat.reduceAdd,Nat.reduceSub,Lm,Ln,LA,Ls,Kw,KD]
 gi_wp2
 gi_loopw [7] (λi wr=>∃ k:Nat,k<=len/\i=.int .i64 k/\J (fL (λj=>zs[j]?.getD 0) k) wr)
  (λi _=>len-(Go.RowKit.intOf i).toNat)
 case atStart=>exact⟨0,K0 _,rfl,h0⟩
 case round=>
  obtain⟨k,hk,rfl,hJs⟩:=hrel;have hcx:k<len->wr.cell? ⟨b,off+k,none⟩=some (.int .i64 (zs[k]?.getD 0)):=λh=>((hJB _ _ hJs).cell (p:=⟨b,off+k,none⟩) hb).trans (hc k h);by_cases hlt:k<len
  ·obtain⟨fn,tmps,assign,body,hy,hR⟩:=hY _ (zs[k]?.getD 0) wr hJs (by rw[pr];exact hlt);have hcx':=hcx hlt
   gi_wp2
   refine hR.mono ?_;rintro e W3 ⟨rfl,hJ3,hk3⟩
   gi_wp2
   go_roundw
   case rel=>exact⟨k+1,by omega,by simp,by rw[rT];exact hJ3⟩
   case measure=>simp[Go.RowKit.intOf];omega
  obtain rfl:k=len:=by omega
  gi_wp2
  go_end0
  exact⟨⟨_,rfl⟩,hJs⟩
set_option maxRecDepth 100000 in
set_option maxHeartbeats 1000000 in
theorem qL (F:Fence)(n:Nat)(h7:F.fn 118)(hro:F.round=none)(l Bs bo:Nat)(J:List Int->World->Prop)(W:World)(hBs:W.cell? ⟨Bs,bo,none⟩=some (.slice none 0 0))(h0:J [] W) :
  CallsIn F n Tryz.prog 118 #[.func (.yield l) #[] #[],.pointer (some ⟨Bs,bo,none⟩)] W λe W'=>(∃ v,e=.returned v)/\J [] W':=by
 refine callsIn_of_wp Tryz.func118 rfl h7 ?_ hro;simp only[Tryz.ntmps118,KU,B6,JB,Nat.reduceAdd,Nat.reduceSub,Lm,Ln,LA,Ls,Kw,KD]
 gi_wp2
 gi_loopw [7] (λi wr=>i=.int .i64 0/\J [] wr) (λ_ _=>0)
 case atStart=>exact⟨rfl,h0⟩
 case round=>
  obtain⟨rfl,hJs⟩:=hrel
  gi_wp2
  go_end0
  exact⟨⟨_,rfl⟩,hJs⟩
theorem ji (w:World)(Bs bo:Nat)(v:Value)(zs:List Int)(hlen:zs.length<=1000000)(hlt:Bs < w.heap.size)(hBs:w.cell? ⟨Bs,bo,none⟩=some v)
  (hv:(v=.slice none 0 0/\zs=[])\/∃ b off cap,v=.slice (some ⟨b,off,none⟩) zs.length cap/\b<w.heap.size/\∀ j,j<zs.length->w.cell? ⟨b,off+j,none⟩=some (.int .i64 (zs[j]?.getD 0))) :
  Calls Tryz.prog 130 #[.slice none 0 0,.func (.func 118) #[] #[.pointer (some ⟨Bs,bo,none⟩)]] w λe w'=>∃ v,e=.returned v/\w'.ownsRow w.heap.size 3 1 v zs.length (zs.map encZ)/\(v=.slice none 0 0↔zs=[])/\Below w.heap.size w w':=by
 refine(callsIn_wide (n:=6)).1 ?_;have hseq:uH Fence.wide (6-1) Tryz.prog 118 #[.pointer (some ⟨Bs,bo,none⟩)] encZ (λss=>ss=zs) 1000000 w:=by
  intro l J W hW hJB hY h0;have hc:=(hW.cell (p:=⟨Bs,bo,none⟩) hlt).trans hBs;rcases hv with⟨rfl,rfl⟩|⟨b,off,cap,rfl,hb,hcs⟩
  ·exact(qL Fence.wide (6-1) trivial rfl l Bs bo J W hc h0).mono λe W' ⟨he,hj⟩=>⟨he,_,rfl,hj⟩
  refine(sD Fence.wide (6-1) trivial rfl (by omega) l Bs bo w.heap.size b off zs.length cap zs (by omega) hb w J hJB (λpre x W1 h1 h2=>hY pre x W1 h1 (by omega)) W hc hcs h0).mono ?_;rintro e W' ⟨he,hj⟩;rw[ua]at hj;exact⟨he,_,rfl,hj⟩
 refine(oU (ρ:=Tryz.laysAp_ren) Tryz.laysAp Fence.wide 6 trivial rfl (by omega) 118 #[.pointer (some ⟨Bs,bo,none⟩)] trivial (enters_of Tryz.func118 (by kernel_rfl) rfl) _ 1000000 (by unfold maxLen;omega) (by omega) w hseq).mono ?_;rintro e w' ⟨v,ss,rfl,rfl,hrow,hnil,hb⟩;exact⟨v,rfl,hrow,hnil,hb⟩
end Go.Proofs

/-
 slices.AppendSeq(nil, slices.Values(s)), called in its place.
-/
namespace Go.Vm
open Go.Proofs Go.RowKit
noncomputable def app130(G:Heap):List SV->Option (SV×Heap)
 |[.av (.nils d),.av (.clo f [i])]=>match G.get i with
  |some (.box [a])=>match aF G (.slice (.int .i64)) a with
   |some l=>cond (d&&A7 f 118 && !l.isEmpty&&JK l.length 1000000 && !Heap.has G (ar 64 G 999)) (some (.av (.own (ar 64 G 999)),[(ar 64 G 999,.arr (.int .i64) l)])) none
   |none=>none
  |_=>none
 |_=>none
theorem rH{cur:Array Value}{l:List Int}(h:cur.toList.take (l.length*1)=l.map encZ)(i:Nat)(hi:i<l.length):seg cur (0+i*1) 1=[.int .i64 l[i]]:=by
 have e:(cur.toList.take (l.length*1))[i]?=some (.int .i64 l[i]):=by rw[h];simp[encZ,hi]
 rw[Kg (by omega)]at e;obtain⟨h1,h2⟩:=List.getElem?_eq_some_iff.1 e;unfold seg;rw[Nat.zero_add,Km,J5 h1,h2];rfl
theorem zP{glob:List (Nat×(Σ t:Ty,t.den))}:km Tryz.prog glob 130 app130:=by
 intro C w0 M m us vs sv X _ hi hr h;unfold app130 at h;split at h
 ·rename_i d f i;split at h
  ·rename_i a hb;split at h
   ·rename_i l ha;match us,hr with
    |[u1,u2],hr=>
    obtain⟨h1,h2,_⟩:=hr;rw[cond_eq_ite]at h;split at h
    ·rename_i hc;simp only[np,Jw,MO,LL]at hc;obtain⟨⟨⟨⟨rfl,hf⟩,hne⟩,hlen⟩,hnew⟩:=hc;obtain rfl:=A3 hf;obtain⟨ad,rfl,hn⟩:=h1;obtain rfl:=hn rfl;obtain⟨cs,rfl,hcs⟩:=h2;match cs,hcs with
     |[p],hcs=>
     obtain⟨⟨o,ho,hp⟩,_⟩:=hcs;rw[hb]at ho;cases ho;obtain⟨b,hb1,rfl⟩:=hp;obtain⟨b',c,el,k1,k2,k3,k4⟩:=hi.objs i _ hb;rw[hb1]at k1;cases k1;match hcl:c.toList,k4 with
     |[v],k4=>
     have hcell:m.w.cell? ⟨b,0,none⟩=some v:=by unfold World.cell?;rw[k2];have:=congrArg (λl=>l[0]?) hcl;simpa using this
     have hlt:∀{b:Nat} {o:Go.Obj},m.w.heap[b]?=some o->b<m.w.heap.size:=λh=>(Jt.1 h).1;obtain⟨ad,cap,e1,e2,e3,e4⟩:=cv hi ha k4.1;obtain⟨g,off,cc,el',fz,rfl,q2,q3,q4,q5⟩:=e4 hne;cases e1;have hfin:=ji m.w b 0 _ l hlen (hlt k2) hcell (.inr ⟨g,off,cap,rfl,hlt q3,λj hj=>by
      have q:=(q5 j hj).1;unfold World.cell?;rw[q3];simp only[Lt,JS,if_false];unfold seg at q;have q0:=congrArg (λl=>l[0]?) q;simp only[Ty.size,Km,Kg (Lk),J2,JY,JN,Ju]at q0;rw[q0];simp[hj]⟩)
     cases h;refine .inl ⟨enters_of Tryz.func130 (by kernel_rfl) rfl _ _,Calls.mono hfin ?_⟩;rintro e w' ⟨v',rfl,⟨hrow1,hrow⟩,hnil,hbel⟩;refine⟨v',rfl,?_⟩;rcases hrow with⟨rfl,h0⟩|⟨g',cap',cur,rfl,g1,g2,g3,g4,g5,g6⟩
     ·exact absurd (hnil.1 rfl) hne
     have hnone:m.G.get (ar 64 m.G 999)=none:=by
      cases hg:m.G.get (ar 64 m.G 999)with
      |none=>rfl
      |some o=>rw[Heap.has_of_get hg]at hnew;cases hnew
     have hst:=iC hi (w1:=w') (i:=ar 64 m.G 999) (o:=.arr (.int .i64) l) (h:=.slice (some ⟨g',0,none⟩) l.length cap')
      ⟨hbel.os,hbel.tape,hbel.output,hbel.size,λb hb _=>hbel.block b hb⟩ hnone
      (λb hb=>by
       obtain⟨_,_,e1,rfl⟩:=uK.1 hb;cases e1;exact⟨g1,(Jt.1 g2).1⟩)
      ⟨some ⟨g',0,none⟩,cap',by simp,g3,g4,λ_=>⟨g',0,cur,3,(0,0),rfl,g2,.inl (B2 _),by simp only[Ty.size];omega,λi hi'=>by
       refine⟨rH g6 i hi',?_⟩;exact(q5 i hi').2⟩⟩
     refine⟨_,rfl,rfl,hst.1,hst.2,?_⟩;refine⟨rfl,.arr (.int .i64) l,by rw[Heap.get_cons,if_pos rfl],λ_=>by simp⟩
    cases h
   cases h
  cases h
 cases h
end Go.Vm

/-
 slices.Sorted(slices.Values(s)), as one contract.
-/
namespace Go.Vm
open Go.Proofs Go.RowKit
noncomputable def Fk(ok:List Int->Bool)(G:Heap):List SV->Option (SV×Heap)
 |[.av (.nils d),.av (.val (.clo f (.prod (.ptr (.slice (.int .i64))) .unit)) y)]=>cond (d&&A7 f 118 && !Heap.has G (ar 64 G 999)) (cond (ok y.1) (some (.av (.own (ar 64 G 999)),[(ar 64 G 999,.arr (.int .i64) y.1)])) none) none
 |_=>none
def okS(l:List Int):Bool:=!l.isEmpty&&JK l.length 1000000
theorem E4{glob:List (Nat×(Σ t:Ty,t.den))}:km Tryz.prog glob 130 (Fk okS):=by
 intro C w0 M m us vs sv X _ hi hr h;unfold Fk at h;split at h
 ·rename_i d f y;match us,hr with
  |[u1,u2],hr=>
  obtain⟨h1,h2,_⟩:=hr;rw[cond_eq_ite]at h;split at h
  ·rename_i hc;rw[cond_eq_ite]at h;split at h
   ·rename_i hok;simp only[np,Jw]at hc;obtain⟨⟨rfl,hf⟩,hnew⟩:=hc;unfold okS at hok;simp only[np,Jw,MO,LL]at hok;obtain⟨hne,hlen⟩:=hok;obtain rfl:=A3 hf;obtain⟨ad,rfl,hn⟩:=h1;obtain rfl:=hn rfl;obtain⟨cs,rfl,hcs⟩:=h2;obtain⟨vs',rfl,c1,c2,rfl,hp,hu⟩:=hcs;have hu:c2=[]:=hu;subst hu;obtain⟨b,off0,c,el,fz0,rfl,hFb,hbk,hoff,hrd⟩:=hp;obtain⟨ad,cap,e1,e2,e3,e4⟩:=hrd;obtain⟨g,off,cc,el',fz,rfl,q2,q3,q4,q5⟩:=e4 hne;have hlt:∀{b:Nat} {o:Go.Obj},m.w.heap[b]?=some o->b<m.w.heap.size:=λh=>(Jt.1 h).1;have hcell:m.w.cell? ⟨b,off0,none⟩=some (.slice (some ⟨g,off,none⟩) y.1.length cap):=by unfold World.cell?;rw[hbk];have:=congrArg (λl=>l[0]?) e1;unfold seg at this;simp only[Ty.size,Kg (Lk),J2,JY,JN,Ju]at this;simpa using this
    have hfin:=ji m.w b off0 _ y.1 hlen (hlt hbk) hcell (.inr ⟨g,off,cap,rfl,hlt q3,λj hj=>by
     have q:=(q5 j hj).1;unfold World.cell?;rw[q3];simp only[Lt,JS,if_false];unfold seg at q;have q0:=congrArg (λl=>l[0]?) q;simp only[Ty.size,Km,Kg (Lk),J2,JY,JN,Ju]at q0;rw[q0];simp[hj]⟩)
    cases h;refine .inl ⟨enters_of Tryz.func130 (by kernel_rfl) rfl _ _,Calls.mono hfin ?_⟩;rintro e w' ⟨v',rfl,⟨hrow1,hrow⟩,hnil,hbel⟩;refine⟨v',rfl,?_⟩;rcases hrow with⟨rfl,h0⟩|⟨g',cap',cur,rfl,g1,g2,g3,g4,g5,g6⟩
    ·exact absurd (hnil.1 rfl) hne
    have hnone:m.G.get (ar 64 m.G 999)=none:=by
     cases hg:m.G.get (ar 64 m.G 999)with
     |none=>rfl
     |some o=>rw[Heap.has_of_get hg]at hnew;cases hnew
    have hst:=iC hi (w1:=w') (i:=ar 64 m.G 999) (o:=.arr (.int .i64) y.1) (h:=.slice (some ⟨g',0,none⟩) y.1.length cap')
     ⟨hbel.os,hbel.tape,hbel.output,hbel.size,λb hb _=>hbel.block b hb⟩ hnone
     (λb hb=>by
      obtain⟨_,_,e1,rfl⟩:=uK.1 hb;cases e1;exact⟨g1,(Jt.1 g2).1⟩)
     ⟨some ⟨g',0,none⟩,cap',by simp,g3,g4,λ_=>⟨g',0,cur,3,(0,0),rfl,g2,.inl (B2 _),by simp only[Ty.size];omega,λi hi'=>by
      refine⟨rH g6 i hi',?_⟩;exact(q5 i hi').2⟩⟩
    refine⟨_,rfl,rfl,hst.1,hst.2,?_⟩;refine⟨rfl,.arr (.int .i64) y.1,by rw[Heap.get_cons,if_pos rfl],λ_=>by simp⟩
   cases h
  cases h
 cases h
end Go.Vm

/-
 slices.Collect and slices.Sorted at an iterator over numbers: their contracts.
-/
namespace Go.Vm
open Go.Proofs Go.RowKit
set_option maxRecDepth 100000
abbrev zd:Ty:=.clo 118 (.prod (.ptr (.slice (.int .i64))) .unit)
noncomputable def Hg(G:eO)(ok:List Int->Bool):Ctx:={ tab:=[],con:=λ_ _=>none,glob:=G,eqs:=[],inl:=λg=>cond (A7 g 130) (some (Fk ok)) none }
theorem ED(G:eO):CtxOK Tryz.prog (Hg G okS):=⟨by kernel_rfl,l5 (by kernel_rfl) (by kernel_rfl),jO (by kernel_rfl),(λ_ _ _ h=>by cases h),λg r h=>by
 have h:cond (A7 g 130) (some (Fk okS)) none=some r:=h;cases hg:A7 g 130 with
 |false=>rw[hg]at h;cases h
 |true=>rw[hg]at h;cases h;rw[A3 hg];exact E4⟩
noncomputable def yR(G:eO)(ok:List Int->Bool)(x:(ac [zd]).den):Option (ac [.slice (.int .i64)]).den:=k6 (Hg G ok) [] (aW Tryz.f117) [(.rd,zd)] [(.tmp 2,true,.slice (.int .i64))] x false
theorem zN(G:eO)(x:(ac [zd]).den):yR G (λ_=>true) x=some (x.1.1,()):=by kernel_rfl
theorem BZ(G:eO)(ok:List Int->Bool)(x:(ac [zd]).den):yR G ok x=yR G (λ_=>ok x.1.1) x:=by kernel_rfl
noncomputable def collectC:Con:={ ins:=[(.rd,zd)],outs:=[(true,.slice (.int .i64))],fn:=λx=>cond (okS x.1.1) (some (x.1.1,())) none }
theorem qJ(G:eO)(hD:gE Tryz.prog):Con.Holds Tryz.prog G 117 collectC:=by
 have h:=ri (P:=Tryz.prog) (C:=Hg G okS) (A:=[]) (f:=117) (fn:=Tryz.f117) (ins:=[(.rd,zd)]) (outs:=[(.tmp 2,true,.slice (.int .i64))]) (M:=yR G okS) (d:=false) (ED G) hD Tryz.func117 (by kernel_rfl)
  (λc hc=>absurd ((show aG (aW Tryz.f117)=[] by kernel_rfl)▸hc) List.not_mem_nil) (by kernel_rfl) (by kernel_rfl) (λ_=>by kernel_rfl)
 intro w F us x r hp hr;refine h w F us x r hp ?_;have hr:cond (okS x.1.1) (some (x.1.1,())) none=some r:=hr;show yR G okS x=some r;cases e:okS x.1.1 with
 |false=>rw[e]at hr;cases hr
 |true=>rw[e]at hr;exact(BZ G okS x).trans ((congrArg (λc=>yR G (λ_=>c) x) e).trans ((zN G x).trans hr))
theorem H3:Tryz.prog.follows .mixedOrders=true:=by kernel_rfl
theorem vh(G:eO):Con.Holds Tryz.prog G 117 collectC:=qJ G (jJ H3)
end Go.Vm

/-
 slices.SortFunc at lists of numbers, by their first ones: its contract.
-/
namespace Go.Proofs
open Go.RowKit
set_option maxHeartbeats 2000000 in
theorem Gs (W:World){b1 o1 n1 c1 b2 o2 n2 c2:Nat}{h1 h2:Int}(l1:0 < n1)(l2:0 < n2)(r1:W.cell? ⟨b1,o1,none⟩=some (.int .i64 h1))(r2:W.cell? ⟨b2,o2,none⟩=some (.int .i64 h2))(hw:IntKind.i64.wrap (h1 - h2)=h1 - h2) :
  Calls Tryz.prog 74 #[.slice (some ⟨b1,o1,none⟩) n1 c1,.slice (some ⟨b2,o2,none⟩) n2 c2] W λe w'=>e=.returned (.int .i64 (h1-h2))/\∃ q,w'=W.drewN q:=by
 go_enter Tryz.func74,Tryz.ntmps74
 go_wp2
 go_quiet (fail)
 go_wp2
 go_ret
 exact⟨rfl,nq,rfl⟩
end Go.Proofs
namespace Go.Vm
open Go.Sort Go.Proofs
def hd(l:List Int):Int:=l.headD 0
def wv(a:List Int):List (List Int)->List (List Int)
 |[]=>[a]
 |b::l=>cond (decide (hd a<=hd b)) (a::b::l) (b::wv a l)
def fe:List (List Int)->List (List Int)
 |[]=>[]
 |a::l=>wv a (fe l)
theorem nt(a:List Int):∀ l,(wv a l).Perm (a::l)
 |[]=>.refl _
 |b::l=>by
  unfold wv;cases decide (hd a<=hd b)with
  |true=>exact .refl _
  |false=>exact((nt a l).cons b).trans (.swap a b l)
theorem eM:∀ l,(fe l).Perm l
 |[]=>.refl _
 |a::l=>(nt a _).trans ((eM l).cons a)
theorem oz(a:List Int):∀{l:List (List Int)},l.Pairwise (λx y=>hd x<=hd y)->(wv a l).Pairwise (λx y=>hd x<=hd y)
 |[],_=>by simp[wv]
 |b::l,h=>by
  unfold wv;by_cases hab:hd a<=hd b
  ·rw[decide_eq_true hab,UA];refine Jr.2 ⟨λc hc=>?_,h⟩;rcases A8.1 hc with rfl|hc
   ·exact hab
   have:=(Jr.1 h).1 c hc;omega
  rw[decide_eq_false hab,UB];refine Jr.2 ⟨λc hc=>?_,oz a (Jr.1 h).2⟩;rcases A8.1 ((nt a l).mem_iff.1 hc)with rfl|hc
  ·omega
  exact(Jr.1 h).1 c hc
theorem lN:∀ l,(fe l).Pairwise (λx y=>hd x<=hd y)
 |[]=>.nil
 |a::l=>oz a (lN l)
theorem CW:∀{l:List (List Int)},l.Pairwise (λx y=>hd x≠hd y)->∀ a∈l,∀ b∈l,hd a=hd b->a=b
 |[],_,a,ha,_,_,_=>by cases ha
 |c::l,h,a,ha,b,hb,e=>by
  obtain⟨h1,h2⟩:=Jr.1 h;rcases A8.1 ha with rfl|ha'
  ·rcases A8.1 hb with rfl|hb'
   ·rfl
   exact absurd e (h1 b hb')
  rcases A8.1 hb with rfl|hb'
  ·exact absurd e.symm (h1 a ha')
  exact CW h2 a ha' b hb' e
def OkF(l:List (List Int)):Prop:=(∀ b∈l,b≠[]/\0<=hd b/\hd b<1099511627776)/\l.Pairwise (λx y=>hd x≠hd y)/\l.length<=lim
open Classical in
noncomputable def sortFC:Con:={ ins:=[(.upd,.slice (.slice (.int .i64))),(.rd,.clo 74 .unit)],outs:=[],fn:=λx=>if OkF x.1 then some (fe x.1,())else none }
structure El (w:World)(F:Nat->Prop)(blk:Nat) where
 v:Value
 l:List Int
 rd:Rd w F (.slice (.int .i64)) [v] l
 at':∃ b o n c,v=.slice (some ⟨b,o,none⟩) n c/\0<n/\b≠blk/\b<w.heap.size/\w.cell? ⟨b,o,none⟩=some (.int .i64 (hd l))
 r0:0<=hd l
 r1:hd l<1099511627776
def El.enc{w:World}{F:Nat->Prop}{blk:Nat}(e:El w F blk):Value:=e.v
def El.cf{w:World}{F:Nat->Prop}{blk:Nat}(a b:El w F blk):Int:=hd a.l-hd b.l
theorem El.lt{w:World}{F:Nat->Prop}{blk:Nat}(a b:El w F blk):ltOf El.cf a b=decide (hd a.l<hd b.l):=by
 unfold ltOf El.cf;by_cases h:hd a.l<hd b.l
 ·rw[decide_eq_true h,decide_eq_true (by omega)]
 rw[decide_eq_false h,decide_eq_false (by omega)]
theorem El.swo{w:World}{F:Nat->Prop}{blk:Nat}:SWO (ltOf (El.cf (w:=w) (F:=F) (blk:=blk))) where
 irrefl x:=by rw[El.lt];simp
 trans x y z h1 h2:=by rw[El.lt]at *;simp at *;omega
 ntrans x y z h1 h2:=by rw[El.lt]at *;simp at *;omega
theorem El.one{w:World}{F:Nat->Prop}{blk:Nat}:OneCell (El.enc (w:=w) (F:=F) (blk:=blk)):=λx=>by obtain⟨b,o,n,c,h,_⟩:=x.at';unfold El.enc;rw[h];rfl
theorem El.cmp{w:World}{F:Nat->Prop}{blk:Nat}[Inhabited (El w F blk)](off size:Nat):CmpLays1 Tryz.prog 74 #[] (El.enc (w:=w) (F:=F) (blk:=blk)) El.cf blk off size w:=by
 intro m os dk hs x y;obtain⟨b1,o1,n1,c1,e1,l1,n11,s1,r1⟩:=x.at';obtain⟨b2,o2,n2,c2,e2,l2,n22,s2,r2⟩:=y.at';have key:∀{b o:Nat},b≠blk->b<w.heap.size->(sortWorld El.enc w blk off m dk os).cell? ⟨b,o,none⟩=w.cell? ⟨b,o,none⟩:=by
  intro b o hb hsz;unfold World.cell?;have:(sortWorld El.enc w blk off m dk os).heap[b]?=w.heap[b]?:=by unfold sortWorld;have hsz':(putRow El.enc (Go.Sort.ahead w m) blk off dk).heap.size=w.heap.size:=eN _ _ _ _ _;rw[ld _ _ (by rw[hsz'];exact hsz),gp _ _ _ _ _ hb];rfl
  rw[this]
 have h:=Gs (sortWorld El.enc w blk off m dk os) (c1:=c1) (c2:=c2) l1 l2 ((key n11 s1).trans r1) ((key n22 s2).trans r2) (by
  have:=x.r0;have:=x.r1;have:=y.r0;have:=y.r1
  unfold IntKind.wrap;simp only[IntKind.bits,IntKind.signed];simp;omega)
 have ea:(#[El.enc x,El.enc y]++#[]:Array Value)=#[.slice (some ⟨b1,o1,none⟩) n1 c1,.slice (some ⟨b2,o2,none⟩) n2 c2]:=by unfold El.enc;rw[e1,e2];rfl
 rw[ea];exact h.mono λe w' ⟨h1,q,h2⟩=>⟨h1,q,#[],by rw[h2,grow_empty]⟩
open Classical in
theorem Ap(G:eO):Con.Holds Tryz.prog G 73 sortFC:=by
 refine Con.Holds.plain rfl ?_;intro w F us x r hp hr;obtain⟨l,u0⟩:=x;have hok:OkF l:=by
  by_cases h:OkF l
  ·exact h
  have hr:(if OkF l then some (fe l,())else none)=some r:=hr;rw[if_neg h]at hr;cases hr
 have hr:(if OkF l then some (fe l,())else none)=some r:=hr;rw[if_pos hok]at hr;cases hr;obtain⟨hall,hdis,hl⟩:=hok;have hargs:=hp.args;match us,hargs with
 |[u,u2],hargs=>
  have hu:HdrW w F u (.slice (.int .i64)) l:=hargs.1;obtain⟨cs2,hu2,vs,rfl,hvs⟩:=hargs.2.1;have hvs:vs=[]:=hvs;subst hvs;have hu2:u2=.func (.func 74) #[] #[]:=hu2;subst hu2;have he:∀ args w,(callFunc 73 args).run Tryz.prog w=.ok (.enter 73 args) w:=enters_of Tryz.func73 (by kernel_rfl) rfl;refine .inl ⟨he _ _,?_⟩;obtain⟨ad,cap,rfl,h1,h2,h3⟩:=hu;by_cases h0:l=[]
  ·subst h0;have hN:=AnyF.slices_SortFunc_none { Tryz.laysSF with } ad cap (.func (.func 74) #[] #[]) w;refine(show Calls Tryz.prog 73 #[.slice ad 0 cap,.func (.func 74) #[] #[]] w _ from hN).mono ?_;rintro e w' ⟨rfl,rfl⟩;refine⟨_,rfl,F,[],Kept.refl _ _,λ_ h=>h,λb hb=>⟨hp.fro b hb,.inl hb⟩,rfl,trivial,⟨?_,trivial⟩,?_,?_⟩
   ·show HdrW _ F _ (.slice (.int .i64)) (fe []);exact⟨ad,cap,rfl,h1,h2,h3⟩
   ·show cm [_];exact JI _ _
   intro v hv b hb;have hv:v=.slice ad 0 cap:=by simpa[bS,aO,ba,sortFC]using hv
   subst hv;obtain⟨o1,o2⟩:=hp.own _ (by simp[az,sortFC]) b hb;exact⟨.inr ⟨_,by simp[az,sortFC],hb⟩,o1,o2⟩
  have hlen:0<l.length:=Kn.2 h0;obtain⟨b,off,c,el,fz,rfl,q2,q3,q4,q5⟩:=h3 (by omega);have hb:b<w.heap.size:=(Jt.1 q2).1;have hcap:cap≠0:=by omega
  have q4':off+cap*1<=c.size:=by simpa[Ty.size]using q4
  have hblk:HB (.slice (some ⟨b,off,none⟩) l.length cap) b:=by simp[HB,HB1,hcap]
  have hown:=hp.own (.slice (some ⟨b,off,none⟩) l.length cap) (by simp[az,sortFC]) b hblk;have hc:∀ i,i<l.length->off+i<c.size:=λi hi=>by omega
  have hcell:∀(i:Nat) (hi:i<l.length),Rd w F (.slice (.int .i64)) [c[off+i]'(hc i hi)] l[i]:=by
   intro i hi;have:=q5 i hi;have e:seg c (off+i*(Ty.slice (.int .i64)).size) (Ty.slice (.int .i64)).size=[c[off+i]'(hc i hi)]:=by unfold seg;simp only[Ty.size,Km];rw[J5 (by simpa using hc i hi)];simp
   rw[e]at this;exact this
  let mk (i:Fin l.length):El w F b:=⟨c[off+i.1]'(hc i.1 i.2),l[i.1],hcell i.1 i.2,by
   obtain⟨a2,cap2,e1,e2,e3,e4⟩:=hcell i.1 i.2;obtain⟨g1,g2,g3⟩:=hall l[i.1] (Ko i.2);obtain⟨b2,o2,c2,el2,fz2,rfl,p2,p3,p4,p5⟩:=e4 g1;have hl2:0<l[i.1].length:=Kn.2 g1;refine⟨b2,o2,l[i.1].length,cap2,by simpa using e1,hl2,?_,(Jt.1 p3).1,?_⟩
   ·rintro rfl;exact hown.1 p2
   have q:=(p5 0 hl2).1;unfold World.cell?;rw[p3];unfold seg at q;have q0:=congrArg (λl=>l[0]?) q;simp only[Ty.size,Nat.zero_mul,Kg (Lk),J2,JY,JN,Ju]at q0;simp only[Lt,JS,if_false];rw[q0];have:hd l[i.1]=l[i.1][0]:=by unfold hd;rw[List.headD_eq_head?_getD,List.head?_eq_getElem?,A1 hl2];rfl
   rw[this],(hall l[i.1] (Ko i.2)).2.1,(hall l[i.1] (Ko i.2)).2.2⟩
  haveI:Inhabited (El w F b):=⟨mk ⟨0,hlen⟩⟩
  let d:Array (El w F b):=Array.ofFn mk
  have hds:d.size=l.length:=by simp[d]
  have hdg:∀ i (hi:i<l.length),d[i]! = mk ⟨i,hi⟩:=λi hi=>by rw[getElem!_pos d i (by omega)];simp[d]
  have hdl:d.toList.map El.l=l:=by
   apply Ml
   ·simp[d]
   intro i h1 h2;simp[d,mk]
  have hH:Holds El.enc w b off d:=by
   intro j hj;have hj':j<l.length:=by omega
   refine⟨?_,eS q2 q3 (off+j) (by have:=hc j hj';omega)⟩;rw[cC q2,hdg j hj'];exact Kt (hc j hj')
  have hsort:=Any.slices_SortFunc (α:=El w F b) Tryz.laysSF El.enc El.one El.cf El.swo 74 #[] b off cap d w (enters_of Tryz.func74 (by kernel_rfl) rfl) (El.cmp off d.size) hH hb (by have:lim=68719476736:=rfl;omega);rw[hds]at hsort;refine(show Calls Tryz.prog 73 #[.slice (some ⟨b,off,none⟩) l.length cap,.func (.func 74) #[] #[]] w _ from hsort).mono ?_;rintro e w' ⟨rfl,d',q,os,hperm,hsrt,rfl⟩;obtain⟨hsz0,_,hpm⟩:=hperm;have hds':d'.size=l.length:=by omega
  have hP:d'.toList.Perm d.toList:=by
   have e1:d'.extract 0 l.length=d':=by rw[<- hds'];exact L4
   have e2:d.extract 0 l.length=d:=by rw[<- hds];exact L4
   rw[e1,e2]at hpm;exact hpm
  have hPl:(d'.toList.map El.l).Perm l:=by rw[<- hdl];exact hP.map _
  have hres:d'.toList.map El.l=fe l:=by
   refine List.Perm.eq_of_pairwise (le:=λx y=>hd x<=hd y) (λa b' ha hb' h1 h2=>?_) ?_ (lN l) (hPl.trans (eM l).symm)
   ·exact CW hdis a (hPl.mem_iff.1 ha) b' ((eM l).mem_iff.1 hb') (Int.le_antisymm h1 h2)
   rw[List.pairwise_iff_getElem];intro i j hi hj hij;have hi':i<d'.size:=by simpa using hi
   have hj':j<d'.size:=by simpa using hj
   have:=hsrt i j (K0 _) hij (by omega);rw[El.lt,getElem!_pos d' i hi',getElem!_pos d' j hj']at this;simp only[decide_eq_false_iff_not,Int.not_lt]at this;simpa using this
  have hlr:(fe l).length=l.length:=(eM l).length_eq;have hsz:(putRow El.enc (Go.Sort.ahead w q) b off d').heap.size=w.heap.size:=eN _ _ _ _ _;have hold:∀ b',b'≠b->b'<w.heap.size->(sortWorld El.enc w b off q d' os).heap[b']?=w.heap[b']?:=by intro b' hn hs;unfold sortWorld;rw[ld _ _ (by rw[hsz];exact hs),gp _ _ _ _ _ hn];rfl
  have hsize:w.heap.size<=(sortWorld El.enc w b off q d' os).heap.size:=by unfold sortWorld;rw[size_grow,hsz];omega
  refine⟨_,rfl,F,[],⟨rfl,rfl,rfl,hsize,λb' hb' hn=>?_⟩,λ_ h=>h,λb' hb'=>⟨JQ (hp.fro b' hb') hsize,.inl hb'⟩,rfl,trivial,⟨?_,trivial⟩,?_,?_⟩
  ·exact hold b' (by rintro rfl;exact hn ⟨_,by simp[az,sortFC],hblk⟩) hb'
  ·show HdrW _ F _ (.slice (.int .i64)) (fe l);refine⟨some ⟨b,off,none⟩,cap,by rw[hlr],by rw[hlr];exact h1,h2,λ_=>⟨b,off,putCells El.enc off d' c,el,fz,rfl,?_,by rw[cU];exact q3,by rw[cU];exact q4,λi hi=>?_⟩⟩
   ·unfold sortWorld;rw[ld _ _ (by rw[hsz];exact hb)];exact kT _ _ q2
   have hi':i<l.length:=by omega
   have hid:i<d'.size:=by omega
   have hg:=kh El.enc off d' c (i:=i) hid (hc i hi');have e:seg (putCells El.enc off d' c) (off+i*(Ty.slice (.int .i64)).size) (Ty.slice (.int .i64)).size=[(d'[i]'hid).v]:=by
    have hcs:off+i<(putCells El.enc off d' c).size:=by rw[cU];exact hc i hi'
    unfold seg;simp only[Ty.size,Km];rw[J5 (by simpa using hcs)];rw[Kt hcs,getElem!_pos d' i hid]at hg;have:=B7 hg;simp only[List.take_succ_cons,List.take_zero,Array.getElem_toList];rw[this];rfl
   rw[e];have e2:(fe l)[i]=(d'[i]'hid).l:=by
    have:(fe l)[i]?=(d'.toList.map El.l)[i]?:=by rw[hres]
    rw[A1 hi,List.getElem?_map,JN,Kt hid]at this;exact B7 this
   rw[e2];exact(d'[i]'hid).rd.mono λb' hb'=>⟨hb',hold b' (by rintro rfl;exact hown.1 hb') (hp.fro b' hb')⟩
  ·show cm [_];exact JI _ _
  intro v hv b' hb';have hv:v=.slice (some ⟨b,off,none⟩) l.length cap:=by simpa[bS,aO,ba,sortFC]using hv
  subst hv;have:b'=b:=by have h9:=hb';simp[HB,HB1,hcap]at h9;exact h9.symm
  subst this;exact⟨.inr ⟨_,by simp[az,sortFC],hblk⟩,hown.1,JQ hown.2 hsize⟩
end Go.Vm

