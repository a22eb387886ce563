/-
 Iterators that append; the closed call.
-/
import Derived.Shelf.Spec.SlicesInsert
import Derived.Shelf.Spec.SlicesInsertGrow
import Derived.Shelf.SlIterI.Collect
import Derived.Ground.GgzProg
import Derived.Test.YtgdkanecejfeiaaGreatDoorProg
import Derived.RangeFuncBox
import Derived.RangeFuncLeaves
import Derived.OwnWalkIn
import Derived.TacticsInMore
import Derived.LoopNIn
import Derived.LoopIn
import Derived.Test.YtgdkanecejfeiaaGreatDoorSXF
open List renaming getElem?_eq_getElem→A2,length_cons→La,length_nil→LG,nil_append→LW,size_toArray→M0,cons_append→Nw,append_toArray→NL,push_toArray→NQ
open Nat renaming eq_of_beq_eq_true→A5,le_refl→A7,beq→A8,le_trans→LQ,mul→LZ,not_lt_zero→OW
open Option.some renaming inj→B4
open Array renaming replicate_succ→NA,replicate_zero→NB
set_option linter.unusedVariables false
set_option linter.unusedSimpArgs false
/-
 DERIVED: THE SHELF's CONTRACTS AT THIS DUMP, IN PLAIN WORDS (tools/lay-plain.mjs out of 'TryzShelf.lean', which tools/lay-shelf.mjs wrote): THE SAME DECLARATIONS UNDER THE SAME NAMES: 'import', 'namespace', 'open', 'def', 'theorem' AND NOTHING ELSE: no command of the shelf's: FOR A HAND-IN. Each laying: the table of numbers ('.._ren') and one theorem, a field a fact of the dump's own or the kernel's comparison; each contract: ONE APPLICATION.
-/
namespace Go.Proofs
open Go.Shelf
def Tryz.laysNm221_ren:Go.Shelf.Ren:=⟨fun | 21=>46 | 27=>47 | 28=>48 | 35=>87 | 39=>107 | n=>n,fun | 22=>26 | 3=>3 | 4=>4 | 0=>0 | n=>n,fun | n=>n⟩
theorem Tryz.laysNm221:Go.Proofs.Lays2.n21 Tryz.prog Tryz.laysNm221_ren:={
 mixed:=by kernel_rfl
 f21:=Tryz.func46.trans (congrArg some (by kernel_rfl))
 f27:=Tryz.func47.trans (congrArg some (by kernel_rfl))
 f28:=Tryz.func48.trans (congrArg some (by kernel_rfl))
 f35:=Tryz.func87.trans (congrArg some (by kernel_rfl))
 f39:=Tryz.func107.trans (congrArg some (by kernel_rfl))
 t0:=Tryz.underlying0
 a0:=Tryz.isAgg0
 z0:=Tryz.sizeOf0
 v0:=Tryz.zeroValue0
 t3:=Tryz.underlying3
 a3:=Tryz.isAgg3
 z3:=Tryz.sizeOf3
 v3:=Tryz.zeroValue3
 t4:=Tryz.underlying4
 a4:=Tryz.isAgg4
 z4:=Tryz.sizeOf4
 v4:=Tryz.zeroValue4
 t22:=Tryz.underlying26
 a22:=Tryz.isAgg26
 z22:=Tryz.sizeOf26
 v22:=Tryz.zeroValue26
 i3:=by kernel_rfl }
def Tryz.laysAp_ren:Go.Shelf.Ren:=⟨fun | 11=>171 | n=>n,fun | 24=>26 | 26=>3 | 28=>166 | 0=>0 | 33=>46 | 4=>4 | n=>n,fun | n=>n⟩
theorem Tryz.laysAp:Go.Proofs.SlLaysZI.n11 Tryz.prog Tryz.laysAp_ren:={
 mixed:=by kernel_rfl
 f11:=⟨Tryz.f171.name,by decide,Tryz.func171.trans (congrArg some (by kernel_rfl))⟩
 t0:=Tryz.underlying0
 a0:=Tryz.isAgg0
 z0:=Tryz.sizeOf0
 v0:=Tryz.zeroValue0
 t24:=Tryz.underlying26
 a24:=Tryz.isAgg26
 z24:=Tryz.sizeOf26
 v24:=Tryz.zeroValue26
 t26:=Tryz.underlying3
 a26:=Tryz.isAgg3
 z26:=Tryz.sizeOf3
 v26:=Tryz.zeroValue3
 t28:=Tryz.underlying166
 a28:=Tryz.isAgg166
 z28:=Tryz.sizeOf166
 v28:=Tryz.zeroValue166
 i26:=by kernel_rfl }
end Go.Proofs

/-
 slices.AppendSeq(nil, slices.Values(s)) at ints: what it gives. Turned from the kit's proof of AppendSeq and from its worked proof of slices.Values: here the rounds keep what lay before the call, which is all that slices.Values asks.
-/
namespace Go.Proofs
open Go.RowKit Go.Maps Go.Sort Go.Shelf
variable {P:Program} {ρ : Ren}
attribute [local go_sem] Oper.semAt_some
def x9 (F:Fence) (n:Nat) (P:Program) (g:Nat) (lb:Array Value) (enc:Int→Value) (S:List Int→Prop) (N:Nat) (w:World):Prop :=
 ∀ (l:Nat) (J:List Int→World→Prop) (W:World),Below w.heap.size w W→(∀ pre W,J pre W→Below w.heap.size w W) →
 (∀ pre x W1,J pre W1→pre.length < N→YieldAt F (n - 1) P l #[enc x] W1 fun e W'=>e=.returned (.bool true)∧J (pre++[x]) W'∧KeepsWalks W1 W') →
 J [] W →
 CallsIn F n P g (#[.func (.yield l) #[] #[]]++lb) W fun e W'=>(∃ v,e=.returned v)∧∃ xs,S xs∧J xs W'
set_option maxRecDepth 100000 in
set_option maxHeartbeats 2000000 in
theorem pV (L:SlLaysZI.n11 P ρ) (F:Fence) (n:Nat) (h11:F.fn (ρ.f 11)) (hro:F.round=none) (hn:2≤n) (g:Nat) (lb:Array Value) (hFg:F.fn g) (eg:∀ args w,(callFunc g args).run P w=.ok (.enter g args) w)
  (S:List Int→Prop) (N:Nat) (hN:N≤maxLen) (hNb:N * 8≤140737488355328) (w:World) (hseq:x9 F (n - 1) P g lb encZ S N w) :
  CallsIn F n P (ρ.f 11) #[.slice none 0 0,.func (.func g) #[] lb] w fun e w'=>∃ (v:Value) (ss:List Int),e=.returned v∧S ss∧w'.ownsRow w.heap.size (ρ.t 26) 1 v ss.length (ss.map encZ)∧(v=.slice none 0 0↔ss=[])∧Below w.heap.size w w':=by
 have h1:1≤n:=by omega
 have mixed:=L.mixed; have t0:=L.t0; have a0:=L.a0; have z0:=L.z0; have v0:=L.v0; have t24:=L.t24; have a24:=L.a24; have z24:=L.z24; have v24:=L.v24; have t26:=L.t26; have a26:=L.a26; have z26:=L.z26; have v26:=L.v26; have t28:=L.t28; have a28:=L.a28; have z28:=L.z28; have v28:=L.v28
 have hne : ρ.t 24≠ρ.t 26:=fun e=>by have h:=L.t24; rw [e,L.t26] at h; cases h
 have u0:=run_underlying L.t0; have u24:=run_underlying L.t24; have u26:=run_underlying L.t26; have u28:=run_underlying L.t28
 obtain ⟨_,_,FG⟩:=L.f11
 refine callsIn_of_wp_marks FG rfl h11 ?_ hro
 simp only [SlBodyZ.n11_ntmps ρ,M0,La,LG,Nat.reduceAdd,Nat.reduceSub,NA,NB,NQ,NL,LW,Nw]
 gi_wp2
 refine wpIn_rangeFunc ?_
 intro fn hfn
 rw [hro]
 obtain ⟨W0,hW0⟩ : ∃ W0,w.alloc (.cells #[.slice none 0 0] (ρ.t 24))=W0:=⟨_,rfl⟩
 have hs0:W0.heap.size=w.heap.size+1:=by rw [← hW0]; simp
 have hv0:W0.heap[w.heap.size]?=some (.cells #[.slice none 0 0] (ρ.t 24) (0,0)):=by rw [← hW0]; exact World.alloc_heap_new w _
 have hb0:Below w.heap.size w W0:=by rw [← hW0]; exact (Below.refl _ w).alloc (A7 _) _
 rw [hW0]
 obtain ⟨W1,hW1⟩ : ∃ W1,(W0.alloc (.deferred (some []))).alloc (.loop (AnyZI.apRec ρ fn (.func (.func g) #[] lb) w.heap.size W0.heap.size .ready none))=W1:=⟨_,rfl⟩
 have hold:∀ k,k < W0.heap.size→W1.heap[k]?=W0.heap[k]?:=fun k hk=>by
  rw [← hW1]; exact (Below.heap_alloc _ _ k (by simp; omega)).trans (Below.heap_alloc _ _ k hk)
 have hb1:Below w.heap.size w W1:=by rw [← hW1]; exact (hb0.alloc hb0.size _).alloc (by have:=hb0.size; simp; omega) _
 have hs1:W1.heap.size=W0.heap.size+2:=by rw [← hW1]; simp
 have hM:AnyZI.ApAt ρ w fn (.func (.func g) #[] lb) w.heap.size (W0.heap.size+1) W0.heap.size [] W1 :=
  ⟨⟨_,(hold w.heap.size (by omega)).trans hv0,⟨rfl,.inl ⟨rfl,rfl⟩⟩,by simp⟩,
   by rw [← hW1]; have:=World.alloc_heap_new (W0.alloc (.deferred (some []))) (.loop (AnyZI.apRec ρ fn (.func (.func g) #[] lb) w.heap.size W0.heap.size .ready none)); rwa [World.size_alloc] at this,
   by rw [← hW1]; exact (Below.heap_alloc _ _ _ (by simp)).trans (World.alloc_heap_new W0 _),hb1⟩
 refine ⟨W0.heap.size+1,[{ target:=.collected W0.heap.size,args:=#[] }],W1,{ target:=.fn (.func g) lb,args:=#[.func (.yield (W0.heap.size+1)) #[] #[]] },W1,g,
  #[.func (.yield (W0.heap.size+1)) #[] #[]]++lb,W1,?_,?_,?_,?_,fun _=>h1,?_⟩
 ·rw [← hW1]; exact run_enterLoop_outer _ _ _ _ _
 ·simp [resolve,go_sem]
 ·intro f' hf'; simp [Target.leads] at hf'; subst hf'; exact hFg
 ·simp [invoke,go_sem,eg]
 ·refine (hseq (W0.heap.size+1) (AnyZI.ApAt ρ w fn (.func (.func g) #[] lb) w.heap.size (W0.heap.size+1) W0.heap.size) W1 hb1 (fun pre W h=>h.below)
   (fun pre x W hJ hl=>AnyZI.apYield { L with } F (n - 1 - 1) w fn hfn _ w.heap.size (W0.heap.size+1) W0.heap.size (by omega) (by omega) (by omega) (A7 _) (by omega) N hN hNb pre x W hJ hl) hM).mono ?_
  rintro e W2 ⟨⟨v0,rfl⟩,ss,hS,h2⟩
  obtain ⟨v,hv,hrow,hnil⟩:=h2.box
  have hend:=run_endLoop (P:=P) h2.L (by simp [AnyZI.apRec])
  obtain ⟨W3,hW3⟩ : ∃ W3,W2.putObj (W0.heap.size+1) (.loop { AnyZI.apRec ρ fn (.func (.func g) #[] lb) w.heap.size W0.heap.size .ready none with state:=.exhausted })=W3:=⟨_,rfl⟩
  rw [hW3] at hend
  have hg3:W2.grownBy W3 (some (W0.heap.size+1)):=by rw [← hW3]; exact grownBy_putObj_a _ _ _
  have hv3:W3.heap[w.heap.size]?=some (.cells #[v] (ρ.t 24) (0,0)):=by rw [← hW3]; exact (World.putObj_heap_other (by omega)).trans hv
  have hK3:W3.heap[W0.heap.size]?=some (.deferred (some [])):=by rw [← hW3]; exact (World.putObj_heap_other (by omega)).trans h2.K
  have hrow3:=hrow.kept hg3 (ownsRow_ne_a hrow h2.L (fun cur e=>by first | cases e | exact hne (Obj.cells.inj e).2.1))
  have hb3:Below w.heap.size w W3:=h2.below.grown hg3 h2.below.size (fun k e=>by cases e; omega)
  obtain ⟨hc3,hf3⟩:=cell_of_box_a hv3
  clear hW3
  refine ⟨none,W3,hend,?_⟩
  gi_wp2
  rw [← hs0]
  refine ⟨by simp,.inl ⟨_,_,rfl,run_takeDeferred hK3,?_⟩⟩
  exact ⟨_,results_tmp rfl _ _ _,v,ss,rfl,hS,hrow3.kept (grownBy_putObj_a _ _ _) (ownsRow_ne_a hrow3 hK3 (fun cur e=>by first | cases e | exact hne (Obj.cells.inj e).2.1)),hnil,hb3.grown (grownBy_putObj_a _ _ _) hb3.size (fun k e=>by cases e; omega)⟩
def fV {α : Type} (f:Nat→α) (k:Nat):List α:=(List.range k).map f
theorem u5 {α : Type} (f:Nat→α) (k:Nat):fV f (k+1)=fV f k++[f k]:=by simp [fV,List.range_succ]
theorem rR {α : Type} (f:Nat→α) (k:Nat):(fV f k).length=k:=by simp [fV]
theorem wC (zs:List Int):fV (fun j=>zs[j]?.getD 0) zs.length=zs:=by
 apply List.ext_getElem
 ·simp [fV]
 ·intro i h1 h2
  simp [fV,h2]
set_option maxRecDepth 100000 in
set_option maxHeartbeats 2000000 in
theorem vn (F:Fence) (n:Nat) (h7:F.fn 161) (hro:F.round=none) (hn:1≤n) (l Bs bo n₀ b off len cap:Nat) (zs:List Int) (hreach:len * 8≤140737488351232) (hb:b < n₀) (w0:World) (J:List Int→World→Prop)
  (hJB:∀ pre W,J pre W→Below n₀ w0 W)
  (hY:∀ pre x W,J pre W→pre.length < len→YieldAt F (n - 1) Tryz.prog l #[.int .i64 x] W fun e W' =>
   e=.returned (.bool true)∧J (pre++[x]) W'∧KeepsWalks W W')
  (W:World) (hBs:W.cell? ⟨Bs,bo,none⟩=some (.slice (some ⟨b,off,none⟩) len cap)) (hc:∀ j,j < len→w0.cell? ⟨b,off+j,none⟩=some (.int .i64 (zs[j]?.getD 0))) (h0:J [] W) :
  CallsIn F n Tryz.prog 161 #[.func (.yield l) #[] #[],.pointer (some ⟨Bs,bo,none⟩)] W fun e W'=>(∃ v,e=.returned v)∧J (fV (fun j=>zs[j]?.getD 0) len) W':=by
 refine callsIn_of_wp Tryz.func161 rfl h7 ?_ hro
 simp only [Tryz.ntmps161,M0,La,LG,Nat.reduceAdd,Nat.reduceSub,NA,NB,NQ,NL,LW,Nw]
 gi_wp2
 gi_loopw [7] (fun i wr=>∃ k:Nat,k≤len∧i=.int .i64 k∧J (fV (fun j=>zs[j]?.getD 0) k) wr)
  (fun i _=>len - (Go.RowKit.intOf i).toNat)
 case atStart=>exact ⟨0,Nat.zero_le _,rfl,h0⟩
 case round =>
  obtain ⟨k,hk,rfl,hJs⟩:=hrel
  have hcx:k < len→wr.cell? ⟨b,off+k,none⟩=some (.int .i64 (zs[k]?.getD 0)):=fun h=>((hJB _ _ hJs).cell (p:=⟨b,off+k,none⟩) hb).trans (hc k h)
  by_cases hlt:k < len
  ·obtain ⟨fn,tmps,assign,body,hy,hR⟩:=hY _ (zs[k]?.getD 0) wr hJs (by rw [rR]; exact hlt)
   have hcx':=hcx hlt
   gi_wp2
   refine hR.mono ?_
   rintro e W3 ⟨rfl,hJ3,hk3⟩
   gi_wp2
   go_roundw
   case rel=>exact ⟨k+1,by omega,by simp,by rw [u5]; exact hJ3⟩
   case measure=>simp [Go.RowKit.intOf]; omega
  ·obtain rfl:k=len:=by omega
   gi_wp2
   go_end0
   exact ⟨⟨_,rfl⟩,hJs⟩
set_option maxRecDepth 100000 in
set_option maxHeartbeats 1000000 in
theorem ta (F:Fence) (n:Nat) (h7:F.fn 161) (hro:F.round=none) (l Bs bo:Nat) (J:List Int→World→Prop) (W:World) (hBs:W.cell? ⟨Bs,bo,none⟩=some (.slice none 0 0)) (h0:J [] W) :
  CallsIn F n Tryz.prog 161 #[.func (.yield l) #[] #[],.pointer (some ⟨Bs,bo,none⟩)] W fun e W'=>(∃ v,e=.returned v)∧J [] W':=by
 refine callsIn_of_wp Tryz.func161 rfl h7 ?_ hro
 simp only [Tryz.ntmps161,M0,La,LG,Nat.reduceAdd,Nat.reduceSub,NA,NB,NQ,NL,LW,Nw]
 gi_wp2
 gi_loopw [7] (fun i wr=>i=.int .i64 0∧J [] wr) (fun _ _=>0)
 case atStart=>exact ⟨rfl,h0⟩
 case round =>
  obtain ⟨rfl,hJs⟩:=hrel
  gi_wp2
  go_end0
  exact ⟨⟨_,rfl⟩,hJs⟩
theorem pn (w:World) (Bs bo:Nat) (v:Value) (zs:List Int) (hlen:zs.length≤1000000) (hlt:Bs < w.heap.size) (hBs:w.cell? ⟨Bs,bo,none⟩=some v)
  (hv:(v=.slice none 0 0∧zs=[])∨∃ b off cap,v=.slice (some ⟨b,off,none⟩) zs.length cap∧b < w.heap.size∧∀ j,j < zs.length→w.cell? ⟨b,off+j,none⟩=some (.int .i64 (zs[j]?.getD 0))) :
  Calls Tryz.prog 171 #[.slice none 0 0,.func (.func 161) #[] #[.pointer (some ⟨Bs,bo,none⟩)]] w fun e w'=>∃ v,e=.returned v∧w'.ownsRow w.heap.size 3 1 v zs.length (zs.map encZ)∧(v=.slice none 0 0↔zs=[])∧Below w.heap.size w w':=by
 refine (callsIn_wide (n:=6)).1 ?_
 have hseq:x9 Fence.wide (6 - 1) Tryz.prog 161 #[.pointer (some ⟨Bs,bo,none⟩)] encZ (fun ss=>ss=zs) 1000000 w:=by
  intro l J W hW hJB hY h0
  have hc:=(hW.cell (p:=⟨Bs,bo,none⟩) hlt).trans hBs
  rcases hv with ⟨rfl,rfl⟩ | ⟨b,off,cap,rfl,hb,hcs⟩
  ·exact (ta Fence.wide (6 - 1) trivial rfl l Bs bo J W hc h0).mono fun e W' ⟨he,hj⟩=>⟨he,_,rfl,hj⟩
  ·refine (vn Fence.wide (6 - 1) trivial rfl (by omega) l Bs bo w.heap.size b off zs.length cap zs (by omega) hb w J hJB (fun pre x W1 h1 h2=>hY pre x W1 h1 (by omega)) W hc hcs h0).mono ?_
   rintro e W' ⟨he,hj⟩
   rw [wC] at hj
   exact ⟨he,_,rfl,hj⟩
 refine (pV (ρ:=Tryz.laysAp_ren) Tryz.laysAp Fence.wide 6 trivial rfl (by omega) 161 #[.pointer (some ⟨Bs,bo,none⟩)] trivial (enters_of Tryz.func161 (by kernel_rfl) rfl) _ 1000000 (by unfold maxLen; omega) (by omega) w hseq).mono ?_
 rintro e w' ⟨v,ss,rfl,rfl,hrow,hnil,hb⟩
 exact ⟨v,rfl,hrow,hnil,hb⟩
end Go.Proofs

/-
 slices.AppendSeq over slices.Values, as it is told; the two functions that are taken as told, at this program.
-/
namespace Go.Rx
open Go.Vm Go.Proofs Go.RowKit
section
variable {P:Program} {GL:List Nat} {w0:World}
theorem Go1.same {n:Nat} {w w':World} {ι : Io} {h:Hp} (hi:RInv GL w0 w ι h) (ht:∀ b,n≤b→ι b=none) (hk:Kept w NoM w'):Go1 GL w0 n w ι h n w' ι h:=by
 have hold:∀ b,b < w.heap.size→w'.heap[b]?=w.heap[b]?:=fun b hb=>hk.block b hb (fun h=>h)
 refine ⟨⟨?_,?_,hi.inj,fun b L hL=>Nat.lt_of_lt_of_le (hi.lt b L hL) hk.size,hi.glob⟩,Io.le.refl _,fun _ _=>rfl,A7 _,ht,hk.size,fun B hB _=>hold B hB,fun b o L hb ho hL=>.inr ⟨b,o,L,hb,ho,.inr rfl,id,hL,rfl⟩⟩
 ·have:=hi.kept.size
  exact ⟨hk.os.trans hi.kept.os,hk.tape.trans hi.kept.tape,hk.output.trans hi.kept.output,LQ hi.kept.size hk.size,fun b hb hM=>(hold b (by omega)).trans (hi.kept.block b hb hM)⟩
 ·intro b o hb
  exact (hi.blk b o hb).mono (Io.le.refl _) fun L hL=>hold L.B (hi.lt b L hL)
theorem sP {w w':World} (h:Below w.heap.size w w'):Kept w NoM w':=⟨h.os,h.tape,h.output,h.size,fun b hb _=>h.block b hb⟩
theorem C3 {w:World} {ι : Io} {h:Hp} (hi:RInv GL w0 w ι h) {b off len:Nat} {L:Loc} (hL : ι b=some L) {c:List RC} {l:List Int} (hint:wD c=some l) (hc:iv (gk (h b)) off len=some c) :
  ∃ cs el fz,w.heap[L.B]?=some (.cells cs el fz)∧L.B < w.heap.size∧seg cs (L.base+off) len=l.map (Value.int .i64)∧L.base+off+len≤cs.size∧l.length=len∧RelL ι c (l.map (Value.int .i64)):=by
 obtain ⟨t',m',y1,y2,y3⟩:=dk hc
 obtain ⟨o',y4,y5⟩:=dM y1
 obtain ⟨Lq,cq,eq,fq,y6,y7,y8,y9,y10⟩:=eW y5 (hi.blk b o' y4)
 have e:=B4 (hL.symm.trans y6)
 subst e
 have hs:=eo y10 y3 y2
 obtain ⟨e1,e2,e3⟩:=iX hint hs
 have hl:=(dU y3).1
 exact ⟨cq,eq,fq,y7,hi.lt b L hL,e1,by omega,by omega,e1 ▸ hs⟩
theorem Ki (l:List Int):l.map encZ=l.map (Value.int .i64):=rfl
theorem GH {args:List RV} {s s':RS} {v:RV} (h:mL 161 args s=some (v,s')) {w:World} {ι : Io} {us:List Value} (hi:RInv GL w0 w ι s.H.get) (ht:∀ b,s.nx≤b→ι b=none) (hargs:All2 (fun u v=>RelV ι u v) us args) :
  Goes Tryz.prog 171 us.toArray w fun u w'=>∃ ι',Go1 GL w0 s.nx w ι s.H.get s'.nx w' ι' s'.H.get∧RelV ι' u v:=by
 unfold mL at h
 split at h
 ·rename_i f b
  match us,hargs with
  | [u1,u2],.cons hx (.cons hf .nil) =>
  replace h:=ag h; obtain ⟨hfe,h⟩:=h
  have hfe:=A5 hfe
  subst hfe
  split at h
  ·rename_i x hbox
   obtain ⟨t',m',y1,y2,y3⟩:=dk hbox
   obtain ⟨o',y4,y5⟩:=dM y1
   obtain ⟨Lb,cq,eq,fq,y6,y7,y8,y9,y10⟩:=eW y5 (hi.blk b o' y4)
   have hseg:=eo y10 y3 y2
   obtain ⟨bus,hfn1,hfn2⟩:=Ao hf
   have hu1:u1=.slice none 0 0:=(gG hx).1
   -- the box
   match hsq:seg cq (Lb.base+0) 1,hseg with
   | [bv],hseg =>
   have hbv:w.cell? ⟨Lb.B,Lb.base+0,none⟩=some bv:=by
    rw [bO y7]
    have:=seg_getElem? cq (Lb.base+0) 1 0 (by omega)
    rw [hsq] at this
    simpa using this.symm
   have hrelx:RelV ι bv (.one x):=by
    cases hseg with
    | cons h1 _=>exact h1
   have hu2:u2=.func (.func 161) #[] #[.pointer (some ⟨Lb.B,Lb.base+0,none⟩)]:=by
    rw [hfn2]
    cases hfn1 with
    | cons h1 t =>
     cases t
     cases h1 with
     | ptr hp =>
      have e:=B4 (hp.symm.trans y6)
      subst e
      rfl
   have run:∀ (zs:List Int),zs.length≤1000000→((bv=.slice none 0 0∧zs=[])∨∃ b off cap,bv=.slice (some ⟨b,off,none⟩) zs.length cap∧b < w.heap.size∧∀ j,j < zs.length→w.cell? ⟨b,off+j,none⟩=some (.int .i64 (zs[j]?.getD 0))) →
     (∀ u w',w'.ownsRow w.heap.size 3 1 u zs.length (zs.map encZ)→(u=.slice none 0 0↔zs=[])→Below w.heap.size w w'→∃ ι',Go1 GL w0 s.nx w ι s.H.get s'.nx w' ι' s'.H.get∧RelV ι' u v) →
     Goes Tryz.prog 171 [u1,u2].toArray w fun u w'=>∃ ι',Go1 GL w0 s.nx w ι s.H.get s'.nx w' ι' s'.H.get∧RelV ι' u v:=by
    intro zs h1 h2 h3
    rw [hu1,hu2]
    refine .inl ⟨enters_of Tryz.func171 (by kernel_rfl) rfl _ _,Calls.mono (pn w Lb.B (Lb.base+0) bv zs h1 (hi.lt b Lb y6) hbv h2) ?_⟩
    rintro e w' ⟨u,rfl,q1,q2,q3⟩
    exact ⟨u,rfl,h3 u w' q1 q2 q3⟩
   have none_:∀ (u:Value) (w':World),(u=.slice none 0 0↔([]:List Int)=[])→Below w.heap.size w w'→v=.one (.sc (.slice none 0 0))→s'=s→∃ ι',Go1 GL w0 s.nx w ι s.H.get s'.nx w' ι' s'.H.get∧RelV ι' u v:=by
    rintro u w' q2 q3 rfl rfl
    refine ⟨ι,Go1.same hi ht (sP q3),?_⟩
    rw [q2.2 rfl]
    exact RelC.sc rfl
   -- what it holds
   cases hc:cL s (.one x) with
   | none=>rw [hc] at h; cases h
   | some p =>
    rw [hc] at h
    obtain ⟨c,n⟩:=p
    unfold cL at hc
    split at hc
    ·rename_i he
     injection he with he
     subst he
     cases hc
     replace h:=(ag (show cond (A8 0 0) _ none=_ from h)).2
     cases h
     exact run [] (by simp) (.inl ⟨(gG hrelx).1,rfl⟩) fun u w' _ q2 q3=>none_ u w' q2 q3 rfl rfl
    ·rename_i bb es he
     injection he with he
     subst he
     cases hc
     replace h:=(ag (show cond (A8 0 0) _ none=_ from h)).2
     cases h
     obtain ⟨L,o,k,e1,e2,e3,e4,e5⟩:=ma hrelx
     exact run [] (by simp) (.inr ⟨L.B,o,k,e2,hi.lt bb L e1,fun j hj=>absurd hj (OW _)⟩) fun u w' _ q2 q3=>none_ u w' q2 q3 rfl rfl
    ·rename_i bb off len cap es he
     injection he with he
     subst he
     split at hc
     ·rename_i c1 hc1
      cases hc
      obtain ⟨L,k,q1,q2,q3,q4,q5,q6⟩:=kb hrelx
      match c,hc1,h with
      | [],hc1,h =>
       replace h:=ag h; obtain ⟨h0,h⟩:=h
       have h0:=A5 h0
       cases h
       subst h0
       exact run [] (by simp) (.inr ⟨L.B,L.base+off,k,q2,hi.lt bb L q1,fun j hj=>absurd hj (OW _)⟩) fun u w' _ q2 q3=>none_ u w' q2 q3 rfl rfl
      | c0 :: cr,hc1,h =>
       replace h:=ag h; obtain ⟨hb,h⟩:=h
       simp only [Bool.and_eq_true] at hb
       obtain ⟨⟨b1,b2⟩,b3⟩:=hb
       have b1:=A5 b1
       have b2:=Nat.le_of_ble_eq_true b2
       obtain ⟨l,hl⟩:=Option.isSome_iff_exists.1 b3
       have hmul:LZ n es=n:=by
        obtain ⟨t2,m2,z1,z2,z3⟩:=dk hc1
        have:=(dU z3).1
        omega
       rw [hmul] at hc1
       obtain ⟨cs,el,fz,r1,r2,r3,r4,r5,r6⟩:=C3 hi q1 hl hc1
       refine run l (by omega) (.inr ⟨L.B,L.base+off,k,by rw [r5]; exact q2,r2,?_⟩) ?_
       ·intro j hj
        rw [bO r1,← seg_getElem? cs (L.base+off) n j (by omega),r3]
        simp [hj]
       ·intro u w' hrow hnil hbel
        unfold vN at h
        obtain ⟨h5,e5⟩:=eT h
        subst e5
        obtain ⟨tr,h2,h3⟩:=fH h5
        obtain ⟨g1,g2⟩:=dW h3
        have hne:¬ u=.slice none 0 0:=fun e=>by have:=hnil.1 e; subst this; simp at r5; simp at b1; omega
        obtain ⟨_,⟨e,_⟩ | ⟨g,cap',cur,rfl,k1,k2,k3,k4,k5,k6⟩⟩:=hrow
        ·exact absurd e hne
        have hnone:=ht s.nx (A7 _)
        have hglt:g < w'.heap.size:=(Array.getElem?_eq_some_iff.1 k2).1
        have hcl:=r6.len
        rw [List.length_map] at hcl
        rw [Nat.mul_one] at k5 k6
        rw [Ki] at k6
        refine ⟨ι.set s.nx ⟨g,0,cur.size⟩,?_,?_⟩
        ·rw [g1,g2]
         refine Go1.new hi ht (sP hbel) k1 hglt ?_
         refine ⟨⟨g,0,cur.size⟩,cur,_,_,Io.set_self _ _ _,LQ hi.kept.size k1,k2,rfl,by show 0+LZ n 1≤cur.size; simp; omega,A7 _,?_⟩
         intro i hi'
         have hi':i < n:=by simpa using hi'
         obtain ⟨u',z1,z2⟩:=r6.get (A2 (show i < (c0 :: cr).length by omega))
         have hs:=dr h2 i
         rw [if_pos (by omega)] at hs
         refine ⟨_,u',by rw [hs,Nat.sub_zero,A2 (show i < (c0 :: cr).length by omega)],?_,z2.mono (Io.set_le hnone)⟩
         rw [← k6] at z1
         rw [List.getElem?_take,if_pos (by omega)] at z1
         simpa using z1
        ·rw [r5]
         exact RelC.sl (Io.set_self _ _ _) (by omega) (by show 0+0+cap' * 1≤cur.size; omega) (fun c hc=>by cases hc) k4
     ·cases hc
    ·cases hc
  ·cases h
 ·cases h
end
def told:XTab:=[(46,.insert),(171,.appendSeq 161)]
theorem GA (GL:List Nat):XOK Tryz.prog GL told:=by
 intro f x hf args s v s' h w0 w ι us hi ht hargs
 have hf:cond (A8 46 f) (some XF.insert) (cond (A8 171 f) (some (XF.appendSeq 161)) none)=some x:=hf
 cases h1:A8 46 f with
 | true =>
  rw [h1] at hf
  cases hf
  rw [← A5 h1]
  exact zE (nu Tryz.laysNm221 (enters_of Tryz.laysNm221.f21 (by kernel_rfl) rfl) []) h hi ht hargs
 | false =>
  rw [h1] at hf
  replace hf:=ag (show cond (A8 171 f) (some (XF.appendSeq 161)) none=some x from hf); obtain ⟨h2,hf⟩:=hf
  cases hf
  rw [← A5 h2]
  exact GH h hi ht hargs
end Go.Rx

/-
 The call of function 6 of this program, run by the evaluator in the kernel: it gives true. The list is told by a tool and checked here.
-/
namespace Go.Rx
open Go.Vm Go.Proofs
set_option maxRecDepth 1000000
noncomputable def F6:FPs:=[(6,⟨15,[],[]⟩),
 (7,⟨24735858906897380614345754514953504492857765370391873864500382881974042359,[(14,[⟨0,false,[]⟩,⟨1,false,[]⟩,⟨2,false,[]⟩,⟨3,false,[]⟩,⟨4,false,[]⟩,⟨5,false,[]⟩,⟨6,false,[]⟩,⟨7,false,[]⟩,⟨8,false,[]⟩,⟨9,false,[]⟩,⟨10,false,[]⟩,⟨11,false,[]⟩,⟨12,false,[]⟩,⟨13,true,[]⟩,⟨14,false,[]⟩,⟨15,false,[13]⟩,⟨16,false,[]⟩,⟨17,false,[]⟩]),(38,[⟨0,false,[]⟩,⟨1,true,[]⟩,⟨2,false,[]⟩,⟨3,false,[]⟩,⟨4,false,[]⟩,⟨5,false,[]⟩,⟨6,false,[]⟩,⟨7,false,[]⟩,⟨8,false,[]⟩,⟨9,false,[]⟩,⟨10,false,[1]⟩,⟨11,false,[]⟩,⟨12,false,[]⟩]),(45,[⟨0,false,[]⟩,⟨1,false,[]⟩,⟨2,false,[]⟩,⟨3,false,[]⟩,⟨4,false,[]⟩,⟨5,false,[]⟩,⟨6,false,[]⟩,⟨7,false,[]⟩,⟨8,false,[]⟩,⟨9,false,[]⟩,⟨10,false,[]⟩,⟨11,true,[]⟩,⟨12,false,[]⟩,⟨13,true,[]⟩,⟨14,false,[]⟩,⟨15,false,[]⟩,⟨16,false,[11,13]⟩,⟨17,false,[]⟩])],[]⟩),
 (13,⟨9067220366355656199829231,[],[]⟩),
 (14,⟨5316950171113995367042836836095376887,[],[]⟩),
 (15,⟨138903,[],[]⟩),
 (16,⟨87,[],[]⟩),
 (17,⟨66483,[],[]⟩),
 (18,⟨23,[],[]⟩),
 (19,⟨383123885930096062271794698053396311827682563515776783,[],[]⟩),
 (33,⟨8623490175,[(9,[⟨0,false,[]⟩,⟨1,true,[]⟩,⟨2,false,[]⟩,⟨3,false,[]⟩,⟨5,false,[]⟩,⟨4,false,[1]⟩,⟨6,false,[]⟩,⟨7,false,[]⟩,⟨8,false,[]⟩])],[]⟩),
 (34,⟨295152127441725574655,[(15,[⟨0,false,[]⟩,⟨1,false,[]⟩,⟨2,false,[]⟩,⟨3,false,[]⟩,⟨4,false,[]⟩,⟨5,false,[]⟩,⟨6,false,[]⟩,⟨7,false,[]⟩,⟨10,false,[]⟩,⟨8,false,[]⟩,⟨9,false,[]⟩])],[]⟩),
 (35,⟨1125916021440503,[(11,[⟨0,false,[]⟩,⟨1,false,[]⟩,⟨2,false,[]⟩,⟨4,false,[]⟩,⟨5,false,[]⟩,⟨6,true,[]⟩,⟨3,false,[6]⟩,⟨7,false,[]⟩,⟨8,false,[]⟩,⟨9,false,[]⟩])],[]⟩),
 (36,⟨275955843711,[],[]⟩),
 (37,⟨2199039246359,[],[]⟩),
 (38,⟨19,[],[]⟩),
 (39,⟨7,[],[]⟩),
 (40,⟨7,[],[]⟩),
 (41,⟨16777727,[],[]⟩),
 (42,⟨127,[],[]⟩),
 (43,⟨1118223,[],[]⟩),
 (44,⟨2199159310847,[],[]⟩),
 (45,⟨317222143921316413773438787063,[(1,[⟨0,false,[]⟩,⟨1,false,[]⟩,⟨2,false,[]⟩,⟨3,false,[]⟩,⟨4,false,[]⟩,⟨5,false,[]⟩,⟨6,false,[]⟩,⟨7,false,[]⟩,⟨8,false,[]⟩,⟨9,false,[]⟩,⟨10,false,[]⟩,⟨11,false,[]⟩,⟨12,false,[]⟩,⟨13,true,[]⟩,⟨14,false,[]⟩,⟨15,false,[13]⟩,⟨16,false,[]⟩,⟨17,false,[]⟩,⟨18,false,[]⟩,⟨19,false,[]⟩,⟨20,false,[]⟩,⟨21,true,[]⟩,⟨22,false,[]⟩,⟨23,false,[21]⟩,⟨24,false,[]⟩,⟨25,false,[]⟩,⟨26,false,[]⟩,⟨27,false,[]⟩,⟨28,false,[]⟩,⟨29,true,[]⟩,⟨30,false,[]⟩,⟨31,false,[]⟩,⟨32,true,[]⟩,⟨33,false,[]⟩,⟨34,false,[29,32]⟩,⟨35,false,[]⟩,⟨36,false,[]⟩])],[]⟩),
 (48,⟨3,[],[]⟩),
 (49,⟨269427,[],[]⟩),
 (63,⟨17181997623,[],[]⟩),
 (64,⟨285258561938156404413173161017279,[(8,[⟨0,false,[]⟩,⟨1,false,[]⟩,⟨2,true,[]⟩,⟨3,false,[]⟩,⟨4,false,[]⟩,⟨5,false,[]⟩,⟨6,false,[]⟩,⟨7,false,[]⟩,⟨8,false,[]⟩,⟨9,false,[]⟩,⟨10,false,[]⟩,⟨11,false,[]⟩,⟨12,false,[]⟩,⟨13,false,[]⟩,⟨14,false,[]⟩,⟨15,false,[]⟩,⟨16,false,[]⟩,⟨17,false,[]⟩,⟨18,false,[2]⟩,⟨19,false,[]⟩,⟨20,false,[]⟩]),(9,[⟨0,false,[]⟩,⟨1,false,[]⟩,⟨2,true,[]⟩,⟨3,false,[]⟩,⟨4,false,[]⟩,⟨5,false,[]⟩,⟨6,false,[]⟩,⟨7,false,[]⟩,⟨8,false,[]⟩,⟨9,false,[]⟩,⟨10,false,[]⟩,⟨11,false,[]⟩,⟨12,false,[]⟩,⟨13,false,[]⟩,⟨14,false,[]⟩,⟨15,false,[]⟩,⟨16,false,[]⟩,⟨17,false,[]⟩,⟨18,false,[2]⟩,⟨19,false,[]⟩,⟨20,false,[]⟩])],[]⟩),
 (65,⟨21,[],[]⟩),
 (66,⟨8652849215,[(7,[⟨0,false,[]⟩,⟨1,false,[]⟩,⟨2,false,[]⟩,⟨3,true,[]⟩,⟨4,false,[]⟩,⟨5,false,[]⟩,⟨6,true,[]⟩,⟨7,false,[]⟩,⟨8,true,[]⟩,⟨9,false,[]⟩,⟨10,false,[]⟩,⟨11,false,[]⟩,⟨12,false,[]⟩,⟨13,false,[]⟩,⟨14,false,[]⟩,⟨15,false,[]⟩,⟨16,false,[]⟩,⟨17,false,[]⟩,⟨18,false,[]⟩,⟨19,false,[]⟩,⟨20,false,[]⟩,⟨21,false,[]⟩,⟨22,false,[3,6,8]⟩,⟨23,false,[]⟩,⟨24,false,[]⟩]),(8,[⟨0,false,[]⟩,⟨1,false,[]⟩,⟨2,false,[]⟩,⟨3,true,[]⟩,⟨4,false,[]⟩,⟨5,false,[]⟩,⟨6,true,[]⟩,⟨7,false,[]⟩,⟨8,true,[]⟩,⟨9,false,[]⟩,⟨10,false,[]⟩,⟨11,false,[]⟩,⟨12,false,[]⟩,⟨13,false,[]⟩,⟨14,false,[]⟩,⟨15,false,[]⟩,⟨16,false,[]⟩,⟨17,false,[]⟩,⟨18,false,[]⟩,⟨19,false,[]⟩,⟨20,false,[]⟩,⟨21,false,[]⟩,⟨22,false,[3,6,8]⟩,⟨23,false,[]⟩,⟨24,false,[]⟩])],[]⟩),
 (67,⟨19,[],[]⟩),
 (68,⟨71,[],[]⟩),
 (69,⟨5,[],[]⟩),
 (70,⟨9439219,[],[]⟩),
 (71,⟨66483,[],[]⟩),
 (72,⟨18014433381072383,[(14,[⟨0,false,[]⟩,⟨1,false,[]⟩,⟨2,false,[]⟩,⟨3,false,[]⟩,⟨4,false,[]⟩,⟨5,false,[]⟩,⟨6,false,[]⟩,⟨7,false,[]⟩,⟨8,false,[]⟩,⟨9,false,[]⟩,⟨10,false,[]⟩,⟨11,false,[]⟩,⟨12,false,[]⟩,⟨17,true,[]⟩,⟨13,false,[17]⟩,⟨14,false,[]⟩,⟨15,false,[]⟩,⟨16,false,[]⟩,⟨18,false,[]⟩,⟨19,false,[]⟩])],[]⟩),
 (73,⟨1152991877377559007,[(3,[⟨0,true,[]⟩,⟨1,false,[]⟩,⟨2,true,[]⟩,⟨3,true,[]⟩,⟨4,false,[]⟩,⟨6,true,[]⟩,⟨8,true,[]⟩,⟨5,false,[0,2,3,6,8]⟩,⟨7,false,[0,2,3,8]⟩,⟨9,false,[0,2,3]⟩,⟨10,false,[]⟩,⟨11,false,[]⟩,⟨12,false,[]⟩,⟨13,false,[]⟩]),(16,[⟨0,false,[]⟩,⟨1,false,[]⟩,⟨3,true,[]⟩,⟨2,false,[3]⟩,⟨4,false,[]⟩,⟨5,false,[]⟩,⟨6,false,[]⟩,⟨7,false,[]⟩])],[]⟩),
 (74,⟨66483,[],[]⟩),
 (75,⟨15,[(1,[⟨0,false,[]⟩,⟨1,true,[]⟩,⟨2,false,[]⟩,⟨3,true,[]⟩,⟨4,false,[]⟩,⟨5,false,[]⟩,⟨6,false,[]⟩,⟨7,false,[1,3]⟩,⟨8,false,[]⟩,⟨9,false,[]⟩,⟨10,false,[]⟩,⟨11,false,[1,3]⟩,⟨12,false,[]⟩,⟨13,false,[]⟩,⟨14,false,[]⟩])],[]⟩),
 (76,⟨63,[(2,[⟨0,false,[]⟩,⟨1,false,[]⟩,⟨2,false,[]⟩,⟨4,false,[]⟩,⟨5,false,[]⟩,⟨6,true,[]⟩,⟨3,false,[6]⟩,⟨7,false,[]⟩,⟨8,false,[]⟩,⟨9,false,[]⟩,⟨10,false,[]⟩])],[]⟩),
 (77,⟨31,[],[]⟩),
 (78,⟨664614000231734119772698044729918967,[],[]⟩),
 (79,⟨2220335,[(10,[⟨0,false,[]⟩,⟨2,false,[]⟩,⟨3,true,[]⟩,⟨4,false,[]⟩,⟨5,true,[]⟩,⟨6,false,[]⟩,⟨7,false,[]⟩,⟨8,false,[]⟩,⟨9,false,[]⟩,⟨10,false,[]⟩,⟨1,false,[3,5]⟩,⟨11,false,[]⟩,⟨12,false,[]⟩])],[]⟩),
 (80,⟨288230440580420543,[],[]⟩),
 (81,⟨134221615,[],[]⟩),
 (82,⟨15974639,[],[]⟩),
 (83,⟨524311,[],[]⟩),
 (84,⟨7,[(1,[⟨0,true,[]⟩,⟨1,true,[]⟩,⟨2,false,[]⟩,⟨3,false,[0,1]⟩,⟨4,false,[0]⟩,⟨5,false,[]⟩,⟨6,false,[]⟩])],[]⟩),
 (85,⟨21,[],[]⟩),
 (86,⟨288232592899694367,[],[]⟩),
 (87,⟨3,[],[]⟩),
 (93,⟨562950016340991,[],[]⟩),
 (94,⟨125843583,[(10,[⟨0,false,[]⟩,⟨1,false,[]⟩,⟨2,false,[]⟩,⟨3,false,[]⟩,⟨4,false,[]⟩,⟨5,false,[]⟩,⟨6,false,[]⟩,⟨7,false,[]⟩,⟨8,false,[]⟩,⟨9,false,[]⟩,⟨10,false,[]⟩,⟨11,false,[]⟩,⟨12,false,[]⟩,⟨13,true,[]⟩,⟨14,false,[]⟩,⟨15,false,[]⟩,⟨16,false,[]⟩,⟨17,false,[]⟩,⟨18,false,[]⟩,⟨19,false,[]⟩,⟨20,false,[13]⟩,⟨21,false,[]⟩,⟨22,false,[]⟩])],[]⟩),
 (95,⟨4208799,[],[]⟩),
 (96,⟨32986288358263,[(11,[⟨0,false,[]⟩,⟨1,false,[]⟩,⟨2,false,[]⟩,⟨3,true,[]⟩,⟨4,false,[]⟩,⟨5,true,[]⟩,⟨6,false,[]⟩,⟨7,false,[]⟩,⟨8,false,[]⟩,⟨9,false,[]⟩,⟨10,false,[]⟩,⟨11,false,[]⟩,⟨12,false,[]⟩,⟨13,false,[]⟩,⟨14,false,[]⟩,⟨15,false,[]⟩,⟨16,false,[]⟩,⟨17,false,[3,5]⟩,⟨18,false,[]⟩,⟨19,false,[]⟩]),(12,[⟨0,false,[]⟩,⟨1,false,[]⟩,⟨2,false,[]⟩,⟨3,true,[]⟩,⟨4,false,[]⟩,⟨5,true,[]⟩,⟨6,false,[]⟩,⟨7,false,[]⟩,⟨8,false,[]⟩,⟨9,false,[]⟩,⟨10,false,[]⟩,⟨11,false,[]⟩,⟨12,false,[]⟩,⟨13,false,[]⟩,⟨14,false,[]⟩,⟨15,false,[]⟩,⟨16,false,[]⟩,⟨17,false,[3,5]⟩,⟨18,false,[]⟩,⟨19,false,[]⟩])],[]⟩),
 (97,⟨1199039455506657738695,[(7,[⟨0,false,[]⟩,⟨1,false,[]⟩,⟨3,false,[]⟩,⟨4,false,[]⟩,⟨5,true,[]⟩,⟨6,true,[]⟩,⟨2,false,[5,6]⟩,⟨7,false,[]⟩,⟨8,false,[]⟩]),(22,[⟨0,false,[]⟩,⟨1,false,[]⟩,⟨2,false,[]⟩,⟨3,true,[]⟩,⟨4,false,[]⟩,⟨5,false,[]⟩,⟨6,false,[3]⟩,⟨7,false,[]⟩])],[]⟩),
 (98,⟨2093796786653,[],[]⟩),
 (99,⟨10384593871817177683247510831234831,[],[]⟩),
 (100,⟨5,[],[]⟩),
 (101,⟨19,[],[]⟩),
 (102,⟨3932783,[(3,[⟨0,false,[]⟩,⟨1,true,[]⟩,⟨2,false,[]⟩,⟨3,false,[]⟩,⟨6,true,[]⟩,⟨4,false,[1,6]⟩,⟨5,false,[]⟩,⟨7,false,[]⟩])],[]⟩),
 (103,⟨2199023319543,[(6,[⟨0,false,[]⟩,⟨1,false,[]⟩,⟨3,true,[]⟩,⟨4,false,[]⟩,⟨5,false,[]⟩,⟨6,false,[]⟩,⟨7,false,[]⟩,⟨8,false,[]⟩,⟨9,false,[]⟩,⟨10,false,[]⟩,⟨11,true,[]⟩,⟨2,false,[3,11]⟩,⟨12,false,[]⟩,⟨13,false,[]⟩,⟨14,false,[]⟩])],[]⟩),
 (104,⟨292735076364492751,[(5,[⟨0,false,[]⟩,⟨1,false,[]⟩,⟨3,true,[]⟩,⟨4,false,[]⟩,⟨2,false,[3]⟩,⟨5,false,[]⟩,⟨6,false,[]⟩,⟨7,false,[]⟩]),(16,[⟨0,false,[]⟩,⟨1,true,[]⟩,⟨2,false,[]⟩,⟨3,false,[]⟩,⟨4,false,[]⟩,⟨5,false,[]⟩,⟨6,false,[]⟩,⟨7,false,[]⟩,⟨8,false,[]⟩,⟨9,false,[]⟩,⟨10,false,[]⟩,⟨11,false,[1]⟩,⟨12,false,[]⟩,⟨13,false,[]⟩]),(17,[⟨0,false,[]⟩,⟨1,true,[]⟩,⟨2,false,[]⟩,⟨3,false,[]⟩,⟨4,false,[]⟩,⟨5,false,[]⟩,⟨6,false,[]⟩,⟨7,false,[]⟩,⟨8,false,[]⟩,⟨9,false,[]⟩,⟨10,false,[]⟩,⟨11,false,[]⟩,⟨12,false,[1]⟩,⟨13,false,[]⟩,⟨14,false,[]⟩])],[]⟩),
 (105,⟨83,[],[]⟩),
 (106,⟨138927041305125063603,[(4,[⟨0,false,[]⟩,⟨1,false,[]⟩,⟨2,false,[]⟩,⟨4,false,[]⟩,⟨5,false,[]⟩,⟨6,false,[]⟩,⟨3,false,[]⟩,⟨7,false,[]⟩,⟨8,false,[]⟩]),(13,[⟨0,false,[]⟩,⟨1,false,[]⟩,⟨2,false,[]⟩,⟨3,false,[]⟩,⟨4,false,[]⟩,⟨5,false,[]⟩,⟨6,false,[]⟩,⟨7,false,[]⟩,⟨9,false,[]⟩,⟨11,false,[]⟩,⟨12,false,[]⟩,⟨13,false,[]⟩,⟨14,true,[]⟩,⟨15,false,[]⟩,⟨16,false,[]⟩,⟨17,false,[]⟩,⟨8,false,[14]⟩,⟨10,false,[14]⟩,⟨18,false,[]⟩,⟨19,false,[]⟩,⟨20,false,[]⟩,⟨21,false,[]⟩])],[]⟩),
 (107,⟨525,[],[]⟩),
 (108,⟨309237645375,[],[]⟩),
 (109,⟨31,[],[]⟩),
 (110,⟨87,[],[]⟩),
 (111,⟨1152937999430959999,[],[]⟩),
 (112,⟨1048631,[(3,[⟨0,false,[]⟩,⟨1,true,[]⟩,⟨2,false,[]⟩,⟨3,false,[]⟩,⟨4,false,[]⟩,⟨5,false,[]⟩,⟨6,false,[]⟩,⟨7,false,[]⟩,⟨8,false,[]⟩,⟨9,false,[]⟩,⟨10,false,[]⟩,⟨11,false,[1]⟩,⟨12,false,[]⟩,⟨13,false,[]⟩,⟨14,false,[]⟩])],[]⟩),
 (113,⟨61623,[],[]⟩),
 (114,⟨27,[],[]⟩),
 (115,⟨713623851669891923668806476952531329332806535,[(13,[⟨0,false,[]⟩,⟨1,false,[]⟩,⟨2,false,[]⟩,⟨3,false,[]⟩,⟨4,true,[]⟩,⟨5,false,[]⟩,⟨6,false,[]⟩,⟨7,false,[]⟩,⟨8,false,[]⟩,⟨9,false,[]⟩,⟨10,false,[]⟩,⟨11,false,[4]⟩,⟨12,false,[4]⟩,⟨13,false,[]⟩,⟨14,false,[]⟩,⟨15,false,[]⟩,⟨16,false,[]⟩,⟨17,false,[]⟩])],[]⟩),
 (116,⟨19,[],[]⟩),
 (117,⟨19,[],[]⟩),
 (118,⟨103,[],[]⟩),
 (119,⟨1049587,[],[]⟩),
 (120,⟨4722366482870972580221,[],[]⟩),
 (121,⟨4225275,[],[]⟩),
 (122,⟨8135,[(2,[⟨0,false,[]⟩,⟨1,false,[]⟩,⟨2,false,[]⟩,⟨4,false,[]⟩,⟨5,false,[]⟩,⟨6,false,[]⟩,⟨3,false,[]⟩,⟨7,false,[]⟩,⟨8,false,[]⟩])],[]⟩),
 (123,⟨575,[],[]⟩),
 (124,⟨1073746119,[],[]⟩),
 (125,⟨1074268103,[],[]⟩),
 (126,⟨8804682991559,[],[]⟩),
 (127,⟨20829169751433159,[],[]⟩),
 (128,⟨8391,[],[]⟩),
 (129,⟨83087207854311395603287443752634311,[],[]⟩),
 (130,⟨19,[],[]⟩),
 (131,⟨19023213622105999119,[],[]⟩),
 (132,⟨22458641409078797123448399039441150152463,[],[]⟩),
 (133,⟨277,[],[]⟩),
 (134,⟨16661,[],[]⟩),
 (135,⟨19,[],[]⟩),
 (136,⟨137438969167,[],[]⟩),
 (137,⟨31703231,[],[]⟩),
 (138,⟨122927,[(1,[⟨0,false,[]⟩,⟨1,true,[]⟩,⟨2,false,[]⟩,⟨3,false,[]⟩,⟨6,true,[]⟩,⟨4,false,[1,6]⟩,⟨5,false,[]⟩,⟨7,false,[]⟩]),(5,[⟨0,false,[]⟩,⟨1,true,[]⟩,⟨2,false,[]⟩,⟨3,false,[1]⟩,⟨4,false,[]⟩,⟨5,false,[]⟩,⟨6,false,[]⟩,⟨7,false,[]⟩])],[]⟩),
 (139,⟨71,[],[]⟩),
 (140,⟨1476887283,[],[]⟩),
 (141,⟨66491,[],[]⟩),
 (142,⟨13,[],[]⟩),
 (143,⟨7,[],[]⟩),
 (144,⟨42535296023574879666274036850519702559,[],[]⟩),
 (145,⟨1267729331522265581494024469535,[],[]⟩),
 (146,⟨11,[],[]⟩),
 (147,⟨11,[],[]⟩),
 (148,⟨11,[],[]⟩),
 (149,⟨297454443079915801543,[],[]⟩),
 (150,⟨19,[],[]⟩),
 (151,⟨11,[],[]⟩),
 (152,⟨11,[],[]⟩),
 (153,⟨23,[],[]⟩),
 (154,⟨4503668346913551,[],[]⟩),
 (155,⟨5,[],[]⟩),
 (156,⟨5,[],[]⟩),
 (157,⟨71,[],[]⟩),
 (158,⟨1055,[],[]⟩),
 (159,⟨5,[],[]⟩),
 (160,⟨5,[],[]⟩),
 (161,⟨16883,[],[]⟩),
 (162,⟨17179886351,[],[]⟩),
 (163,⟨8592039695,[],[]⟩),
 (164,⟨35218731966215,[],[]⟩),
 (165,⟨1333065575601045263,[],[]⟩),
 (166,⟨33543,[],[]⟩),
 (167,⟨21268317252094917911888073248812900111,[],[]⟩),
 (168,⟨1217485249602318769183,[],[]⟩),
 (169,⟨22997644815212700899627017342834150232570911,[],[]⟩),
 (170,⟨262927,[],[]⟩),
 (172,⟨288231475663604767,[],[]⟩),
 (173,⟨271,[],[]⟩),
 (174,⟨4159,[],[]⟩),
 (175,⟨4197407,[],[]⟩)]
theorem Ka:FX Tryz.prog F6=true:=by kernel_rfl
theorem JI:uF (AY Tryz.prog [0] told F6 1000 40 6 [] ⟨H2 16384 32768,1⟩)=true:=by kernel_rfl
theorem awake37 {glob:List (Nat×(Σ t:Ty,t.den))} (hg:eK glob 0=some ⟨.arr 2 (.int .i64),[16384,32768]⟩):Con.Holds Tryz.prog glob 6 trueCon :=
 Dt (FZ (by kernel_rfl) (GA [0]) Ka 40) (by decide) (by decide) JI hg
end Go.Rx

