/-
 Iterators that append.
-/
import Derived.Shelf.SlIterI.Collect
import Derived.RangeFuncBox
import Derived.RangeFuncLeaves
import Derived.OwnWalkIn
import Derived.TacticsInMore
import Derived.LoopNIn
import Derived.LoopIn
import Derived.Test.YtnkjongpfleloaaGreatDoorSA
import Derived.Test.YtnkjongpfleloaaGreatDoorVmInl
open Nat renaming le_refl->B2,mul_one->SI
open Array renaming getElem?_eq_some_iff->L5,replicate_succ->SM,replicate_zero->SN
open List renaming length_cons->RJ,length_nil->RQ,size_toArray->Sm,nil_append->Sn,cons_append->Ss,append_toArray->SP,push_toArray->S1,getElem?_take_of_lt->TO
set_option linter.unusedVariables false
set_option linter.unusedSimpArgs false
/-
 slices.AppendSeq(nil, slices.Values(s)) at ints: what it gives. Turned from the kit's proof of AppendSeq and from its worked proof of slices.Values: here the rounds keep what lay before the call, which is all that slices.Values asks.
-/
namespace Go.Proofs
open Go.RowKit Go.Maps Go.Sort Go.Shelf
variable {P:Program}{ρ:Ren}
attribute [local go_sem] Oper.semAt_some
def vg(F:Fence)(n:Nat)(P:Program)(g:Nat)(lb:Array Value)(enc:Int->Value)(S:List Int->Prop)(N:Nat)(w:World):Prop:=
 ∀(l:Nat) (J:List Int->World->Prop) (W:World),Below w.heap.size w W->(∀ pre W,J pre W->Below w.heap.size w W) ->
 (∀ pre x W1,J pre W1->pre.length<N->YieldAt F (n-1) P l #[enc x] W1 λe W'=>e=.returned (.bool true)/\J (pre++[x]) W'/\KeepsWalks W1 W') ->
 J [] W ->
 CallsIn F n P g (#[.func (.yield l) #[] #[]]++lb) W λe W'=>(∃ v,e=.returned v)/\∃ xs,S xs/\J xs W'
set_option maxRecDepth 100000 in
set_option maxHeartbeats 2000000 in
theorem pk (L:SlLaysZI.n11 P ρ)(F:Fence)(n:Nat)(h11:F.fn (ρ.f 11))(hro:F.round=none)(hn:2<=n)(g:Nat)(lb:Array Value)(hFg:F.fn g)(eg:∀ args w,(callFunc g args).run P w=.ok (.enter g args) w)
  (S:List Int->Prop) (N:Nat) (hN:N<=maxLen) (hNb:N*8<=140737488355328) (w:World) (hseq:vg F (n-1) P g lb encZ S N w) :
  CallsIn F n P (ρ.f 11) #[.slice none 0 0,.func (.func g) #[] lb] w λe w'=>∃(v:Value) (ss:List Int),e=.returned v/\S ss/\w'.ownsRow w.heap.size (ρ.t 26) 1 v ss.length (ss.map encZ)/\(v=.slice none 0 0↔ss=[])/\Below w.heap.size w w':=by
 have h1:1<=n:=by omega
 have mixed:=L.mixed;have t0:=L.t0;have a0:=L.a0;have z0:=L.z0;have v0:=L.v0;have t24:=L.t24;have a24:=L.a24;have z24:=L.z24;have v24:=L.v24;have t26:=L.t26;have a26:=L.a26;have z26:=L.z26;have v26:=L.v26;have t28:=L.t28;have a28:=L.a28;have z28:=L.z28;have v28:=L.v28
 have hne:ρ.t 24≠ρ.t 26:=λe=>by have h:=L.t24;rw[e,L.t26]at h;cases h
 have u0:=run_underlying L.t0;have u24:=run_underlying L.t24;have u26:=run_underlying L.t26;have u28:=run_underlying L.t28
 obtain⟨_,_,FG⟩:=L.f11;refine callsIn_of_wp_marks FG rfl h11 ?_ hro;simp only[SlBodyZ.n11_ntmps ρ,Sm,RJ,RQ,Nat.reduceAdd,Nat.reduceSub,SM,SN,S1,SP,Sn,Ss]
 gi_wp2
 refine wpIn_rangeFunc ?_;intro fn hfn;rw[hro];obtain⟨W0,hW0⟩:∃ W0,w.alloc (.cells #[.slice none 0 0] (ρ.t 24))=W0:=⟨_,rfl⟩;have hs0:W0.heap.size=w.heap.size+1:=by rw[<- hW0];simp
 have hv0:W0.heap[w.heap.size]?=some (.cells #[.slice none 0 0] (ρ.t 24) (0,0)):=by rw[<- hW0];exact World.alloc_heap_new w _
 have hb0:Below w.heap.size w W0:=by rw[<- hW0];exact(Below.refl _ w).alloc (B2 _) _
 rw[hW0];obtain⟨W1,hW1⟩:∃ W1,(W0.alloc (.deferred (some []))).alloc (.loop (AnyZI.apRec ρ fn (.func (.func g) #[] lb) w.heap.size W0.heap.size .ready none))=W1:=⟨_,rfl⟩;have hold:∀ k,k<W0.heap.size->W1.heap[k]?=W0.heap[k]?:=λk hk=>by rw[<- hW1];exact(Below.heap_alloc _ _ k (by simp;omega)).trans (Below.heap_alloc _ _ k hk)
 have hb1:Below w.heap.size w W1:=by rw[<- hW1];exact(hb0.alloc hb0.size _).alloc (by have:=hb0.size;simp;omega) _
 have hs1:W1.heap.size=W0.heap.size+2:=by rw[<- hW1];simp
 have hM:AnyZI.ApAt ρ w fn (.func (.func g) #[] lb) w.heap.size (W0.heap.size+1) W0.heap.size [] W1:=
  ⟨⟨_,(hold w.heap.size (by omega)).trans hv0,⟨rfl,.inl ⟨rfl,rfl⟩⟩,by simp⟩,
   by rw[<- hW1];have:=World.alloc_heap_new (W0.alloc (.deferred (some []))) (.loop (AnyZI.apRec ρ fn (.func (.func g) #[] lb) w.heap.size W0.heap.size .ready none));rwa[World.size_alloc]at this,
   by rw[<- hW1];exact(Below.heap_alloc _ _ _ (by simp)).trans (World.alloc_heap_new W0 _),hb1⟩
 refine⟨W0.heap.size+1,[{ target:=.collected W0.heap.size,args:=#[] }],W1,{ target:=.fn (.func g) lb,args:=#[.func (.yield (W0.heap.size+1)) #[] #[]] },W1,g,
  #[.func (.yield (W0.heap.size+1)) #[] #[]]++lb,W1,?_,?_,?_,?_,λ_=>h1,?_⟩
 ·rw[<- hW1];exact run_enterLoop_outer _ _ _ _ _
 ·simp[resolve,go_sem]
 ·intro f' hf';simp[Target.leads]at hf';subst hf';exact hFg
 ·simp[invoke,go_sem,eg]
 refine(hseq (W0.heap.size+1) (AnyZI.ApAt ρ w fn (.func (.func g) #[] lb) w.heap.size (W0.heap.size+1) W0.heap.size) W1 hb1 (λpre W h=>h.below)
  (λpre x W hJ hl=>AnyZI.apYield { L with } F (n-1-1) w fn hfn _ w.heap.size (W0.heap.size+1) W0.heap.size (by omega) (by omega) (by omega) (B2 _) (by omega) N hN hNb pre x W hJ hl) hM).mono ?_
 rintro e W2 ⟨⟨v0,rfl⟩,ss,hS,h2⟩;obtain⟨v,hv,hrow,hnil⟩:=h2.box;have hend:=run_endLoop (P:=P) h2.L (by simp[AnyZI.apRec]);obtain⟨W3,hW3⟩:∃ W3,W2.putObj (W0.heap.size+1) (.loop { AnyZI.apRec ρ fn (.func (.func g) #[] lb) w.heap.size W0.heap.size .ready none with state:=.exhausted })=W3:=⟨_,rfl⟩;rw[hW3]at hend;have hg3:W2.grownBy W3 (some (W0.heap.size+1)):=by rw[<- hW3];exact grownBy_putObj_a _ _ _
 have hv3:W3.heap[w.heap.size]?=some (.cells #[v] (ρ.t 24) (0,0)):=by rw[<- hW3];exact(World.putObj_heap_other (by omega)).trans hv
 have hK3:W3.heap[W0.heap.size]?=some (.deferred (some [])):=by rw[<- hW3];exact(World.putObj_heap_other (by omega)).trans h2.K
 have hrow3:=hrow.kept hg3 (ownsRow_ne_a hrow h2.L (λcur e=>by first|cases e|exact hne (Obj.cells.inj e).2.1));have hb3:Below w.heap.size w W3:=h2.below.grown hg3 h2.below.size (λk e=>by cases e;omega);obtain⟨hc3,hf3⟩:=cell_of_box_a hv3;clear hW3;refine⟨none,W3,hend,?_⟩
 gi_wp2
 rw[<- hs0];refine⟨by simp,.inl ⟨_,_,rfl,run_takeDeferred hK3,?_⟩⟩;exact⟨_,results_tmp rfl _ _ _,v,ss,rfl,hS,hrow3.kept (grownBy_putObj_a _ _ _) (ownsRow_ne_a hrow3 hK3 (λcur e=>by first|cases e|exact hne (Obj.cells.inj e).2.1)),hnil,hb3.grown (grownBy_putObj_a _ _ _) hb3.size (λk e=>by cases e;omega)⟩
def fW{α:Type}(f:Nat->α)(k:Nat):List α:=(List.range k).map f
theorem tI{α:Type}(f:Nat->α)(k:Nat):fW f (k+1)=fW f k++[f k]:=by simp[fW,List.range_succ]
theorem qp{α:Type}(f:Nat->α)(k:Nat):(fW f k).length=k:=by simp[fW]
theorem vF(zs:List Int):fW (λj=>zs[j]?.getD 0) zs.length=zs:=by
 apply List.ext_getElem
 ·simp[fW]
 intro i h1 h2;simp[fW,h2]
set_option maxRecDepth 100000 in
set_option maxHeartbeats 2000000 in
theorem tM (F:Fence)(n:Nat)(h7:F.fn 238)(hro:F.round=none)(hn:1<=n)(l Bs bo n₀ b off len cap:Nat)(zs:List Int)(hreach:len * 8<=140737488351232)(hb:b < n₀)(w0:World)(J:List Int->World->Prop)
  (hJB:∀ pre W,J pre W->Below n₀ w0 W)
  (hY:∀ pre x W,J pre W->pre.length<len->YieldAt F (n-1) Tryz.prog l #[.int .i64 x] W λe W'=>
   e=.returned (.bool true)/\J (pre++[x]) W'/\KeepsWalks W W')
  (W:World) (hBs:W.cell? ⟨Bs,bo,none⟩=some (.slice (some ⟨b,off,none⟩) len cap)) (hc:∀ j,j<len->w0.cell? ⟨b,off+j,none⟩=some (.int .i64 (zs[j]?.getD 0))) (h0:J [] W) :
  CallsIn F n Tryz.prog 238 #[.func (.yield l) #[] #[],.pointer (some ⟨Bs,bo,none⟩)] W λe W'=>(∃ v,e=.returned v)/\J (fW (λj=>zs[j]?.getD 0) len) W':=by
 refine callsIn_of_wp Tryz.func238 rfl h7 ?_ hro;simp only[Tryz.ntmps238,Sm,RJ,RQ,Nat.reduceAdd,Nat.reduceSub,SM,SN,S1,SP,Sn,Ss]
 gi_wp2
 gi_loopw [7] (λi wr=>∃ k:Nat,k<=len/\i=.int .i64 k/\J (fW (λj=>zs[j]?.getD 0) k) wr)
  (λi _=>len-(Go.RowKit.intOf i).toNat)
 case atStart=>exact⟨0,Nat.zero_le _,rfl,h0⟩
 case round=>
  obtain⟨k,hk,rfl,hJs⟩:=hrel;have hcx:k<len->wr.cell? ⟨b,off+k,none⟩=some (.int .i64 (zs[k]?.getD 0)):=λh=>((hJB _ _ hJs).cell (p:=⟨b,off+k,none⟩) hb).trans (hc k h);by_cases hlt:k<len
  ·obtain⟨fn,tmps,assign,body,hy,hR⟩:=hY _ (zs[k]?.getD 0) wr hJs (by rw[qp];exact hlt);have hcx':=hcx hlt
   gi_wp2
   refine hR.mono ?_;rintro e W3 ⟨rfl,hJ3,hk3⟩
   gi_wp2
   go_roundw
   case rel=>exact⟨k+1,by omega,by simp,by rw[tI];exact hJ3⟩
   case measure=>simp[Go.RowKit.intOf];omega
  obtain rfl:k=len:=by omega
  gi_wp2
  go_end0
  exact⟨⟨_,rfl⟩,hJs⟩
set_option maxRecDepth 100000 in
set_option maxHeartbeats 1000000 in
theorem rN (F:Fence)(n:Nat)(h7:F.fn 238)(hro:F.round=none)(l Bs bo:Nat)(J:List Int->World->Prop)(W:World)(hBs:W.cell? ⟨Bs,bo,none⟩=some (.slice none 0 0))(h0:J [] W) :
  CallsIn F n Tryz.prog 238 #[.func (.yield l) #[] #[],.pointer (some ⟨Bs,bo,none⟩)] W λe W'=>(∃ v,e=.returned v)/\J [] W':=by
 refine callsIn_of_wp Tryz.func238 rfl h7 ?_ hro;simp only[Tryz.ntmps238,Sm,RJ,RQ,Nat.reduceAdd,Nat.reduceSub,SM,SN,S1,SP,Sn,Ss]
 gi_wp2
 gi_loopw [7] (λi wr=>i=.int .i64 0/\J [] wr) (λ_ _=>0)
 case atStart=>exact⟨rfl,h0⟩
 case round=>
  obtain⟨rfl,hJs⟩:=hrel
  gi_wp2
  go_end0
  exact⟨⟨_,rfl⟩,hJs⟩
theorem ol (w:World)(Bs bo:Nat)(v:Value)(zs:List Int)(hlen:zs.length<=1000000)(hlt:Bs < w.heap.size)(hBs:w.cell? ⟨Bs,bo,none⟩=some v)
  (hv:(v=.slice none 0 0/\zs=[])\/∃ b off cap,v=.slice (some ⟨b,off,none⟩) zs.length cap/\b<w.heap.size/\∀ j,j<zs.length->w.cell? ⟨b,off+j,none⟩=some (.int .i64 (zs[j]?.getD 0))) :
  Calls Tryz.prog 248 #[.slice none 0 0,.func (.func 238) #[] #[.pointer (some ⟨Bs,bo,none⟩)]] w λe w'=>∃ v,e=.returned v/\w'.ownsRow w.heap.size 3 1 v zs.length (zs.map encZ)/\(v=.slice none 0 0↔zs=[])/\Below w.heap.size w w':=by
 refine(callsIn_wide (n:=6)).1 ?_;have hseq:vg Fence.wide (6-1) Tryz.prog 238 #[.pointer (some ⟨Bs,bo,none⟩)] encZ (λss=>ss=zs) 1000000 w:=by
  intro l J W hW hJB hY h0;have hc:=(hW.cell (p:=⟨Bs,bo,none⟩) hlt).trans hBs;rcases hv with⟨rfl,rfl⟩|⟨b,off,cap,rfl,hb,hcs⟩
  ·exact(rN Fence.wide (6-1) trivial rfl l Bs bo J W hc h0).mono λe W' ⟨he,hj⟩=>⟨he,_,rfl,hj⟩
  refine(tM Fence.wide (6-1) trivial rfl (by omega) l Bs bo w.heap.size b off zs.length cap zs (by omega) hb w J hJB (λpre x W1 h1 h2=>hY pre x W1 h1 (by omega)) W hc hcs h0).mono ?_;rintro e W' ⟨he,hj⟩;rw[vF]at hj;exact⟨he,_,rfl,hj⟩
 refine(pk (ρ:=Tryz.laysAp_ren) Tryz.laysAp Fence.wide 6 trivial rfl (by omega) 238 #[.pointer (some ⟨Bs,bo,none⟩)] trivial (enters_of Tryz.func238 (by kernel_rfl) rfl) _ 1000000 (by unfold maxLen;omega) (by omega) w hseq).mono ?_;rintro e w' ⟨v,ss,rfl,rfl,hrow,hnil,hb⟩;exact⟨v,rfl,hrow,hnil,hb⟩
end Go.Proofs

/-
 slices.AppendSeq(nil, slices.Values(s)), called in its place.
-/
namespace Go.Vm
open Go.Proofs Go.RowKit
noncomputable def app248(G:Heap):List SV->Option (SV×Heap)
 |[.av (.nils d),.av (.clo f [i])]=>match G.get i with
  |some (.box [a])=>match aL G (.slice (.int .i64)) a with
   |some l=>cond (d&&Nat.beq f 238 && !l.isEmpty&&Nat.ble l.length 1000000 && !Heap.has G (aE 64 G 999)) (some (.av (.own (aE 64 G 999)),[(aE 64 G 999,.arr (.int .i64) l)])) none
   |none=>none
  |_=>none
 |_=>none
theorem CO{cur:Array Value}{l:List Int}(h:cur.toList.take (l.length*1)=l.map encZ)(i:Nat)(hi:i<l.length):seg cur (0+i*1) 1=[.int .i64 l[i]]:=by
 have e:(cur.toList.take (l.length*1))[i]?=some (.int .i64 l[i]):=by rw[h];simp[encZ,hi]
 rw[TO (by omega)]at e;obtain⟨h1,h2⟩:=List.getElem?_eq_some_iff.1 e;unfold seg;rw[Nat.zero_add,SI,List.drop_eq_getElem_cons h1,h2];rfl
theorem Cp{glob:List (Nat×(Σ t:Ty,t.den))}:na Tryz.prog glob 248 app248:=by
 intro C w0 M m us vs sv X _ hi hr h;unfold app248 at h;split at h
 ·rename_i d f i;split at h
  ·rename_i a hb;split at h
   ·rename_i l ha;match us,hr with
    |[u1,u2],hr=>
    obtain⟨h1,h2,_⟩:=hr;rw[cond_eq_ite]at h;split at h
    ·rename_i hc;simp only[Bool.and_eq_true,Bool.not_eq_true',Nat.ble_eq,List.isEmpty_eq_false_iff]at hc;obtain⟨⟨⟨⟨rfl,hf⟩,hne⟩,hlen⟩,hnew⟩:=hc;obtain rfl:=Nat.eq_of_beq_eq_true hf;obtain⟨ad,rfl,hn⟩:=h1;obtain rfl:=hn rfl;obtain⟨cs,rfl,hcs⟩:=h2;match cs,hcs with
     |[p],hcs=>
     obtain⟨⟨o,ho,hp⟩,_⟩:=hcs;rw[hb]at ho;cases ho;obtain⟨b,hb1,rfl⟩:=hp;obtain⟨b',c,el,k1,k2,k3,k4⟩:=hi.objs i _ hb;rw[hb1]at k1;cases k1;match hcl:c.toList,k4 with
     |[v],k4=>
     have hcell:m.w.cell? ⟨b,0,none⟩=some v:=by unfold World.cell?;rw[k2];have:=congrArg (λl=>l[0]?) hcl;simpa using this
     have hlt:∀{b:Nat} {o:Go.Obj},m.w.heap[b]?=some o->b<m.w.heap.size:=λh=>(L5.1 h).1;obtain⟨ad,cap,e1,e2,e3,e4⟩:=cN hi ha k4.1;obtain⟨g,off,cc,el',fz,rfl,q2,q3,q4,q5⟩:=e4 hne;cases e1;have hfin:=ol m.w b 0 _ l hlen (hlt k2) hcell (.inr ⟨g,off,cap,rfl,hlt q3,λj hj=>by
      have q:=(q5 j hj).1;unfold World.cell?;rw[q3];simp only[Option.isSome_none,Bool.false_eq_true,if_false];unfold seg at q;have q0:=congrArg (λl=>l[0]?) q;simp only[Ty.size,SI,TO (Nat.zero_lt_one),List.getElem?_drop,Nat.add_zero,Array.getElem?_toList,List.getElem?_cons_zero]at q0;rw[q0];simp[hj]⟩)
     cases h;refine .inl ⟨enters_of Tryz.func248 (by kernel_rfl) rfl _ _,Calls.mono hfin ?_⟩;rintro e w' ⟨v',rfl,⟨hrow1,hrow⟩,hnil,hbel⟩;refine⟨v',rfl,?_⟩;rcases hrow with⟨rfl,h0⟩|⟨g',cap',cur,rfl,g1,g2,g3,g4,g5,g6⟩
     ·exact absurd (hnil.1 rfl) hne
     have hnone:m.G.get (aE 64 m.G 999)=none:=by
      cases hg:m.G.get (aE 64 m.G 999)with
      |none=>rfl
      |some o=>rw[Heap.has_of_get hg]at hnew;cases hnew
     have hst:=jw hi (w1:=w') (i:=aE 64 m.G 999) (o:=.arr (.int .i64) l) (h:=.slice (some ⟨g',0,none⟩) l.length cap')
      ⟨hbel.os,hbel.tape,hbel.output,hbel.size,λb hb _=>hbel.block b hb⟩ hnone
      (λb hb=>by
       obtain⟨_,_,e1,rfl⟩:=Ii.1 hb;cases e1;exact⟨g1,(L5.1 g2).1⟩)
      ⟨some ⟨g',0,none⟩,cap',by simp,g3,g4,λ_=>⟨g',0,cur,3,(0,0),rfl,g2,.inl (B2 _),by simp only[Ty.size];omega,λi hi'=>by
       refine⟨CO g6 i hi',?_⟩;exact(q5 i hi').2⟩⟩
     refine⟨_,rfl,rfl,hst.1,hst.2,?_⟩;refine⟨rfl,.arr (.int .i64) l,by rw[Heap.get_cons,if_pos rfl],λ_=>by simp⟩
    cases h
   cases h
  cases h
 cases h
end Go.Vm

