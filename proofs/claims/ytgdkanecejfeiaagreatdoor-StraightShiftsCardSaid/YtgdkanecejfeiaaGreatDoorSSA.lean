/-
 slices.Replace and slices.Insert at numbers.
-/
import Derived.Test.YtgdkanecejfeiaaGreatDoorSVmC
import Derived.Shelf.Spec.SlicesInsert
import Derived.WalkKit
import Derived.Test.YtgdkanecejfeiaaGreatDoorProg
import Derived.Test.YtgdkanecejfeiaaGreatDoorSVmExt4
import Derived.OwnWalkIn
import Derived.TacticsInMore
import Derived.LoopIn
import Derived.Test.YtgdkanecejfeiaaGreatDoorSXG
open Option.some renaming injEq→A1
open List renaming replicate→A6,mem_append→B1,length_cons→La,getElem_append_left→LB,mem_singleton→LD,length_nil→LG,getElem_append_right→LS,length_drop→LY,mem_of_mem_drop→MB
open Int renaming toNat_natCast→B8,toNat_of_nonneg→OD
open Nat renaming add_assoc→Lo,lt_or_ge→Me,min_def→O9
set_option linter.unusedVariables false
set_option linter.unusedSimpArgs false
/-
 A call that comes to a value, of a function that has a body.
-/
namespace Go.Vm
section
variable {P:Program}
theorem Ap {f:Nat} {vs:Array Value} {w:World} {R:Value→World→Prop} (he:(callFunc f vs).run P w=.ok (.enter f vs) w) (h:Goes P f vs w R):Calls P f vs w fun e w'=>∃ v,e=.returned v∧R v w':=by
 rcases h with ⟨_,h⟩ | ⟨v,w',h,_⟩
 ·exact h
 ·rw [he] at h; cases h
end
end Go.Vm

/-
 slices.Replace at numbers: one value in the place of some.
-/
namespace Go.Proofs
open Go.RowKit Go.Shelf Go.Lib
set_option maxRecDepth 100000 in
set_option maxHeartbeats 4000000 in
theorem xF (b off n c i j vb voff vc:Nat) (cs:List Value) (x:Value) (w:World) (hij:i < j) (hj:j < n) (hnc:n≤c) (hc63:c≤9223372036854775807) (hvb:vb≠b)
  (hcl:cs.length=n) (hcs:∀ j v,cs[j]?=some v→w.cell? ⟨b,off+j,none⟩=some v) (hsp:∀ j,j < c→(w.cell? ⟨b,off+j,none⟩).isSome=true) (hfz:∀ j,j < c→w.frozen? ⟨b,off+j,none⟩=false)
  (hv:w.cell? ⟨vb,voff,none⟩=some x) (h1c:∀ v∈cs,v.oneCell'=true) (h1v:x.oneCell'=true) :
  Calls Tryz.prog 19 #[.slice (some ⟨b,off,none⟩) n c,.int .i64 i,.int .i64 j,.slice (some ⟨vb,voff,none⟩) 1 vc] w fun e w' =>
   e=.returned (.slice (some ⟨b,off,none⟩) (i+1+(n - j)) c) ∧
   w'=(((w.drew.setCells b (off+i) [x]).drew.setCells b (off+(i+1)) (cs.drop j)).setCells b (off+(i+1+(n - j))) (A6 (n - (i+1+(n - j))) (.int .i64 0))):=by
 have hw1:IntKind.i64.wrap ((i:Int)+1)=(i:Int)+1:=by rw [IntKind.wrap_i64]; omega
 have hw2:IntKind.i64.wrap ((i:Int)+1+((n - j:Nat):Int))=((i+1+(n - j):Nat):Int):=by rw [IntKind.wrap_i64]; omega
 have hic:i≤c:=by omega
 have hin:i≤n:=by omega
 have hjn:j≤n:=by omega
 have hb1:¬ (c=i):=by omega
 have hb2:¬ (c=j):=by omega
 have hm1:(0:Int)≤(i:Int)+1+((n - j:Nat):Int):=by omega
 have hm2:((i:Int)+1+((n - j:Nat):Int)).toNat=i+1+(n - j):=by omega
 have hm3:(i:Int)+1+((n - j:Nat):Int)≤(c:Int):=by omega
 have hm4:(i:Int)+1+((n - j:Nat):Int)≤(n:Int):=by omega
 have hm5:¬ ((c:Int) < (i:Int)+1+((n - j:Nat):Int)):=by omega
 have hm6:(0:Int)≤(i:Int)+1:=by omega
 have hm7:((i:Int)+1).toNat=i+1:=by omega
 have hm8:(i:Int)+1≤(j:Int):=by omega
 have hm9:(i:Int)+1≤((i+1+(n - j):Nat):Int):=by omega
 have hm10:(i:Int)+1≤(c:Int):=by omega
 have hm11:(i:Int)+1≤(i:Int)+1+((n - j:Nat):Int):=by omega
 have hb4:¬ (c=i+1):=by omega
 have hnj:¬ (n - j=0):=by omega
 have mixed:Tryz.prog.follows Departure.mixedOrders=true:=by kernel_rfl
 have hu:Tryz.prog.underlying 26=some (.slice 3):=by kernel_rfl
 have hsz:(Tryz.prog.info? 3).map (·.size)=some 1:=by kernel_rfl
 have hdl:(cs.drop j).length=n - j:=by rw [LY,hcl]
 have hcp1:∀ W:World,(∀ p,W.cell? p=w.cell? p)→(∀ p,W.frozen? p=w.frozen? p)→∀ ty dc sc,(Builtin.copy_ #[26,26] ty #[.slice (some ⟨b,off+i,none⟩) (i+1+(n - j) - i) dc,.slice (some ⟨vb,voff,none⟩) 1 sc]).run Tryz.prog W=.ok (goInt ([x]:List Value).length) (W.setCells b (off+i) [x]):=fun W hWc hWf ty dc sc =>
  run_copy_cells W _ _ ty 3 b (off+i) (i+1+(n - j) - i) dc ⟨vb,voff,none⟩ 1 sc [x] hu hsz (by simp only [La,LG,O9]; split <;> omega)
   (fun k v hk=>by
    cases k with
    | zero=>simp only [List.getElem?_cons_zero,A1] at hk; subst hk; rw [Addr.add_lit,hWc]; exact hv
    | succ k=>simp at hk)
   (fun k hk=>by rw [hWc,Lo]; simp only [La,LG] at hk; exact hsp _ (by omega)) (fun k hk=>by rw [hWf,Lo]; simp only [La,LG] at hk; exact hfz _ (by omega)) (fun v hv'=>by rw [LD] at hv'; subst hv'; exact h1v)
 obtain ⟨W1,hW1⟩ : ∃ W1,W1=(w.drew.setCells b (off+i) [x]).drew:=⟨_,rfl⟩
 have hsp1:∀ k,k < c→(W1.cell? ⟨b,off+k,none⟩).isSome=true:=fun k hk=>by
  rw [hW1]
  exact isSome_setCells b [x] (off+i) w.drew (fun q hq=>by simp only [La,LG] at hq; rw [Lo]; exact hsp _ (by omega)) _ (hsp k hk)
 have hfz1:∀ k,k < c→W1.frozen? ⟨b,off+k,none⟩=false:=fun k hk=>by
  rw [hW1]
  show ((w.drew.setCells b (off+i) [x])).frozen? _=_
  rw [World.frozen?_setCells]; exact hfz k hk
 have hcp2:∀ ty dc sc,(Builtin.copy_ #[26,26] ty #[.slice (some ⟨b,off+(i+1),none⟩) (n - j) dc,.slice (some ⟨b,off+j,none⟩) (n - j) sc]).run Tryz.prog W1=.ok (goInt (cs.drop j).length) (W1.setCells b (off+(i+1)) (cs.drop j)):=fun ty dc sc =>
  run_copy_cells W1 _ _ ty 3 b (off+(i+1)) (n - j) dc ⟨b,off+j,none⟩ (n - j) sc (cs.drop j) hu hsz (by rw [hdl]; simp only [O9]; split <;> omega)
   (fun k v hk=>by
    rw [Addr.add_lit,hW1]
    show (w.drew.setCells b (off+i) [x]).cell? _=_
    rw [World.cell?_setCells_out _ _ _ _ _ (fun _ _=>by show off+j+k < off+i∨off+i+1≤off+j+k; omega),Lo]
    exact hcs (j+k) v (by rwa [List.getElem?_drop] at hk))
   (fun k hk=>by rw [hdl] at hk; rw [Lo]; exact hsp1 _ (by omega)) (fun k hk=>by rw [hdl] at hk; rw [Lo]; exact hfz1 _ (by omega)) (fun v hv'=>h1c v (MB hv'))
 subst hW1
 have hz:∀ w,(zeroValue 3).run Tryz.prog w=.ok (.int .i64 0) w:=fun w=>by kernel_rfl
 obtain ⟨W2,hW2⟩ : ∃ W2,W2=(w.drew.setCells b (off+i) [x]).drew.setCells b (off+(i+1)) (cs.drop j):=⟨_,rfl⟩
 have hsp2:∀ k,k < c→(W2.cell? ⟨b,off+k,none⟩).isSome=true:=fun k hk=>by
  rw [hW2]
  exact isSome_setCells b _ _ _ (fun q hq=>by rw [hdl] at hq; rw [Lo]; exact hsp1 _ (by omega)) _ (hsp1 k hk)
 have hfz2:∀ k,k < c→W2.frozen? ⟨b,off+k,none⟩=false:=fun k hk=>by
  rw [hW2,World.frozen?_setCells]; exact hfz1 k hk
 have hclr:∀ ty sc,(Builtin.clear_ #[26] ty #[.slice (some ⟨b,off+(i+1+(n - j)),none⟩) (n - (i+1+(n - j))) sc]).run Tryz.prog W2=.ok (.tuple #[]) (W2.setCells b (off+(i+1+(n - j))) (A6 (n - (i+1+(n - j))) (.int .i64 0))):=fun ty sc=>by
  by_cases h0:n - (i+1+(n - j))=0
  ·rw [h0]
   simp [Builtin.clear_,run_underlying hu,World.setCells]
  ·exact Lib.run_clear_slice W2 26 3 ty (.int .i64 0) hu hz rfl rfl b _ _ sc (by omega) (fun k hk=>by rw [Lo]; exact hsp2 _ (by omega)) (fun k hk=>by rw [Lo]; exact hfz2 _ (by omega))
 subst hW2
 by_cases hc:c=i+1+(n - j)
 ·have h0:n - (i+1+(n - j))=0:=by omega
  have hclr0:∀ ty sc,(Builtin.clear_ #[26] ty #[.slice (some ⟨b,off,none⟩) 0 sc]).run Tryz.prog ((w.drew.setCells b (off+i) [x]).drew.setCells b (off+(i+1)) (cs.drop j))=.ok (.tuple #[]) ((w.drew.setCells b (off+i) [x]).drew.setCells b (off+(i+1)) (cs.drop j)):=fun ty sc=>by
   simp [Builtin.clear_,run_underlying hu,World.setCells]
  clear hclr
  subst hc
  go_enter Tryz.func19,Tryz.ntmps19
  go_wp2
  have hcw:=hcp1 w.drew (fun _=>rfl) (fun _=>rfl)
  go_region_o
  go_wp2_with (simp only [hcw])
  go_region_law_o (refine step_copy_runI rfl _ _ 26 26 rfl _ _ (by simp [Act.eval,Act.put]) (by simp [Act.eval,Act.put]) (hcp2 _ _ _) ?_)
  go_wp2_with (simp only [hclr0])
  go_ret
  exact ⟨rfl,by rw [h0]; rfl⟩
 ·go_enter Tryz.func19,Tryz.ntmps19
  go_wp2
  have hcw:=hcp1 w.drew (fun _=>rfl) (fun _=>rfl)
  go_region_o
  go_wp2_with (simp only [hcw])
  go_region_law_o (refine step_copy_runI rfl _ _ 26 26 rfl _ _ (by simp [Act.eval,Act.put]) (by simp [Act.eval,Act.put]) (hcp2 _ _ _) ?_)
  go_wp2_with (simp only [hclr])
  go_ret
  exact ⟨rfl,rfl⟩
end Go.Proofs

/-
 slices.Replace at numbers as a contract of the machine: one value in the place of some, of none.
-/
namespace Go.Proofs
open Go.RowKit Go.Shelf Go.Lib
attribute [local go_sem] Oper.semAt_some
set_option maxRecDepth 100000 in
set_option maxHeartbeats 4000000 in
theorem xf (b off n c i:Nat) (u3:Value) (w:World) (hin:i < n) (hnc:n≤c) (R:Value→World→Prop)
  (hI:Calls Tryz.prog 46 #[.slice (some ⟨b,off,none⟩) n c,.int .i64 i,u3] w fun e w'=>∃ v,e=.returned v∧R v w') :
  Calls Tryz.prog 19 #[.slice (some ⟨b,off,none⟩) n c,.int .i64 i,.int .i64 i,u3] w fun e w'=>∃ v,e=.returned v∧R v w':=by
 have hic:i≤c:=by omega
 have hb1:¬ (c=i):=by omega
 refine (callsIn_wide (n:=2)).1 ?_
 refine callsIn_of_wp Tryz.func19 rfl trivial ?_ rfl
 simp only [Tryz.ntmps19,List.size_toArray,La,LG,Nat.reduceAdd,Nat.reduceSub,Array.replicate_succ,Array.replicate_zero,List.push_toArray,List.append_toArray,List.nil_append,List.cons_append]
 gi_wp2
 refine ⟨trivial,(callsIn_wide.2 hI).mono ?_⟩
 rintro e w' ⟨v,rfl,hv⟩
 gi_wp2
 go_ret
 exact ⟨_,rfl,hv⟩
end Go.Proofs
namespace Go.Vm
open Go.Proofs Go.RowKit Go.Shelf Go.Sort
def Fa (l:List Int) (i j:Int) (vs:List Int):Option (List Int×Unit) :=
 if 0≤i∧i≤j∧j < l.length∧vs.length=1∧l.length+1≤lim then some (l.take i.toNat++vs++l.drop j.toNat,()) else none
def replaceC:Con:={ ins:=[(.take,.slice (.int .i64)),(.rd,.int .i64),(.rd,.int .i64),(.take,.slice (.int .i64))],outs:=[(true,.slice (.int .i64))],fn:=fun x=>Fa x.1 x.2.1 x.2.2.1 x.2.2.2.1 }
theorem DL {glob:List (Nat×(Σ t:Ty,t.den))} {w w':World} {F:Nat→Prop} {u1 u2 u3 u4:Value} {x:(aB (replaceC.ins.map (·.2))).den} {R:List Int} {b off cap:Nat} {H:Array Go.Obj} {c':Array Value} {el:TypeId} {fz:Nat×Nat}
  (hp:Pre glob w F replaceC.ins [u1,u2,u3,u4] x) {n0:Nat} (hu:u1=.slice (some ⟨b,off,none⟩) n0 cap) (hcap:cap≠0)
  (ho:w'.os=w.os) (ht:w'.tape=w.tape) (hu':w'.output=w.output) (hs:w'.heap.size=w.heap.size) (hk:∀ k,k≠b→w'.heap[k]?=w.heap[k]?)
  (hb:w'.heap[b]?=some (.cells c' el fz)) (hc:d8 (.int .i64) c'.size fz) (h4:off+cap * 1≤c'.size) (hl:R.length≤cap) (hm:cap≤maxLen)
  (h5:∀ i (h:i < R.length),w'.cell? ⟨b,off+i,none⟩=some (.int .i64 R[i])) (h6:∀ n∈R,IntKind.i64.min≤n∧n≤IntKind.i64.max) :
  ∃ F2 css,xy w F replaceC.ins [u1,u2,u3,u4] replaceC.outs (R,()) (.slice (some ⟨b,off,none⟩) R.length cap) w' F2 css replaceC.deep:=by
 have hblk:HB u1 b:=by rw [hu]; simp [HB,HB1,hcap]
 have hown:=hp.own u1 (by simp [ax,replaceC]) b hblk
 refine ⟨F,[[.slice (some ⟨b,off,none⟩) R.length cap]],⟨ho,ht,hu',by rw [hs]; exact Nat.le_refl _,fun b' _ hn=>?_⟩,fun _ h=>h,fun b' hb'=>⟨by rw [hs]; exact hp.fro b' hb',.inl hb'⟩,rfl,⟨⟨_,rfl,oA hb hc h4 hl hm h5 h6⟩,trivial⟩,trivial,?_,?_⟩
 ·refine hk b' ?_
  rintro rfl
  exact hn ⟨u1,by simp [ax,replaceC],hblk⟩
 ·show cz [_]
  exact List.pairwise_singleton _ _
 ·intro v hv b' hb'
  have hv:v=.slice (some ⟨b,off,none⟩) R.length cap:=by simpa [bZ,aR,aX,replaceC] using hv
  subst hv
  have:b'=b:=by have h9:=hb'; simp [HB,HB1,hcap] at h9; exact h9.symm
  subst this
  exact ⟨.inr ⟨u1,by simp [ax,replaceC],hblk⟩,hown.1,by rw [hs]; exact hown.2⟩
theorem yN {glob:List (Nat×(Σ t:Ty,t.den))} (hI:Con.Holds Tryz.prog glob 46 insertC):Con.Holds Tryz.prog glob 19 replaceC:=by
 refine Con.Holds.plain rfl ?_
 intro w F us x r hp hr
 obtain ⟨l,i,j,vs,u0⟩:=x
 have hfn:Fa l i j vs=some r:=hr
 unfold Fa at hfn
 by_cases hc:0≤i∧i≤j∧j < l.length∧vs.length=1∧l.length+1≤lim
 case neg=>rw [if_neg hc] at hfn; cases hfn
 rw [if_pos hc] at hfn
 cases hfn
 obtain ⟨hi0,hij,hj,hv1,hlim⟩:=hc
 obtain ⟨i,rfl⟩ : ∃ k:Nat,i=(k:Int):=⟨i.toNat,(OD hi0).symm⟩
 obtain ⟨j,rfl⟩ : ∃ k:Nat,j=(k:Int):=⟨j.toNat,(OD (Int.le_trans hi0 hij)).symm⟩
 have hij:i≤j:=Int.ofNat_le.1 hij
 have hj:j < l.length:=Int.ofNat_lt.1 hj
 clear hi0
 simp only [B8]
 match us,hp.args with
 | [u1,u2,u3,u4],hargs =>
  have hu1:HdrW w F u1 (.int .i64) l:=hargs.1
  have hu2:∃ cs,u2=toV (.int .i64) cs∧Rd w F (.int .i64) cs (i:Int):=hargs.2.1
  have hu3:∃ cs,u3=toV (.int .i64) cs∧Rd w F (.int .i64) cs (j:Int):=hargs.2.2.1
  have hu4:HdrW w F u4 (.int .i64) vs:=hargs.2.2.2.1
  obtain ⟨cs2,rfl,hr2⟩:=hu2
  obtain ⟨rfl,hb2⟩:=hr2
  obtain ⟨cs3,rfl,hr3⟩:=hu3
  obtain ⟨rfl,hb3⟩:=hr3
  have hbl:=jI hu1
  have hbv:=jI hu4
  have hap:cz [u1,u4]:=hp.apart
  have hu1':=hu1
  have hu4':=hu4
  obtain ⟨ad,cap,rfl,h1,h2,h3⟩:=hu1
  obtain ⟨ad4,cap4,rfl,v1,v2,v3⟩:=hu4
  obtain ⟨vb,voff,vc,vel,vfz,rfl,w2,w3,w4,w5⟩:=v3 (by omega)
  obtain ⟨b,off,c,el,fz,rfl,q2,q3,q4,q5⟩:=h3 (by omega)
  have hen:∀ args w,(callFunc 19 args).run Tryz.prog w=.ok (.enter 19 args) w:=enters_of Tryz.func19 (by kernel_rfl) rfl
  have hei:∀ args w,(callFunc 46 args).run Tryz.prog w=.ok (.enter 46 args) w:=enters_of Tryz.func46 (by kernel_rfl) rfl
  refine .inl ⟨hen _ _,?_⟩
  have hlm:lim=68719476736:=rfl
  rcases Me i j with hlt | hge
  ·-- in its place
   have hcap:cap≠0:=by omega
   obtain ⟨x,rfl⟩ : ∃ x,vs=[x]:=List.length_eq_one_iff.1 hv1
   have q4':off+cap * 1≤c.size:=by simpa [Ty.size] using q4
   have hcl':=fK q2 q3 q4' h1 (by simpa [Ty.size] using q5)
   have hcv:=fK w2 w3 (by simpa [Ty.size] using w4) v1 (by simpa [Ty.size] using w5) 0 _ rfl
   have hvb:vb≠b:=by
    rintro rfl
    refine (List.pairwise_cons.1 hap).1 _ (LD.2 rfl) vb ?_ ?_
    ·simp [HB,HB1,hcap]
    ·simp only [La,LG] at v1
     simp [HB,HB1]; omega
   have hsp:∀ k,k < cap→(w.cell? ⟨b,off+k,none⟩).isSome=true:=fun k hk=>by
    rw [bO q2,Array.getElem?_eq_getElem (by omega)]; rfl
   have hfz:∀ k,k < cap→w.frozen? ⟨b,off+k,none⟩=false:=fun k hk=>fb q2 q3 (off+k) (by omega)
   have hmx:maxLen=9223372036854775807:=rfl
   have hcl:(l.map (Value.int .i64)).length=l.length:=List.length_map ..
   have hj':j < l.length:=by omega
   have hR:(l.take i++[x]++l.drop j).length=i+1+(l.length - j):=by simp; omega
   have hgo:=xF b off l.length cap i j vb voff cap4 (l.map (Value.int .i64)) (.int .i64 x) w hlt hj' h1 (by omega) hvb hcl hcl' hsp hfz hcv (qU l) rfl
   refine Calls.mono hgo ?_
   rintro e w' ⟨rfl,hw'⟩
   obtain ⟨H1,g1,g2,g3,g4⟩:=ca b [Value.int .i64 x] (off+i) w.drew
   obtain ⟨c1,g5,g6⟩:=g4 c el fz q2
   obtain ⟨W1,hW1⟩ : ∃ W1,W1=(w.drew.setCells b (off+i) [.int .i64 x]).drew:=⟨_,rfl⟩
   rw [← hW1] at hw'
   have k1:W1.heap=H1:=by rw [hW1,g1]; rfl
   obtain ⟨H2,e1,e2,e3,e4⟩:=ca b ((l.map (Value.int .i64)).drop j) (off+(i+1)) W1
   obtain ⟨c2,e5,e6⟩:=e4 c1 el fz (by rw [k1]; exact g5)
   obtain ⟨W2,hW2⟩ : ∃ W2,W2=W1.setCells b (off+(i+1)) ((l.map (Value.int .i64)).drop j):=⟨_,rfl⟩
   rw [← hW2] at hw' e1
   have k2:W2.heap=H2:=by rw [e1]
   obtain ⟨H,f1,f2,f3,f4⟩:=ca b (A6 (l.length - (i+1+(l.length - j))) (Value.int .i64 0)) (off+(i+1+(l.length - j))) W2
   obtain ⟨c',f5,f6⟩:=f4 c2 el fz (by rw [k2]; exact e5)
   have hdl:((l.map (Value.int .i64)).drop j).length=l.length - j:=by rw [LY,hcl]
   have hsp1:∀ k,k < cap→(W1.cell? ⟨b,off+k,none⟩).isSome=true:=fun k hk=>by
    rw [hW1]
    exact isSome_setCells b [Value.int .i64 x] (off+i) w.drew (fun q hq=>by simp only [La,LG] at hq; rw [Lo]; exact hsp _ (by omega)) _ (hsp k hk)
   have hcell:∀ k (hk:k < (l.take i++[x]++l.drop j).length),w'.cell? ⟨b,off+k,none⟩=some (.int .i64 (l.take i++[x]++l.drop j)[k]):=by
    intro k hk
    rw [hw']
    rw [World.cell?_setCells_out _ _ _ _ _ (fun _ _=>by show off+k < off+(i+1+(l.length - j))∨_; omega),hW2]
    by_cases hki:k < i+1
    ·rw [World.cell?_setCells_out _ _ _ _ _ (fun _ _=>by show off+k < off+(i+1)∨_; omega),hW1]
     show (w.drew.setCells b (off+i) [.int .i64 x]).cell? _=_
     rcases Me k i with hk2 | hk2
     ·rw [World.cell?_setCells_out _ _ _ _ _ (fun _ _=>by show off+k < off+i∨_; omega)]
      refine hcl' k _ ?_
      rw [List.getElem?_map,List.getElem?_eq_getElem (by omega)]
      rw [LB (by simp; omega),LB (by simp; omega),List.getElem_take]
      rfl
     ·have:k=i:=by omega
      subst this
      have:=World.cell?_setCells_in b [Value.int .i64 x] (off+k) w.drew (fun q hq=>by simp only [La,LG] at hq; rw [Lo]; exact hsp _ (by omega)) 0 (by simp)
      rw [Nat.add_zero] at this
      rw [this,LB (by simp; omega),LS (by simp; omega)]
      simp
    ·have:=World.cell?_setCells_in b ((l.map (Value.int .i64)).drop j) (off+(i+1)) W1 (fun q hq=>by rw [hdl] at hq; rw [Lo]; exact hsp1 _ (by omega)) (k - (i+1)) (by rw [hdl]; omega)
     rw [show off+(i+1)+(k - (i+1))=off+k by omega] at this
     rw [this,LS (by simp; omega)]
     simp [Nat.min_eq_left (show i≤l.length by omega)]
   refine ⟨_,rfl,?_⟩
   rw [← hR]
   exact DL (H:=H) hp rfl hcap (by rw [hw',f1,e1,hW1,g1]; rfl) (by rw [hw',f1,e1,hW1,g1]; rfl) (by rw [hw',f1,e1,hW1,g1]; rfl) (by rw [hw',f1]; show H.size=_; rw [f2,k2,e2,k1,g2]; rfl) (fun q hq=>by rw [hw',f1]; show H[q]?=_; rw [f3 q hq,k2,e3 q hq,k1,g3 q hq]; rfl) (by rw [hw',f1]; exact f5) (by rw [f6,e6,g6]; exact q3) (by rw [f6,e6,g6]; omega) (by omega) h2 hcell (by
    intro n hn
    rcases B1.1 hn with hn | hn
    ·rcases B1.1 hn with hn | hn
     ·exact hbl n (List.mem_of_mem_take hn)
     ·exact hbv n hn
    ·exact hbl n (MB hn))
  ·-- nothing is taken away: slices.Insert
   obtain rfl:i=j:=by omega
   have hpre:Pre glob w F insertC.ins [.slice (some ⟨b,off,none⟩) l.length cap,toV (.int .i64) [.int .i64 (i:Int)],.slice (some ⟨vb,voff,none⟩) vs.length cap4] (l,(i:Int),vs,()):=by
    refine ⟨⟨hu1',⟨_,rfl,rfl,hb2⟩,hu4',trivial⟩,?_,hp.apart,hp.fro,hp.glob⟩
    intro u hu
    exact hp.own u (by simpa [ax,insertC,replaceC] using hu)
   have hfn:insertC.fn (l,(i:Int),vs,())=some (l.take i++vs++l.drop i,()):=by
    show yT l i vs=_
    unfold yT
    rw [if_pos ⟨by omega,by simp only [B8]; omega,by omega,by omega⟩]
    simp only [B8]
   have:=Ap (hei _ _) (hI.get rfl hpre hfn)
   refine Calls.mono (xf b off l.length cap i _ w (by omega) h1 _ this) ?_
   rintro e w' ⟨v,rfl,F2,css,hP⟩
   exact ⟨v,rfl,F2,css,⟨⟨hP.kept.os,hP.kept.tape,hP.kept.output,hP.kept.size,fun b' hb' hn=>hP.kept.block b' hb' (fun ⟨u,hu,hb⟩=>hn ⟨u,by simpa [ax,insertC,replaceC] using hu,hb⟩)⟩,hP.fro,fun b' hb'=>by
    have:=hP.f2 b' hb'
    exact ⟨this.1,this.2.imp id (Or.imp (fun ⟨u,hu,hb⟩=>⟨u,by simpa [ax,insertC,replaceC] using hu,hb⟩) id)⟩,hP.val,hP.res,trivial,hP.apart,fun u hu b' hb'=>by
    have:=hP.own u hu b' hb'
    exact ⟨this.1.imp id (fun ⟨u,hu,hb⟩=>⟨u,by simpa [ax,insertC,replaceC] using hu,hb⟩),this.2⟩⟩⟩
end Go.Vm

/-
 slices.Insert at numbers, as a contract of the machine at this program's number. Conditions: none beyond the machine's own bound on lengths.
-/
namespace Go.Vm
open Go.Proofs Go.RowKit
theorem Dj {glob:List (Nat×(Σ t:Ty,t.den))}:Con.Holds Tryz.prog glob 46 insertC :=
 nu Tryz.laysNm221 (enters_of Tryz.laysNm221.f21 (by kernel_rfl) rfl) glob
end Go.Vm

