/-
 slices.AppendSeq over slices.Values, as it is told; the two functions that are taken as told, at this program.
-/
import Derived.Test.YtlbmgijhnimbbaaGreatDoorXF
import Derived.Test.YtlbmgijhnimbbaaGreatDoorRxSeq
set_option linter.unusedVariables false
set_option linter.unusedSimpArgs false
namespace Go.Rx
open Go.Vm Go.Proofs Go.RowKit
section
variable {P : Program} {GL : List Nat} {w0 : World}
theorem Go1.same {n : Nat} {w w' : World} {ι : Io} {h : Hp} (hi : RInv GL w0 w ι h) (ht : ∀ b,n≤b→ι b=none) (hk : Kept w NoM w') : Go1 GL w0 n w ι h n w' ι h:=by
 have hold : ∀ b,b < w.heap.size→w'.heap[b]?=w.heap[b]?:=fun b hb=>hk.block b hb (fun h=>h)
 refine ⟨⟨?_,?_,hi.inj,fun b L hL=>Nat.lt_of_lt_of_le (hi.lt b L hL) hk.size,hi.glob⟩,Io.le.refl _,fun _ _=>rfl,Nat.le_refl _,ht,hk.size,fun B hB _=>hold B hB,fun b o L hb ho hL=>.inr ⟨b,o,L,hb,ho,.inr rfl,id,hL,rfl⟩⟩
 ·have:=hi.kept.size
  exact ⟨hk.os.trans hi.kept.os,hk.tape.trans hi.kept.tape,hk.output.trans hi.kept.output,Nat.le_trans hi.kept.size hk.size,fun b hb hM=>(hold b (by omega)).trans (hi.kept.block b hb hM)⟩
 ·intro b o hb
  exact (hi.blk b o hb).mono (Io.le.refl _) fun L hL=>hold L.B (hi.lt b L hL)
theorem oS {w w' : World} (h : Below w.heap.size w w') : Kept w NoM w':=⟨h.os,h.tape,h.output,h.size,fun b hb _=>h.block b hb⟩
theorem yH {w : World} {ι : Io} {h : Hp} (hi : RInv GL w0 w ι h) {b off len : Nat} {L : Loc} (hL : ι b=some L) {c : List RC} {l : List Int} (hint : tD c=some l) (hc : gf (eJ (h b)) off len=some c) :
  ∃ cs el fz,w.heap[L.B]?=some (.cells cs el fz)∧L.B < w.heap.size∧seg cs (L.base+off) len=l.map (Value.int .i64)∧L.base+off+len≤cs.size∧l.length=len∧RelL ι c (l.map (Value.int .i64)):=by
 obtain ⟨t',m',y1,y2,y3⟩:=cu hc
 obtain ⟨o',y4,y5⟩:=cT y1
 obtain ⟨Lq,cq,eq,fq,y6,y7,y8,y9,y10⟩:=dJ y5 (hi.blk b o' y4)
 have e:=Option.some.inj (hL.symm.trans y6)
 subst e
 have hs:=dm y10 y3 y2
 obtain ⟨e1,e2,e3⟩:=gL hint hs
 have hl:=(de y3).1
 exact ⟨cq,eq,fq,y7,hi.lt b L hL,e1,by omega,by omega,e1 ▸ hs⟩
theorem FU (l : List Int) : l.map encZ=l.map (Value.int .i64):=rfl
theorem C3 {args : List RV} {s s' : RS} {v : RV} (h : lz 238 args s=some (v,s')) {w : World} {ι : Io} {us : List Value} (hi : RInv GL w0 w ι s.H.get) (ht : ∀ b,s.nx≤b→ι b=none) (hargs : All2 (fun u v=>RelV ι u v) us args) :
  Goes Tryz.prog 249 us.toArray w fun u w'=>∃ ι',Go1 GL w0 s.nx w ι s.H.get s'.nx w' ι' s'.H.get∧RelV ι' u v:=by
 unfold lz at h
 split at h
 ·rename_i f b
  match us,hargs with
  | [u1,u2],.cons hx (.cons hf .nil) =>
  replace h:=ab h; obtain ⟨hfe,h⟩:=h
  have hfe:=Nat.eq_of_beq_eq_true hfe
  subst hfe
  split at h
  ·rename_i x hbox
   obtain ⟨t',m',y1,y2,y3⟩:=cu hbox
   obtain ⟨o',y4,y5⟩:=cT y1
   obtain ⟨Lb,cq,eq,fq,y6,y7,y8,y9,y10⟩:=dJ y5 (hi.blk b o' y4)
   have hseg:=dm y10 y3 y2
   obtain ⟨bus,hfn1,hfn2⟩:=xh hf
   have hu1 : u1=.slice none 0 0:=(ec hx).1
   -- the box
   match hsq : seg cq (Lb.base+0) 1,hseg with
   | [bv],hseg =>
   have hbv : w.cell? ⟨Lb.B,Lb.base+0,none⟩=some bv:=by
    rw [bj y7]
    have:=seg_getElem? cq (Lb.base+0) 1 0 (by omega)
    rw [hsq] at this
    simpa using this.symm
   have hrelx : RelV ι bv (.one x):=by
    cases hseg with
    | cons h1 _=>exact h1
   have hu2 : u2=.func (.func 238) #[] #[.pointer (some ⟨Lb.B,Lb.base+0,none⟩)]:=by
    rw [hfn2]
    cases hfn1 with
    | cons h1 t =>
     cases t
     cases h1 with
     | ptr hp =>
      have e:=Option.some.inj (hp.symm.trans y6)
      subst e
      rfl
   have run : ∀ (zs : List Int),zs.length≤1000000→((bv=.slice none 0 0∧zs=[])∨∃ b off cap,bv=.slice (some ⟨b,off,none⟩) zs.length cap∧b < w.heap.size∧∀ j,j < zs.length→w.cell? ⟨b,off+j,none⟩=some (.int .i64 (zs[j]?.getD 0))) →
     (∀ u w',w'.ownsRow w.heap.size 3 1 u zs.length (zs.map encZ)→(u=.slice none 0 0↔zs=[])→Below w.heap.size w w'→∃ ι',Go1 GL w0 s.nx w ι s.H.get s'.nx w' ι' s'.H.get∧RelV ι' u v) →
     Goes Tryz.prog 249 [u1,u2].toArray w fun u w'=>∃ ι',Go1 GL w0 s.nx w ι s.H.get s'.nx w' ι' s'.H.get∧RelV ι' u v:=by
    intro zs h1 h2 h3
    rw [hu1,hu2]
    refine .inl ⟨enters_of Tryz.func249 (by kernel_rfl) rfl _ _,Calls.mono (mu w Lb.B (Lb.base+0) bv zs h1 (hi.lt b Lb y6) hbv h2) ?_⟩
    rintro e w' ⟨u,rfl,q1,q2,q3⟩
    exact ⟨u,rfl,h3 u w' q1 q2 q3⟩
   have none_ : ∀ (u : Value) (w' : World),(u=.slice none 0 0↔([] : List Int)=[])→Below w.heap.size w w'→v=.one (.sc (.slice none 0 0))→s'=s→∃ ι',Go1 GL w0 s.nx w ι s.H.get s'.nx w' ι' s'.H.get∧RelV ι' u v:=by
    rintro u w' q2 q3 rfl rfl
    refine ⟨ι,Go1.same hi ht (oS q3),?_⟩
    rw [q2.2 rfl]
    exact RelC.sc rfl
   -- what it holds
   cases hc : cb s (.one x) with
   | none=>rw [hc] at h; cases h
   | some p =>
    rw [hc] at h
    obtain ⟨c,n⟩:=p
    unfold cb at hc
    split at hc
    ·rename_i he
     injection he with he
     subst he
     cases hc
     replace h:=(ab (show cond (Nat.beq 0 0) _ none=_ from h)).2
     cases h
     exact run [] (by simp) (.inl ⟨(ec hrelx).1,rfl⟩) fun u w' _ q2 q3=>none_ u w' q2 q3 rfl rfl
    ·rename_i bb es he
     injection he with he
     subst he
     cases hc
     replace h:=(ab (show cond (Nat.beq 0 0) _ none=_ from h)).2
     cases h
     obtain ⟨L,o,k,e1,e2,e3,e4,e5⟩:=iA hrelx
     exact run [] (by simp) (.inr ⟨L.B,o,k,e2,hi.lt bb L e1,fun j hj=>absurd hj (Nat.not_lt_zero _)⟩) fun u w' _ q2 q3=>none_ u w' q2 q3 rfl rfl
    ·rename_i bb off len cap es he
     injection he with he
     subst he
     split at hc
     ·rename_i c1 hc1
      cases hc
      obtain ⟨L,k,q1,q2,q3,q4,q5,q6⟩:=gj hrelx
      match c,hc1,h with
      | [],hc1,h =>
       replace h:=ab h; obtain ⟨h0,h⟩:=h
       have h0:=Nat.eq_of_beq_eq_true h0
       cases h
       subst h0
       exact run [] (by simp) (.inr ⟨L.B,L.base+off,k,q2,hi.lt bb L q1,fun j hj=>absurd hj (Nat.not_lt_zero _)⟩) fun u w' _ q2 q3=>none_ u w' q2 q3 rfl rfl
      | c0 :: cr,hc1,h =>
       replace h:=ab h; obtain ⟨hb,h⟩:=h
       simp only [Bool.and_eq_true] at hb
       obtain ⟨⟨b1,b2⟩,b3⟩:=hb
       have b1:=Nat.eq_of_beq_eq_true b1
       have b2:=Nat.le_of_ble_eq_true b2
       obtain ⟨l,hl⟩:=Option.isSome_iff_exists.1 b3
       have hmul : Nat.mul n es=n:=by
        obtain ⟨t2,m2,z1,z2,z3⟩:=cu hc1
        have:=(de z3).1
        omega
       rw [hmul] at hc1
       obtain ⟨cs,el,fz,r1,r2,r3,r4,r5,r6⟩:=yH hi q1 hl hc1
       refine run l (by omega) (.inr ⟨L.B,L.base+off,k,by rw [r5]; exact q2,r2,?_⟩) ?_
       ·intro j hj
        rw [bj r1,← seg_getElem? cs (L.base+off) n j (by omega),r3]
        simp [hj]
       ·intro u w' hrow hnil hbel
        unfold sC at h
        obtain ⟨h5,e5⟩:=dD h
        subst e5
        obtain ⟨tr,h2,h3⟩:=d8 h5
        obtain ⟨g1,g2⟩:=db h3
        have hne : ¬ u=.slice none 0 0:=fun e=>by have:=hnil.1 e; subst this; simp at r5; simp at b1; omega
        obtain ⟨_,⟨e,_⟩ | ⟨g,cap',cur,rfl,k1,k2,k3,k4,k5,k6⟩⟩:=hrow
        ·exact absurd e hne
        have hnone:=ht s.nx (Nat.le_refl _)
        have hglt : g < w'.heap.size:=(Array.getElem?_eq_some_iff.1 k2).1
        have hcl:=r6.len
        rw [List.length_map] at hcl
        rw [Nat.mul_one] at k5 k6
        rw [FU] at k6
        refine ⟨ι.set s.nx ⟨g,0,cur.size⟩,?_,?_⟩
        ·rw [g1,g2]
         refine Go1.new hi ht (oS hbel) k1 hglt ?_
         refine ⟨⟨g,0,cur.size⟩,cur,_,_,Io.set_self _ _ _,Nat.le_trans hi.kept.size k1,k2,rfl,by show 0+Nat.mul n 1≤cur.size; simp; omega,Nat.le_refl _,?_⟩
         intro i hi'
         have hi' : i < n:=by simpa using hi'
         obtain ⟨u',z1,z2⟩:=r6.get (List.getElem?_eq_getElem (show i < (c0 :: cr).length by omega))
         have hs:=cD h2 i
         rw [if_pos (by omega)] at hs
         refine ⟨_,u',by rw [hs,Nat.sub_zero,List.getElem?_eq_getElem (show i < (c0 :: cr).length by omega)],?_,z2.mono (Io.set_le hnone)⟩
         rw [← k6] at z1
         rw [List.getElem?_take,if_pos (by omega)] at z1
         simpa using z1
        ·rw [r5]
         exact RelC.sl (Io.set_self _ _ _) (by omega) (by show 0+0+cap' * 1≤cur.size; omega) (fun c hc=>by cases hc) k4
     ·cases hc
    ·cases hc
  ·cases h
 ·cases h
end
def told : XTab:=[(104,.insert),(249,.appendSeq 238)]
theorem CN (GL : List Nat) : XOK Tryz.prog GL told:=by
 intro f x hf args s v s' h w0 w ι us hi ht hargs
 have hf : cond (Nat.beq 104 f) (some XF.insert) (cond (Nat.beq 249 f) (some (XF.appendSeq 238)) none)=some x:=hf
 cases h1 : Nat.beq 104 f with
 | true =>
  rw [h1] at hf
  cases hf
  rw [← Nat.eq_of_beq_eq_true h1]
  exact vH (su Tryz.laysNm221 (enters_of Tryz.laysNm221.f21 (by kernel_rfl) rfl) []) h hi ht hargs
 | false =>
  rw [h1] at hf
  replace hf:=ab (show cond (Nat.beq 249 f) (some (XF.appendSeq 238)) none=some x from hf); obtain ⟨h2,hf⟩:=hf
  cases hf
  rw [← Nat.eq_of_beq_eq_true h2]
  exact C3 h hi ht hargs
end Go.Rx
