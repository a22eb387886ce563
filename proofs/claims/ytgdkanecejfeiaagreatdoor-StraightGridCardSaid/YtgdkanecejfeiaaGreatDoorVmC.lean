/-
 A machine on typed values, small enough to be reckoned by the kernel, and the proof that it goes with the model: part 3 of 4. What it computes for a function is that function's contract. No condition of its own.
-/
import Derived.Test.YtgdkanecejfeiaaGreatDoorVmB
import Derived.LoopN
open List renaming getElem?_eq_getElem→gr,getElem?_eq_some_iff→A2,mem_of_getElem?→A5,getD_eq_getElem?_getD→A8,mem_append→B3,mem_cons→B7,length_cons→LU,all_eq_true→LZ,getElem?_take→L7,getElem?_cons_zero→Mh,map_cons→Mo,mem_singleton→MA,any_eq_true→ME,nil_append→MF,append_nil→MH,any_eq_false→MK,mem_filter→ML,append_assoc→MO,mem_range→M2,pairwise_append→Nl,mem_map→Nv,pairwise_cons→NO,pairwise_singleton→NQ,all_cons→NZ,filterMap_cons_some→Oe,flatMap_append→Oz,take_left→OF,range'→Pj,mem_filterMap→Ps,Pairwise→PY
open Option.some renaming injEq→A1,inj→B6
open Bool renaming and_eq_true→A3,not_eq_true'→Mn,or_eq_true→Mt,true_and→OJ
open Nat renaming eq_of_beq_eq_true→A4,le_refl→A7,beq→B1,le_of_ble_eq_true→B5,zero_add→L9,add_assoc→Md,lt_of_lt_of_le→Ml,eq_or_lt_of_le→Mr,le_of_lt_succ→MI,add_zero→M4,beq_refl→NJ,ne_of_beq_eq_false→N2,add_comm→Of,blt→OG,blt_eq→Qc
open Int renaming toNat_natCast→B2
open Option renaming bind_eq_some_iff→B4
open Prod.mk renaming injEq→Mg
open Array renaming getElem?_toList→My,getD_eq_getD_getElem?→MW,ext'→NN,replicate→N7,map→OO
open List.Pairwise renaming nil→MR,cons→Nm
open List.cons renaming injEq→NE
open Sum.inr renaming injEq→PK
set_option linter.unusedVariables false
set_option linter.unusedSimpArgs false
/-
 The machine's operations against the model's: a call.
-/
namespace Go.Vm
section
variable {P:Program} {C:Ctx} {w0:World} {M:Own} {o:Oper} {a:Act} {m:Mem} {s s':St}
theorem GC (hi:Inv C w0 M m) {w':World} {F1 Mc:Nat→Prop} {H:List Value} {G1:Heap} {S:List Nat} (hA:Aft m w' F1 H G1 S) (hk:Kept m.w Mc w')
  (hMc:∀ b,Mc b→∃ id o,id∈S∧m.G.get id=some o∧isObj o=true∧HB (m.ι id) b) (hF:∀ b,m.F b→F1 b) (hFlt:∀ b,F1 b→b < w'.heap.size)
  (hnF:∀ id o b,G1.get id=some o→isObj o=true→HB (m.ι id) b→¬ F1 b) (hbnd:∀ b,F1 b→M.rd b∨M.wr b∨w0.heap.size≤b) :
  Inv C w0 M ⟨w',F1,m.ι,G1⟩∧Evo m ⟨w',F1,m.ι,G1⟩:=by
 have hMF:∀ b,m.F b→¬ Mc b:=by
  intro b hb hm
  obtain ⟨id,o,_,h1,h2,h3⟩:=hMc b hm
  exact (hi.own id o b h1 h2 h3).2.1 hb
 have he:Evo m ⟨w',F1,m.ι,G1⟩:=by
  refine ⟨fun b hb=>⟨hF b hb,hk.block b (hi.fro b hb) (hMF b hb)⟩,fun id o ho=>?_⟩
  obtain ⟨o',h1,h2⟩:=hA.get id o ho
  refine ⟨o',h1,?_⟩
  rcases h2 with h2 | h2
  ·exact .inl h2
  ·exact .inr (.inl ⟨rfl,h2⟩)
 have alive:∀ id o,G1.get id=some o→isObj o=true→∃ o',m.G.get id=some o'∧isObj o'=true:=by
  intro id o ho hob
  rcases hA.old id o ho hob with ⟨_,h⟩ | ⟨e,l,y,_,h,_⟩
  ·exact ⟨o,h,hob⟩
  ·exact ⟨_,h,rfl⟩
 refine ⟨⟨?_,?_,?_,?_,hFlt,fun g τ x hg=>(hi.glob g τ x hg).mono he.fro,hbnd,fun i v h=>cI he (hi.pin i v h)⟩,he⟩
 ·refine ⟨hk.os.trans hi.kept.os,hk.tape.trans hi.kept.tape,hk.output.trans hi.kept.output,Nat.le_trans hi.kept.size hk.size,fun b hb hM=>?_⟩
  have:=hi.kept.size
  refine (hk.block b (by omega) ?_).trans (hi.kept.block b hb hM)
  intro hm
  obtain ⟨id,o,_,h1,h2,h3⟩:=hMc b hm
  rcases (hi.own id o b h1 h2 h3).1 with h | h
  ·omega
  ·exact hM h
 ·intro id o ho
  by_cases hob:isObj o=true
  ·rcases hA.old id o ho hob with ⟨h1,h2⟩ | ⟨e,l,y,rfl,h1,h2,h3,_⟩
   ·refine b8 he rfl (fun b hb=>hk.block b (hi.own id o b h2 hob hb).2.2 ?_) (hi.objs id o h2)
    intro hm
    obtain ⟨id',o',k1,k2,k3,k4⟩:=hMc b hm
    have:=hi.inj id id' o o' b h2 hob k2 k3 hb k4
    subst this
    exact h1 k1
   ·exact h3
  ·cases o <;> simp_all [isObj,dM]
 ·intro id o b ho hob hb
  obtain ⟨o',h1,h2⟩:=alive id o ho hob
  obtain ⟨k1,k2,k3⟩:=hi.own id o' b h1 h2 hb
  exact ⟨k1,hnF id o b ho hob hb,Ml k3 hk.size⟩
 ·intro i j p q b hp hop hq hoq h1 h2
  obtain ⟨p',p1,p2⟩:=alive i p hp hop
  obtain ⟨q',q1,q2⟩:=alive j q hq hoq
  exact hi.inj i j p' q' b p1 p2 q1 q2 h1 h2
theorem zQ {w:World} {F F':Nat→Prop} {d:Bool} {e:Ty} {g:Value} {x:List e.den} (hf:cond d (Ty.slice e).shallowD (Ty.slice e).shallow=true) (h:pm w F d e g x):pm w F' d e g x:=by
 cases e with
 | slice σ =>
  cases d with
  | true =>
   obtain ⟨u,hs,rfl,h⟩:=h
   have hf : σ.flat=true:=hf
   exact ⟨u,hs,rfl,h.len,by
    obtain ⟨ad,cap,h1,h2,h3,h4⟩:=h.outer
    exact ⟨ad,cap,h1,h2,h3,h4⟩,fun i hi v hv hn=>(h.inner i hi v hv hn).flat hf,h.gone,h.apart⟩
  | false=>exact HdrW.flat (e:=.slice σ) hf h
 | _=>exact HdrW.flat (by cases d <;> exact hf) h
theorem OwnRd.flat {w:World} {F F':Nat→Prop} {d:Bool}:∀ {τ : Ty} {cs:List Value} {x : τ.den},cond d τ.shallowD τ.shallow=true→OwnRd w F d τ cs x→OwnRd w F' d τ cs x
 | .prod a b,_,_,hf,h=>by
  have hf:cond d a.shallowD a.shallow=true∧cond d b.shallowD b.shallow=true:=by
   cases d <;> simpa [Ty.shallow,Ty.shallowD] using hf
  obtain ⟨c1,c2,rfl,h1,h2⟩:=h
  exact ⟨c1,c2,rfl,h1.flat hf.1,h2.flat hf.2⟩
 | .unit,_,_,_,h=>h
 | .slice _,_,_,hf,h=>by
  obtain ⟨u,rfl,h⟩:=h
  exact ⟨u,rfl,zQ hf h⟩
 | .int _,_,_,_,h=>h
 | .bool,_,_,_,h=>h
 | .str,_,_,_,h=>h
 | .arr _ _,_,_,_,h=>h.elim
 | .ptr _,_,_,_,h=>h.elim
 | .clo _ _,_,_,_,h=>h.elim
theorem OutsRd.flat {w:World} {F F':Nat→Prop} {d:Bool}:∀ {outs:List (Bool×Ty)} {css:List (List Value)} {x:(aM (outs.map (·.2))).den},(outs.all fun p=>p.1 && cond d p.2.shallowD p.2.shallow)=true→OutsRd w F d outs css x→OutsRd w F' d outs css x
 | [],[],_,_,_=>trivial
 | [],_ :: _,_,_,h=>h.elim
 | _ :: _,[],_,_,h=>h.elim
 | (b,τ) :: r,cs :: css,x,hf,h=>by
  simp only [NZ,A3] at hf
  obtain ⟨⟨hb,hs⟩,hf2⟩:=hf
  subst hb
  exact ⟨OwnRd.flat hs h.1,OutsRd.flat hf2 h.2⟩
theorem MutsRd.flat {w:World} {F F':Nat→Prop}:∀ {ins:List (Mode×Ty)} {us:List Value} {y:(aM (br ins)).den},((br ins).all fun t=>t.shallow)=true→MutsRd w F ins us y→MutsRd w F' ins us y
 | [],_,_,_,_=>trivial
 | (.rd,_) :: _,[],_,_,h=>h.elim
 | (.take,_) :: _,[],_,_,h=>h.elim
 | (.upd,.slice _) :: _,[],_,_,h=>h.elim
 | (.rd,_) :: r,_ :: us,y,hf,h=>MutsRd.flat (ins:=r) (us:=us) (y:=y) hf h
 | (.take,_) :: r,_ :: us,y,hf,h=>MutsRd.flat (ins:=r) (us:=us) (y:=y) hf h
 | (.upd,.slice e) :: r,u :: us,y,hf,h=>by
  simp only [br,NZ,A3] at hf
  exact ⟨HdrW.flat hf.1 h.1,MutsRd.flat hf.2 h.2⟩
 | (.upd,.int _) :: _,_,_,_,h=>by simp [MutsRd] at h
 | (.upd,.bool) :: _,_,_,_,h=>by simp [MutsRd] at h
 | (.upd,.str) :: _,_,_,_,h=>by simp [MutsRd] at h
 | (.upd,.prod _ _) :: _,_,_,_,h=>by simp [MutsRd] at h
 | (.upd,.unit) :: _,_,_,_,h=>by simp [MutsRd] at h
 | (.upd,.arr _ _) :: _,_,_,_,h=>by simp [MutsRd] at h
 | (.upd,.ptr _) :: _,_,_,_,h=>by simp [MutsRd] at h
 | (.upd,.clo _ _) :: _,_,_,_,h=>by simp [MutsRd] at h
theorem jA {l r:List Nat} (h:ii l r=true) {i:Nat} (h1:i∈l) (h2:i∈r):False:=by
 simp only [ii,Mn,MK] at h
 have:=h i h1
 rw [ME] at this
 exact this ⟨i,h2,NJ i⟩
theorem Goes.mono {f:FuncId} {vs:Array Value} {w:World} {R R':Value→World→Prop} (h:Goes P f vs w R) (hr:∀ v w',R v w'→R' v w'):Goes P f vs w R':=by
 rcases h with ⟨h1,h2⟩ | ⟨v,w',h1,h2⟩
 ·exact .inl ⟨h1,Calls.mono h2 fun e w' ⟨v,he,hR⟩=>⟨v,he,hr v w' hR⟩⟩
 ·exact .inr ⟨v,w',h1,hr v w' h2⟩
theorem DI (hi:Inv C w0 M m) (hC:∀ f site c,C.con f site=some c→c.Holds P C.glob f) {site f:Nat} {vs:List SV} {us:List Value} {dst:Option Nat} (hr:Rel2 (RelSV m) us vs) (hG:m.G=s.G)
  (h:jG C s site f vs (fun v s'=>some (aD dst v s'))=some s'):Goes P f us.toArray m.w (Res C w0 M m s s' dst):=by
 unfold jG at h
 rw [← hG] at h
 split at h
 ·rename_i c hc
  split at h
  ·rename_i x hx
   obtain ⟨r,hfn,h⟩:=B4.1 h
   cases hchk:(aS (bt m.G c.ins vs).2 && ii (bt m.G c.ins vs).1 (bt m.G c.ins vs).2) with
   | false=>rw [hchk] at h; simp at h
   | true =>
    rw [hchk] at h
    simp only [cond_true] at h
    simp only [A3] at hchk
    obtain ⟨hnd,hap⟩:=hchk
    split at h
    ·rename_i G' hG'
     split at h
     ·rename_i q hq
      simp only [A1] at h
      obtain ⟨r1,r2,r3,r4⟩:=nB hi (F:=Thru m (bt m.G c.ins vs).1) hx hr hG' (fun b hb=>hb)
      have blkF:∀ id o b,m.G.get id=some o→isObj o=true→HB (m.ι id) b→id∉(bt m.G c.ins vs).1→¬ Thru m (bt m.G c.ins vs).1 b:=by
       rintro id o b h1 h2 h3 hn (hb | ⟨id',hid',o',k1,k2,k3⟩)
       ·exact (hi.own id o b h1 h2 h3).2.1 hb
       ·have:=hi.inj id id' o o' b h1 h2 k1 k2 h3 k3
        subst this
        exact hn hid'
      have hpre:Pre C.glob m.w (Thru m (bt m.G c.ins vs).1) c.ins us x:=by
       refine ⟨r1,?_,r3 hnd,?_,fun g τ x hg=>(hi.glob g τ x hg).mono fun b hb=>⟨.inl hb,rfl⟩⟩
       ·intro u hu b hb
        obtain ⟨id,o,k1,k2,k3,k4⟩:=r2 b ⟨u,hu,hb⟩
        exact ⟨blkF id o b k2 k3 k4 (fun hn=>jA hap hn k1),(hi.own id o b k2 k3 k4).2.2⟩
       ·rintro b (hb | ⟨id',hid',o',k1,k2,k3⟩)
        ·exact hi.fro b hb
        ·exact (hi.own id' o' b k1 k2 k3).2.2
      refine Goes.mono (hC f site c hc m.w _ us x r hpre hfn) ?_
      rintro v w' ⟨F2,css,hp⟩
      obtain ⟨F1,G1,S,hA,hF,hFlt,hnF,hS2,hres,hF12,hG1,hbnd⟩ : ∃ (F1:Nat→Prop) (G1:Heap) (S:List Nat),Aft m w' F1 (bR c.ins us) G1 S∧(∀ b,m.F b→F1 b)∧(∀ b,F1 b→b < w'.heap.size) ∧
        (∀ id o b,G1.get id=some o→isObj o=true→HB (m.ι id) b→¬ F1 b)∧(∀ i∈(bt m.G c.ins vs).2,i∈S)∧OutsRd w' F1 c.deep c.outs css (eD (c.outs.map (·.2)) (br c.ins) r).1∧(∀ b,F1 b→F2 b) ∧
        G1=cond (mW c) G' (aq (bt m.G c.ins vs).1 G')∧(∀ b,F1 b→M.rd b∨M.wr b∨w0.heap.size≤b):=by
       have hA0:∀ F1,Aft m w' F1 (bR c.ins us) m.G []:=fun F1=>⟨fun id o h1 h2=>.inl ⟨by simp,h1⟩,fun id o h1=>⟨o,h1,.inr (Alike.refl o)⟩⟩
       cases hfl:mW c with
       | true =>
        have hfl':=hfl
        simp only [mW,A3] at hfl'
        have hA:=gg hi hx hr (hp.muts.flat (F':=m.F) hfl'.2) (fun u hu=>hu) hG' (hA0 m.F)
        rw [MF] at hA
        refine ⟨m.F,G',_,hA,fun b hb=>hb,fun b hb=>Ml (hi.fro b hb) hp.kept.size,?_,fun i hi=>hi,hp.res.flat hfl'.1,fun b hb=>hp.fro b (.inl hb),rfl,hi.bnd⟩
        intro id o b h1 h2 h3
        rcases hA.old id o h1 h2 with ⟨_,k⟩ | ⟨e,l,y,_,k,_⟩
        ·exact (hi.own id o b k h2 h3).2.1
        ·exact (hi.own id _ b k rfl h3).2.1
       | false =>
        have hA:=(gg hi hx hr hp.muts (fun u hu=>hu) hG' (hA0 F2)).kills (bt m.G c.ins vs).1
        rw [MF] at hA
        refine ⟨F2,_,_,hA,fun b hb=>hp.fro b (.inl hb),fun b hb=>(hp.f2 b hb).1,?_,fun i hi=>by simp [hi],hp.res,fun b hb=>hb,rfl,?_⟩
        rotate_left
        ·have ofOwn {b:Nat} (h:w0.heap.size≤b∨M b):M.rd b∨M.wr b∨w0.heap.size≤b:=by
          rcases h with h | h
          ·exact .inr (.inr h)
          ·exact .inr (.inl h)
         intro b hb
         rcases (hp.f2 b hb).2 with (h | ⟨id,_,o,j1,j2,j3⟩) | h | h
         ·exact hi.bnd b h
         ·exact ofOwn (hi.own id o b j1 j2 j3).1
         ·obtain ⟨id,o,j1,j2,j3,j4⟩:=r2 b h
          exact ofOwn (hi.own id o b j2 j3 j4).1
         ·have:=hi.kept.size
          exact .inr (.inr (by omega))
        intro id o b h1 h2 h3 hF2
        rcases hA.old id o h1 h2 with ⟨k0,k⟩ | ⟨e,l,y,_,k,_,_,k2⟩
        ·simp only [B3,not_or] at k0
         rcases (hp.f2 b hF2).2 with hb | hb | hb
         ·exact blkF id o b k h2 h3 k0.2 hb
         ·obtain ⟨id',o',j1,j2,j3,j4⟩:=r2 b hb
          have:=hi.inj id id' o o' b k h2 j2 j3 h3 j4
          subst this
          exact k0.1 j1
         ·have:=(hi.own id o b k h2 h3).2.2
          omega
        ·exact (hp.own _ (by simp [k2]) b h3).2.1 hF2
      have hMc:∀ b,fU (aN c.ins us) b→∃ id o,id∈S∧m.G.get id=some o∧isObj o=true∧HB (m.ι id) b:=by
       intro b hb
       obtain ⟨id,o,k1,k2⟩:=r2 b hb
       exact ⟨id,o,hS2 id k1,k2⟩
      obtain ⟨i1,i2⟩:=GC hi hA hp.kept hMc hF hFlt hnF hbnd
      obtain ⟨ap1,ap2,ap3⟩:=Nl.1 hp.apart
      have hfree:∀ u∈cJ c.outs css,fy w0 M ⟨w',F1,m.ι,G1⟩ u:=by
       intro u hu b hb
       obtain ⟨k1,k2,k3⟩:=hp.own u (by simp [hu]) b hb
       refine ⟨?_,fun hb'=>k2 (hF12 b hb'),k3,fun id o ho hob hbl=>?_⟩
       ·rcases k1 with k1 | k1
        ·have:=hi.kept.size
         exact .inl (by omega)
        ·obtain ⟨id,o,j1,j2,j3,j4⟩:=r2 b k1
         exact (hi.own id o b j2 j3 j4).1
       ·rcases hA.old id o ho hob with ⟨j0,j⟩ | ⟨e,l,y,_,j,_,_,j2⟩
        ·rcases k1 with k1 | k1
         ·have:=(hi.own id o b j hob hbl).2.2
          omega
         ·obtain ⟨id',o',l1,l2,l3,l4⟩:=hMc b k1
          have:=hi.inj id id' o o' b j hob l2 l3 hbl l4
          subst this
          exact j0 l1
        ·exact ap3 u hu _ j2 b hb hbl
      obtain ⟨m',a1,a2,a3,a4,a5,a6⟩:=lX (m:=⟨w',F1,m.ι,G1⟩) (q:=q.1) (G':=q.2) i1 (by rw [show Mem.G ⟨w',F1,m.ι,G1⟩=G1 from rfl,hG1]; exact hq) hres ap1 hfree
      refine ⟨m',yK q.1,a1,by rw [← h,a3],a4,i2.trans a5,?_⟩
      rw [hp.val]
      exact GJ a6
     ·simp at h
    ·simp at h
  ·simp at h
 ·simp at h
theorem mu (site:Nat):∀ {ins:List (Mode×Ty)} {vs:List SV} {us:List Value} {m:Mem},Inv C w0 M m→Rel2 (RelSV m) us vs →
  ∃ m1,m1.w=m.w∧m1.F=m.F∧m1.G=(bT site ins vs m.G).2∧Inv C w0 M m1∧Evo m m1∧Rel2 (RelSV m1) us (bT site ins vs m.G).1
 | [],vs,us,m,hi,hr=>⟨m,rfl,rfl,by cases vs <;> rfl,hi,Evo.refl m,by cases vs <;> exact hr⟩
 | p :: r,[],us,m,hi,hr=>by
  obtain ⟨md,τ⟩:=p
  cases md <;> exact ⟨m,rfl,rfl,rfl,hi,Evo.refl m,hr⟩
 | (md,τ) :: r,v :: vs,[],m,hi,hr=>hr.elim
 | (md,τ) :: r,v :: vs,u :: us,m,hi,hr=>by
  have keep:∃ m1,m1.w=m.w∧m1.F=m.F∧m1.G=(bT site r vs m.G).2∧Inv C w0 M m1∧Evo m m1∧Rel2 (RelSV m1) (u :: us) (v :: (bT site r vs m.G).1):=by
   obtain ⟨m1,a1,a2,a3,a4,a5,a6⟩:=mu site (ins:=r) hi hr.2
   exact ⟨m1,a1,a2,a3,a4,a5,il a5 hr.1,a6⟩
  cases md with
  | rd=>exact keep
  | upd=>exact keep
  | take =>
   obtain ⟨m1,a1,a2,a3,a4,a5,a6⟩:=tQ hi site hr.1
   have hr2:Rel2 (RelSV m1) us vs:=hr.2.mono fun _ _ h=>il a5 h
   obtain ⟨m2,b1,b2,b3,b4,b5,b6⟩:=mu site (ins:=r) a4 hr2
   rw [a3] at b3 b6
   exact ⟨m2,b1.trans a1,b2.trans a2,b3,b4,a5.trans b5,il b5 a6,b6⟩
theorem rC (hi:Inv C w0 M m) (hC:∀ f site c,C.con f site=some c→c.Holds P C.glob f) {site f:Nat} {vs:List SV} {us:List Value} {dst:Option Nat} (hr:Rel2 (RelSV m) us vs) (hG:m.G=s.G)
  (h:fL C s site f vs (fun v s'=>some (aD dst v s'))=some s'):Goes P f us.toArray m.w (Res C w0 M m s s' dst):=by
 unfold fL at h
 split at h
 ·rename_i c hc
  obtain ⟨m1,a1,a2,a3,a4,a5,a6⟩:=mu site (ins:=c.ins) hi hr
  rw [← hG,← a3] at h
  have:=DI (s:=⟨s.env,m1.G⟩) (s':=s') (dst:=dst) a4 hC (f:=f) a6 rfl (by rw [hG] at h ⊢; exact h)
  rw [a1] at this
  refine this.mono fun v w' hR=>?_
  obtain ⟨m',sv,k1,k2,k3,k4,k5⟩:=hR
  exact ⟨m',sv,k1,k2,k3,a5.trans k4,k5⟩
 ·simp at h
end
end Go.Vm

/-
 The machine's operations against the model's: every operation.
-/
namespace Go.Vm
section
variable {P:Program} {C:Ctx} {w0:World} {M:Own} {o:Oper} {a:Act} {m:Mem} {s s':St}
theorem Rel2.map_left {α β γ : Type} {r : β→γ→Prop} {f : α→β} {g : α→γ}:∀ (l:List α),(∀ x,r (f x) (g x))→Rel2 r (l.map f) (l.map g)
 | [],_=>trivial
 | x :: l,h=>⟨h x,Rel2.map_left l h⟩
theorem px {G:Heap}:∀ {ins:List (Mode×Ty)} {vs:List SV} {x:(aM (ins.map (·.2))).den},di G ins vs=some x→∀ v∈vs,∃ τ,∃ y : τ.den,aP G τ v=some y
 | [],[],_,_=>by simp
 | [],_ :: _,_,h=>by simp [di] at h
 | _ :: _,[],_,h=>by simp [di] at h
 | p :: r,v :: vs,x,h=>by
  unfold di at h
  split at h
  ·rename_i x1 hx1
   split at h
   ·rename_i x2 hx2
    intro v' hv'
    rcases B7.1 hv' with rfl | hv'
    ·exact ⟨p.2,x1,hx1⟩
    ·exact px hx2 v' hv'
   ·simp at h
  ·simp at h
theorem BQ:∀ {us:List Value} {caps:List Nat},Rel2 (fun u c=>∃ o,m.G.get c=some o∧(match o with
    | .box _=>∃ b,m.ι c=.pointer (some ⟨b,0,none⟩)∧u=.pointer (some ⟨b,0,none⟩)
    | .dead=>True
    | _=>False)) us caps→(∀ i∈caps,∃ l,m.G.get i=some (.box l))→Rel2 (RelSV m) us (caps.map fun i=>.av (.ptr i 0))
 | [],[],_,_=>trivial
 | [],_ :: _,h,_=>h.elim
 | _ :: _,[],h,_=>h.elim
 | u :: us,c :: caps,h,hb=>by
  obtain ⟨l,hl⟩:=hb c (by simp)
  obtain ⟨ob,ho,hv⟩:=h.1
  rw [hl] at ho
  simp only [A1] at ho
  subst ho
  obtain ⟨b,h1,rfl⟩:=hv
  exact ⟨(ai (a:=.ptr c 0) (by intros; simp)).2 ⟨rfl,_,hl,b,h1,rfl⟩,BQ h.2 fun i hi=>hb i (by simp [hi])⟩
theorem qz:∀ {τ : Ty} {y : τ.den} {us:List Value} {l:List SV},Rd m.w m.F τ us y→bU τ y=some l→Rel2 (RelSV m) us l
 | .prod (.ptr a) b,y,us,l,h,hl=>by
  simp only [bU] at hl
  split at hl
  ·rename_i l' hl'
   simp only [A1] at hl
   subst hl
   obtain ⟨c1,c2,rfl,h1,h2⟩:=h
   have h1':=h1
   obtain ⟨bb,off,c,el,fz,rfl,_⟩:=h1
   exact ⟨⟨_,rfl,h1'⟩,qz h2 hl'⟩
  ·simp at hl
 | .unit,_,us,l,h,hl=>by
  simp only [bU,A1] at hl
  subst hl
  unfold Rd at h
  subst h
  trivial
 | .prod (.int _) _,_,_,_,_,hl=>by simp [bU] at hl
 | .prod .bool _,_,_,_,_,hl=>by simp [bU] at hl
 | .prod .str _,_,_,_,_,hl=>by simp [bU] at hl
 | .prod (.slice _) _,_,_,_,_,hl=>by simp [bU] at hl
 | .prod (.prod _ _) _,_,_,_,_,hl=>by simp [bU] at hl
 | .prod .unit _,_,_,_,_,hl=>by simp [bU] at hl
 | .prod (.arr _ _) _,_,_,_,_,hl=>by simp [bU] at hl
 | .prod (.clo _ _) _,_,_,_,_,hl=>by simp [bU] at hl
 | .int _,_,_,_,_,hl=>by simp [bU] at hl
 | .bool,_,_,_,_,hl=>by simp [bU] at hl
 | .str,_,_,_,_,hl=>by simp [bU] at hl
 | .slice _,_,_,_,_,hl=>by simp [bU] at hl
 | .arr _ _,_,_,_,_,hl=>by simp [bU] at hl
 | .ptr _,_,_,_,_,hl=>by simp [bU] at hl
 | .clo _ _,_,_,_,_,hl=>by simp [bU] at hl
theorem xg {site:Nat} {G:Heap} {v:SV} {i:Nat} {l:List Atom} (h:(bC site G v).2.get i=some (.box l)):G.get i=some (.box l):=by
 unfold bC at h
 split at h
 ·split at h
  ·rename_i ver' σ l' hg
   cases hc:(B1 _ ver' && !G.has (bg 8 G site)) with
   | false=>rw [hc] at h; exact h
   | true =>
    rw [hc] at h
    simp only [cond_true] at h
    rw [Heap.get_cons,Heap.get_cons] at h
    split at h
    ·simp at h
    ·split at h
     ·simp at h
     ·exact h
  ·exact h
 ·exact h
theorem fg {site:Nat} {i:Nat} {l:List Atom}:∀ {ins:List (Mode×Ty)} {vs:List SV} {G:Heap},(bT site ins vs G).2.get i=some (.box l)→G.get i=some (.box l)
 | [],vs,G,h=>by cases vs <;> exact h
 | (md,_) :: _,[],G,h=>by cases md <;> exact h
 | (.rd,_) :: r,v :: vs,G,h=>fg (ins:=r) (vs:=vs) h
 | (.upd,_) :: r,v :: vs,G,h=>fg (ins:=r) (vs:=vs) h
 | (.take,_) :: r,v :: vs,G,h=>xg (fg (ins:=r) (vs:=vs) h)
theorem fh {site:Nat} {i j:Nat}:∀ {ins:List (Mode×Ty)} {vs:List SV} {G:Heap},SV.av (.ptr i j)∈vs→SV.av (.ptr i j)∈(bT site ins vs G).1
 | [],vs,G,h=>by cases vs <;> exact h
 | (md,_) :: _,[],G,h=>by cases h
 | (.rd,_) :: r,v :: vs,G,h=>by
  rcases B7.1 h with h | h
  ·exact B7.2 (.inl h)
  ·exact B7.2 (.inr (fh (ins:=r) (vs:=vs) h))
 | (.upd,_) :: r,v :: vs,G,h=>by
  rcases B7.1 h with h | h
  ·exact B7.2 (.inl h)
  ·exact B7.2 (.inr (fh (ins:=r) (vs:=vs) h))
 | (.take,_) :: r,v :: vs,G,h=>by
  rcases B7.1 h with h | h
  ·subst h; exact B7.2 (.inl rfl)
  ·exact B7.2 (.inr (fh (ins:=r) (vs:=vs) h))
theorem vg {site f:Nat} {vs:List SV} {K:SV→St→Option St} (h:fL C s site f vs K=some s'):∀ i j,SV.av (.ptr i j)∈vs→∃ l,s.G.get i=some (.box l):=by
 intro i j hij
 unfold fL at h
 split at h
 ·rename_i c hc
  unfold jG at h
  split at h
  ·rename_i c' hc'
   rw [hc] at hc'
   cases hc'
   split at h
   ·rename_i x hx
    obtain ⟨τ,y,hy⟩:=px hx _ (fh (site:=site) (ins:=c.ins) (G:=s.G) hij)
    cases τ <;> simp only [aP] at hy <;> try (simp at hy; done)
    unfold jQ at hy
    split at hy
    ·rename_i l hl
     exact ⟨l,fg hl⟩
    ·simp at hy
   ·simp at h
  ·simp at h
 ·simp at h
theorem tX {g:Operand} {args:Array Operand} {ats:Array TypeId} {f:FuncId} {vs:List Value} {R:Value→World→Prop} (ho:o.op=.call { callee:=.value g,args,argTypes:=ats }) (hg:a.eval g=.func (.func f) #[] vs.toArray)
  (h:Goes P f (args.toList.map a.eval++vs).toArray m.w R):Does P o a m.w R:=by
 have e:(args.toList.map a.eval++vs).toArray=(#[]++OO a.eval args)++vs.toArray:=by
  apply NN; simp
 rw [e] at h
 have hx:(execOp a.eval o).run P m.w=(callFunc f ((#[]++OO a.eval args)++vs.toArray)).run P m.w:=by
  simp [execOp,ho,resolve,hg,Deferred.ofValue,invoke]
 rcases h with ⟨h1,h2⟩ | ⟨v,w',h1,h2⟩
 ·exact Does.call (by rw [hx,h1]) h2
 ·exact Does.value (by rw [hx,h1]) h2
theorem Ej {g:Operand} {args:Array Operand} {ats:Array TypeId} {f:FuncId} {r:Value} {R:Value→World→Prop} (ho:o.op=.call { callee:=.value g,args,argTypes:=ats }) (hg:a.eval g=.func (.func f) #[r] #[])
  (h:Goes P f (r :: args.toList.map a.eval).toArray m.w R):Does P o a m.w R:=by
 have e:(r :: args.toList.map a.eval).toArray=(#[r]++OO a.eval args)++#[]:=by
  apply NN; simp
 rw [e] at h
 have hx:(execOp a.eval o).run P m.w=(callFunc f ((#[r]++OO a.eval args)++#[])).run P m.w:=by
  simp [execOp,ho,resolve,hg,Deferred.ofValue,invoke]
 rcases h with ⟨h1,h2⟩ | ⟨v,w',h1,h2⟩
 ·exact Does.call (by rw [hx,h1]) h2
 ·exact Does.value (by rw [hx,h1]) h2
theorem tf:∀ {us:List Value} {q:List (Σ t:Ty,t.den)},Rel2 (fun u (p:Σ t:Ty,t.den)=>Rd m.w m.F p.1 [u] p.2∧p.1.isAgg=false) us q→Rel2 (af m) us (q.map fun p=>Atom.val p.1 p.2)
 | [],[],_=>trivial
 | _ :: _,_ :: _,h=>⟨h.1,tf h.2⟩
theorem Fh {g:Operand} {args:Array Operand} {ats:Array TypeId} (hC:∀ f site c,C.con f site=some c→c.Holds P C.glob f) (hi:Inv C w0 M m) (hG:m.G=s.G) (hS:∀ x,RelSV m (a.eval x) (ak C s.env x))
  (ho:o.op=.call { callee:=.value g,args,argTypes:=ats }) (h:ax C o s some=some s'):Does P o a m.w (Res C w0 M m s s' o.dst):=by
 simp only [ax,ho] at h
 have hg:=hS g
 have hargs:Rel2 (RelSV m) (args.toList.map a.eval) (args.toList.map (ak C s.env)):=Rel2.map_left _ hS
 split at h
 ·rename_i f caps hq
  rw [hq] at hg
  obtain ⟨vs,hgv,hc⟩:=hg
  have hb:=vg h
  refine tX ho hgv (rC hi hC (hargs.append (BQ hc fun i hi'=>?_)) hG h)
  rw [hG]
  exact hb i 0 (by simp only [B3,Nv]; exact .inr ⟨i,hi',rfl⟩)
 ·rename_i f q hq
  rw [hq] at hg
  obtain ⟨us,hgv,h1,h2⟩:=hg
  exact Ej ho hgv (rC hi hC (show Rel2 (RelSV m) (Value.agg us.toArray :: args.toList.map a.eval) (SV.agg (q.map fun p=>Atom.val p.1 p.2) :: args.toList.map (ak C s.env)) from ⟨⟨us,rfl,h1,tf h2⟩,hargs⟩) hG h)
 ·rename_i f τ y hq
  rw [hq] at hg
  split at h
  ·rename_i l hl
   obtain ⟨cs,hgv,vs,rfl,hrd⟩:=hg
   exact tX ho hgv (rC hi hC (hargs.append (qz hrd hl)) hG h)
  ·simp at h
 ·simp at h
theorem FT {R:Type} {r:R} {K:St→Option R} (hT:dH P C.tab=true) (hE:Hb P C) (hM:tT P C) (hC:∀ f site c,C.con f site=some c→c.Holds P C.glob f) (hi:Inv C w0 M m) (hG:m.G=s.G) (hS:∀ x,RelSV m (a.eval x) (ak C s.env x))
  (h:ax C o s K=some r):Does P o a m.w (GO C w0 M m s o.dst K r):=by
 by_cases hb:∀ op xt x y yt,o.op≠.binOp op xt x y yt
 ·rw [tu hb] at h
  obtain ⟨s',h,hK⟩:=B4.1 h
  have wrap:Does P o a m.w (Res C w0 M m s s' o.dst)→Does P o a m.w (GO C w0 M m s o.dst K r):=fun hd K' Q hK'=>hd K' Q fun v w' hv=>hK' v w' ⟨s',hK,hv⟩
  refine wrap ?_
  cases ho:o.op with
  | move x=>exact BG hi hG hS (.inl ho) h
  | assign x=>exact BG hi hG hS (.inr ho) h
  | pick c x y=>exact HL hi hG hS ho h
  | alloc t=>exact EE hT hi hG ho h
  | box t x=>exact Jd hi hG hS ho h
  | build t ps=>exact Fc hT hi hG hS ho h
  | buildSlice t n ps=>exact sX hT hi hG hS ho h
  | load t x=>exact GY hT hi hG hS ho h
  | store t x y=>exact Fy hT hi hG hS ho h
  | nilCheck x=>exact yC hi hG hS ho h
  | binOp op xt x y yt=>exact absurd ho (hb _ _ _ _ _)
  | unOp op t x=>exact Ht hi hG hS ho h
  | makeSlice t n c=>exact vA hT hi hG hS ho h
  | slice t x lo hi' mx=>exact Fg hT hi hG hS ho h
  | fieldAddr t x f=>exact vC hT hi hG hS ho h
  | indexAddr t x i=>exact vf hT hi hG hS ho h
  | extract x i=>exact yP hi hG hS ho h
  | makeFunc fn first caps=>exact xN hi hG hS ho h
  | makeMap t res =>
   cases res with
   | none=>exact AZ hM hi hG ho h
   | some _=>simp [ax,ho] at h
  | lookup t x ix ok=>exact DD hM hi hG hS ho h
  | mapUpdate t x ix y=>exact vN hM hi hG hS ho h
  | call c =>
   obtain ⟨callee,args,ats⟩:=c
   cases callee with
   | value g=>exact Fh hC hi hG hS ho h
   | builtin b =>
    cases b with
    | len=>exact Jw (t:=⟨.builtin .len,args,ats⟩) hT hi hG hS ho h
    | min=>exact IW hi hG hS ho h
    | max=>exact Jj hi hG hS ho h
    | append=>exact DE hT hi hG hS ho h
    | _=>simp [ax,ho] at h
   | invoke _ _=>simp [ax,ho] at h
  | _=>simp [ax,ho] at h
 ·simp only [Classical.not_forall,Classical.not_not] at hb
  obtain ⟨op,xt,x,y,yt,ho⟩:=hb
  exact Gm hT hE hi hG hS ho h
end
end Go.Vm

/-
 The machine's steps against the model's, in a frame: a step, what is given up, a region.
-/
namespace Go.Vm
section
variable {P:Program} {C:Ctx} {w0:World} {M:Own} {N:Nat} {o:Oper} {a:Act} {m:Mem} {s:St}
theorem kg (a:Act) (dst:Option Nat) (v:Value) (hd:∀ d,dst=some d→d < a.tmps.size) (t:Nat):(a.put dst v).tmps.getD t undef=if dst=some t then v else a.tmps.getD t undef:=by
 cases dst with
 | none=>simp [Act.put]
 | some d =>
  have h:=hd d rfl
  by_cases e:d=t
  ·subst e; simp [Act.put,h]
  ·have:¬ (some d=some t):=by simpa using e
   rw [if_neg this]
   simp [Act.put,MW,Array.getElem?_setIfInBounds,e]
theorem zb (dst:Option Nat) (sv:SV) (s:St) (t:Nat):(aD dst sv s).env.get t=if dst=some t then sv else s.env.get t:=by
 cases dst with
 | none=>simp [aD]
 | some d =>
  simp only [aD]
  rw [Env.get_cons]
  by_cases e:d=t
  ·simp [e]
  ·simp [e]
theorem Bu {e:Env} {m':Mem} {v:Value} {sv:SV} {dst:Option Nat} {G:Heap} (hs:Sim C w0 M N a m e) (hi:Inv C w0 M m') (he:Evo m m') (hv:RelSV m' v sv) (hd:∀ d,dst=some d→d < N) :
  Sim C w0 M N (a.put dst v) m' (aD dst sv ⟨e,G⟩).env:=by
 refine ⟨hi,by cases dst <;> exact hs.defers,by cases dst <;> simp [Act.put,hs.size],fun t=>?_⟩
 rw [kg a dst v (fun d h=>Ml (hd d h) hs.size),zb]
 split
 ·exact hv
 ·exact il he (hs.env t)
theorem Heap.get_map (f:Obj→Obj):∀ (G:Heap) (i:Nat),Heap.get (G.map fun p=>(p.1,f p.2)) i=(G.get i).map f
 | [],_=>rfl
 | (k,v) :: r,i=>by
  simp only [Mo,Heap.get]
  cases B1 k i with
  | true=>rfl
  | false=>exact Heap.get_map f r i
theorem Env.get_map (f:SV→SV) (hf:f (.av .u)=.av .u):∀ (e:Env) (i:Nat),Env.get (e.map fun p=>(p.1,f p.2)) i=f (e.get i)
 | [],_=>hf.symm
 | (k,v) :: r,i=>by
  simp only [Mo,Env.get]
  cases B1 k i with
  | true=>rfl
  | false=>exact Env.get_map f hf r i
theorem jd:∀ (ids:List Nat) (G:Heap) (i:Nat),i∈ids→(aq ids G).get i=some .dead
 | j :: r,G,i,h=>by
  show (aq r ((j,.dead) :: G)).get i=_
  by_cases hr:i∈r
  ·exact jd r _ i hr
  ·rcases B7.1 h with h | h
   ·subst h; rw [bG r _ i hr,Heap.get_cons,if_pos rfl]
   ·exact absurd h hr
theorem fY {ids:List Nat} {i:Nat}:(ids.any fun j=>B1 i j)=true↔i∈ids:=by
 rw [ME]
 constructor
 ·rintro ⟨j,hj,h⟩
  rw [A4 h]; exact hj
 ·intro h; exact ⟨i,h,NJ i⟩
theorem kG (hi:Inv C w0 M m) {ids:List Nat} {m1:Mem} (hw:m1.w=m.w) (he:Evo m m1) (hF:∀ b,Thru m ids b→m1.F b) {u:Value} {at':Atom} (h:af m u at'):af m1 u (dU m.G ids at'):=by
 have thru {i:Nat} (hin:i∈ids) {b:Nat} (hb:Thru m [i] b):m1.F b:=hF b (Thru.mono (fun k hk=>by simp at hk; subst hk; exact hin) hb)
 cases at' with
 | own i =>
  simp only [dU]
  cases hin:(ids.any fun j=>B1 i j) with
  | false=>exact bc he h
  | true =>
   have hin:=fY.1 hin
   simp only [cond_true]
   cases hg:m.G.get i with
   | none=>exact bc he h
   | some ob =>
    cases ob with
    | arr τ l =>
     obtain ⟨_,ob,hob,hv⟩:=h
     rw [hg] at hob
     simp only [A1] at hob
     subst hob
     have hv:=hv rfl
     subst hv
     exact ⟨(zm hi hg).mono fun b hb=>⟨thru hin hb,by rw [hw]⟩,rfl⟩
    | _=>exact bc he h
 | view i off len =>
  simp only [dU]
  cases hin:(ids.any fun j=>B1 i j) with
  | false=>exact bc he h
  | true =>
   have hin:=fY.1 hin
   simp only [cond_true]
   cases hg:m.G.get i with
   | none=>exact bc he h
   | some ob =>
    cases ob with
    | arr τ l =>
     have hr:aG m.G (.slice τ) (.view i off len)=some ((l.drop off).take len):=by simp [aG,hg,bk]
     have:=ef hi hr h
     exact ⟨this.mono fun b hb=>⟨thru hin hb,by rw [hw]⟩,rfl⟩
    | _=>exact bc he h
 | u=>trivial
 | undef=>exact h
 | nils=>exact h
 | val _ _=>exact bc he h
 | ptr _ _=>exact bc he h
 | aptr _ _ _=>exact bc he h
 | cut _ _ _=>exact bc he h
 | bnd _ _=>exact bc he h
 | saptr _ _ _ _=>exact bc he h
 | ownm _=>exact bc he h
 | ownd i =>
  simp only [dU]
  cases hin:(ids.any fun j=>B1 i j) with
  | false=>exact bc he h
  | true =>
   have hin:=fY.1 hin
   simp only [cond_true]
   split
   ·rename_i ver τ l hg
    have hr:aG m.G (.slice (.slice τ)) (.ownd i)=some l:=by simp [aG,hg,bk]
    have:=ef hi hr h
    exact ⟨this.mono fun b hb=>⟨thru hin hb,by rw [hw]⟩,rfl⟩
   ·exact bc he h
 | sub i ver j =>
  simp only [dU]
  cases hin:(ids.any fun j=>B1 i j) with
  | false=>exact bc he h
  | true =>
   have hin:=fY.1 hin
   simp only [cond_true]
   split
   ·rename_i ver' τ l hg
    cases hv:B1 ver ver' with
    | false=>exact bc he h
    | true =>
     simp only [cond_true]
     have hr:aG m.G (.slice τ) (.sub i ver j)=some (aV l j):=by simp [aG,hg,bk,hv]
     have:=ef hi hr h
     exact ⟨this.mono fun b hb=>⟨thru hin hb,by rw [hw]⟩,rfl⟩
   ·exact bc he h
 | clo _ _=>exact bc he h
theorem Rel2.map_right {α β : Type} {r s : α→β→Prop} {f : β→β} (h:∀ x y,r x y→s x (f y)):∀ {l:List α} {k:List β},Rel2 r l k→Rel2 s l (k.map f)
 | [],[],_=>trivial
 | [],_ :: _,h=>h.elim
 | _ :: _,[],h=>h.elim
 | _ :: _,_ :: _,hh=>⟨h _ _ hh.1,Rel2.map_right h hh.2⟩
theorem Je (hi:Inv C w0 M m) {ids:List Nat} {m1:Mem} (hw:m1.w=m.w) (he:Evo m m1) (hF:∀ b,Thru m ids b→m1.F b) {u:Value} {sv:SV} (h:RelSV m u sv):RelSV m1 u (Fd m.G ids sv):=by
 cases sv with
 | av at' =>
  cases at' with
  | val τ x=>exact il he h
  | _=>exact RelSV.of_atom (kG hi hw he hF ((ai (by intros; simp)).1 h))
 | agg l =>
  obtain ⟨us,h1,h2,h3⟩:=h
  exact ⟨us,h1,h2,Rel2.map_right (f:=dU m.G ids) (fun _ _ h=>kG hi hw he hF h) h3⟩
 | tup l =>
  obtain ⟨us,h1,h2⟩:=h
  refine ⟨us,h1,Rel2.map_right ?_ h2⟩
  rintro v ⟨b,l⟩ hv
  cases b with
  | true=>obtain ⟨us,h1,h0,h2⟩:=hv; exact ⟨us,h1,h0,Rel2.map_right (f:=dU m.G ids) (fun _ _ h=>kG hi hw he hF h) h2⟩
  | false =>
   obtain ⟨a,h1,h2⟩:=hv
   simp only at h1
   subst h1
   exact ⟨_,rfl,kG hi hw he hF h2⟩
theorem qr (ids:List Nat) (hs:Sim C w0 M N a m s.env) (hG:m.G=s.G):∃ m',m'.w=m.w∧m'.G=(vK ids s).G∧Sim C w0 M N a m' (vK ids s).env:=by
 obtain ⟨m1,a1,a2,a3,a4,a5,a6⟩:=cB ids hs.inv
 have hget:∀ id o,Heap.get (aq ids (m.G.map fun p=>(p.1,mg m.G ids p.2))) id=some o→o=.dead∨(id∉ids∧∃ o0,m.G.get id=some o0∧o=mg m.G ids o0):=by
  intro id o ho
  by_cases hin:id∈ids
  ·rw [jd ids _ id hin] at ho
   simp only [A1] at ho
   exact .inl ho.symm
  ·rw [bG ids _ id hin,Heap.get_map] at ho
   obtain ⟨o0,h1,h2⟩:=Option.map_eq_some_iff.1 ho
   exact .inr ⟨hin,o0,h1,h2.symm⟩
 have halike:∀ o0,Alike o0 (mg m.G ids o0):=by
  intro o0; cases o0 <;> first | exact ⟨rfl,rfl⟩ | trivial
 have hobj:∀ o0,isObj (mg m.G ids o0)=isObj o0:=by intro o0; cases o0 <;> rfl
 let m2:Mem:=⟨m1.w,m1.F,m1.ι,aq ids (m.G.map fun p=>(p.1,mg m.G ids p.2))⟩
 have he2:Evo m m2:=by
  refine ⟨a5.fro,fun id o ho=>?_⟩
  by_cases hin:id∈ids
  ·exact ⟨.dead,jd ids _ id hin,.inl rfl⟩
  ·refine ⟨mg m.G ids o,?_,.inr (.inl ⟨by show m1.ι id=_; rw [a2],halike o⟩)⟩
   show Heap.get (aq ids _) id=_
   rw [bG ids _ id hin,Heap.get_map,ho]; rfl
 have hi2:Inv C w0 M m2:=by
  refine ⟨a4.kept,?_,?_,?_,a4.fro,fun g τ x hg=>a4.glob g τ x hg,a4.bnd,fun i v h=>cI he2 (hs.inv.pin i v h)⟩
  ·intro id o ho
   rcases hget id o ho with rfl | ⟨hin,o0,h0,rfl⟩
   ·trivial
   ·have hr:=hs.inv.objs id o0 h0
    cases o0 with
    | dead=>trivial
    | arr τ l=>exact b8 he2 (by show m1.ι id=_; rw [a2]) (fun b _=>by show m1.w.heap[b]?=_; rw [a1]) hr
    | deep ver τ l hole=>exact b8 he2 (by show m1.ι id=_; rw [a2]) (fun b _=>by show m1.w.heap[b]?=_; rw [a1]) hr
    | map k v l=>exact b8 he2 (by show m1.ι id=_; rw [a2]) (fun b _=>by show m1.w.heap[b]?=_; rw [a1]) hr
    | box l =>
     obtain ⟨b,c,el,h1,h2,h3,h4⟩:=hr
     exact ⟨b,c,el,by show m1.ι id=_; rw [a2]; exact h1,by show m1.w.heap[b]?=_; rw [a1]; exact h2,h3,Rel2.map_right (f:=dU m.G ids) (fun _ _ h=>kG (m1:=m2) hs.inv a1 he2 a6 h) h4⟩
  ·intro id o b ho hob hb
   rcases hget id o ho with rfl | ⟨hin,o0,h0,rfl⟩
   ·simp [isObj] at hob
   ·exact a4.own id o0 b (by rw [a3,bG ids _ id hin]; exact h0) (by rw [← hobj o0]; exact hob) hb
  ·intro i j p q b hp hop hq hoq h1 h2
   rcases hget i p hp with rfl | ⟨hin,o0,h0,rfl⟩
   ·simp [isObj] at hop
   ·rcases hget j q hq with rfl | ⟨hin',o1,h0',rfl⟩
    ·simp [isObj] at hoq
    ·exact a4.inj i j o0 o1 b (by rw [a3,bG ids _ i hin]; exact h0) (by rw [← hobj o0]; exact hop) (by rw [a3,bG ids _ j hin']; exact h0') (by rw [← hobj o1]; exact hoq) h1 h2
 refine ⟨m2,a1,by show aq ids _=aq ids _; rw [hG],hi2,hs.defers,hs.size,fun t=>?_⟩
 show RelSV m2 _ (Env.get (s.env.map fun p=>(p.1,Fd s.G ids p.2)) t)
 rw [Env.get_map _ (by rfl),← hG]
 exact Je (m1:=m2) hs.inv a1 he2 a6 (hs.env t)
structure CtxOK (P:Program) (C:Ctx):Prop where
 tab:dH P C.tab=true
 eqs:Hb P C
 maps:tT P C
 con:∀ f site c,C.con f site=some c→c.Holds P C.glob f
theorem GU {R:Type} {r:R} {K:St→Option R} (hC:CtxOK P C) (hs:Sim C w0 M N a m s.env) (hG:m.G=s.G) (hd:∀ d,o.dst=some d→d < N) (h:ax C o s K=some r)
  {Kc:Act→World→Prop} {Q:Exit→Act→World→Prop} (hK:∀ s' a' m',K s'=some r→m'.G=s'.G→Sim C w0 M N a' m' s'.env→Kc a' m'.w):o.wp P a m.w Kc Q:=by
 refine FT hC.tab hC.eqs hC.maps hC.con hs.inv hG (su hs.inv hs.env) h Kc Q ?_
 rintro v w' ⟨s',hK',m',sv,rfl,rfl,h1,h2,h3⟩
 exact hK _ _ m' hK' (by cases o.dst <;> rfl) (Bu hs h1 h2 h3 hd)
theorem zd (hs:Sim C w0 M N a m s.env) (hG:m.G=s.G) (o:Oper):∃ m',m'.w=m.w∧m'.G=(mr C o s).G∧Sim C w0 M N a m' (mr C o s).env:=by
 unfold mr
 split
 ·exact ⟨m,rfl,hG,hs⟩
 ·exact qr _ hs hG
theorem qf {d:Nat} {sv:SV} (hs:Sim C w0 M N a m s.env) (h:s.env.get d=sv):Sim C w0 M N a m ((d,sv) :: s.env):=by
 refine ⟨hs.inv,hs.defers,hs.size,fun t=>?_⟩
 rw [Env.get_cons]
 split
 ·rename_i e; subst e; rw [← h]; exact hs.env d
 ·exact hs.env t
theorem uQ {ops:Array Oper} {j d:Nat} {b:Bool} (hs:Sim C w0 M N a m s.env) (hj:eH ops.toList j=some d) (h:s.env.get d=.av (.val .bool b)):yielded ops a.tmps j=some b:=by
 have hv:=hs.env d
 rw [h] at hv
 have hv:=rel_bool hv
 have hd:(ops[j]?).bind (·.dst)=some d:=by
  unfold eH at hj
  rw [My] at hj
  split at hj
  ·rename_i o ho; simp [ho,hj]
  ·simp at hj
 unfold yielded
 rw [hd]
 have:a.tmps[d]?=some (.bool b):=by
  rw [MW] at hv
  cases hg:a.tmps[d]? with
  | none=>rw [hg] at hv; simp [undef] at hv
  | some v=>rw [hg] at hv; simpa using hv
 simp [this]
theorem sW {ops:Array Oper} {j d:Nat} (hs:Sim C w0 M N a m s.env) (hj:eH ops.toList j=some d) (h:s.env.get d=.av .undef):yielded ops a.tmps j=none:=by
 have hv:=hs.env d
 rw [h] at hv
 have hv:a.tmps.getD d undef=undef:=hv
 have hd:(ops[j]?).bind (·.dst)=some d:=by
  unfold eH at hj
  rw [My] at hj
  split at hj
  ·rename_i o ho; simp [ho,hj]
  ·simp at hj
 unfold yielded
 rw [hd]
 rw [MW] at hv
 cases hg:a.tmps[d]? with
 | none=>simp [hg]
 | some v=>rw [hg] at hv; simp at hv; subst hv; simp [hg,undef]
theorem oA {R:Type} {res:R} {K:St→Option R} (hC:CtxOK P C) {ops:Array Oper} {Q:Exit→Act→World→Prop}
  (hK:∀ s' a' m',K s'=some res→m'.G=s'.G→Sim C w0 M N a' m' s'.env→Q .normal a' m'.w) (hd:∀ o∈ops.toList,∀ d,o.dst=some d→d < N) :
  ∀ (l:List Oper) (k:Nat) {s:St} {a:Act} {m:Mem},(∀ j,l[j]?=ops[k+j]?)→fR C ops.toList l s K=some res→m.G=s.G→Sim C w0 M N a m s.env→wpOps P ops Q (Pj k l.length) a m.w
 | [],k,s,a,m,_,h,hG,hs=>hK s a m h hG hs
 | o :: r,k,s,a,m,hl,h,hG,hs=>by
  have h0:ops[k]?=some o:=by simpa using (hl 0).symm
  have hmem:o∈ops.toList:=by rw [Array.mem_toList_iff]; exact Array.mem_of_getElem? h0
  have hl':∀ j,r[j]?=ops[k+1+j]?:=fun j=>by have:=hl (j+1); simpa [Md,Of 1 j] using this
  rw [LU,List.range'_succ]
  simp only [wpOps,h0]
  have go {s:St} {m:Mem} (hG:m.G=s.G) (hs:Sim C w0 M N a m s.env) (h:ax C o (mr C o s) (fun s'=>fR C ops.toList r s' K)=some res):o.wp P a m.w (wpOps P ops Q (Pj (k+1) r.length)) Q:=by
   obtain ⟨m',e1,e2,e3⟩:=zd hs hG o
   rw [← e1]
   exact GU hC e3 e2 (hd o hmem) h fun s' a' m' h1 h2 h3=>oA hC hK hd r (k+1) hl' h1 h2 h3
  have skip {s:St} {m:Mem} (hG:m.G=s.G) (hs:Sim C w0 M N a m s.env) (h:fR C ops.toList r (aD o.dst (.av .undef) s) K=some res):wpOps P ops Q (Pj (k+1) r.length) (a.put o.dst undef) m.w :=
   oA hC hK hd r (k+1) hl' h (by rw [hG]; cases o.dst <;> rfl) (Bu hs hs.inv (Evo.refl m) (show RelSV m undef (.av .undef) from rfl) (hd o hmem))
  unfold fR at h
  split at h
  ·rename_i hg
   have hw:Region.wanted o (yielded ops a.tmps)=true:=by simp [Region.wanted,hg]
   rw [if_pos hw]
   exact .inl (go hG hs h)
  ·rename_i j want hg
   split at h
   ·simp at h
   ·rename_i d hdd
    split at h
    ·rename_i b hb
     have hy:=uQ hs hdd hb
     have hw:Region.wanted o (yielded ops a.tmps)=(b == want):=by simp [Region.wanted,hg,hy]
     rw [hw]
     cases b with
     | true =>
      simp only [cond_true] at h
      cases want with
      | true=>exact .inl (go (s:=⟨(d,.av (.val .bool true)) :: s.env,s.G⟩) hG (qf hs hb) h)
      | false=>exact skip (s:=⟨(d,.av (.val .bool true)) :: s.env,s.G⟩) hG (qf hs hb) h
     | false =>
      simp only [cond_false] at h
      cases want with
      | true=>exact skip (s:=⟨(d,.av (.val .bool false)) :: s.env,s.G⟩) hG (qf hs hb) h
      | false=>exact .inl (go (s:=⟨(d,.av (.val .bool false)) :: s.env,s.G⟩) hG (qf hs hb) h)
    ·rename_i hb
     have hy:=sW hs hdd hb
     have hw:Region.wanted o (yielded ops a.tmps)=false:=by simp [Region.wanted,hg,hy]
     rw [hw]
     exact skip hG hs h
    ·simp at h
theorem De {R:Type} {res:R} {K:St→Option R} (hC:CtxOK P C) {id:Nat} {ops:Array Oper} {Q:Exit→Act→World→Prop}
  (hK:∀ s' a' m',K s'=some res→m'.G=s'.G→Sim C w0 M N a' m' s'.env→Q .normal a' m'.w) (hd:∀ o∈ops.toList,∀ d,o.dst=some d→d < N)
  (h:fR C ops.toList ops.toList s K=some res) (hG:m.G=s.G) (hs:Sim C w0 M N a m s.env):(Code.region id ops false).wp P Q a m.w:=by
 refine wp_region ?_
 have:=oA hC hK hd ops.toList 0 (fun j=>by simp) h hG hs
 rw [List.range_eq_range']
 simpa using this
end
end Go.Vm

/-
 A state laid into a shape.
-/
namespace Go.Vm
section
variable {P:Program} {C:Ctx} {w0:World} {M:Own} {N:Nat} {a:Act} {m:Mem} {s:St}
def gI (m:Mem) (j:Nat):Prop:=∃ o,m.G.get j=some o∧isObj o=true
def IR (m:Mem):Src→Value→Prop
 | .nil,v=>∃ ad,v=.slice ad 0 0
 | .own j,v=>gI m j→v=m.ι j
 | .view j o n,v=>af m v (.view j o n)
 | .nild,v=>∃ ad,v=.tuple [.slice ad 0 0].toArray
def fx (m:Mem) (R:Ren) (ρ : Nat→Value):Prop:=∀ i src,R.get i=some src→IR m src (ρ i)
def Ext (R:Ren) (ρ : Nat→Value) (R':Ren) (ρ':Nat→Value):Prop:=∀ i src,R.get i=some src→R'.get i=some src∧ρ' i=ρ i
theorem Ext.refl (R:Ren) (ρ : Nat→Value):Ext R ρ R ρ:=fun _ _ h=>⟨h,rfl⟩
theorem Ext.trans {R R' R'':Ren} {ρ ρ' ρ'':Nat→Value} (h:Ext R ρ R' ρ') (h':Ext R' ρ' R'' ρ''):Ext R ρ R'' ρ'':=fun i src hi=>by
 obtain ⟨h1,h2⟩:=h i src hi
 obtain ⟨h3,h4⟩:=h' i src h1
 exact ⟨h3,h4.trans h2⟩
def AtomR (m:Mem) (R:Ren) (ρ : Nat→Value) (u:Value):SpA→Prop
 | .own i=>u.oneCell'=true∧∃ src,R.get i=some src∧(u=ρ i∨∃ j,src=.own j∧¬ gI m j)
 | .ptr i o=>∃ j,R.get i=some (.own j)∧af m u (.ptr j o)
 | .clo _ c=>∀ i∈c,R.get i=some (.own i)
 | .ownm i=>u.oneCell'=true∧∃ j,R.get i=some (.own j)∧(u=ρ i∨¬ gI m j)
 | .ownd i=>u.oneCell'=true∧∃ src,R.get i=some src∧((∃ us,ρ i=.tuple us∧us[0]?=some u)∨∃ j,src=.own j∧¬ gI m j)
 | _=>True
theorem AtomR.ext {R R':Ren} {ρ ρ':Nat→Value} (he:Ext R ρ R' ρ') {u:Value} {x:SpA} (h:AtomR m R ρ u x):AtomR m R' ρ' u x:=by
 cases x with
 | own i =>
  obtain ⟨h1,src,h2,h3⟩:=h
  obtain ⟨e1,e2⟩:=he i src h2
  exact ⟨h1,src,e1,h3.imp (fun h=>by rw [e2]; exact h) id⟩
 | ptr i o=>obtain ⟨j,h1,h2⟩:=h; exact ⟨j,(he i _ h1).1,h2⟩
 | clo f c=>exact fun i hi=>(he i _ (h i hi)).1
 | ownd i =>
  obtain ⟨h1,src,h2,h3⟩:=h
  obtain ⟨e1,e2⟩:=he i src h2
  exact ⟨h1,src,e1,h3.imp (fun h=>by rw [e2]; exact h) id⟩
 | ownm i =>
  obtain ⟨h1,j,h2,h3⟩:=h
  obtain ⟨e1,e2⟩:=he i _ h2
  exact ⟨h1,j,e1,h3.imp (fun h=>by rw [e2]; exact h) id⟩
 | _=>trivial
theorem lE {R R':Ren} {i:Nat} {src:Src} (h:R.add i src=some R'):(R.get i=none∧R'=(i,src) :: R)∨(∃ j,src=.own j∧R.get i=some (.own j)∧R'=R):=by
 unfold Ren.add at h
 split at h
 ·rename_i hg; simp at h; exact .inl ⟨hg,h.symm⟩
 ·rename_i s' hg
  cases hs:s'.same src with
  | false=>rw [hs] at h; simp at h
  | true =>
   rw [hs] at h
   simp at h
   unfold Src.same at hs
   split at hs
   ·rename_i i' j'
    have:=A4 hs
    subst this
    exact .inr ⟨i',rfl,hg,h.symm⟩
   ·simp at hs
theorem Ren.get_cons (i:Nat) (v:Src) (R:Ren) (j:Nat):Ren.get ((i,v) :: R) j=if i=j then some v else R.get j:=by
 simp only [Ren.get]
 cases h:B1 i j with
 | true=>simp [A4 h]
 | false=>simp [N2 h]
theorem lj {R:Ren} {ρ : Nat→Value} (hR:fx m R ρ) {i:Nat} {src:Src} {v:Value} (hn:R.get i=none) (hv:IR m src v) :
  fx m ((i,src) :: R) (fun k=>if k=i then v else ρ k)∧Ext R ρ ((i,src) :: R) (fun k=>if k=i then v else ρ k):=by
 refine ⟨fun k s' hk=>?_,fun k s' hk=>?_⟩
 ·rw [Ren.get_cons] at hk
  split at hk
  ·rename_i e; subst e; simp at hk; subst hk; simpa using hv
  ·rename_i e; simp [Ne.symm e]; exact hR k s' hk
 ·have e:i≠k:=by intro e; subst e; rw [hn] at hk; cases hk
  exact ⟨by rw [Ren.get_cons,if_neg e]; exact hk,by simp [Ne.symm e]⟩
theorem sI:∀ (c:List Nat) {R R':Ren} {ρ : Nat→Value},Ren.addCaps c R=some R'→fx m R ρ→∃ ρ',fx m R' ρ'∧Ext R ρ R' ρ'∧∀ i∈c,R'.get i=some (.own i)
 | [],R,R',ρ,h,hR=>by
  simp only [Ren.addCaps,A1] at h
  subst h
  exact ⟨ρ,hR,Ext.refl _ _,by simp⟩
 | i :: r,R,R',ρ,h,hR=>by
  simp only [Ren.addCaps] at h
  split at h
  ·rename_i R1 h1
   have one:∃ ρ1,fx m R1 ρ1∧Ext R ρ R1 ρ1∧R1.get i=some (.own i):=by
    rcases lE h1 with ⟨hn,rfl⟩ | ⟨j,hj,hg,rfl⟩
    ·obtain ⟨k1,k2⟩:=lj hR (src:=.own i) (v:=m.ι i) hn (fun _=>rfl)
     exact ⟨_,k1,k2,by rw [Ren.get_cons,if_pos rfl]⟩
    ·cases hj; exact ⟨ρ,hR,Ext.refl _ _,hg⟩
   obtain ⟨ρ1,a1,a2,a3⟩:=one
   obtain ⟨ρ2,b1,b2,b3⟩:=sI r h a1
   refine ⟨ρ2,b1,a2.trans b2,?_⟩
   intro k hk
   rcases B7.1 hk with rfl | hk
   ·exact (b2 k _ a3).1
   ·exact b3 k hk
  ·simp at h
theorem jT {R R':Ren} {ρ : Nat→Value} {x:SpA} {b:Atom} {u:Value} (h:x.ren b R=some R') (hr:af m u b) (hR:fx m R ρ):∃ ρ',fx m R' ρ'∧Ext R ρ R' ρ'∧AtomR m R' ρ' u x:=by
 have own {i:Nat} {src:Src} (h:R.add i src=some R') (hv:IR m src u) (h1:u.oneCell'=true):∃ ρ',fx m R' ρ'∧Ext R ρ R' ρ'∧AtomR m R' ρ' u (.own i):=by
  rcases lE h with ⟨hn,rfl⟩ | ⟨j,rfl,hg,rfl⟩
  ·obtain ⟨k1,k2⟩:=lj hR hn hv
   exact ⟨_,k1,k2,h1,src,by rw [Ren.get_cons,if_pos rfl],.inl (by simp)⟩
  ·refine ⟨ρ,hR,Ext.refl _ _,h1,.own j,hg,?_⟩
   by_cases hal:gI m j
   ·exact .inl ((hv hal).trans (hR i _ hg hal).symm)
   ·exact .inr ⟨j,rfl,hal⟩
 cases x with
 | own i =>
  cases b with
  | own j =>
   simp only [SpA.ren] at h
   obtain ⟨h1,o,h2,h3⟩:=hr
   refine own h ?_ h1
   rintro ⟨o',h4,h5⟩
   rw [h2] at h4
   simp only [A1] at h4
   subst h4
   exact h3 h5
  | nils =>
   simp only [SpA.ren] at h
   obtain ⟨ad,rfl⟩:=hr
   exact own h ⟨ad,rfl⟩ rfl
  | view j o n =>
   simp only [SpA.ren] at h
   exact own h hr hr.1
  | _=>simp [SpA.ren] at h
 | ptr i o =>
  cases b with
  | ptr j o' =>
   simp only [SpA.ren] at h
   cases ho:B1 o o' with
   | false=>rw [ho] at h; simp at h
   | true =>
    rw [ho] at h
    simp only [cond_true] at h
    have:=A4 ho
    subst this
    rcases lE h with ⟨hn,rfl⟩ | ⟨j',hj,hg,rfl⟩
    ·obtain ⟨k1,k2⟩:=lj hR (src:=.own j) (v:=m.ι j) hn (fun _=>rfl)
     exact ⟨_,k1,k2,j,by rw [Ren.get_cons,if_pos rfl],hr⟩
    ·cases hj; exact ⟨ρ,hR,Ext.refl _ _,j,hg,hr⟩
  | _=>simp [SpA.ren] at h
 | clo f c =>
  have h:Ren.addCaps c R=some R':=by cases b <;> exact h
  obtain ⟨ρ',k1,k2,k3⟩:=sI c h hR
  exact ⟨ρ',k1,k2,k3⟩
 | ownm i =>
  cases b with
  | ownm j =>
   simp only [SpA.ren] at h
   obtain ⟨h1,o,h2,h3⟩:=hr
   have key:∀ v,(gI m j→v=m.ι j)→u=v∨¬ gI m j:=by
    intro v hv
    by_cases hal:gI m j
    ·left
     obtain ⟨o',q1,q2⟩:=hal
     rw [h2] at q1
     cases q1
     cases o with
     | map _ _ _=>rw [hv ⟨_,h2,rfl⟩]; exact h3
     | dead=>simp [isObj] at q2
     | _=>exact h3.elim
    ·exact .inr hal
   rcases lE h with ⟨hn,rfl⟩ | ⟨j',hj,hg,rfl⟩
   ·obtain ⟨k1,k2⟩:=lj hR (src:=.own j) (v:=m.ι j) hn (fun _=>rfl)
    exact ⟨_,k1,k2,h1,j,by rw [Ren.get_cons,if_pos rfl],key _ (fun _=>by simp)⟩
   ·cases hj
    exact ⟨ρ,hR,Ext.refl _ _,h1,j,hg,key _ (hR i _ hg)⟩
  | _=>simp [SpA.ren] at h
 | ownd i =>
  cases b with
  | ownd j =>
   simp only [SpA.ren] at h
   obtain ⟨h1,o,h2,h3⟩:=hr
   have key:∀ v,(gI m j→v=m.ι j)→(∃ us,v=.tuple us∧us[0]?=some u)∨∃ j',Src.own j=.own j'∧¬ gI m j':=by
    intro v hv
    by_cases hal:gI m j
    ·left
     obtain ⟨o',q1,q2⟩:=hal
     rw [h2] at q1
     cases q1
     cases o with
     | deep _ _ _ _=>rw [hv ⟨_,h2,rfl⟩]; exact h3
     | dead=>simp [isObj] at q2
     | _=>exact h3.elim
    ·exact .inr ⟨j,rfl,hal⟩
   rcases lE h with ⟨hn,rfl⟩ | ⟨j',hj,hg,rfl⟩
   ·obtain ⟨k1,k2⟩:=lj hR (src:=.own j) (v:=m.ι j) hn (fun _=>rfl)
    exact ⟨_,k1,k2,h1,.own j,by rw [Ren.get_cons,if_pos rfl],key _ (fun _=>by simp)⟩
   ·cases hj
    exact ⟨ρ,hR,Ext.refl _ _,h1,.own j,hg,key _ (hR i _ hg)⟩
  | nils =>
   simp only [SpA.ren] at h
   obtain ⟨ad,rfl⟩:=hr
   rcases lE h with ⟨hn,rfl⟩ | ⟨j',hj,_,_⟩
   ·obtain ⟨k1,k2⟩:=lj hR (src:=.nild) (v:=.tuple [.slice ad 0 0].toArray) hn ⟨ad,rfl⟩
    exact ⟨_,k1,k2,rfl,.nild,by rw [Ren.get_cons,if_pos rfl],.inl ⟨_,by simp; rfl,by simp⟩⟩
   ·cases hj
  | _=>simp [SpA.ren] at h
 | u =>
  simp only [SpA.ren,A1] at h
  subst h
  exact ⟨ρ,hR,Ext.refl _ _,trivial⟩
 | undef =>
  simp only [SpA.ren,A1] at h
  subst h
  exact ⟨ρ,hR,Ext.refl _ _,trivial⟩
 | nils =>
  simp only [SpA.ren,A1] at h
  subst h
  exact ⟨ρ,hR,Ext.refl _ _,trivial⟩
 | val τ =>
  simp only [SpA.ren,A1] at h
  subst h
  exact ⟨ρ,hR,Ext.refl _ _,trivial⟩
theorem oI:∀ {l:List SpA} {bs:List Atom} {us:List Value} {R R':Ren} {ρ : Nat→Value},SpA.renL l bs R=some R'→Rel2 (af m) us bs→fx m R ρ →
  ∃ ρ',fx m R' ρ'∧Ext R ρ R' ρ'∧Rel2 (AtomR m R' ρ') us l
 | [],[],[],R,R',ρ,h,_,hR=>by
  simp only [SpA.renL,A1] at h
  subst h
  exact ⟨ρ,hR,Ext.refl _ _,trivial⟩
 | [],_ :: _,_,_,_,_,h,_,_=>by simp [SpA.renL] at h
 | _ :: _,[],_,_,_,_,h,_,_=>by simp [SpA.renL] at h
 | _,_ :: _,[],_,_,_,_,h,_=>h.elim
 | _,[],_ :: _,_,_,_,_,h,_=>h.elim
 | x :: l,b :: bs,u :: us,R,R',ρ,h,hr,hR=>by
  simp only [SpA.renL] at h
  split at h
  ·rename_i R1 h1
   obtain ⟨ρ1,a1,a2,a3⟩:=jT h1 hr.1 hR
   obtain ⟨ρ2,b1,b2,b3⟩:=oI h hr.2 a1
   exact ⟨ρ2,b1,a2.trans b2,a3.ext b2,b3⟩
  ·simp at h
def SvR (m:Mem) (R:Ren) (ρ : Nat→Value) (u:Value):SpS→Prop
 | .av (.val _)=>True
 | .av x=>AtomR m R ρ u x
 | .agg l=>∃ us:List Value,u=.agg us.toArray∧(∀ v∈us,v.oneCell'=true)∧Rel2 (AtomR m R ρ) us l
 | .sub _=>True
 | .view _=>True
theorem SvR.ext {R R':Ren} {ρ ρ':Nat→Value} (he:Ext R ρ R' ρ') {u:Value} {x:SpS} (h:SvR m R ρ u x):SvR m R' ρ' u x:=by
 cases x with
 | av x =>
  cases x with
  | val _=>trivial
  | u=>trivial
  | undef=>trivial
  | nils=>trivial
  | own i=>exact AtomR.ext (x:=.own i) he h
  | ptr i o=>exact AtomR.ext (x:=.ptr i o) he h
  | clo f c=>exact AtomR.ext (m:=m) (u:=u) (x:=.clo f c) he h
  | ownd i=>exact AtomR.ext (x:=.ownd i) he h
  | ownm i=>exact AtomR.ext (x:=.ownm i) he h
 | agg l=>obtain ⟨us,h1,h2,h3⟩:=h; exact ⟨us,h1,h2,h3.mono fun _ _=>AtomR.ext he⟩
 | sub _=>trivial
 | view _=>trivial
theorem I6 {R R':Ren} {ρ : Nat→Value} {x:SpS} {b:SV} {u:Value} (h:x.ren b R=some R') (hr:RelSV m u b) (hR:fx m R ρ):∃ ρ',fx m R' ρ'∧Ext R ρ R' ρ'∧SvR m R' ρ' u x:=by
 unfold SpS.ren at h
 split at h
 ·rename_i x b
  cases x with
  | val τ =>
   have:R'=R:=by
    unfold SpA.ren at h
    split at h <;> first | cases ‹SpA.val _=_› | (simp only [A1] at h; exact h.symm)
   subst this
   exact ⟨ρ,hR,Ext.refl _ _,trivial⟩
  | u =>
   have:R'=R:=by
    unfold SpA.ren at h
    split at h <;> first | cases ‹SpA.u=_› | (simp only [A1] at h; exact h.symm)
   subst this
   exact ⟨ρ,hR,Ext.refl _ _,trivial⟩
  | undef =>
   have:R'=R:=by
    unfold SpA.ren at h
    split at h <;> first | cases ‹SpA.undef=_› | (simp only [A1] at h; exact h.symm)
   subst this
   exact ⟨ρ,hR,Ext.refl _ _,trivial⟩
  | nils =>
   have:R'=R:=by
    unfold SpA.ren at h
    split at h <;> first | cases ‹SpA.nils=_› | (simp only [A1] at h; exact h.symm)
   subst this
   exact ⟨ρ,hR,Ext.refl _ _,trivial⟩
  | own i =>
   cases b with
   | val τ y=>simp [SpA.ren] at h
   | _=>obtain ⟨ρ',k1,k2,k3⟩:=jT h ((ai (by intros; simp)).1 hr) hR; exact ⟨ρ',k1,k2,k3⟩
  | ptr i o =>
   cases b with
   | val τ y=>simp [SpA.ren] at h
   | _=>obtain ⟨ρ',k1,k2,k3⟩:=jT h ((ai (by intros; simp)).1 hr) hR; exact ⟨ρ',k1,k2,k3⟩
  | clo f c =>
   have h:Ren.addCaps c R=some R':=by cases b <;> exact h
   obtain ⟨ρ',k1,k2,k3⟩:=sI c h hR
   exact ⟨ρ',k1,k2,k3⟩
  | ownd i =>
   cases b with
   | val τ y=>simp [SpA.ren] at h
   | _=>obtain ⟨ρ',k1,k2,k3⟩:=jT h ((ai (by intros; simp)).1 hr) hR; exact ⟨ρ',k1,k2,k3⟩
  | ownm i =>
   cases b with
   | val τ y=>simp [SpA.ren] at h
   | _=>obtain ⟨ρ',k1,k2,k3⟩:=jT h ((ai (by intros; simp)).1 hr) hR; exact ⟨ρ',k1,k2,k3⟩
 ·rename_i l r
  obtain ⟨us,h1,h2,h3⟩:=hr
  obtain ⟨ρ',k1,k2,k3⟩:=oI h h3 hR
  exact ⟨ρ',k1,k2,us,h1,h2,k3⟩
 ·simp only [A1] at h; subst h; exact ⟨ρ,hR,Ext.refl _ _,trivial⟩
 ·simp only [A1] at h; subst h; exact ⟨ρ,hR,Ext.refl _ _,trivial⟩
 ·simp only [A1] at h; subst h; exact ⟨ρ,hR,Ext.refl _ _,trivial⟩
 ·simp only [A1] at h; subst h; exact ⟨ρ,hR,Ext.refl _ _,trivial⟩
 ·simp at h
theorem Cf {e:Env} {t:Nat→Value} (ht:∀ i,RelSV m (t i) (e.get i)):∀ {l:List (Nat×SpS)} {R R':Ren} {ρ : Nat→Value},qQ e l R=some R'→fx m R ρ →
  ∃ ρ',fx m R' ρ'∧Ext R ρ R' ρ'∧∀ p∈l,SvR m R' ρ' (t p.1) p.2
 | [],R,R',ρ,h,hR=>by simp only [qQ,A1] at h; subst h; exact ⟨ρ,hR,Ext.refl _ _,by simp⟩
 | p :: l,R,R',ρ,h,hR=>by
  simp only [qQ] at h
  split at h
  ·rename_i R1 h1
   obtain ⟨ρ1,a1,a2,a3⟩:=I6 h1 (ht p.1) hR
   obtain ⟨ρ2,b1,b2,b3⟩:=Cf ht h a1
   refine ⟨ρ2,b1,a2.trans b2,?_⟩
   intro q hq
   rcases B7.1 hq with rfl | hq
   ·exact a3.ext b2
   ·exact b3 q hq
  ·simp at h
def Lk (m:Mem) (R:Ren) (ρ : Nat→Value) (i:Nat) (sp:List SpA):Prop :=
 ∃ j b,R.get i=some (.own j)∧m.G.get j=some (.box b)∧∀ bl c el,m.ι j=.pointer (some ⟨bl,0,none⟩)→m.w.heap[bl]?=some (.cells c el (0,0))→Rel2 (AtomR m R ρ) c.toList sp
theorem kR (hi:Inv C w0 M m):∀ {l:List (Nat×SpO)} {R R':Ren} {ρ : Nat→Value},gV m.G l R=some R'→fx m R ρ →
  ∃ ρ',fx m R' ρ'∧Ext R ρ R' ρ'∧∀ p∈l,∀ sp,p.2=.box sp→Lk m R' ρ' p.1 sp
 | [],R,R',ρ,h,hR=>by simp only [gV,A1] at h; subst h; exact ⟨ρ,hR,Ext.refl _ _,by simp⟩
 | (i,.arr τ) :: l,R,R',ρ,h,hR=>by
  obtain ⟨ρ',k1,k2,k3⟩:=kR hi (l:=l) h hR
  refine ⟨ρ',k1,k2,?_⟩
  intro p hp sp he
  rcases B7.1 hp with rfl | hp
  ·cases he
  ·exact k3 p hp sp he
 | (i,.deep τ) :: l,R,R',ρ,h,hR=>by
  obtain ⟨ρ',k1,k2,k3⟩:=kR hi (l:=l) h hR
  refine ⟨ρ',k1,k2,?_⟩
  intro p hp sp he
  rcases B7.1 hp with rfl | hp
  ·cases he
  ·exact k3 p hp sp he
 | (i,.map κ v) :: l,R,R',ρ,h,hR=>by
  obtain ⟨ρ',k1,k2,k3⟩:=kR hi (l:=l) h hR
  refine ⟨ρ',k1,k2,?_⟩
  intro p hp sp he
  rcases B7.1 hp with rfl | hp
  ·cases he
  ·exact k3 p hp sp he
 | (i,.box s) :: l,R,R',ρ,h,hR=>by
  simp only [gV] at h
  split at h
  ·rename_i j hj
   split at h
   ·rename_i c hc
    split at h
    ·rename_i R1 h1
     obtain ⟨b,cc,el,q1,q2,q3,q4⟩:=hi.objs j _ hc
     obtain ⟨ρ1,a1,a2,a3⟩:=oI h1 q4 hR
     obtain ⟨ρ2,b1,b2,b3⟩:=kR hi h a1
     refine ⟨ρ2,b1,a2.trans b2,?_⟩
     intro p hp sp he
     rcases B7.1 hp with rfl | hp
     ·cases he
      refine ⟨j,c,((a2.trans b2) i _ hj).1,hc,fun bl c' el' e1 e2=>?_⟩
      rw [q1] at e1
      simp only [Value.pointer.injEq,A1,Addr.mk.injEq,and_true] at e1
      subst e1
      rw [q2] at e2
      simp only [A1,Go.Obj.cells.injEq] at e2
      obtain ⟨rfl,_⟩:=e2
      exact a3.mono fun _ _=>AtomR.ext b2
     ·exact b3 p hp sp he
    ·simp at h
   ·simp at h
  ·simp at h
end
end Go.Vm

/-
 A state laid into a shape: the leaves.
-/
namespace Go.Vm
section
variable {P:Program} {C:Ctx} {w0:World} {M:Own} {N:Nat} {a:Act} {m:Mem} {s:St}
def ET (G:Heap) (sp:SpA) (b a':Atom):Prop:=match sp with
 | .val τ=>∃ x,a'=.val τ x∧aG G τ b=some x
 | .u=>a'=.u
 | .undef=>a'=.undef∧b=.undef
 | .nils=>a'=.nils∧b=.nils
 | .own i=>a'=.own i
 | .ptr i o=>a'=.ptr i o
 | .clo f c=>a'=.clo f c∧b=.clo f c
 | .ownd i=>a'=.ownd i
 | .ownm i=>a'=.ownm i
def tj (G:Heap):List SpA→List Atom→List Atom→Prop
 | [],_,as=>as=[]
 | x :: l,b :: bs,y :: as=>ET G x b y∧tj G l bs as
 | _,_,_=>False
theorem fE {G:Heap} {sp:SpA} {b:Atom} {r:Ty} {k:Option r.den} {y:(sp.tys r).den} (h:sp.ext G b r k=some y):k=some (sp.inj r y).2∧ET G sp b (sp.inj r y).1:=by
 cases sp with
 | val τ =>
  simp only [SpA.ext] at h
  split at h
  ·rename_i x z hx
   have:=B6 h
   subst this
   exact ⟨rfl,x,rfl,hx⟩
  ·simp at h
 | u=>exact ⟨h,rfl⟩
 | undef =>
  cases b <;> simp only [SpA.ext] at h <;> first | exact ⟨h,rfl,rfl⟩ | simp at h
 | nils =>
  cases b <;> simp only [SpA.ext] at h <;> first | exact ⟨h,rfl,rfl⟩ | simp at h
 | own i=>exact ⟨h,rfl⟩
 | ptr i o=>exact ⟨h,rfl⟩
 | ownd i=>exact ⟨h,rfl⟩
 | ownm i=>exact ⟨h,rfl⟩
 | clo f c =>
  cases b <;> simp only [SpA.ext] at h <;> try (simp at h; done)
  rename_i f' c'
  cases hc:(B1 f f' && decide (c=c')) with
  | false=>rw [hc] at h; simp at h
  | true =>
   rw [hc] at h
   simp only [A3,decide_eq_true_eq] at hc
   have:=A4 hc.1
   subst this
   obtain ⟨_,rfl⟩:=hc
   exact ⟨h,rfl,rfl⟩
theorem n7 {G:Heap}:∀ {l:List SpA} {bs:List Atom} {r:Ty} {k:Option r.den} {y:(SpA.tysL l r).den},SpA.extL G l bs r k=some y→k=some (SpA.injL l r y).2∧tj G l bs (SpA.injL l r y).1
 | [],_,_,_,_,h=>⟨h,rfl⟩
 | _ :: _,[],_,_,_,h=>by simp [SpA.extL] at h
 | x :: l,b :: bs,r,k,y,h=>by
  simp only [SpA.extL] at h
  obtain ⟨h1,h2⟩:=fE h
  obtain ⟨h3,h4⟩:=n7 h1
  exact ⟨h3,h2,h4⟩
def Bw (G:Heap) (sp:SpS) (b v:SV):Prop:=match sp with
 | .av (.val τ)=>∃ x,v=.av (.val τ x)∧aP G τ b=some x
 | .av .u=>v=.av .u
 | .av x=>∃ b' a',b=.av b'∧v=.av a'∧ET G x b' a'
 | .agg l=>∃ bs as,b=.agg bs∧v=.agg as∧tj G l bs as
 | .sub i=>∃ id ver j,b=.av (.sub id ver j)∧v=.av (.sub i 0 j)
 | .view i=>∃ id o n,b=.av (.view id o n)∧v=.av (.view i o n)
theorem Jt {G:Heap} {sp:SpS} {b:SV} {r:Ty} {k:Option r.den} {y:(sp.tys r).den} (h:sp.ext G b r k=some y):k=some (sp.inj r y).2∧Bw G sp b (sp.inj r y).1:=by
 have atom {x:SpA} (hx:∀ τ,x≠.val τ) (hu:x≠.u) {y:((SpS.av x).tys r).den} (h:(SpS.av x).ext G b r k=some y):∃ b',b=.av b'∧x.ext G b' r k=some y:=by
  cases x with
  | val τ=>exact absurd rfl (hx τ)
  | u=>exact absurd rfl hu
  | _ =>
   cases b with
   | av b'=>exact ⟨b',rfl,h⟩
   | agg _=>simp [SpS.ext] at h
   | tup _=>simp [SpS.ext] at h
 cases sp with
 | av x =>
  cases x with
  | val τ =>
   unfold SpS.ext at h
   dsimp only at h
   split at h
   ·rename_i z q hz
    have:=B6 h
    subst this
    exact ⟨rfl,z,rfl,hz⟩
   ·simp at h
  | u =>
   have h:k=some y:=by cases b <;> exact h
   exact ⟨h,rfl⟩
  | undef=>obtain ⟨b',rfl,h⟩:=atom (by simp) (by simp) h; obtain ⟨h1,h2⟩:=fE (sp:=.undef) h; exact ⟨h1,b',_,rfl,rfl,h2⟩
  | nils=>obtain ⟨b',rfl,h⟩:=atom (by simp) (by simp) h; obtain ⟨h1,h2⟩:=fE (sp:=.nils) h; exact ⟨h1,b',_,rfl,rfl,h2⟩
  | own i=>obtain ⟨b',rfl,h⟩:=atom (by simp) (by simp) h; obtain ⟨h1,h2⟩:=fE (sp:=.own i) h; exact ⟨h1,b',_,rfl,rfl,h2⟩
  | ownd i=>obtain ⟨b',rfl,h⟩:=atom (by simp) (by simp) h; obtain ⟨h1,h2⟩:=fE (sp:=.ownd i) h; exact ⟨h1,b',_,rfl,rfl,h2⟩
  | ownm i=>obtain ⟨b',rfl,h⟩:=atom (by simp) (by simp) h; obtain ⟨h1,h2⟩:=fE (sp:=.ownm i) h; exact ⟨h1,b',_,rfl,rfl,h2⟩
  | ptr i o=>obtain ⟨b',rfl,h⟩:=atom (by simp) (by simp) h; obtain ⟨h1,h2⟩:=fE (sp:=.ptr i o) h; exact ⟨h1,b',_,rfl,rfl,h2⟩
  | clo f c=>obtain ⟨b',rfl,h⟩:=atom (by simp) (by simp) h; obtain ⟨h1,h2⟩:=fE (sp:=.clo f c) h; exact ⟨h1,b',_,rfl,rfl,h2⟩
 | agg l =>
  cases b with
  | agg bs=>obtain ⟨h1,h2⟩:=n7 (l:=l) h; exact ⟨h1,bs,_,rfl,rfl,h2⟩
  | av _=>simp [SpS.ext] at h
  | tup _=>simp [SpS.ext] at h
 | sub i =>
  cases b with
  | agg _=>simp [SpS.ext] at h
  | tup _=>simp [SpS.ext] at h
  | av b =>
   cases b with
   | sub id ver j =>
    cases k with
    | none=>simp [SpS.ext] at h
    | some z =>
     simp only [SpS.ext,A1] at h
     subst h
     exact ⟨rfl,id,ver,j,rfl,by show SV.av (.sub i 0 ((j:Int).toNat))=_; rw [B2]⟩
   | _=>simp [SpS.ext] at h
 | view i =>
  cases b with
  | agg _=>simp [SpS.ext] at h
  | tup _=>simp [SpS.ext] at h
  | av b =>
   cases b with
   | view id o n =>
    cases k with
    | none=>simp [SpS.ext] at h
    | some z =>
     simp only [SpS.ext,A1] at h
     subst h
     exact ⟨rfl,id,o,n,rfl,by show SV.av (.view i ((o:Int).toNat) ((n:Int).toNat))=_; rw [B2,B2]⟩
   | _=>simp [SpS.ext] at h
theorem Ci {G:Heap} {e:Env}:∀ {l:List (Nat×SpS)} {y:(ij l).den},uW G e l=some y→Rel2 (fun p q=>p.1=q.1∧Bw G p.2 (e.get p.1) q.2) l (vT l y)
 | [],_,_=>trivial
 | p :: l,y,h=>by
  simp only [uW] at h
  obtain ⟨h1,h2⟩:=Jt h
  exact ⟨⟨rfl,h2⟩,Ci h1⟩
def zt (G:Heap) (R:Ren) (i:Nat) (sp:SpO) (o:Obj):Prop:=match sp with
 | .arr τ=>∃ x,o=.arr τ x∧cK G τ (R.get i)=some x
 | .deep τ=>∃ x,o=.deep 0 τ x none∧bX G τ (R.get i)=some x
 | .map k v=>∃ x,o=.map k v x∧fu G k v (R.get i)=some x
 | .box l=>∃ j c as,o=.box as∧R.get i=some (.own j)∧G.get j=some (.box c)∧tj G l c as
theorem HK {G:Heap} {R:Ren} {i:Nat} {sp:SpO} {r:Ty} {k:Option r.den} {y:(sp.tys r).den} (h:sp.ext G R i r k=some y):k=some (sp.inj r y).2∧zt G R i sp (sp.inj r y).1:=by
 cases sp with
 | arr τ =>
  unfold SpO.ext at h
  dsimp only at h
  split at h
  ·rename_i z q hz
   have:=B6 h
   subst this
   exact ⟨rfl,z,rfl,hz⟩
  ·simp at h
 | deep τ =>
  unfold SpO.ext at h
  dsimp only at h
  split at h
  ·rename_i z q hz
   have:=B6 h
   subst this
   exact ⟨rfl,z,rfl,hz⟩
  ·simp at h
 | map κ v =>
  unfold SpO.ext at h
  dsimp only at h
  split at h
  ·rename_i z q hz
   have:=B6 h
   subst this
   exact ⟨rfl,z,rfl,hz⟩
  ·simp at h
 | box l =>
  unfold SpO.ext at h
  dsimp only at h
  split at h
  ·rename_i j hj
   split at h
   ·rename_i c hc
    obtain ⟨h1,h2⟩:=n7 (l:=l) h
    exact ⟨h1,j,c,_,rfl,hj,hc,h2⟩
   ·simp at h
  ·simp at h
theorem yj {G:Heap} {R:Ren}:∀ {l:List (Nat×SpO)} {r:Ty} {k:Option r.den} {y:(mi l r).den},pZ G R l r k=some y→k=some (mS l r y).2∧Rel2 (fun p q=>p.1=q.1∧zt G R p.1 p.2 q.2) l (mS l r y).1
 | [],_,_,_,h=>⟨h,trivial⟩
 | p :: l,r,k,y,h=>by
  simp only [pZ] at h
  obtain ⟨h1,h2⟩:=HK h
  obtain ⟨h3,h4⟩:=yj h1
  exact ⟨h3,⟨rfl,h2⟩,h4⟩
theorem BB {l:List (Nat×SpO)} {G:Heap} {r:Nat→SpO→Obj→Prop} (h:Rel2 (fun p q=>p.1=q.1∧r p.1 p.2 q.2) l G):∀ {i:Nat} {o:Obj},G.get i=some o→∃ sp,(i,sp)∈l∧r i sp o:=by
 induction l generalizing G with
 | nil=>cases G with
  | nil=>intro i o h; simp [Heap.get] at h
  | cons _ _=>exact h.elim
 | cons p l ih=>cases G with
  | nil=>exact h.elim
  | cons q G =>
   obtain ⟨k,v⟩:=q
   obtain ⟨⟨h1,h2⟩,h3⟩:=h
   intro i o hg
   rw [Heap.get_cons] at hg
   split at hg
   ·rename_i e
    simp only [A1] at hg
    subst hg
    subst e
    simp only at h1
    exact ⟨p.2,by simp [← h1],h1 ▸ h2⟩
   ·obtain ⟨sp,a1,a2⟩:=ih h3 hg
    exact ⟨sp,by simp [a1],a2⟩
theorem Cs {l:List (Nat×SpO)} {G:Heap} {r:Nat→SpO→Obj→Prop} (h:Rel2 (fun p q=>p.1=q.1∧r p.1 p.2 q.2) l G) (hn:aS (l.map (·.1))=true):∀ {i:Nat} {sp:SpO},(i,sp)∈l→∃ o,G.get i=some o∧r i sp o:=by
 induction l generalizing G with
 | nil=>intro i sp h; simp at h
 | cons p l ih=>cases G with
  | nil=>exact h.elim
  | cons q G =>
   obtain ⟨k,v⟩:=q
   obtain ⟨⟨h1,h2⟩,h3⟩:=h
   simp only [Mo] at hn
   obtain ⟨n1,n2⟩:=fv hn
   intro i sp hm
   rcases B7.1 hm with e | hm
   ·subst e
    simp only at h1 h2
    exact ⟨v,by rw [Heap.get_cons,if_pos h1.symm],h2⟩
   ·obtain ⟨o,a1,a2⟩:=ih h3 n2 hm
    refine ⟨o,?_,a2⟩
    rw [Heap.get_cons,if_neg]
    ·exact a1
    ·intro e
     simp only at h1
     rw [← h1] at e
     exact n1 (by rw [e]; exact Nv.2 ⟨_,hm,rfl⟩)
theorem Hg {l:List (Nat×SpS)} {e:Env} {r:Nat→SpS→SV→Prop} (h:Rel2 (fun p q=>p.1=q.1∧r p.1 p.2 q.2) l e) (t:Nat):e.get t=.av .u∨∃ sp,(t,sp)∈l∧r t sp (e.get t):=by
 induction l generalizing e with
 | nil=>cases e with
  | nil=>exact .inl rfl
  | cons _ _=>exact h.elim
 | cons p l ih=>cases e with
  | nil=>exact h.elim
  | cons q e =>
   obtain ⟨k,v⟩:=q
   obtain ⟨⟨h1,h2⟩,h3⟩:=h
   rw [Env.get_cons]
   split
   ·rename_i ek
    subst ek
    simp only at h1
    exact .inr ⟨p.2,by simp [← h1],h1 ▸ h2⟩
   ·rcases ih h3 with h | ⟨sp,a1,a2⟩
    ·exact .inl h
    ·exact .inr ⟨sp,by simp [a1],a2⟩
theorem Rel2.mono_mem {α β : Type} {r s : α→β→Prop}:∀ {l:List α} {k:List β},(∀ a b,b∈k→r a b→s a b)→Rel2 r l k→Rel2 s l k
 | [],[],_,_=>trivial
 | [],_ :: _,_,h=>h.elim
 | _ :: _,[],_,h=>h.elim
 | _ :: _,_ :: _,hr,h=>⟨hr _ _ (by simp) h.1,Rel2.mono_mem (fun a b hb=>hr a b (by simp [hb])) h.2⟩
structure Laid (m m':Mem) (R:Ren) (ρ : Nat→Value) (objs:List (Nat×SpO)):Prop where
 w:m'.w=m.w
 F:∀ b,m.F b→m'.F b
 thru:∀ id b,id∉R.ids→Blk m id b→m'.F b
 ren:fx m R ρ
 ι : ∀ i,m'.ι i=match R.get i with | some (.own j)=>m.ι j | _=>ρ i
 has:∀ i sp,(i,sp)∈objs→∃ o,m'.G.get i=some o∧zt m.G R i sp o
theorem ld {k:Nat} {i:Nat} {l:List (Nat×SpO)} (h:eM k i l=true):∃ sp,(i,sp)∈l∧sp.kind=k:=by
 unfold eM at h
 rw [ME] at h
 obtain ⟨p,hp,hh⟩:=h
 simp only [A3] at hh
 have:=A4 hh.1
 subst this
 exact ⟨p.2,hp,A4 hh.2⟩
variable {m':Mem} {R:Ren} {ρ : Nat→Value} {objs:List (Nat×SpO)}
theorem Laid.arr (h:Laid m m' R ρ objs) {i:Nat} (hw:eM 0 i objs=true):∃ τ x,m'.G.get i=some (.arr τ x)∧cK m.G τ (R.get i)=some x:=by
 obtain ⟨sp,h1,h2⟩:=ld hw
 obtain ⟨o,h3,h4⟩:=h.has i sp h1
 cases sp with
 | arr τ=>obtain ⟨x,rfl,h5⟩:=h4; exact ⟨τ,x,h3,h5⟩
 | _=>simp [SpO.kind] at h2
theorem Laid.box (h:Laid m m' R ρ objs) {i:Nat} (hw:eM 1 i objs=true):∃ as j c,m'.G.get i=some (.box as)∧R.get i=some (.own j)∧m.G.get j=some (.box c):=by
 obtain ⟨sp,h1,h2⟩:=ld hw
 obtain ⟨o,h3,h4⟩:=h.has i sp h1
 cases sp with
 | box l=>obtain ⟨j,c,as,rfl,h5,h6,_⟩:=h4; exact ⟨as,j,c,h3,h5,h6⟩
 | _=>simp [SpO.kind] at h2
theorem Laid.deep (h:Laid m m' R ρ objs) {i:Nat} (hw:eM 2 i objs=true):∃ τ x,m'.G.get i=some (.deep 0 τ x none)∧bX m.G τ (R.get i)=some x:=by
 obtain ⟨sp,h1,h2⟩:=ld hw
 obtain ⟨o,h3,h4⟩:=h.has i sp h1
 cases sp with
 | deep τ=>obtain ⟨x,rfl,h5⟩:=h4; exact ⟨τ,x,h3,h5⟩
 | _=>simp [SpO.kind] at h2
theorem Laid.map (h:Laid m m' R ρ objs) {i:Nat} (hw:eM 3 i objs=true):∃ k v x,m'.G.get i=some (.map k v x)∧fu m.G k v (R.get i)=some x:=by
 obtain ⟨sp,h1,h2⟩:=ld hw
 obtain ⟨o,h3,h4⟩:=h.has i sp h1
 cases sp with
 | map k v=>obtain ⟨x,rfl,h5⟩:=h4; exact ⟨k,v,x,h3,h5⟩
 | _=>simp [SpO.kind] at h2
theorem Laid.thruIds (h:Laid m m' R ρ objs) {ids:List Nat} (hn:∀ i∈ids,i∉R.ids) {b:Nat} (hb:Thru m ids b):m'.F b:=by
 rcases hb with hb | ⟨id,hid,hb⟩
 ·exact h.F b hb
 ·exact h.thru id b (hn id hid) hb
theorem iS (hi:Inv C w0 M m) (h:Laid m m' R ρ objs) {u:Value} {b a':Atom} {sp:SpA} (hl:ET m.G sp b a') (hr:af m u b) (hA:AtomR m R ρ u sp) (hw:sp.wf objs=true) (hf:∀ i∈sp.froz b,i∉R.ids):af m' u a':=by
 cases sp with
 | val τ =>
  obtain ⟨x,rfl,hx⟩:=hl
  refine ⟨(ef hi hx hr).mono fun bl hb=>⟨h.thruIds hf hb,by rw [h.w]⟩,?_⟩
  simpa [SpA.wf] using hw
 | u=>obtain rfl:=hl; trivial
 | undef=>obtain ⟨rfl,rfl⟩:=hl; exact hr
 | nils=>obtain ⟨rfl,rfl⟩:=hl; exact hr
 | own i =>
  obtain rfl:=hl
  obtain ⟨τ,x,h1,h2⟩:=h.arr hw
  obtain ⟨h3,src,h4,h5⟩:=hA
  refine ⟨h3,_,h1,fun _=>?_⟩
  rw [h.ι i,h4]
  rw [h4] at h2
  have hreal:=h.ren i src h4
  cases src with
  | nil =>
   rcases h5 with h5 | ⟨j,h5,_⟩
   ·exact h5
   ·cases h5
  | own j =>
   have hal:gI m j:=by
    simp only [cK] at h2
    split at h2
    ·rename_i σ l hg; exact ⟨_,hg,rfl⟩
    ·simp at h2
   rcases h5 with h5 | ⟨j',h5,h6⟩
   ·rw [h5]; exact hreal hal
   ·cases h5; exact absurd hal h6
  | view j o n =>
   rcases h5 with h5 | ⟨j',h5,_⟩
   ·exact h5
   ·cases h5
  | nild=>simp [cK] at h2
 | ownm i =>
  obtain rfl:=hl
  obtain ⟨k,v,x,h1,h2⟩:=h.map hw
  obtain ⟨h3,j,h4,h5⟩:=hA
  refine ⟨h3,_,h1,?_⟩
  show u=m'.ι i
  rw [h.ι i,h4]
  rw [h4] at h2
  have hal:gI m j:=by
   simp only [fu] at h2
   split at h2
   ·rename_i hg; exact ⟨_,hg,rfl⟩
   ·simp at h2
  rcases h5 with h5 | h5
  ·rw [h5]; exact h.ren i _ h4 hal
  ·exact absurd hal h5
 | ownd i =>
  obtain rfl:=hl
  obtain ⟨τ,x,h1,h2⟩:=h.deep hw
  obtain ⟨h3,src,h4,h5⟩:=hA
  refine ⟨h3,_,h1,?_⟩
  show ∃ us,m'.ι i=.tuple us∧us[0]?=some u
  rw [h.ι i,h4]
  rw [h4] at h2
  have hreal:=h.ren i src h4
  cases src with
  | nild =>
   rcases h5 with h5 | ⟨j,h5,_⟩
   ·exact h5
   ·cases h5
  | own j =>
   have hal:gI m j:=by
    simp only [bX] at h2
    split at h2
    ·rename_i hg; exact ⟨_,hg,rfl⟩
    ·simp at h2
   rcases h5 with h5 | ⟨j',h5,h6⟩
   ·have e : ρ i=m.ι j:=hreal hal
    simp only
    rw [← e]; exact h5
   ·cases h5; exact absurd hal h6
  | nil=>simp [bX] at h2
  | view j o n=>simp [bX] at h2
 | ptr i o =>
  obtain rfl:=hl
  obtain ⟨as,j,c,h1,h2,h3⟩:=h.box hw
  obtain ⟨j',h4,h5,o',h6,h7⟩:=hA
  rw [h2] at h4
  simp only [A1,Src.own.injEq] at h4
  subst h4
  rw [h3] at h6
  simp only [A1] at h6
  subst h6
  refine ⟨h5,_,h1,?_⟩
  rw [h.ι i,h2]
  exact h7
 | clo f c =>
  obtain ⟨rfl,rfl⟩:=hl
  obtain ⟨vs,h1,h2⟩:=hr
  refine ⟨vs,h1,Rel2.mono_mem ?_ h2⟩
  rintro v i hic ⟨o,h3,h4⟩
  have hwi:eM 1 i objs=true:=by
   simp only [SpA.wf,LZ] at hw
   exact hw i hic
  obtain ⟨as,j,c',k1,k2,k3⟩:=h.box hwi
  have hRi:=hA i hic
  rw [k2] at hRi
  simp only [A1,Src.own.injEq] at hRi
  subst hRi
  rw [k3] at h3
  simp only [A1] at h3
  subst h3
  refine ⟨_,k1,?_⟩
  rw [h.ι,k2]
  exact h4
theorem oR (hi:Inv C w0 M m) (h:Laid m m' R ρ objs):∀ {us:List Value} {bs as:List Atom} {l:List SpA},tj m.G l bs as→Rel2 (af m) us bs→Rel2 (AtomR m R ρ) us l→(l.all fun x=>x.wf objs)=true→(∀ i∈SpA.frozL l bs,i∉R.ids)→Rel2 (af m') us as
 | [],bs,as,[],hl,_,_,_,_=>by unfold tj at hl; subst hl; trivial
 | [],_,_,_ :: _,_,_,h,_,_=>h.elim
 | _ :: _,_,_,[],_,_,h,_,_=>h.elim
 | _ :: _,[],_,_ :: _,_,h,_,_,_=>h.elim
 | _ :: _,_ :: _,[],_ :: _,h,_,_,_,_=>h.elim
 | u :: us,b :: bs,y :: as,x :: l,hl,hr,hA,hw,hf=>by
  simp only [NZ,A3] at hw
  exact ⟨iS hi h hl.1 hr.1 hA.1 hw.1 (fun i hi'=>hf i (by simp [SpA.frozL,hi'])),oR hi h hl.2 hr.2 hA.2 hw.2 (fun i hi'=>hf i (by simp [SpA.frozL,hi']))⟩
theorem CK (hi:Inv C w0 M m) (h:Laid m m' R ρ objs) {u:Value} {b v:SV} {sp:SpS} (hl:Bw m.G sp b v) (hr:RelSV m u b) (hA:SvR m R ρ u sp) (hw:sp.wf objs=true) (hf:∀ i∈sp.froz m.G b,i∉R.ids) (hk:sp.look m.G R b=true):RelSV m' u v:=by
 have atom {x:SpA} {b' a':Atom} (hv:∀ τ,x≠.val τ) (hl:ET m.G x b' a') (hr:RelSV m u (.av b')) (hA:AtomR m R ρ u x) (hw:x.wf objs=true):RelSV m' u (.av a'):=by
  have hnv:x≠.u→∀ τ y,b'=.val τ y→∃ i,x=.own i∨x=.ownd i∨x=.ownm i∨∃ o,x=.ptr i o:=by
   intro hu τ y e
   subst e
   cases x with
   | val τ=>exact absurd rfl (hv τ)
   | u=>exact absurd rfl hu
   | undef=>obtain ⟨_,h⟩:=hl; cases h
   | nils=>obtain ⟨_,h⟩:=hl; cases h
   | own i=>exact ⟨i,.inl rfl⟩
   | ownd i=>exact ⟨i,.inr (.inl rfl)⟩
   | ownm i=>exact ⟨i,.inr (.inr (.inl rfl))⟩
   | ptr i o=>exact ⟨i,.inr (.inr (.inr ⟨o,rfl⟩))⟩
   | clo f c=>obtain ⟨_,h⟩:=hl; cases h
  refine RelSV.of_atom ?_
  have hfz:∀ b':Atom,∀ i∈x.froz b',i∉R.ids:=by
   intro b' i hi'
   cases x with
   | val τ=>exact absurd rfl (hv τ)
   | _=>simp [SpA.froz] at hi'
  by_cases hval:∃ τ y,b'=.val τ y
  ·obtain ⟨τ,y,rfl⟩:=hval
   cases x with
   | val τ=>exact absurd rfl (hv τ)
   | u=>obtain rfl:=hl; trivial
   | undef=>obtain ⟨_,h⟩:=hl; cases h
   | nils=>obtain ⟨_,h⟩:=hl; cases h
   | clo f c=>obtain ⟨_,h⟩:=hl; cases h
   | own i=>exact iS hi h (b:=.u) hl trivial hA hw (hfz _)
   | ownd i=>exact iS hi h (b:=.u) hl trivial hA hw (hfz _)
   | ownm i=>exact iS hi h (b:=.u) hl trivial hA hw (hfz _)
   | ptr i o=>exact iS hi h (b:=.u) hl trivial hA hw (hfz _)
  ·exact iS hi h hl ((ai (fun τ y e=>hval ⟨τ,y,e⟩)).1 hr) hA hw (hfz _)
 cases sp with
 | av x =>
  cases x with
  | val τ =>
   obtain ⟨x,rfl,hx⟩:=hl
   obtain ⟨cs,h1,h2⟩:=dt hi hx hr
   exact ⟨cs,h1,h2.mono fun bl hb=>⟨h.thruIds hf hb,by rw [h.w]⟩⟩
  | u=>obtain rfl:=hl; trivial
  | undef=>obtain ⟨b',a',rfl,rfl,hl⟩:=hl; exact atom (x:=.undef) (by simp) hl hr hA hw
  | nils=>obtain ⟨b',a',rfl,rfl,hl⟩:=hl; exact atom (x:=.nils) (by simp) hl hr hA hw
  | own i=>obtain ⟨b',a',rfl,rfl,hl⟩:=hl; exact atom (x:=.own i) (by simp) hl hr hA hw
  | ownd i=>obtain ⟨b',a',rfl,rfl,hl⟩:=hl; exact atom (x:=.ownd i) (by simp) hl hr hA hw
  | ownm i=>obtain ⟨b',a',rfl,rfl,hl⟩:=hl; exact atom (x:=.ownm i) (by simp) hl hr hA hw
  | ptr i o=>obtain ⟨b',a',rfl,rfl,hl⟩:=hl; exact atom (x:=.ptr i o) (by simp) hl hr hA hw
  | clo f c=>obtain ⟨b',a',rfl,rfl,hl⟩:=hl; exact atom (x:=.clo f c) (by simp) hl hr hA hw
 | agg l =>
  obtain ⟨bs,as,rfl,rfl,hl⟩:=hl
  obtain ⟨us,h1,h2,h3⟩:=hr
  obtain ⟨us',h1',h2',h3'⟩:=hA
  have:us=us':=by
   rw [h1] at h1'
   simpa using h1'
  subst this
  exact ⟨us,h1,h2,oR hi h hl h3 h3' hw hf⟩
 | sub i =>
  obtain ⟨id,ver,j,rfl,rfl⟩:=hl
  refine RelSV.of_atom ?_
  obtain ⟨h1,o,h2,h3⟩:=(ai (by intros; simp)).1 hr
  simp only [SpS.look,A3] at hk
  obtain ⟨k1,k2⟩:=hk
  have hR:R.get i=some (.own id):=by
   split at k1
   ·rename_i j' hj
    rw [hj,A4 k1]
   ·cases k1
  rw [h2] at k2
  obtain ⟨τ,x,q1,q2⟩:=h.deep (show eM 2 i objs=true from hw)
  rw [hR] at q2
  simp only [bX,h2] at q2
  split at k2
  ·rename_i ver' σ l hg
   cases hg
   have hv:=A4 k2
   subst hv
   obtain ⟨he,hx⟩:=ao q2
   simp only [Ty.slice.injEq] at he
   subst he
   subst hx
   obtain ⟨_,h3⟩:=h3
   obtain ⟨r1,_,us,r2,r3⟩:=h3 rfl
   refine ⟨h1,_,q1,A7 _,fun _=>⟨r1,rfl,us,?_,r3⟩⟩
   rw [h.ι i,hR]
   exact r2
  ·cases k2
 | view i =>
  obtain ⟨id,off,n,rfl,rfl⟩:=hl
  refine RelSV.of_atom ?_
  obtain ⟨h1,o,h2,h3⟩:=(ai (by intros; simp)).1 hr
  simp only [SpS.look] at hk
  have hR:R.get i=some (.own id):=by
   split at hk
   ·rename_i j' hj
    rw [hj,A4 hk]
   ·cases hk
  obtain ⟨τ,x,q1,q2⟩:=h.arr (show eM 0 i objs=true from hw)
  rw [hR] at q2
  simp only [cK,h2] at q2
  cases o with
  | arr σ l =>
   simp only at q2
   obtain ⟨he,hx⟩:=ao q2
   cases he
   subst hx
   obtain ⟨r1,r2⟩:=h3
   refine ⟨h1,_,q1,r1,?_⟩
   rw [h.ι i,hR]
   exact r2
  | _=>simp at q2
end
end Go.Vm

/-
 A state laid into a shape: the whole.
-/
namespace Go.Vm
section
variable {P:Program} {C:Ctx} {w0:World} {M:Own} {N:Nat} {a:Act} {m:Mem} {s:St}
theorem Ep {G:Heap} {e:Env} {l:List (Nat×SpS)} {p:Nat×SpS} (hp:p∈l):∀ i∈p.2.froz G (e.get p.1),i∈lF G e l:=by
 induction l with
 | nil=>cases hp
 | cons q l ih =>
  intro i hi
  simp only [lF,B3]
  rcases B7.1 hp with rfl | hp
  ·exact .inl hi
  ·exact .inr (ih hp i hi)
theorem CB {G:Heap} {R:Ren} {l:List (Nat×SpO)} {i j:Nat} {sl:List SpA} {c:List Atom} (hp:(i,SpO.box sl)∈l) (hj:R.get i=some (.own j)) (hc:G.get j=some (.box c)):∀ k∈SpA.frozL sl c,k∈dS G R l:=by
 induction l with
 | nil=>cases hp
 | cons q l ih =>
  intro k hk
  rcases B7.1 hp with rfl | hp'
  ·simp only [dS,hj,hc,B3]
   exact .inl hk
  ·obtain ⟨i',sp⟩:=q
   cases sp with
   | arr τ=>exact ih hp' k hk
   | deep τ=>exact ih hp' k hk
   | map _ _=>exact ih hp' k hk
   | box s=>simp only [dS,B3]; exact .inr (ih hp' k hk)
theorem Heap.key_of_get {G:Heap}:∀ {i:Nat} {o:Obj},G.get i=some o→i∈G.map (·.1):=by
 induction G with
 | nil=>intro i o h; simp [Heap.get] at h
 | cons p r ih =>
  intro i o h
  obtain ⟨k,v⟩:=p
  rw [Heap.get_cons] at h
  split at h
  ·rename_i e; simp [e]
  ·simp only [Mo,B7]; exact .inr (ih h)
theorem Ren.mem_of_get {R:Ren}:∀ {i:Nat} {src:Src},R.get i=some src→(i,src)∈R:=by
 induction R with
 | nil=>intro i src h; simp [Ren.get] at h
 | cons p r ih =>
  intro i src h
  obtain ⟨k,v⟩:=p
  rw [Ren.get_cons] at h
  split at h
  ·rename_i e; simp only [A1] at h; subst h; subst e; simp
  ·simp [ih h]
theorem mo {R:Ren} {i j:Nat} {src:Src} (h:R.get i=some src) (hj:j∈src.ids):j∈R.ids:=by
 unfold Ren.ids
 rw [List.mem_flatMap]
 exact ⟨_,Ren.mem_of_get h,hj⟩
theorem HE {R:Ren} (hn:aS R.ids=true):∀ {i i' j:Nat} {src src':Src},R.get i=some src→R.get i'=some src'→j∈src.ids→j∈src'.ids→i=i':=by
 induction R with
 | nil=>intro i i' j src src' h; simp [Ren.get] at h
 | cons p r ih =>
  intro i i' j src src' h h' hj hj'
  obtain ⟨k,v⟩:=p
  have hn':aS (Ren.ids r)=true∧∀ x∈v.ids,x∉Ren.ids r:=by
   have e:Ren.ids ((k,v) :: r)=v.ids++Ren.ids r:=rfl
   rw [e] at hn
   cases v with
   | nil=>exact ⟨hn,by simp [Src.ids]⟩
   | nild=>exact ⟨hn,by simp [Src.ids]⟩
   | own q=>obtain ⟨n1,n2⟩:=fv hn; exact ⟨n2,by intro x hx; simp [Src.ids] at hx; subst hx; exact n1⟩
   | view q _ _=>obtain ⟨n1,n2⟩:=fv hn; exact ⟨n2,by intro x hx; simp [Src.ids] at hx; subst hx; exact n1⟩
  rw [Ren.get_cons] at h h'
  split at h <;> split at h'
  ·omega
  ·simp only [A1] at h
   subst h
   exact absurd (mo h' hj') (hn'.2 j hj)
  ·simp only [A1] at h'
   subst h'
   exact absurd (mo h hj) (hn'.2 j hj')
  ·exact ih hn'.1 h h' hj hj'
theorem p8 (hs:Sim C w0 M N a m s.env) (hG:m.G=s.G) {sh:Shape} {x:sh.ty.den} (hp:∀ i v,M.pin i=some v→i∈sh.pins) (h:sh.ext s=some x):∃ m',m'.w=m.w∧m'.G=(sh.inj x).G∧Sim C w0 M N a m' (sh.inj x).env:=by
 unfold Shape.ext at h
 split at h
 ·simp at h
 ·rename_i R0 hR0
  split at h
  ·simp at h
  ·rename_i R hR
   cases hc:(sh.wf && pinned R sh.pins && aS R.ids && !(R.ids.any fun i=>((lF s.G s.env sh.env)++(dS s.G R sh.objs)).any fun j=>B1 i j) && (sh.objs.all fun p=>(R.get p.1).isSome) && (sh.env.all fun p=>p.2.look s.G R (s.env.get p.1))) with
   | false=>rw [hc] at h; simp at h
   | true =>
    rw [hc] at h
    simp only [cond_true] at h
    simp only [A3,Mn] at hc
    obtain ⟨⟨⟨⟨⟨hwf,hpin⟩,hnd⟩,hfz⟩,hall⟩,hlk⟩:=hc
    simp only [Shape.wf,A3] at hwf
    obtain ⟨⟨⟨wf0,wf1⟩,wf2⟩,wf3⟩:=hwf
    have hfz':∀ i,i∈lF s.G s.env sh.env++dS s.G R sh.objs→i∉R.ids:=by
     intro i hi hi'
     rw [MK] at hfz
     have:=hfz i hi'
     exact this (fY.2 hi)
    obtain ⟨ρ0,b1,b2,b3⟩:=Cf (m:=m) (e:=s.env) (t:=fun i=>a.tmps.getD i undef) hs.env (R:=[]) (ρ:=fun _=>undef) hR0 (by intro i src hi; simp [Ren.get] at hi)
    rw [← hG] at hR
    obtain ⟨ρ,c1,c2,c3⟩:=kR hs.inv hR b1
    obtain ⟨k,hk⟩ : ∃ k,k=(mS sh.objs (ij sh.env) x):=⟨_,rfl⟩
    obtain ⟨e1,e2⟩:=yj h
    have e3:=Ci e1
    rw [← hk] at e1 e2 e3
    rw [← hG] at e1 e2 e3
    -- what is not kept is given up
    obtain ⟨others,hoth⟩ : ∃ others,others=(m.G.map (·.1)).filter fun i=>!(R.ids.any fun j=>B1 i j):=⟨_,rfl⟩
    obtain ⟨m1,d1,d2,d3,d4,d5,d6⟩:=cB others hs.inv
    have hother:∀ i,gI m i→i∉R.ids→i∈others:=by
     rintro i ⟨o,ho,_⟩ hi
     rw [hoth,ML]
     refine ⟨Heap.key_of_get ho,?_⟩
     simp only [Mn]
     cases hb:(R.ids.any fun j=>B1 i j) with
     | false=>rfl
     | true=>exact absurd (fY.1 hb) hi
    have hnot:∀ i∈R.ids,i∉others:=by
     intro i hi hi'
     rw [hoth,ML] at hi'
     have:=hi'.2
     rw [fY.2 hi] at this
     simp at this
    let m':Mem:=⟨m.w,m1.F,fun i=>match R.get i with | some (.own j)=>m.ι j | _=>ρ i,k.1⟩
    have hL:Laid m m' R ρ sh.objs:=by
     refine ⟨rfl,fun b hb=>d6 b (.inl hb),fun id b hid hb=>d6 b (.inr ⟨id,hother id ?_ hid,hb⟩),c1,fun i=>rfl,fun i sp hm=>?_⟩
     ·obtain ⟨o,h1,h2,_⟩:=hb; exact ⟨o,h1,h2⟩
     ·exact Cs (r:=fun i sp o=>zt m.G R i sp o) e2 wf3 hm
    -- where an object's block comes from
    have hsrc:∀ i o,k.1.get i=some o→isObj o=true→∀ b,HB (m'.ι i) b→∃ src j o',R.get i=some src∧j∈src.ids∧m.G.get j=some o'∧isObj o'=true∧HB (m.ι j) b:=by
     intro i o ho hob b hb
     obtain ⟨sp,hm,hobj⟩:=BB (r:=fun i sp o=>zt m.G R i sp o) e2 ho
     cases sp with
     | box l =>
      obtain ⟨j,c,as,rfl,h1,h2,_⟩:=hobj
      have e:m'.ι i=m.ι j:=by show (match R.get i with | some (.own j)=>m.ι j | _=>ρ i)=_; rw [h1]
      exact ⟨_,j,_,h1,by simp [Src.ids],h2,rfl,by rw [← e]; exact hb⟩
     | map κ v =>
      obtain ⟨y,rfl,h1⟩:=hobj
      cases hsr:R.get i with
      | none=>rw [hsr] at h1; simp [fu] at h1
      | some src =>
       rw [hsr] at h1
       cases src with
       | own j =>
        have e:m'.ι i=m.ι j:=by show (match R.get i with | some (.own j)=>m.ι j | _=>ρ i)=_; rw [hsr]
        simp only [fu] at h1
        split at h1
        ·rename_i hg
         exact ⟨_,j,_,rfl,by simp [Src.ids],hg,rfl,by rw [← e]; exact hb⟩
        ·simp at h1
       | _=>simp [fu] at h1
     | deep τ =>
      obtain ⟨y,rfl,h1⟩:=hobj
      cases hsr:R.get i with
      | none=>rw [hsr] at h1; simp [bX] at h1
      | some src =>
       rw [hsr] at h1
       have hreal:=c1 i src hsr
       cases src with
       | nild =>
        have e:m'.ι i=ρ i:=by show (match R.get i with | some (.own j)=>m.ι j | _=>ρ i)=_; rw [hsr]
        obtain ⟨ad,hr⟩:=hreal
        rw [e,hr] at hb
        obtain ⟨u,hu,hb⟩:=hb
        simp at hu
        subst hu
        cases ad <;> simp [HB1] at hb
       | own j =>
        have e:m'.ι i=m.ι j:=by show (match R.get i with | some (.own j)=>m.ι j | _=>ρ i)=_; rw [hsr]
        simp only [bX] at h1
        split at h1
        ·rename_i hg
         exact ⟨_,j,_,rfl,by simp [Src.ids],hg,rfl,by rw [← e]; exact hb⟩
        ·simp at h1
       | nil=>simp [bX] at h1
       | view _ _ _=>simp [bX] at h1
     | arr τ =>
      obtain ⟨y,rfl,h1⟩:=hobj
      cases hsr:R.get i with
      | none=>rw [hsr] at h1; simp [cK] at h1
      | some src =>
       rw [hsr] at h1
       have hreal:=c1 i src hsr
       cases src with
       | nil =>
        have e:m'.ι i=ρ i:=by show (match R.get i with | some (.own j)=>m.ι j | _=>ρ i)=_; rw [hsr]
        obtain ⟨ad,hr⟩:=hreal
        rw [e,hr] at hb
        cases ad <;> simp [HB,HB1] at hb
       | own j =>
        have e:m'.ι i=m.ι j:=by show (match R.get i with | some (.own j)=>m.ι j | _=>ρ i)=_; rw [hsr]
        simp only [cK] at h1
        split at h1
        ·rename_i σ l hg
         exact ⟨_,j,_,rfl,by simp [Src.ids],hg,rfl,by rw [← e]; exact hb⟩
        ·simp at h1
       | view j o n =>
        have e:m'.ι i=ρ i:=by show (match R.get i with | some (.own j)=>m.ι j | _=>ρ i)=_; rw [hsr]
        have hbase:fM ⟨[],m.G⟩ τ (.av (.view j o n))=some (y,[j]):=by
         simp only [cK] at h1
         split at h1
         ·rename_i σ l hg
          obtain ⟨he,hx⟩:=ao h1
          cases he
          subst hx
          simp [fM,hg,bk]
         ·simp at h1
        obtain ⟨_,h3⟩:=kP (s:=⟨[],m.G⟩) hs.inv rfl hbase (show RelSV m (ρ i) (.av (.view j o n)) from hreal)
        rcases h3 with ⟨h3,_⟩ | ⟨id,o',h3,h4,h5,h6⟩
        ·cases h3
        ·simp only [NE,and_true] at h3
         subst h3
         rw [e] at hb
         refine ⟨_,j,o',rfl,by simp [Src.ids],h4,h5,?_⟩
         rcases h6 with h6 | ⟨ad,n',h6⟩
         ·exact h6 b hb
         ·rw [h6] at hb; cases ad <;> simp [HB,HB1] at hb
       | nild=>simp [cK] at h1
    have hF:∀ b,m.F b→m'.F b∧m'.w.heap[b]?=m.w.heap[b]?:=fun b hb=>⟨hL.F b hb,rfl⟩
    have hinv:Inv C w0 M m':=by
     refine ⟨hs.inv.kept,?_,?_,?_,?_,fun g τ x hg=>(hs.inv.glob g τ x hg).mono hF,d4.bnd,fun i v hv=>?_⟩
     ·intro i o ho
      obtain ⟨sp,hm,hobj⟩:=BB (r:=fun i sp o=>zt m.G R i sp o) e2 ho
      cases sp with
      | box l =>
       obtain ⟨j,c,as,rfl,h1,h2,h3⟩:=hobj
       obtain ⟨bl,cc,el,q1,q2,q3,q4⟩:=hs.inv.objs j _ h2
       obtain ⟨j',b',r1,r2,r3⟩:=c3 _ hm l rfl
       simp only at r1
       rw [h1] at r1
       simp only [A1,Src.own.injEq] at r1
       subst r1
       have hwl:(l.all fun y=>y.wf sh.objs)=true:=by
        rw [LZ] at wf2
        exact wf2 _ hm
       have e:m'.ι i=m.ι j:=by show (match R.get i with | some (.own j)=>m.ι j | _=>ρ i)=_; rw [h1]
       refine ⟨bl,cc,el,by rw [e,q1],q2,q3,oR hs.inv hL h3 q4 (r3 bl cc el q1 q2) hwl (fun z hz=>hfz' z ?_)⟩
       rw [B3]
       rw [← hG]
       exact .inr (CB hm h1 h2 z hz)
      | map κ v =>
       obtain ⟨y,rfl,h1⟩:=hobj
       cases hsr:R.get i with
       | none=>rw [hsr] at h1; simp [fu] at h1
       | some src =>
        rw [hsr] at h1
        cases src with
        | own j =>
         have e:m'.ι i=m.ι j:=by show (match R.get i with | some (.own j)=>m.ι j | _=>ρ i)=_; rw [hsr]
         simp only [fu] at h1
         split at h1
         ·rename_i k' v' l hg
          obtain ⟨e1,e2,hx⟩:=jB h1
          subst e1; subst e2
          simp only at hx
          subst hx
          rcases hs.inv.objs j _ hg with ⟨d0,b,es,clock,d1,d2,d3⟩ | ⟨d0,b,x,pos,d1,d2,d3⟩
          ·exact .inl ⟨d0,b,es,clock,by rw [e,d1],d2,d3.mono hF⟩
          ·exact .inr ⟨d0,b,x,pos,by rw [e,d1],d2,d3⟩
         ·simp at h1
        | _=>simp [fu] at h1
      | deep τ =>
       obtain ⟨y,rfl,h1⟩:=hobj
       cases hsr:R.get i with
       | none=>rw [hsr] at h1; simp [bX] at h1
       | some src =>
        rw [hsr] at h1
        have hreal:=c1 i src hsr
        cases src with
        | nild =>
         have e:m'.ι i=ρ i:=by show (match R.get i with | some (.own j)=>m.ι j | _=>ρ i)=_; rw [hsr]
         obtain ⟨ad,hr⟩:=hreal
         simp only [bX,A1] at h1
         subst h1
         exact ⟨.slice ad 0 0,[],by rw [e,hr],rfl,⟨ad,0,rfl,by simp,by unfold maxLen; omega,fun h=>absurd rfl h⟩,by intro k hk; simp at hk,(by intro k v hk; cases hk),NQ _ _⟩
        | own j =>
         have e:m'.ι i=m.ι j:=by show (match R.get i with | some (.own j)=>m.ι j | _=>ρ i)=_; rw [hsr]
         simp only [bX] at h1
         split at h1
         ·rename_i ver σ l hg
          obtain ⟨he,hx⟩:=ao h1
          simp only [Ty.slice.injEq] at he
          subst he
          subst hx
          obtain ⟨u,hs',d1,d2⟩:=ce hs.inv hg
          exact ⟨u,hs',by rw [e,d1],d2.mono hF (fun _ _ _ _=>rfl)⟩
         ·simp at h1
        | nil=>simp [bX] at h1
        | view _ _ _=>simp [bX] at h1
      | arr τ =>
       obtain ⟨y,rfl,h1⟩:=hobj
       cases hsr:R.get i with
       | none=>rw [hsr] at h1; simp [cK] at h1
       | some src =>
        rw [hsr] at h1
        have hreal:=c1 i src hsr
        cases src with
        | nil =>
         have e:m'.ι i=ρ i:=by show (match R.get i with | some (.own j)=>m.ι j | _=>ρ i)=_; rw [hsr]
         obtain ⟨ad,hr⟩:=hreal
         simp only [cK,A1] at h1
         subst h1
         exact ⟨ad,0,by rw [e,hr]; rfl,by simp,by unfold maxLen; omega,fun h=>absurd rfl h⟩
        | own j =>
         have e:m'.ι i=m.ι j:=by show (match R.get i with | some (.own j)=>m.ι j | _=>ρ i)=_; rw [hsr]
         simp only [cK] at h1
         split at h1
         ·rename_i σ l hg
          obtain ⟨he,hx⟩:=ao h1
          cases he
          subst hx
          obtain ⟨ad,cap,q1,q2,q3,q4⟩:=hs.inv.objs j _ hg
          refine ⟨ad,cap,by rw [e,q1],q2,q3,fun hc=>?_⟩
          obtain ⟨b,off,c,el,fz,p1,p2,p3,p4,p5⟩:=q4 hc
          exact ⟨b,off,c,el,fz,p1,p2,p3,p4,fun z hz=>(p5 z hz).mono hF⟩
         ·simp at h1
        | view j o n =>
         have e:m'.ι i=ρ i:=by show (match R.get i with | some (.own j)=>m.ι j | _=>ρ i)=_; rw [hsr]
         have hbase:fM ⟨[],m.G⟩ τ (.av (.view j o n))=some (y,[j]):=by
          simp only [cK] at h1
          split at h1
          ·rename_i σ l hg
           obtain ⟨he,hx⟩:=ao h1
           cases he
           subst hx
           simp [fM,hg,bk]
          ·simp at h1
         obtain ⟨⟨ad,cap,q1,q2,q3,q4⟩,_⟩:=kP (s:=⟨[],m.G⟩) hs.inv rfl hbase (show RelSV m (ρ i) (.av (.view j o n)) from hreal)
         refine ⟨ad,cap,by rw [e,q1],q2,q3,fun hc=>?_⟩
         obtain ⟨b,off,c,el,fz,p1,p2,p3,p4,p5⟩:=q4 hc
         exact ⟨b,off,c,el,fz,p1,p2,p3,p4,fun z hz=>(p5 z hz).mono hF⟩
        | nild=>simp [cK] at h1
     ·intro i o b ho hob hb
      obtain ⟨src,j,o',h1,h2,h3,h4,h5⟩:=hsrc i o ho hob b hb
      obtain ⟨k1,k2,k3⟩:=hs.inv.own j o' b h3 h4 h5
      have hj:=hnot j (mo h1 h2)
      have:=d4.own j o' b (by rw [d3,bG others _ j hj]; exact h3) h4 (by rw [d2]; exact h5)
      exact ⟨k1,this.2.1,k3⟩
     ·intro i i' p q b hp hop hq hoq h1 h2
      obtain ⟨src,j,o1,r1,r2,r3,r4,r5⟩:=hsrc i p hp hop b h1
      obtain ⟨src',j',o2,s1,s2,s3,s4,s5⟩:=hsrc i' q hq hoq b h2
      have:=hs.inv.inj j j' o1 o2 b r3 r4 s3 s4 r5 s5
      subst this
      exact HE hnd r1 s1 r2 s2
     ·intro b hb
      have:=d4.fro b hb
      rw [d1] at this
      exact this
     ·have hip:=hp i v hv
      rw [LZ] at wf0
      have hobj:∃ o,k.1.get i=some o∧isDeep o=false∧∀ j o2,R.get i=some (.own j)→m.G.get j=some o2→isObj o2=true:=by
       have h0:=wf0 i hip
       simp only [Mt] at h0
       rcases h0 with h0 | h0
       ·obtain ⟨τ,y,k1,h4⟩:=hL.arr h0
        refine ⟨_,k1,rfl,fun j o2 hj h1=>?_⟩
        rw [hj] at h4
        simp only [cK] at h4
        rw [h1] at h4
        cases o2 <;> first | rfl | simp at h4
       ·unfold eM at h0
        rw [ME] at h0
        obtain ⟨⟨i',sp⟩,hm,hq⟩:=h0
        simp only [A3] at hq
        have:=A4 hq.1
        subst this
        cases sp with
        | box l =>
         obtain ⟨o,k1,h4⟩:=Cs (r:=fun i sp o=>zt m.G R i sp o) e2 wf3 hm
         obtain ⟨j,c,as,rfl,h5,h6,_⟩:=h4
         refine ⟨_,k1,rfl,fun j' o2 hj h1=>?_⟩
         rw [h5] at hj
         simp only [A1,Src.own.injEq] at hj
         subst hj
         rw [h6] at h1
         cases h1
         rfl
        | arr _=>simp [SpO.kind] at hq
        | deep _=>simp [SpO.kind] at hq
        | map _ _=>simp [SpO.kind] at hq
      obtain ⟨o9,k1,k2,k3⟩:=hobj
      refine ⟨o9,k1,fun _=>?_⟩
      unfold pinned at hpin
      rw [LZ] at hpin
      have hq:=hpin i hip
      split at hq
      ·rename_i j hj
       have:=A4 hq
       subst this
       have e:m'.ι i=m.ι i:=by show (match R.get i with | some (.own j)=>m.ι j | _=>ρ i)=_; rw [hj]
       rw [e]
       obtain ⟨o,h1,h2⟩:=hs.inv.pin i v hv
       exact ⟨(h2 (k3 i o hj h1)).1,k2⟩
      ·simp at hq
    refine ⟨m',rfl,by show k.1=_; rw [hk]; rfl,hinv,hs.defers,hs.size,fun t=>?_⟩
    have henv:(sh.inj x).env=vT sh.env k.2:=by rw [hk]; rfl
    rw [henv]
    rcases Hg (r:=fun i sp v=>Bw m.G sp (s.env.get i) v) e3 t with h0 | ⟨sp,hm,hl⟩
    ·rw [h0]; trivial
    ·have hwl:sp.wf sh.objs=true:=by
      rw [LZ] at wf1
      exact wf1 _ hm
     refine CK hs.inv hL hl (hs.env t) ((b3 _ hm).ext c2) hwl (fun z hz=>hfz' z ?_) ?_
     ·rw [B3]
      rw [← hG]
      exact .inl (Ep hm z hz)
     ·rw [LZ] at hlk
      rw [hG]
      exact hlk _ hm
end
end Go.Vm

/-
 A body of code.
-/
namespace Go.Vm
def cb:Code→List Code
 | .seq a b=>cb a++cb b
 | .cond _ a b=>cb a++cb b
 | .block _ c=>cb c
 | .loop c=>c :: cb c
 | _=>[]
def iF (N:Nat) (ops:List Oper):Bool:=ops.all fun o=>match o.dst with | some d=>OG d N | none=>true
def jI (N:Nat):Code→Bool
 | .region _ ops _=>iF N ops.toList
 | .seq a b=>jI N a && jI N b
 | .cond _ a b=>jI N a && jI N b
 | .block _ c=>jI N c
 | .loop c=>jI N c
 | _=>true
def pY (C:Ctx) (A:Anns) (l:List Code):Prop:=∀ c∈l,∀ ann,A.get (fj c)=some ann→∀ x y,ann.fn x=some y→Rounds (round C A ann c) x y
def Gy:Ex→Exit
 | .normal=>.normal
 | .exit i=>.exit i
 | .ret=>.ret
def Aj (P:Program):Prop:=∀ (C:Ctx) (w0:World) (M:Own) (N:Nat) (a:Act) (m:Mem) (s:St) (R:Type) (res:R) (K:St→Option R) (id:Nat) (lt:Bool) (ops:Array Oper) (Q:Exit→Act→World→Prop),
 CtxOK P C→Sim C w0 M N a m s.env→m.G=s.G→iF N ops.toList=true→pL C lt ops.toList s K=some res →
 (∀ s' a' m',K s'=some res→m'.G=s'.G→Sim C w0 M N a' m' s'.env→Q .normal a' m'.w)→(Code.region id ops true).wp P Q a m.w
section
variable {P:Program} {C:Ctx} {w0:World} {M:Own} {N:Nat} {A:Anns}
theorem Hc {e e':Ex} (h:Ex.same e e'=true):e=e':=by
 unfold Ex.same at h
 split at h
 ·rfl
 ·rw [A4 h]
 ·rfl
 ·simp at h
theorem ib:∀ {l:List (Ex×Shape)} {e:Ex} {s:St} {y:kL l},iB l e s=some y→∃ (sh:Shape) (z:sh.ty.den),(∃ e',(e',sh)∈l)∧sh.ext s=some z∧∀ {R:Type} (K:Ex→St→Option R),lJ K l y=K e (sh.inj z)
 | [],_,_,_,h=>by simp [iB] at h
 | p :: l,e,s,y,h=>by
  simp only [iB] at h
  cases hs:Ex.same p.1 e with
  | true =>
   rw [hs] at h
   simp only [cond_true] at h
   obtain ⟨z,hz,h⟩:=B4.1 h
   simp only [A1] at h
   subst h
   exact ⟨p.2,z,⟨p.1,by simp⟩,hz,fun K=>by simp [lJ,Hc hs]⟩
  | false =>
   rw [hs] at h
   simp only [cond_false] at h
   obtain ⟨z,hz,h⟩:=B4.1 h
   simp only [A1] at h
   subst h
   obtain ⟨sh,z',⟨e',h0⟩,h1,h2⟩:=ib hz
   exact ⟨sh,z',⟨e',by simp [h0]⟩,h1,fun K=>by simp only [lJ,Sum.elim_inr]; exact h2 K⟩
theorem jf {ops:Array Oper} (h:iF N ops.toList=true):∀ o∈ops.toList,∀ d,o.dst=some d→d < N:=by
 intro o ho d hd
 unfold iF at h
 rw [LZ] at h
 have:=h o ho
 rw [hd] at this
 exact B5 this
def IA (M:Own) (A:Anns):Prop:=∀ key ann,A.get key=some ann→(∀ i v,M.pin i=some v→i∈ann.head.pins)∧∀ e sh,(e,sh)∈ann.exits→∀ i v,M.pin i=some v→i∈sh.pins
theorem G8 (hC:CtxOK P C) (hD:Aj P) (hPin:IA M A):∀ (c:Code),pY C A (cb c)→jI N c=true→∀ {R:Type} {res:R} {K:Ex→St→Option R} {Q:Exit→Act→World→Prop} {s:St} {a:Act} {m:Mem},
  Sim C w0 M N a m s.env→m.G=s.G→cM C (pT A) c K s=some res →
  (∀ e s' a' m',K e s'=some res→m'.G=s'.G→Sim C w0 M N a' m' s'.env→Q (Gy e) a' m'.w)→c.wp P Q a m.w:=by
 intro c
 induction c with
 | skip=>intro _ _ R res K Q s a m hs hG h hQ; exact wp_skip (hQ .normal s a m h hG hs)
 | region id ops d =>
  intro _ hd R res K Q s a m hs hG h hQ
  simp only [cM] at h
  cases d with
  | false=>exact De hC (hQ .normal) (jf hd) h hG hs
  | true =>
   simp only [cond_true] at h
   have hf:∃ m',m'.w=m.w∧m'.G=(vY C id s).G∧Sim C w0 M N a m' (vY C id s).env:=by
    unfold vY
    cases C.frz.any fun i=>B1 i id with
    | false=>exact ⟨m,rfl,hG,hs⟩
    | true=>exact qr _ hs hG
   obtain ⟨m',e1,e2,e3⟩:=hf
   rw [← e1]
   exact hD C w0 M N a m' _ R res _ id _ ops Q hC e3 e2 hd h (hQ .normal)
 | seq x y ihx ihy =>
  intro hL hd R res K Q s a m hs hG h hQ
  simp only [jI,A3] at hd
  simp only [cM] at h
  refine wp_seq (ihx (fun c hc=>hL c (by simp [cb,hc])) hd.1 hs hG h ?_)
  intro e s' a' m' h1 h2 h3
  cases e with
  | normal=>exact ihy (fun c hc=>hL c (by simp [cb,hc])) hd.2 h3 h2 h1 hQ
  | exit i=>exact hQ (.exit i) s' a' m' h1 h2 h3
  | ret=>exact hQ .ret s' a' m' h1 h2 h3
 | cond x y z ihy ihz =>
  intro hL hd R res K Q s a m hs hG h hQ
  simp only [jI,A3] at hd
  simp only [cM] at h
  split at h
  ·rename_i b hb
   have hv:=su hs.inv hs.env x
   rw [hb] at hv
   refine wp_cond (rel_bool hv) ?_
   cases b with
   | true=>exact ihy (fun c hc=>hL c (by simp [cb,hc])) hd.1 hs hG h hQ
   | false=>exact ihz (fun c hc=>hL c (by simp [cb,hc])) hd.2 hs hG h hQ
  ·simp at h
 | block id x ih =>
  intro hL hd R res K Q s a m hs hG h hQ
  simp only [cM] at h
  refine wp_block (ih hL hd hs hG h ?_)
  intro e s' a' m' h1 h2 h3
  cases e with
  | normal=>exact hQ .normal s' a' m' h1 h2 h3
  | exit i =>
   simp only [Gy,Exit.inBlock]
   dsimp only at h1
   cases hi:B1 i id with
   | true =>
    rw [hi] at h1
    rw [if_pos (A4 hi)]
    exact hQ .normal s' a' m' h1 h2 h3
   | false =>
    rw [hi] at h1
    rw [if_neg (N2 hi)]
    exact hQ (.exit i) s' a' m' h1 h2 h3
  | ret=>exact hQ .ret s' a' m' h1 h2 h3
 | loop x ih =>
  intro hL hd R res K Q s a m hs hG h hQ
  simp only [cM,pT] at h
  split at h
  ·simp at h
  ·rename_i ann hann
   split at h
   ·simp at h
   ·rename_i x0 hx0
    obtain ⟨y,hy,h⟩:=B4.1 h
    have hr:=hL x (by simp [cb]) ann hann x0 y hy
    obtain ⟨pin1,pin2⟩:=hPin _ ann hann
    obtain ⟨m1,e1,e2,e3⟩:=p8 hs hG pin1 hx0
    rw [← e1]
    have key:∀ {x0 y},Rounds (round C A ann x) x0 y→lJ K ann.exits y=some res→∃ n,∀ (a:Act) (m:Mem),m.G=(ann.head.inj x0).G→Sim C w0 M N a m (ann.head.inj x0).env→Code.rounds P x Q n a m.w:=by
     intro x0 y hr
     induction hr with
     | last h1 =>
      intro hg
      refine ⟨1,fun a m hG hs=>?_⟩
      show x.wp P (Exit.then (Code.rounds P x Q 0) Q) a m.w
      refine ih (fun c hc=>hL c (by simp [cb,hc])) hd hs hG h1 ?_
      intro e s' a' m' k1 k2 k3
      cases e with
      | normal=>obtain ⟨z,_,k1⟩:=B4.1 k1; simp at k1
      | exit i =>
       obtain ⟨z,hz,k1⟩:=B4.1 k1
       simp only [A1,PK] at k1
       subst k1
       obtain ⟨sh,z',⟨e',f0⟩,f1,f2⟩:=ib hz
       rw [f2] at hg
       obtain ⟨m2,g1,g2,g3⟩:=p8 k3 k2 (pin2 e' sh f0) f1
       rw [← g1]
       exact hQ (.exit i) _ a' m2 hg g2 g3
      | ret =>
       obtain ⟨z,hz,k1⟩:=B4.1 k1
       simp only [A1,PK] at k1
       subst k1
       obtain ⟨sh,z',⟨e',f0⟩,f1,f2⟩:=ib hz
       rw [f2] at hg
       obtain ⟨m2,g1,g2,g3⟩:=p8 k3 k2 (pin2 e' sh f0) f1
       rw [← g1]
       exact hQ .ret _ a' m2 hg g2 g3
     | more h1 _ ih2 =>
      intro hg
      obtain ⟨n,hn⟩:=ih2 hg
      refine ⟨n+1,fun a m hG hs=>?_⟩
      show x.wp P (Exit.then (Code.rounds P x Q n) Q) a m.w
      refine ih (fun c hc=>hL c (by simp [cb,hc])) hd hs hG h1 ?_
      intro e s' a' m' k1 k2 k3
      cases e with
      | normal =>
       obtain ⟨z,hz,k1⟩:=B4.1 k1
       simp only [A1,Sum.inl.injEq] at k1
       subst k1
       obtain ⟨m2,g1,g2,g3⟩:=p8 k3 k2 pin1 hz
       rw [← g1]
       exact hn a' m2 g2 g3
      | exit i=>obtain ⟨z,hz,k1⟩:=B4.1 k1; simp at k1
      | ret=>obtain ⟨z,hz,k1⟩:=B4.1 k1; simp at k1
    obtain ⟨n,hn⟩:=key hr h
    exact wp_loop_rounds n (hn a m1 e2 e3)
 | exit id=>intro _ _ R res K Q s a m hs hG h hQ; exact wp_exit (hQ (.exit id) s a m h hG hs)
 | ret=>intro _ _ R res K Q s a m hs hG h hQ; exact wp_ret (hQ .ret s a m h hG hs)
 | _=>intro _ _ R res K Q s a m hs hG h hQ; simp [cM] at h
end
end Go.Vm

/-
 A function's contract, from its body.
-/
namespace Go.Vm
section
variable {P:Program} {C:Ctx} {w0:World} {M:Own} {N:Nat} {A:Anns} {a:Act} {m:Mem} {s:St}
def IQ (m:Mem) (s:St):(outs:n9)→List Value→(aM ((outs.map (·.2)).map (·.2))).den→Prop
 | [],[],_=>True
 | p :: r,u :: us,x=>(∃ sv,gm s p.1 p.2.2=some sv∧RelSV m u sv∧aP s.G p.2.2 sv=some x.1)∧IQ m s r us x.2
 | _,_,_=>False
def FN (P:Program) (v:ResultVar) (τ : Ty):Bool:=match v with
 | .cell _ t=>chk P τ none t
 | .tmp _=>true
def tU (P:Program) (outs:n9):Bool:=outs.all fun p=>FN P p.1 p.2.2
def oB (a:Act):ResultVar→Sem Value
 | .tmp t=>pure (a.tmps.getD t undef)
 | .cell x t=>do loadVar t (← asAddr (a.tmps.getD x undef))
theorem Aa (hs:Sim C w0 M N a m s.env) (hG:m.G=s.G) {v:ResultVar} {τ : Ty} {sv:SV} (h:gm s v τ=some sv) (hk:FN P v τ=true) :
  ∃ u,(oB a v).run P m.w=.ok u m.w∧RelSV m u sv:=by
 cases v with
 | tmp t =>
  simp only [gm,A1] at h
  subst h
  exact ⟨_,by simp [oB],hs.env t⟩
 | cell x t =>
  simp only [gm] at h
  have hx:=hs.env x
  split at h
  ·rename_i id off hq
   rw [hq] at hx
   split at h
   ·rename_i l hl
    split at h
    ·rename_i c hc
     simp only [A1] at h
     subst h
     obtain ⟨rfl,hle⟩:=mm hc
     obtain ⟨_,ob,hob,hv⟩:=(ai (a:=.ptr id off) (by intros; simp)).1 hx
     rw [hG,hl] at hob
     simp only [A1] at hob
     subst hob
     obtain ⟨b,h1,h2⟩:=hv
     obtain ⟨b',cc,el,q1,q2,q3,q4⟩:=hs.inv.objs id _ (hG ▸ hl)
     rw [h1] at q1
     simp only [Value.pointer.injEq,A1,Addr.mk.injEq,and_true] at q1
     subst q1
     have hlen:=q4.length
     rw [Array.length_toList] at hlen
     rw [List.length_drop] at hle
     have hsz:off+τ.size≤cc.size∨τ.size=0:=by omega
     have hrel:Rel2 (af m) (seg cc off τ.size) ((l.drop off).take τ.size):=(q4.drop off).take τ.size
     have hone:∀ u∈seg cc off τ.size,u.oneCell'=true:=fun u hu=>q3 u (List.mem_of_mem_drop (List.mem_of_mem_take hu))
     have hrun:(loadVar t ⟨b,off,none⟩).run P m.w=.ok (toV τ (seg cc off τ.size)) m.w:=by
      rcases hsz with hsz | hsz
      ·exact dA hk q2 hsz
      ·have ha : τ.isAgg=true:=by
        cases ha : τ.isAgg with
        | true=>rfl
        | false=>have:=gM ha; omega
       have hz:seg cc off τ.size=[]:=by unfold seg; rw [hsz]; simp
       rw [hz]
       simp [loadVar,eV hk,ha,bu hk,hsz,loadCells,loadCellsFrom,toV]
     refine ⟨toV τ (seg cc off τ.size),?_,pu hone hrel⟩
     simp [oB,h2,asAddr,hrun]
    ·simp at h
   ·simp at h
  ·simp at h
theorem o4 (hs:Sim C w0 M N a m s.env) (hG:m.G=s.G):∀ {outs:n9} {x:(aM ((outs.map (·.2)).map (·.2))).den},results s outs=some x→tU P outs=true →
  ∃ us,((outs.map (·.1)).mapM (oB a)).run P m.w=.ok us m.w∧IQ m s outs us x
 | [],x,_,_=>⟨[],by simp,trivial⟩
 | p :: r,x,h,hk=>by
  simp only [tU,NZ,A3] at hk
  obtain ⟨hk1,hk2⟩:=hk
  unfold results at h
  split at h
  ·rename_i sv hsv
   split at h
   ·rename_i x1 hx1
    split at h
    ·rename_i x2 hx2
     have:=B6 h
     subst this
     obtain ⟨u,h1,h2⟩:=Aa (P:=P) hs hG hsv hk1
     obtain ⟨us,h3,h4⟩:=o4 hs hG hx2 hk2
     refine ⟨u :: us,?_,⟨sv,hsv,h2,hx1⟩,h4⟩
     simp only [Mo,List.mapM_cons,Sem.run_bind,h1,Result.andThen_ok,h3,Sem.run_pure]
    ·simp at h
   ·simp at h
  ·simp at h
theorem ka {d:Bool} (hi:Inv C w0 M m) {τ : Ty} {us:List Value} {l rest rest':List Atom} {x : τ.den} (hr:Rel2 (af m) us l) (hc:aH m.G τ l=some (x,rest)) (hk:∀ l,bj d τ l=(match l with | _ :: r=>(true,r) | []=>(false,[]))) (hτ : (∃ k,τ=.int k)∨τ=.bool∨τ=.str)
  (ho:bj d τ l=(true,rest')):∃ c us' lc,us=c.map fD++us'∧l=lc++rest∧rest'=rest∧OwnRd m.w m.F d τ c x∧Rel2 (af m) us' rest:=by
 rw [hk] at ho
 cases l with
 | nil=>simp at ho
 | cons at' l =>
  cases us with
  | nil=>exact hr.elim
  | cons u us =>
   simp only [Mg,true_and] at ho
   subst ho
   have key:∀ {τ : Ty},τ.flat=true→∀ y : τ.den,aG m.G τ at'=some y→Rd m.w m.F τ [u] y:=fun hf y hy=>(ef hi hy hr.1).flat hf _ _
   cases τ with
   | int k =>
    simp only [aH] at hc
    split at hc
    ·rename_i y hy
     have hc:=B6 hc
     simp only [Mg] at hc
     obtain ⟨rfl,rfl⟩:=hc
     exact ⟨[u],us,[at'],by rw [dP (key (τ:=.int k) rfl y hy)]; rfl,rfl,rfl,key (τ:=.int k) rfl y hy,hr.2⟩
    ·simp at hc
   | bool =>
    simp only [aH] at hc
    split at hc
    ·rename_i y hy
     have hc:=B6 hc
     simp only [Mg] at hc
     obtain ⟨rfl,rfl⟩:=hc
     exact ⟨[u],us,[at'],by rw [dP (key (τ:=.bool) rfl y hy)]; rfl,rfl,rfl,key (τ:=.bool) rfl y hy,hr.2⟩
    ·simp at hc
   | str =>
    simp only [aH] at hc
    split at hc
    ·rename_i y hy
     have hc:=B6 hc
     simp only [Mg] at hc
     obtain ⟨rfl,rfl⟩:=hc
     exact ⟨[u],us,[at'],by rw [dP (key (τ:=.str) rfl y hy)]; rfl,rfl,rfl,key (τ:=.str) rfl y hy,hr.2⟩
    ·simp at hc
   | _=>simp at hτ
theorem oO {d:Bool} (hi:Inv C w0 M m):∀ {τ : Ty} {us:List Value} {l rest rest':List Atom} {x : τ.den},Rel2 (af m) us l→aH m.G τ l=some (x,rest)→bj d τ l=(true,rest') →
  ∃ c us' lc,us=c.map fD++us'∧l=lc++rest∧rest'=rest∧OwnRd m.w m.F d τ c x∧Rel2 (af m) us' rest ∧
   (∀ b,fU (aL τ c) b→∃ id o,id∈lc.flatMap bA∧m.G.get id=some o∧isObj o=true∧HB (m.ι id) b) ∧
   (aS (lc.flatMap bA)=true→cH (aL τ c))
 | .prod a b,us,l,rest,rest',x,hr,hc,ho=>by
  simp only [aH] at hc
  split at hc
  ·rename_i x1 r1 h1
   split at hc
   ·rename_i x2 r2 h2
    have hc:=B6 hc
    simp only [Mg] at hc
    obtain ⟨rfl,rfl⟩:=hc
    simp only [bj,Mg,A3] at ho
    obtain ⟨⟨o1,o2⟩,o3⟩:=ho
    obtain ⟨c1,us1,lc1,a1,a2,a3,a4,a5,a6,a7⟩:=oO hi (rest':=(bj d a l).2) hr h1 (by rw [← o1])
    rw [a3] at o2 o3
    obtain ⟨c2,us2,lc2,b1,b2,b3,b4,b5,b6,b7⟩:=oO hi (rest':=(bj d b r1).2) a5 h2 (by rw [← o2])
    subst a1
    subst b1
    subst a2
    subst b2
    have hh:aL (.prod a b) (c1++c2)=aL a c1++aL b c2:=by
     simp only [aL,← a4.len,OF,List.drop_left]
    refine ⟨c1++c2,us2,lc1++lc2,by simp,by simp,by rw [← o3,b3],⟨c1,c2,rfl,a4,b4⟩,b5,?_,?_⟩
    ·rw [hh]
     rintro bl ⟨u,hu,hb⟩
     rcases B3.1 hu with hu | hu
     ·obtain ⟨id,o,k1,k2⟩:=a6 bl ⟨u,hu,hb⟩
      exact ⟨id,o,by simp only [Oz,B3]; exact .inl k1,k2⟩
     ·obtain ⟨id,o,k1,k2⟩:=b6 bl ⟨u,hu,hb⟩
      exact ⟨id,o,by simp only [Oz,B3]; exact .inr k1,k2⟩
    ·rw [hh,Oz]
     intro hn
     obtain ⟨n1,n2,n3⟩:=dR hn
     refine Nl.2 ⟨a7 n1,b7 n2,?_⟩
     intro u hu v hv bl hb hb'
     obtain ⟨id,o,k1,k2,k3,k4⟩:=a6 bl ⟨u,hu,hb⟩
     obtain ⟨id',o',j1,j2,j3,j4⟩:=b6 bl ⟨v,hv,hb'⟩
     have:=hi.inj id id' o o' bl k2 k3 j2 j3 k4 j4
     subst this
     exact n3 id k1 j1
   ·simp at hc
  ·simp at hc
 | .unit,us,l,rest,rest',x,hr,hc,ho=>by
  simp only [aH,A1,Mg] at hc
  simp only [bj,Mg,true_and] at ho
  obtain ⟨_,rfl⟩:=hc
  subst ho
  exact ⟨[],us,[],rfl,rfl,rfl,rfl,hr,by rintro b ⟨u,hu,_⟩; simp [aL] at hu,fun _=>MR⟩
 | .slice e,us,l,rest,rest',x,hr,hc,ho=>by
  cases l with
  | nil=>simp [aH] at hc
  | cons at' l =>
   cases us with
   | nil=>exact hr.elim
   | cons u us =>
    simp only [aH] at hc
    split at hc
    ·rename_i y hy
     have hc:=B6 hc
     simp only [Mg] at hc
     obtain ⟨rfl,rfl⟩:=hc
     simp only [bj,Mg] at ho
     obtain ⟨o1,rfl⟩:=ho
     cases hde:(d && e.isSl) with
     | false =>
      rw [hde] at o1
      have hk:SV.av at'=.av .nils∨(∃ id,SV.av at'=.av (.own id))∨∃ id o n,SV.av at'=.av (.view id o n):=by
       cases at' <;> simp [nJ] at o1 ⊢
      have hnv:∀ τ x,at'≠.val τ x:=by intro τ x e; subst e; simp [nJ] at o1
      have hsv:aP m.G (.slice e) (.av at')=some y:=by
       cases at' <;> simp [nJ] at o1 <;> exact hy
      obtain ⟨g1,g2,g3⟩:=rP hi hsv ((ai hnv).2 hr.1) hk
      have g1:HdrW m.w m.F u e y:=g1
      have hown:pm m.w m.F d e u y:=by
       cases e with
       | slice σ =>
        cases d with
        | true=>simp [Ty.isSl] at hde
        | false=>exact g1
       | _=>exact g1
      refine ⟨[u],us,[at'],by rw [Mo,lh (dm g1)]; rfl,rfl,rfl,⟨u,rfl,hown⟩,hr.2,?_,fun _=>by simp [aL,cH]⟩
      rintro b ⟨u',hu',hb⟩
      simp only [aL,MA] at hu'
      subst hu'
      obtain ⟨id,o,k1,k2,k3,k4⟩:=g2 b hb
      refine ⟨id,o,?_,k2,k3,k4⟩
      simp only [List.flatMap_cons,List.flatMap_nil,MH]
      have:bA at'=[id]:=k1
      rw [this]; simp
     | true =>
      rw [hde] at o1
      simp only [A3] at hde
      obtain ⟨rfl,hsl⟩:=hde
      cases e with
      | slice σ =>
       cases at' with
       | nils =>
        simp only [aG,A1] at hy
        subst hy
        obtain ⟨ad,rfl⟩:=hr.1
        have hnb:∀ b,¬ HB (.slice ad 0 0) b:=fun b hb=>by cases ad <;> simp [HB,HB1] at hb
        have hd:DeepW m.w m.F (.slice ad 0 0) [] σ [] none:=⟨rfl,⟨ad,0,rfl,by simp,by unfold maxLen; omega,fun h=>absurd rfl h⟩,by intro i hi; simp at hi,(by intro i v hi; cases hi),NQ _ _⟩
        refine ⟨[.tuple [.slice ad 0 0].toArray],us,[.nils],rfl,rfl,rfl,⟨_,rfl,_,[],rfl,hd⟩,hr.2,?_,fun _=>by simp [aL,cH]⟩
        rintro b ⟨u',hu',hb⟩
        simp only [aL,MA] at hu'
        subst hu'
        obtain ⟨v,hv,hb⟩:=(bY hd.one).1 hb
        simp only [MA] at hv
        subst hv
        exact absurd hb (hnb b)
       | ownd id =>
        obtain ⟨_,ob,hob,hv⟩:=hr.1
        simp only [aG] at hy
        rw [hob] at hy
        cases ob with
        | deep ver τ l' hole =>
         cases hole with
         | some _=>simp at hy
         | none =>
          simp only at hy
          obtain ⟨e',hy⟩:=ao hy
          simp only [Ty.slice.injEq] at e'
          subst e'; subst hy
          obtain ⟨vs,v1,v2⟩:=hv
          obtain ⟨u',hs,d1,d2⟩:=ce hi hob
          rw [d1] at v1
          simp only [Value.tuple.injEq] at v1
          subst v1
          simp only [List.getElem?_toArray,Mh,A1] at v2
          subst v2
          refine ⟨[.tuple (u' :: hs).toArray],us,[.ownd id],by simp [fD],rfl,rfl,⟨_,rfl,_,hs,rfl,d2⟩,hr.2,?_,fun _=>by simp [aL,cH]⟩
          rintro b ⟨u2,hu2,hb⟩
          simp only [aL,MA] at hu2
          subst hu2
          exact ⟨id,_,by simp [bA],hob,rfl,by rw [d1]; exact hb⟩
        | _=>simp at hy
       | _=>simp [nJ] at o1
      | _=>simp [Ty.isSl] at hsl
    ·simp at hc
 | .int k,us,l,rest,rest',x,hr,hc,ho=>by
  obtain ⟨c,us',h1,h2,h3,h4,h5,h6⟩:=ka (d:=d) hi (τ:=.int k) hr hc (by intro l; cases l <;> rfl) (by simp) ho
  exact ⟨c,us',h1,h2,h3,h4,h5,h6,by rintro b ⟨u,hu,_⟩; simp [aL] at hu,fun _=>MR⟩
 | .bool,us,l,rest,rest',x,hr,hc,ho=>by
  obtain ⟨c,us',h1,h2,h3,h4,h5,h6⟩:=ka (d:=d) hi (τ:=.bool) hr hc (by intro l; cases l <;> rfl) (by simp) ho
  exact ⟨c,us',h1,h2,h3,h4,h5,h6,by rintro b ⟨u,hu,_⟩; simp [aL] at hu,fun _=>MR⟩
 | .str,us,l,rest,rest',x,hr,hc,ho=>by
  obtain ⟨c,us',h1,h2,h3,h4,h5,h6⟩:=ka (d:=d) hi (τ:=.str) hr hc (by intro l; cases l <;> rfl) (by simp) ho
  exact ⟨c,us',h1,h2,h3,h4,h5,h6,by rintro b ⟨u,hu,_⟩; simp [aL] at hu,fun _=>MR⟩
 | .arr _ _,_,_,_,_,_,_,_,ho=>by simp [bj] at ho
 | .ptr _,_,_,_,_,_,_,_,ho=>by simp [bj] at ho
 | .clo _ _,_,_,_,_,_,_,_,ho=>by simp [bj] at ho
end
end Go.Vm

/-
 A function's contract, from its body: the beginning.
-/
namespace Go.Vm
section
variable {P:Program} {C:Ctx} {w:World} {F:Nat→Prop}
theorem getElem?_sub {α : Type} {u : α} {us:List α} {i k:Nat} (h:k+1≤i):(u :: us)[i - k]?=us[i - (k+1)]?:=by
 have:i - k=(i - (k+1))+1:=by omega
 rw [this]; rfl
theorem Bp {u:Value} {e:Ty} {l:List e.den} (h:HdrW w F u e l):u.oneCell'=true:=by
 obtain ⟨ad,cap,rfl,_⟩:=h; rfl
theorem bf:∀ {ins:List (Mode×Ty)} {us:List Value} {x:(aM (ins.map (·.2))).den} (k:Nat),ArgsRd w F ins us x→∀ i o,(bF ins k x).get i=some o →
  k≤i∧∃ e l u,us[i - k]?=some u∧o=.arr e l∧HdrW w F u e l∧u∈aN ins us
 | [],[],_,_,_,i,o,h=>by simp [bF,Heap.get] at h
 | [],_ :: _,_,_,h,_,_,_=>h.elim
 | _ :: _,[],_,_,h,_,_,_=>h.elim
 | (.rd,τ) :: r,u :: us,x,k,h,i,o,hg=>by
  obtain ⟨h1,e,l,v,h2,h3,h4,h5⟩:=bf (ins:=r) (us:=us) (x:=x.2) (k+1) h.2 i o hg
  exact ⟨by omega,e,l,v,by rw [getElem?_sub h1]; exact h2,h3,h4,h5⟩
 | (.upd,τ) :: r,u :: us,x,k,h,i,o,hg=>by
  cases τ with
  | slice e =>
   simp only [bF] at hg
   rw [Heap.get_cons] at hg
   split at hg
   ·rename_i e0
    subst e0
    simp only [A1] at hg
    subst hg
    exact ⟨A7 _,e,x.1,u,by simp,rfl,h.1,by simp [aN]⟩
   ·obtain ⟨h1,e',l,v,h2,h3,h4,h5⟩:=bf (ins:=r) (us:=us) (x:=x.2) (k+1) h.2 i o hg
    exact ⟨by omega,e',l,v,by rw [getElem?_sub h1]; exact h2,h3,h4,by simp [aN,h5]⟩
  | _=>exact (h.1).elim
 | (.take,τ) :: r,u :: us,x,k,h,i,o,hg=>by
  cases τ with
  | slice e =>
   simp only [bF] at hg
   rw [Heap.get_cons] at hg
   split at hg
   ·rename_i e0
    subst e0
    simp only [A1] at hg
    subst hg
    exact ⟨A7 _,e,x.1,u,by simp,rfl,h.1,by simp [aN]⟩
   ·obtain ⟨h1,e',l,v,h2,h3,h4,h5⟩:=bf (ins:=r) (us:=us) (x:=x.2) (k+1) h.2 i o hg
    exact ⟨by omega,e',l,v,by rw [getElem?_sub h1]; exact h2,h3,h4,by simp [aN,h5]⟩
  | _=>exact (h.1).elim
theorem jk:∀ {ins:List (Mode×Ty)} {us:List Value} {x:(aM (ins.map (·.2))).den} (k:Nat),ArgsRd w F ins us x→cH (aN ins us)→∀ i j o p b u v,(bF ins k x).get i=some o→(bF ins k x).get j=some p →
  us[i - k]?=some u→us[j - k]?=some v→HB u b→HB v b→i=j
 | [],[],_,_,_,_,i,_,o,_,_,_,_,h,_,_,_,_,_=>by simp [bF,Heap.get] at h
 | [],_ :: _,_,_,h,_,_,_,_,_,_,_,_,_,_,_,_,_,_=>h.elim
 | _ :: _,[],_,_,h,_,_,_,_,_,_,_,_,_,_,_,_,_,_=>h.elim
 | (.rd,τ) :: r,u0 :: us,x,k,h,ha,i,j,o,p,b,u,v,hi,hj,hu,hv,hb,hb'=>by
  obtain ⟨h1,_⟩:=bf (ins:=r) (us:=us) (x:=x.2) (k+1) h.2 i o hi
  obtain ⟨h2,_⟩:=bf (ins:=r) (us:=us) (x:=x.2) (k+1) h.2 j p hj
  rw [getElem?_sub h1] at hu
  rw [getElem?_sub h2] at hv
  exact jk (ins:=r) (us:=us) (x:=x.2) (k+1) h.2 ha i j o p b u v hi hj hu hv hb hb'
 | (.upd,τ) :: r,u0 :: us,x,k,h,ha,i,j,o,p,b,u,v,hi,hj,hu,hv,hb,hb'=>by
  cases τ with
  | slice e =>
   obtain ⟨ha1,ha2⟩:=NO.1 (show PY _ (u0 :: aN r us) from ha)
   simp only [bF] at hi hj
   rw [Heap.get_cons] at hi hj
   split at hi <;> split at hj
   ·omega
   ·rename_i e0 _
    subst e0
    obtain ⟨h2,e',l,v',h3,_,_,h4⟩:=bf (ins:=r) (us:=us) (x:=x.2) (k+1) h.2 j p hj
    rw [getElem?_sub h2,h3] at hv
    simp only [A1] at hv
    subst hv
    simp at hu
    subst hu
    exact (ha1 _ h4 b hb hb').elim
   ·rename_i _ e0
    subst e0
    obtain ⟨h2,e',l,v',h3,_,_,h4⟩:=bf (ins:=r) (us:=us) (x:=x.2) (k+1) h.2 i o hi
    rw [getElem?_sub h2,h3] at hu
    simp only [A1] at hu
    subst hu
    simp at hv
    subst hv
    exact (ha1 _ h4 b hb' hb).elim
   ·obtain ⟨h1,_⟩:=bf (ins:=r) (us:=us) (x:=x.2) (k+1) h.2 i o hi
    obtain ⟨h2,_⟩:=bf (ins:=r) (us:=us) (x:=x.2) (k+1) h.2 j p hj
    rw [getElem?_sub h1] at hu
    rw [getElem?_sub h2] at hv
    exact jk (ins:=r) (us:=us) (x:=x.2) (k+1) h.2 ha2 i j o p b u v hi hj hu hv hb hb'
  | _=>exact (h.1).elim
 | (.take,τ) :: r,u0 :: us,x,k,h,ha,i,j,o,p,b,u,v,hi,hj,hu,hv,hb,hb'=>by
  cases τ with
  | slice e =>
   obtain ⟨ha1,ha2⟩:=NO.1 (show PY _ (u0 :: aN r us) from ha)
   simp only [bF] at hi hj
   rw [Heap.get_cons] at hi hj
   split at hi <;> split at hj
   ·omega
   ·rename_i e0 _
    subst e0
    obtain ⟨h2,e',l,v',h3,_,_,h4⟩:=bf (ins:=r) (us:=us) (x:=x.2) (k+1) h.2 j p hj
    rw [getElem?_sub h2,h3] at hv
    simp only [A1] at hv
    subst hv
    simp at hu
    subst hu
    exact (ha1 _ h4 b hb hb').elim
   ·rename_i _ e0
    subst e0
    obtain ⟨h2,e',l,v',h3,_,_,h4⟩:=bf (ins:=r) (us:=us) (x:=x.2) (k+1) h.2 i o hi
    rw [getElem?_sub h2,h3] at hu
    simp only [A1] at hu
    subst hu
    simp at hv
    subst hv
    exact (ha1 _ h4 b hb' hb).elim
   ·obtain ⟨h1,_⟩:=bf (ins:=r) (us:=us) (x:=x.2) (k+1) h.2 i o hi
    obtain ⟨h2,_⟩:=bf (ins:=r) (us:=us) (x:=x.2) (k+1) h.2 j p hj
    rw [getElem?_sub h1] at hu
    rw [getElem?_sub h2] at hv
    exact jk (ins:=r) (us:=us) (x:=x.2) (k+1) h.2 ha2 i j o p b u v hi hj hu hv hb hb'
  | _=>exact (h.1).elim
theorem nr:∀ {ins:List (Mode×Ty)} {us:List Value} {x:(aM (ins.map (·.2))).den} (k:Nat),ArgsRd w F ins us x→∀ t,(gK ins k x).get t=.av .u ∨
  ∃ u,k≤t∧us[t - k]?=some u∧((∃ τ,∃ y : τ.den,∃ cs,(gK ins k x).get t=.av (.val τ y)∧u=toV τ cs∧Rd w F τ cs y)∨((gK ins k x).get t=.av (.own t)∧u.oneCell'=true∧∃ o,(bF ins k x).get t=some o))
 | [],[],_,_,_,t=>.inl rfl
 | [],_ :: _,_,_,h,_=>h.elim
 | _ :: _,[],_,_,h,_=>h.elim
 | (.rd,τ) :: r,u :: us,x,k,h,t=>by
  simp only [gK]
  rw [Env.get_cons]
  split
  ·rename_i e
   subst e
   obtain ⟨cs,h1,h2⟩:=h.1
   exact .inr ⟨u,A7 _,by simp,.inl ⟨τ,x.1,cs,rfl,h1,h2⟩⟩
  ·rcases nr (ins:=r) (us:=us) (x:=x.2) (k+1) h.2 t with h0 | ⟨v,h1,h2,h3⟩
   ·exact .inl h0
   ·exact .inr ⟨v,by omega,by rw [getElem?_sub h1]; exact h2,h3⟩
 | (.upd,τ) :: r,u :: us,x,k,h,t=>by
  cases τ with
  | slice e =>
   simp only [gK,bF]
   rw [Env.get_cons,Heap.get_cons]
   split
   ·rename_i e0
    subst e0
    exact .inr ⟨u,A7 _,by simp,.inr ⟨rfl,Bp h.1,_,rfl⟩⟩
   ·rcases nr (ins:=r) (us:=us) (x:=x.2) (k+1) h.2 t with h0 | ⟨v,h1,h2,h3⟩
    ·exact .inl h0
    ·exact .inr ⟨v,by omega,by rw [getElem?_sub h1]; exact h2,h3⟩
  | _=>exact (h.1).elim
 | (.take,τ) :: r,u :: us,x,k,h,t=>by
  cases τ with
  | slice e =>
   simp only [gK,bF]
   rw [Env.get_cons,Heap.get_cons]
   split
   ·rename_i e0
    subst e0
    exact .inr ⟨u,A7 _,by simp,.inr ⟨rfl,Bp h.1,_,rfl⟩⟩
   ·rcases nr (ins:=r) (us:=us) (x:=x.2) (k+1) h.2 t with h0 | ⟨v,h1,h2,h3⟩
    ·exact .inl h0
    ·exact .inr ⟨v,by omega,by rw [getElem?_sub h1]; exact h2,h3⟩
  | _=>exact (h.1).elim
end
end Go.Vm

/-
 A function's contract, from its body: the end.
-/
namespace Go.Vm
section
variable {P:Program} {C:Ctx} {w0:World} {M:Own} {N:Nat} {A:Anns} {a:Act} {m:Mem} {s:St}
def HdrsOf (m:Mem) (L:List Value) (I:List Nat):Prop :=
 (∀ b,fU L b→∃ id o,id∈I∧m.G.get id=some o∧isObj o=true∧HB (m.ι id) b)∧(aS I=true→cH L)
theorem HdrsOf.nil (m:Mem) (I:List Nat):HdrsOf m [] I:=⟨by rintro b ⟨u,hu,_⟩; simp at hu,fun _=>MR⟩
theorem HdrsOf.append (hi:Inv C w0 M m) {L1 L2:List Value} {I1 I2:List Nat} (h1:HdrsOf m L1 I1) (h2:HdrsOf m L2 I2):HdrsOf m (L1++L2) (I1++I2):=by
 refine ⟨?_,fun hn=>?_⟩
 ·rintro b ⟨u,hu,hb⟩
  rcases B3.1 hu with hu | hu
  ·obtain ⟨id,o,k1,k2⟩:=h1.1 b ⟨u,hu,hb⟩
   exact ⟨id,o,by simp [k1],k2⟩
  ·obtain ⟨id,o,k1,k2⟩:=h2.1 b ⟨u,hu,hb⟩
   exact ⟨id,o,by simp [k1],k2⟩
 ·obtain ⟨n1,n2,n3⟩:=dR hn
  refine Nl.2 ⟨h1.2 n1,h2.2 n2,?_⟩
  intro u hu v hv b hb hb'
  obtain ⟨id,o,k1,k2,k3,k4⟩:=h1.1 b ⟨u,hu,hb⟩
  obtain ⟨id',o',j1,j2,j3,j4⟩:=h2.1 b ⟨v,hv,hb'⟩
  have:=hi.inj id id' o o' b k2 k3 j2 j3 k4 j4
  subst this
  exact n3 id k1 j1
theorem mG:∀ {τ : Ty},τ.plain=true→∀ cs,aL τ cs=[]
 | .prod a b,h,cs=>by
  simp only [Ty.plain,A3] at h
  simp [aL,mG h.1,mG h.2]
 | .int _,_,_=>rfl
 | .bool,_,_=>rfl
 | .str,_,_=>rfl
 | .unit,_,_=>rfl
 | .slice _,h,_=>by simp [Ty.plain] at h
 | .arr _ _,_,_=>rfl
 | .ptr _,_,_=>rfl
 | .clo _ _,_,_=>rfl
theorem od {w:World} {F F':Nat→Prop} {d:Bool}:∀ {τ : Ty} {cs:List Value} {x : τ.den},τ.plain=true→Rd w F τ cs x→OwnRd w F' d τ cs x
 | .prod a b,_,_,hf,h=>by
  simp only [Ty.plain,A3] at hf
  obtain ⟨c1,c2,h1,h2,h3⟩:=h
  exact ⟨c1,c2,h1,od hf.1 h2,od hf.2 h3⟩
 | .int _,_,_,_,h=>h
 | .bool,_,_,_,h=>h
 | .str,_,_,_,h=>h
 | .unit,_,_,_,h=>h
 | .slice _,_,_,hf,_=>by simp [Ty.plain] at hf
 | .arr _ _,_,_,hf,_=>by simp [Ty.plain] at hf
 | .ptr _,_,_,hf,_=>by simp [Ty.plain] at hf
 | .clo _ _,_,_,hf,_=>by simp [Ty.plain] at hf
theorem Hx {d:Bool} (hi:Inv C w0 M m) {τ : Ty} {sv:SV} {u:Value} {x : τ.den} (hr:RelSV m u sv) (hx:aP m.G τ sv=some x) (ho:Cd d τ sv=true) :
  ∃ cs,u=toV τ (cs.map fD)∧OwnRd m.w m.F d τ cs x∧HdrsOf m (aL τ cs) (dY m.G sv):=by
 have cells {us:List Value} {l:List Atom} (h1:Rel2 (af m) us l) (h2:aH m.G τ l=some (x,[])) (h3:(bj d τ l).1=true):∃ c,us=c.map fD∧OwnRd m.w m.F d τ c x∧HdrsOf m (aL τ c) (l.flatMap bA):=by
  obtain ⟨c,us',lc,a1,a2,a3,a4,a5,a6,a7⟩:=oO hi (rest':=(bj d τ l).2) h1 h2 (by rw [← h3])
  match us',a5 with
  | [],_ =>
   rw [MH] at a1 a2
   subst a2
   exact ⟨c,a1,a4,a6,a7⟩
 cases sv with
 | tup l=>simp [aP] at hx
 | agg l =>
  obtain ⟨us,h1,h2,h3⟩:=hr
  simp only [aP] at hx
  cases ha : τ.isAgg with
  | false=>rw [ha] at hx; simp at hx
  | true =>
   rw [ha] at hx
   simp only [cond_true] at hx
   split at hx
   ·rename_i y hc
    have hx:=B6 hx
    subst hx
    obtain ⟨c,k0,k1,k2⟩:=cells h3 hc ho
    exact ⟨c,by rw [h1,k0]; simp [toV,ha],k1,k2⟩
   ·simp at hx
 | av at' =>
  cases at' with
  | val σ y =>
   obtain ⟨e,hy⟩:=ao hx
   subst e
   subst hy
   obtain ⟨cs,h1,h2⟩:=hr
   have hp : σ.plain=true:=ho
   exact ⟨cs,by rw [dP h2]; exact h1,od hp h2,by rw [mG hp]; exact HdrsOf.nil _ _⟩
  | ptr i o =>
   cases τ <;> simp only [aP] at hx <;> try (simp at hx; done)
   simp [Cd,bj] at ho
  | clo f c =>
   cases τ <;> simp only [aP] at hx <;> try (simp at hx; done)
   simp [Cd,bj] at ho
  | _ =>
   have hr':=(ai (m:=m) (v:=u) (by intros; simp)).1 hr
   simp only [aP] at hx
   cases ha : τ.isAgg with
   | true=>rw [ha] at hx; simp at hx
   | false =>
    rw [ha] at hx
    simp only [cond_false] at hx
    have hc:∀ a',aG m.G τ a'=some x→(bj d τ [a']).1=true→aH m.G τ [a']=some (x,[]):=by
     intro a' h1 h2
     cases τ <;> simp only [bj] at h2 <;> try (simp at h2; done)
     all_goals first
      | (simp only [aH,h1]; done)
      | simp [Ty.isAgg] at ha
    obtain ⟨c,k0,k1,k2⟩:=cells (us:=[u]) (l:=[_]) ⟨hr',trivial⟩ (hc _ hx ho) ho
    refine ⟨c,by rw [← k0]; exact (ry ha u).symm,k1,?_⟩
    simpa [dY,cj] using k2
theorem wg {d:Bool} (hi:Inv C w0 M m) (hG:m.G=s.G) {m2:Mem} (hw:m2.w=m.w) (hF:∀ b,m.F b→m2.F b):∀ {outs:n9} {us:List Value} {x:(aM ((outs.map (·.2)).map (·.2))).den},IQ m s outs us x→gJ d s outs=true →
  (∀ b,Thru m (aQ s false outs) b→m2.F b) →
  ∃ css,us=jw (outs.map (·.2)) css∧OutsRd m2.w m2.F d (outs.map (·.2)) css x∧HdrsOf m (cJ (outs.map (·.2)) css) (aQ s true outs)
 | [],[],_,_,_,_=>⟨[],rfl,trivial,HdrsOf.nil _ _⟩
 | [],_ :: _,_,h,_,_=>h.elim
 | _ :: _,[],_,h,_,_=>h.elim
 | (v,b,τ) :: r,u :: us,x,h,ho,hT=>by
  obtain ⟨⟨sv,h1,h2,h3⟩,h4⟩:=h
  simp only [gJ,A3] at ho
  obtain ⟨ho1,ho2⟩:=ho
  have hFF:∀ b,m.F b→m2.F b∧m2.w.heap[b]?=m.w.heap[b]?:=fun b hb=>⟨hF b hb,by rw [hw]⟩
  obtain ⟨css,k1,k2,k3⟩:=wg hi hG hw hF h4 ho2 (fun bl hb=>hT bl (Thru.mono (fun i hi=>by simp [aQ,hi]) hb))
  cases b with
  | true =>
   simp only [cond_true,h1] at ho1
   obtain ⟨cs,c1,c2,c3⟩:=Hx hi h2 (hG ▸ h3) ho1
   refine ⟨cs :: css,by simp only [Mo,jw,cond_true]; rw [← c1,← k1],⟨c2.mono hFF (fun _ _ _ _=>by rw [hw]),k2⟩,?_⟩
   have e:aQ s true ((v,true,τ) :: r)=dY m.G sv++aQ s true r:=by simp [aQ,h1,hG]
   rw [e]
   exact c3.append hi k3
  | false =>
   obtain ⟨cs,c1,c2⟩:=dt hi (hG ▸ h3) h2
   refine ⟨cs :: css,by simp only [Mo,jw,cond_false]; rw [← c1,← k1],⟨c2.mono fun bl hb=>⟨hT bl (Thru.mono (fun i hi=>by simp [aQ,h1]; exact .inl (hG ▸ hi)) hb),by rw [hw]⟩,k2⟩,?_⟩
   have e:aQ s true ((v,false,τ) :: r)=aQ s true r:=by simp [aQ,h1]
   rw [e]
   simpa [cJ] using k3
end
end Go.Vm

/-
 A function's contract, from its body.
-/
namespace Go.Vm
section
variable {P:Program} {C:Ctx} {w0:World} {M:Own} {N:Nat} {A:Anns} {a:Act} {m:Mem} {s:St}
def eA (ins:List (Mode×Ty)) (us:List Value) (i:Nat):Option Value:=match ins[i]? with
 | some (.upd,_)=>us[i]?
 | _=>none
theorem mZ (hi:Inv C w0 M m) (hG:m.G=s.G) {m2:Mem} (hw:m2.w=m.w) (hF:∀ b,m.F b→m2.F b):∀ {ins:List (Mode×Ty)} {us:List Value} {y:(aM (br ins)).den} (k:Nat),us.length=ins.length→dX s ins k=some y →
  (∀ j u,(∃ τ,ins[j]?=some (.upd,τ))→us[j]?=some u→∀ o,m.G.get (k+j)=some o→isObj o=true→m.ι (k+j)=u) →
  MutsRd m2.w m2.F ins us y∧(∀ b,fU (bR ins us) b→∃ id o,id∈db ins k∧m.G.get id=some o∧isObj o=true∧HB (m.ι id) b)∧(cH (bR ins us))∧(∀ id∈db ins k,k≤id)
 | [],[],y,k,_,_,_=>⟨trivial,by rintro b ⟨u,hu,_⟩; simp [bR] at hu,MR,by simp [db]⟩
 | [],_ :: _,_,_,h,_,_=>by simp at h
 | _ :: _,[],_,_,h,_,_=>by simp at h
 | (.rd,τ) :: r,u :: us,y,k,hl,h,hp=>by
  obtain ⟨h1,h2,h3,h4⟩:=mZ hi hG hw hF (ins:=r) (us:=us) (y:=y) (k+1) (by simpa using hl) h (fun j u hj hu o ho hob=>by have:=hp (j+1) u (by simpa using hj) (by simpa using hu) o (by rw [show k+(j+1)=k+1+j by omega]; exact ho) hob; rw [show k+(j+1)=k+1+j by omega] at this; exact this)
  exact ⟨h1,h2,h3,fun id hid=>by have:=h4 id hid; omega⟩
 | (.take,τ) :: r,u :: us,y,k,hl,h,hp=>by
  obtain ⟨h1,h2,h3,h4⟩:=mZ hi hG hw hF (ins:=r) (us:=us) (y:=y) (k+1) (by simpa using hl) h (fun j u hj hu o ho hob=>by have:=hp (j+1) u (by simpa using hj) (by simpa using hu) o (by rw [show k+(j+1)=k+1+j by omega]; exact ho) hob; rw [show k+(j+1)=k+1+j by omega] at this; exact this)
  exact ⟨h1,h2,h3,fun id hid=>by have:=h4 id hid; omega⟩
 | (.upd,τ) :: r,u :: us,y,k,hl,h,hp=>by
  cases τ with
  | slice e =>
    cases hg:s.G.get k with
    | none=>simp [dX,hg] at h
    | some ob =>
   cases ob with
   | box _=>simp [dX,hg] at h
   | dead=>simp [dX,hg] at h
   | deep _ _ _ _=>simp [dX,hg] at h
   | map _ _ _=>simp [dX,hg] at h
   | arr σ l =>
   unfold dX at h
   rw [hg] at h
   dsimp only at h
   split at h
   ·rename_i x hx
    split at h
    ·rename_i z hz
     have h:=B6 h
     subst h
     obtain ⟨he,hx⟩:=ao hx
     cases he
     subst hx
     obtain ⟨h1,h2,h3,h4⟩:=mZ hi hG hw hF (ins:=r) (us:=us) (y:=z) (k+1) (by simpa using hl) hz (fun j u hj hu o ho hob=>by have:=hp (j+1) u (by simpa using hj) (by simpa using hu) o (by rw [show k+(j+1)=k+1+j by omega]; exact ho) hob; rw [show k+(j+1)=k+1+j by omega] at this; exact this)
     have hι:=hp 0 u ⟨_,rfl⟩ rfl _ (by rw [M4,hG]; exact hg) rfl
     rw [M4] at hι
     have hobj:HdrW m.w m.F u e l:=by
      have:=hi.objs k _ (hG ▸ hg)
      rw [← hι]; exact this
     refine ⟨⟨hobj.mono (fun b hb=>⟨hF b hb,by rw [hw]⟩) (fun _ _=>by rw [hw]),h1⟩,?_,?_,?_⟩
     ·rintro b ⟨u',hu',hb⟩
      simp only [bR] at hu'
      rcases B7.1 hu' with rfl | hu'
      ·exact ⟨k,_,by simp [db],hG ▸ hg,rfl,by rw [hι]; exact hb⟩
      ·obtain ⟨id,o,k1,k2⟩:=h2 b ⟨u',hu',hb⟩
       exact ⟨id,o,by simp [db,k1],k2⟩
     ·refine Nm ?_ h3
      intro v hv b hb hb'
      obtain ⟨id,o,k1,k2,k3,k4⟩:=h2 b ⟨v,hv,hb'⟩
      have:=hi.inj k id _ o b (hG ▸ hg) rfl k2 k3 (by rw [hι]; exact hb) k4
      have:=h4 id k1
      omega
     ·intro id hid
      simp only [db,B7] at hid
      rcases hid with rfl | hid
      ·exact A7 _
      ·have:=h4 id hid; omega
    ·simp at h
   ·simp at h
  | _=>simp [dX] at h
end
end Go.Vm

/-
 A function's contract, from its body: the whole.
-/
namespace Go.Vm
section
variable {P:Program} {C:Ctx} {A:Anns}
theorem ig:∀ (outs m:List Ty) (x:(aM outs).den) (y:(aM m).den),eD outs m (kJ outs m x y)=(x,y)
 | [],_,_,_=>rfl
 | _ :: r,m,x,y=>by
  show ((x.1,(eD r m (kJ r m x.2 y)).1),(eD r m (kJ r m x.2 y)).2)=(x,y)
  rw [ig r m]
  rfl
def vz (A:Anns) (ins:List (Mode×Ty)):Bool:=A.all fun p=>(db ins 0).all fun i=>(p.2.head.pins.any fun j=>B1 i j) && p.2.exits.all fun e=>e.2.pins.any fun j=>B1 i j
theorem Anns.mem_of_get {A:Anns} {key:Nat} {ann:Ann} (h:A.get key=some ann):∃ k,(k,ann)∈A:=by
 induction A with
 | nil=>simp [Anns.get] at h
 | cons p r ih =>
  obtain ⟨k,v⟩:=p
  simp only [Anns.get] at h
  cases hk:B1 k key with
  | true=>rw [hk] at h; simp at h; subst h; exact ⟨k,by simp⟩
  | false=>rw [hk] at h; obtain ⟨k',hk'⟩:=ih h; exact ⟨k',by simp [hk']⟩
theorem BY:∀ {ins:List (Mode×Ty)} {us:List Value} {i:Nat} {v:Value} (k:Nat),eA ins us i=some v→k+i∈db ins k
 | [],us,i,v,k,h=>by simp [eA] at h
 | (md,τ) :: r,us,0,v,k,h=>by
  cases md <;> simp [eA] at h
  simp [db]
 | (md,τ) :: r,[],i+1,v,k,h=>by
  unfold eA at h
  split at h <;> simp at h
 | (md,τ) :: r,u :: us,i+1,v,k,h=>by
  have h':eA r us i=some v:=by
   unfold eA at h ⊢
   simpa using h
  have:=BY (k+1) h'
  have e:k+(i+1)=k+1+i:=by omega
  cases md <;> simp only [db] <;> rw [e] <;> simp [this]
theorem oY {w:World} {F:Nat→Prop}:∀ {ins:List (Mode×Ty)} {us:List Value} {x:(aM (ins.map (·.2))).den} {i:Nat} {v:Value} (k:Nat),ArgsRd w F ins us x→eA ins us i=some v→∃ o,(bF ins k x).get (k+i)=some o
 | [],us,x,i,v,k,_,h=>by simp [eA] at h
 | _ :: _,[],_,_,_,_,h,_=>h.elim
 | (md,τ) :: r,u :: us,x,0,v,k,ha,h=>by
  cases md <;> simp [eA] at h
  cases τ with
  | slice e=>exact ⟨_,by simp only [bF,M4]; rw [Heap.get_cons,if_pos rfl]⟩
  | _=>exact ha.1.elim
 | (md,τ) :: r,u :: us,x,i+1,v,k,ha,h=>by
  have h':eA r us i=some v:=by
   unfold eA at h ⊢
   simpa using h
  obtain ⟨o,ho⟩:=oY (x:=x.2) (k+1) ha.2 h'
  have e:k+(i+1)=k+1+i:=by omega
  rw [e]
  cases md with
  | rd=>exact ⟨o,ho⟩
  | upd =>
   cases τ with
   | slice e=>refine ⟨o,?_⟩; simp only [bF]; rw [Heap.get_cons,if_neg (by omega)]; exact ho
   | _=>exact ha.1.elim
  | take =>
   cases τ with
   | slice e=>refine ⟨o,?_⟩; simp only [bF]; rw [Heap.get_cons,if_neg (by omega)]; exact ho
   | _=>exact ha.1.elim
theorem ArgsRd.len {w:World} {F:Nat→Prop}:∀ {ins:List (Mode×Ty)} {us:List Value} {x:(aM (ins.map (·.2))).den},ArgsRd w F ins us x→us.length=ins.length
 | [],[],_,_=>rfl
 | [],_ :: _,_,h=>h.elim
 | _ :: _,[],_,h=>h.elim
 | _ :: _,_ :: _,_,h=>by simp [ArgsRd.len h.2]
theorem GA {w:World} {F:Nat→Prop} {ins:List (Mode×Ty)} {us:List Value} {x:(aM (ins.map (·.2))).den} (hp:Pre C.glob w F ins us x) (n:Nat) :
  Sim C w ⟨fU (aN ins us),F,eA ins us⟩ n { tmps:=us.toArray++N7 (n - us.toArray.size) undef,defers:=[] } ⟨w,F,fun i=>us.getD i undef,bF ins 0 x⟩ (gK ins 0 x):=by
 have hι : ∀ i u,us[i - 0]?=some u→us.getD i undef=u:=by intro i u h; simp at h; simp [h]
 refine ⟨⟨Kept.refl _ _,?_,?_,?_,hp.fro,hp.glob,fun b hb=>.inl hb,?_⟩,rfl,by simp; omega,?_⟩
 ·intro i o ho
  obtain ⟨_,e,l,u,h1,rfl,h2,_⟩:=bf 0 hp.args i o ho
  show HdrW w F (us.getD i undef) e l
  rw [hι i u h1]; exact h2
 ·intro i o b ho _ hb
  obtain ⟨_,e,l,u,h1,rfl,h2,h3⟩:=bf 0 hp.args i o ho
  change HB (us.getD i undef) b at hb
  rw [hι i u h1] at hb
  obtain ⟨k1,k2⟩:=hp.own u h3 b hb
  exact ⟨.inr ⟨u,h3,hb⟩,k1,k2⟩
 ·intro i j o p b ho _ hq _ h1 h2
  obtain ⟨_,e,l,u,k1,_,_,_⟩:=bf 0 hp.args i o ho
  obtain ⟨_,e',l',v,k2,_,_,_⟩:=bf 0 hp.args j p hq
  change HB (us.getD i undef) b at h1
  change HB (us.getD j undef) b at h2
  rw [hι i u k1] at h1
  rw [hι j v k2] at h2
  exact jk 0 hp.args hp.apart i j o p b u v ho hq k1 k2 h1 h2
 ·intro i v hv
  obtain ⟨o,ho⟩:=oY 0 hp.args hv
  rw [L9] at ho
  obtain ⟨_,e,l,u,_,rfl,_,_⟩:=bf 0 hp.args i o ho
  refine ⟨_,ho,fun _=>⟨?_,rfl⟩⟩
  show us.getD i undef=v
  have hv:eA ins us i=some v:=hv
  unfold eA at hv
  split at hv
  ·simp [hv]
  ·simp at hv
 ·intro t
  rcases nr 0 hp.args t with h | ⟨u,_,h1,h2⟩
  ·rw [h]; trivial
  ·have ht:(us.toArray++N7 (n - us.toArray.size) undef).getD t undef=u:=by
    simp only [Nat.sub_zero] at h1
    have:=(A2.1 h1).1
    rw [MW,Array.getElem?_append_left (by simpa using this)]
    simp [h1]
   rw [ht]
   rcases h2 with ⟨τ,y,cs,h3,h4,h5⟩ | ⟨h3,h4,o,h5⟩
   ·rw [h3]; exact ⟨cs,h4,h5⟩
   ·rw [h3]
    exact (ai (a:=.own t) (by intros; simp)).2 ⟨h4,o,h5,fun _=>(hι t u h1).symm⟩
end
end Go.Vm

/-
 A function's contract, from its body.
-/
namespace Go.Vm
section
variable {P:Program} {C:Ctx} {A:Anns}
theorem IJ {d:Bool} {w:World} {F:Nat→Prop} {ins:List (Mode×Ty)} {us:List Value} {x:(aM (ins.map (·.2))).den} (hp:Pre C.glob w F ins us x) {N:Nat} {a:Act} {m:Mem} {s:St}
  (hs:Sim C w ⟨fU (aN ins us),F,eA ins us⟩ N a m s.env) (hG:m.G=s.G) {outs:n9} {r:(aM ((outs.map (·.2)).map (·.2)++br ins)).den} (h:xD ins outs s d=some r) (hk:tU P outs=true) :
  ∃ vs:List Value,((outs.map (·.1)).mapM (oB a)).run P m.w=.ok vs m.w∧∃ F2 css,Post w F ins us (outs.map (·.2)) r (ia vs) m.w F2 css d:=by
 unfold xD at h
 cases hc:(gJ d s outs && aS (aQ s true outs) && ii (aQ s true outs) (aQ s false outs) && ii (aQ s true outs) (db ins 0) && ii (aQ s false outs) (db ins 0)) with
 | false=>rw [hc] at h; simp at h
 | true =>
  rw [hc] at h
  simp only [cond_true] at h
  simp only [A3] at hc
  obtain ⟨⟨⟨⟨c1,c2⟩,c3⟩,c4⟩,c5⟩:=hc
  split at h
  ·rename_i xr hxr
   split at h
   ·rename_i y hy
    have h:=B6 h
    subst h
    obtain ⟨vs,r1,r2⟩:=o4 (P:=P) hs hG hxr hk
    obtain ⟨m2,a1,a2,a3,a4,a5,a6⟩:=cB (aQ s false outs) hs.inv
    let m3:Mem:=⟨m2.w,fun b=>m2.F b∨F b,m2.ι,m2.G⟩
    have hF:∀ b,m.F b→m3.F b:=fun b hb=>.inl (a5.fro b hb).1
    obtain ⟨css,k1,k2,k3⟩:=wg (m2:=m3) hs.inv hG a1 hF r2 c1 (fun b hb=>.inl (a6 b hb))
    obtain ⟨e1,e2,e3,e4⟩:=mZ (m2:=m3) hs.inv hG a1 hF (ins:=ins) (us:=us) 0 hp.args.len hy (fun j u hj hu o ho hob=>by
     rw [L9] at ho ⊢
     obtain ⟨τ,hj⟩:=hj
     obtain ⟨o',q1,q2⟩:=hs.inv.pin j u (show eA ins us j=some u by simp [eA,hj,hu])
     rw [ho] at q1
     simp only [A1] at q1
     subst q1
     exact (q2 hob).1)
    have hm:HdrsOf m (bR ins us) (db ins 0):=⟨e2,fun _=>e3⟩
    -- every such block is an object's that lives,and that no other result is read through
    have live:∀ b,fU (cJ (outs.map (·.2)) css++bR ins us) b→∃ id o,id∉aQ s false outs∧m.G.get id=some o∧isObj o=true∧HB (m.ι id) b:=by
     rintro b ⟨u,hu,hb⟩
     rcases B3.1 hu with hu | hu
     ·obtain ⟨id,o,j1,j2⟩:=k3.1 b ⟨u,hu,hb⟩
      exact ⟨id,o,fun hn=>jA c3 j1 hn,j2⟩
     ·obtain ⟨id,o,j1,j2⟩:=e2 b ⟨u,hu,hb⟩
      exact ⟨id,o,fun hn=>jA c5 hn j1,j2⟩
    refine ⟨vs,r1,m3.F,css,?_,?_,?_,by rw [k1],?_,?_,?_,?_⟩
    ·exact hs.inv.kept
    ·intro b hb
     exact .inr hb
    ·rintro b (hb | hb)
     ·have q1:=a4.fro b hb
      rw [a1] at q1
      exact ⟨q1,a4.bnd b hb⟩
     ·exact ⟨Ml (hp.fro b hb) hs.inv.kept.size,.inl hb⟩
    ·rw [ig,← a1]; exact k2
    ·rw [ig,← a1]; exact e1
    ·refine Nl.2 ⟨k3.2 c2,e3,?_⟩
     intro u hu v hv b hb hb'
     obtain ⟨id,o,j1,j2,j3,j4⟩:=k3.1 b ⟨u,hu,hb⟩
     obtain ⟨id',o',l1,l2,l3,l4⟩:=e2 b ⟨v,hv,hb'⟩
     have:=hs.inv.inj id id' o o' b j2 j3 l2 l3 j4 l4
     subst this
     exact jA c4 j1 l1
    ·intro u hu b hb
     obtain ⟨id,o,j1,j2,j3,j4⟩:=live b ⟨u,hu,hb⟩
     obtain ⟨q1,q2,q3⟩:=hs.inv.own id o b j2 j3 j4
     have:=a4.own id o b (by rw [a3,bG _ _ id j1]; exact j2) j3 (by rw [a2]; exact j4)
     refine ⟨q1,?_,q3⟩
     rintro (hb' | hb')
     ·exact this.2.1 hb'
     ·rcases q1 with q1 | ⟨v,hv,hvb⟩
      ·have:=hp.fro b hb'
       omega
      ·exact (hp.own v hv b hvb).1 hb'
   ·simp at h
  ·simp at h
end
end Go.Vm

/-
 A function's contract, from its body: the join.
-/
namespace Go.Vm
section
variable {P:Program} {C:Ctx} {A:Anns}
theorem DC {d:Bool} {f:FuncId} {fn:Func} {body:Code} {ins:List (Mode×Ty)} {outs:n9} {M:(aM (ins.map (·.2))).den→Option (aM ((outs.map (·.2)).map (·.2)++br ins)).den}
  (hC : CtxOK P C) (hD : Aj P) (hf : P.funcs[f]? = some fn) (hb : fn.body = some body) (hn : (fn.name == "runtime.NumGoroutine") = false) (hL : pY C A (cb body)) (hd : jI fn.ntmps body = true)
  (hpins:vz A ins=true) (hres:fn.results=(outs.map (·.1)).toArray) (hk:tU P outs=true) (heq:∀ x,qE C A body ins outs x d=M x) :
  Con.Holds P C.glob f ⟨ins,outs.map (·.2),M,d⟩:=by
 intro w F us x r hp hM
 have hn' : ¬ fn.name = "runtime.NumGoroutine" := by simpa using hn
 refine .inl ⟨by simp [callFunc,hf,hn',hb],?_⟩
 refine calls_of_wp hf hb ?_
 have hs:=GA hp fn.ntmps
 have hx:qE C A body ins outs x d=some r:=(heq x).trans hM
 unfold qE at hx
 have hPin:IA ⟨fU (aN ins us),F,eA ins us⟩ A:=by
  intro key ann hann
  obtain ⟨k,hmem⟩:=Anns.mem_of_get hann
  unfold vz at hpins
  rw [LZ] at hpins
  have h1:=hpins _ hmem
  rw [LZ] at h1
  have h2:∀ i v,eA ins us i=some v→i∈db ins 0:=fun i v hv=>by have:=BY 0 hv; rwa [L9] at this
  refine ⟨fun i v hv=>?_,fun e sh hsh i v hv=>?_⟩
  ·have:=h1 i (h2 i v hv)
   simp only [A3] at this
   exact fY.1 this.1
  ·have:=h1 i (h2 i v hv)
   simp only [A3] at this
   have h3:=this.2
   rw [LZ] at h3
   exact fY.1 (h3 _ hsh)
 have fin {s':St} {a':Act} {m':Mem} (h1:xD ins outs s' d=some r) (h2:m'.G=s'.G) (h3:Sim C w ⟨fU (aN ins us),F,eA ins us⟩ fn.ntmps a' m' s'.env) :
   a'.defers=[]∧∃ v,(Go.results fn a'.tmps).run P m'.w=.ok v m'.w∧∃ v',Ending.returned v=.returned v'∧∃ F2 css,Post w F ins us (outs.map (·.2)) r v' m'.w F2 css d:=by
  obtain ⟨vs,e1,F2,css,e2⟩:=IJ (P:=P) hp h3 h2 h1 hk
  refine ⟨h3.defers,ia vs,?_,_,rfl,F2,css,e2⟩
  have hrun:(Go.results fn a'.tmps).run P m'.w=(((outs.map (·.1)).mapM (oB a')).run P m'.w).andThen fun vs w'=>.ok (ia vs) w':=by
   have hf':Go.results fn a'.tmps=(do let vs ← fn.results.mapM (oB a'); pure (if h:vs.size=1 then vs[0] else .tuple vs)):=by
    unfold Go.results
    congr 1
   rw [hf',hres]
   simp only [Array.mapM_eq_mapM_toList,Sem.run_bind,map_eq_pure_bind,bind_assoc,pure_bind,Sem.run_pure]
   congr 1
   funext l w'
   match l with
   | []=>rfl
   | [u]=>rfl
   | _ :: _ :: _=>simp [ia]
  rw [hrun,e1]
  rfl
 refine G8 (s:={ env:=gK ins 0 x,G:=bF ins 0 x }) hC hD hPin body hL hd hs rfl hx ?_
 intro e s' a' m' h1 h2 h3
 cases e with
 | normal=>exact fin h1 h2 h3
 | exit i=>simp at h1
 | ret=>exact fin h1 h2 h3
end
end Go.Vm

/-
 A part of the memory is taken out, something is done there, and it is laid back.
-/
namespace Go.Vm
theorem Heap.get_append (X G:Heap) (i:Nat):Heap.get (X++G) i=(match X.get i with | some o=>some o | none=>G.get i):=by
 induction X with
 | nil=>rfl
 | cons p r ih =>
  obtain ⟨k,v⟩:=p
  simp only [List.cons_append,Heap.get]
  cases B1 k i with
  | true=>rfl
  | false=>exact ih
theorem Heap.get_of_has {G:Heap}:∀ {i:Nat},G.has i=true→∃ o,G.get i=some o:=by
 induction G with
 | nil=>intro i h; simp [Heap.has] at h
 | cons p r ih =>
  intro i h
  obtain ⟨k,v⟩:=p
  simp only [Heap.has] at h
  simp only [Heap.get]
  cases hk:B1 k i with
  | true=>exact ⟨v,rfl⟩
  | false=>rw [hk] at h; exact ih h
theorem Heap.has_none {G:Heap} {i:Nat} (h:G.get i=none):G.has i=false:=by
 cases hh:G.has i with
 | false=>rfl
 | true=>obtain ⟨o,ho⟩:=Heap.get_of_has hh; rw [h] at ho; cases ho
theorem Heap.mem_of_get {G:Heap}:∀ {i:Nat} {o:Obj},G.get i=some o→(i,o)∈G:=by
 induction G with
 | nil=>intro i o h; simp [Heap.get] at h
 | cons p r ih =>
  intro i o h
  obtain ⟨k,v⟩:=p
  simp only [Heap.get] at h
  cases hk:B1 k i with
  | true=>rw [hk] at h; simp at h; subst h; rw [← A4 hk]; simp
  | false=>rw [hk] at h; exact List.mem_cons_of_mem _ (ih h)
section
variable {P:Program} {C:Ctx} {w0:World} {M:Own} {m:Mem}
theorem ta (hi:Inv C w0 M m) {G':Heap} (h:∀ id,G'.get id=m.G.get id):Inv C w0 M ⟨m.w,m.F,m.ι,G'⟩∧Evo m ⟨m.w,m.F,m.ι,G'⟩:=by
 have he:Evo m ⟨m.w,m.F,m.ι,G'⟩:=⟨fun b hb=>⟨hb,rfl⟩,fun id o ho=>⟨o,by show G'.get id=_; rw [h]; exact ho,.inr (Goon.refl _ o)⟩⟩
 refine ⟨⟨hi.kept,?_,?_,?_,hi.fro,fun g τ x hg=>(hi.glob g τ x hg).mono he.fro,hi.bnd,fun i v h=>cI he (hi.pin i v h)⟩,he⟩
 ·intro id o ho
  exact b8 he rfl (fun _ _=>rfl) (hi.objs id o (by rw [← h]; exact ho))
 ·intro id o b ho; exact hi.own id o b (by rw [← h]; exact ho)
 ·intro i j o p b ho hoo hp; exact hi.inj i j o p b (by rw [← h]; exact ho) hoo (by rw [← h]; exact hp)
theorem mI {Gi:Heap} (hsub:∀ id o,Gi.get id=some o→m.G.get id=some o) {v:Value}:∀ {a:Atom},af m v a→cz Gi a=true→af ⟨m.w,m.F,m.ι,Gi⟩ v a
 | .u,_,_=>trivial
 | .undef,h,_=>h
 | .nils,h,_=>h
 | .val _ _,h,_=>h
 | .own id,h,hh=>by
  obtain ⟨h1,o,ho,hv⟩:=h
  obtain ⟨o',ho'⟩:=Heap.get_of_has hh
  have:=hsub id o' ho'; rw [ho] at this; cases this
  exact ⟨h1,o,ho',hv⟩
 | .view id off len,h,hh=>by
  obtain ⟨h1,o,ho,hv⟩:=h
  obtain ⟨o',ho'⟩:=Heap.get_of_has hh
  have:=hsub id o' ho'; rw [ho] at this; cases this
  exact ⟨h1,o,ho',hv⟩
 | .ptr id off,h,hh=>by
  obtain ⟨h1,o,ho,hv⟩:=h
  obtain ⟨o',ho'⟩:=Heap.get_of_has hh
  have:=hsub id o' ho'; rw [ho] at this; cases this
  exact ⟨h1,o,ho',hv⟩
 | .aptr id j p,h,hh=>by
  obtain ⟨h1,o,ho,hv⟩:=h
  obtain ⟨o',ho'⟩:=Heap.get_of_has hh
  have:=hsub id o' ho'; rw [ho] at this; cases this
  exact ⟨h1,o,ho',hv⟩
 | .cut id j p,h,hh=>by
  obtain ⟨h1,o,ho,hv⟩:=h
  obtain ⟨o',ho'⟩:=Heap.get_of_has hh
  have:=hsub id o' ho'; rw [ho] at this; cases this
  exact ⟨h1,o,ho',hv⟩
 | .ownd id,h,hh=>by
  obtain ⟨h1,o,ho,hv⟩:=h
  obtain ⟨o',ho'⟩:=Heap.get_of_has hh
  have:=hsub id o' ho'; rw [ho] at this; cases this
  exact ⟨h1,o,ho',hv⟩
 | .sub id ver j,h,hh=>by
  obtain ⟨h1,o,ho,hv⟩:=h
  obtain ⟨o',ho'⟩:=Heap.get_of_has hh
  have:=hsub id o' ho'; rw [ho] at this; cases this
  exact ⟨h1,o,ho',hv⟩
 | .saptr id ver j k,h,hh=>by
  obtain ⟨h1,o,ho,hv⟩:=h
  obtain ⟨o',ho'⟩:=Heap.get_of_has hh
  have:=hsub id o' ho'; rw [ho] at this; cases this
  exact ⟨h1,o,ho',hv⟩
 | .ownm id,h,hh=>by
  obtain ⟨h1,o,ho,hv⟩:=h
  obtain ⟨o',ho'⟩:=Heap.get_of_has hh
  have:=hsub id o' ho'; rw [ho] at this; cases this
  exact ⟨h1,o,ho',hv⟩
 | .bnd _ _,h,_=>h
 | .clo f caps,h,hh=>by
  obtain ⟨vs,h1,h2⟩:=h
  refine ⟨vs,h1,?_⟩
  simp only [cz,LZ] at hh
  clear h1
  induction caps generalizing vs with
  | nil =>
   match vs,h2 with
   | [],_=>trivial
  | cons c caps ih =>
   match vs,h2 with
   | u :: vs,h2 =>
    obtain ⟨⟨o,ho,hv⟩,h3⟩:=h2
    obtain ⟨o',ho'⟩:=Heap.get_of_has (hh c (by simp))
    have:=hsub c o' ho'; rw [ho] at this; cases this
    exact ⟨⟨o,ho',hv⟩,ih vs h3 fun x hx=>hh x (by simp [hx])⟩
theorem hU {Gi:Heap} (hsub:∀ id o,Gi.get id=some o→m.G.get id=some o):∀ {us:List Value} {l:List Atom},Rel2 (af m) us l→l.all (fun a=>cz Gi a)=true→Rel2 (af ⟨m.w,m.F,m.ι,Gi⟩) us l
 | [],[],_,_=>trivial
 | _ :: _,[],h,_=>h.elim
 | [],_ :: _,h,_=>h.elim
 | _ :: _,_ :: _,h,hh=>by
  simp only [NZ,A3] at hh
  exact ⟨mI hsub h.1 hh.1,hU hsub h.2 hh.2⟩
theorem Es {Gi:Heap} (hsub:∀ id o,Gi.get id=some o→m.G.get id=some o) {v:Value}:∀ {sv:SV},RelSV m v sv→pi Gi sv=true→RelSV ⟨m.w,m.F,m.ι,Gi⟩ v sv
 | .av a,h,hh=>by
  cases a with
  | val τ x=>exact h
  | _=>exact (ai (by intros; simp)).2 (mI hsub ((ai (by intros; simp)).1 h) hh)
 | .agg l,h,hh=>by
  obtain ⟨us,h1,h2,h3⟩:=h
  exact ⟨us,h1,h2,hU hsub h3 hh⟩
 | .tup l,h,hh=>by
  obtain ⟨us,h1,h2⟩:=h
  refine ⟨us,h1,?_⟩
  clear h1
  induction l generalizing us with
  | nil =>
   match us,h2 with
   | [],_=>trivial
  | cons p l ih =>
   simp only [pi,NZ,A3] at hh
   match us,h2 with
   | u :: us,h2 =>
    refine ⟨?_,ih hh.2 us h2.2⟩
    have h3:=h2.1
    obtain ⟨b,c⟩:=p
    cases b with
    | true=>obtain ⟨us,q1,q0,q2⟩:=h3; exact ⟨us,q1,q0,hU hsub q2 hh.1⟩
    | false =>
     obtain ⟨a,q1,q2⟩:=h3
     simp only at q1
     subst q1
     refine ⟨a,rfl,mI hsub q2 ?_⟩
     have:=hh.1
     simpa using this
theorem wN {v:Value}:∀ {a:Atom},af m v a→cz m.G a=true
 | .u,_=>rfl
 | .undef,_=>rfl
 | .nils,_=>rfl
 | .val _ _,_=>rfl
 | .own _,h=>by obtain ⟨_,o,ho,_⟩:=h; exact Heap.has_of_get ho
 | .view _ _ _,h=>by obtain ⟨_,o,ho,_⟩:=h; exact Heap.has_of_get ho
 | .ptr _ _,h=>by obtain ⟨_,o,ho,_⟩:=h; exact Heap.has_of_get ho
 | .aptr _ _ _,h=>by obtain ⟨_,o,ho,_⟩:=h; exact Heap.has_of_get ho
 | .cut _ _ _,h=>by obtain ⟨_,o,ho,_⟩:=h; exact Heap.has_of_get ho
 | .ownd _,h=>by obtain ⟨_,o,ho,_⟩:=h; exact Heap.has_of_get ho
 | .sub _ _ _,h=>by obtain ⟨_,o,ho,_⟩:=h; exact Heap.has_of_get ho
 | .saptr _ _ _ _,h=>by obtain ⟨_,o,ho,_⟩:=h; exact Heap.has_of_get ho
 | .ownm _,h=>by obtain ⟨_,o,ho,_⟩:=h; exact Heap.has_of_get ho
 | .bnd _ _,_=>rfl
 | .clo f caps,h=>by
  obtain ⟨vs,h1,h2⟩:=h
  simp only [cz,LZ]
  clear h1
  induction caps generalizing vs with
  | nil=>simp
  | cons c caps ih =>
   match vs,h2 with
   | u :: vs,h2 =>
    obtain ⟨⟨o,ho,_⟩,h3⟩:=h2
    intro x hx
    rcases B7.1 hx with rfl | hx
    ·exact Heap.has_of_get ho
    ·exact ih vs h3 x hx
theorem nG:∀ {us:List Value} {l:List Atom},Rel2 (af m) us l→∀ a∈l,cz m.G a=true
 | [],[],_=>by simp
 | _ :: _,[],h=>h.elim
 | [],_ :: _,h=>h.elim
 | _ :: _,_ :: _,h=>by
  intro a ha
  rcases B7.1 ha with rfl | ha
  ·exact wN h.1
  ·exact nG h.2 a ha
theorem vU {G G':Heap} (h:∀ i,G.has i=true→G'.has i=true) {a:Atom} (ha:cz G a=true):cz G' a=true:=by
 cases a with
 | clo f c=>simp only [cz,LZ] at ha ⊢; exact fun i hi=>h i (ha i hi)
 | own _=>exact h _ ha
 | view _ _ _=>exact h _ ha
 | ptr _ _=>exact h _ ha
 | aptr _ _ _=>exact h _ ha
 | cut _ _ _=>exact h _ ha
 | ownd _=>exact h _ ha
 | sub _ _ _=>exact h _ ha
 | saptr _ _ _ _=>exact h _ ha
 | ownm _=>exact h _ ha
 | _=>rfl
def ni (m:Mem) (Gi:Heap):Own:=⟨fun b=>∃ id,Blk ⟨m.w,m.F,m.ι,Gi⟩ id b,m.F,fun _=>none⟩
theorem DN (hi:Inv C w0 M m) {Gi:Heap} (hsub:∀ id o,Gi.get id=some o→m.G.get id=some o) (hbox:∀ id l,Gi.get id=some (.box l)→l.all (fun a=>cz Gi a)=true) :
  Inv C m.w (ni m Gi) ⟨m.w,m.F,m.ι,Gi⟩:=by
 refine ⟨Kept.refl _ _,?_,?_,?_,hi.fro,fun g τ x hg=>hi.glob g τ x hg,fun b hb=>.inl hb,fun i v h=>by simp [ni] at h⟩
 ·intro id o ho
  have hr:=hi.objs id o (hsub id o ho)
  cases o with
  | dead=>trivial
  | arr τ l=>exact hr
  | deep _ _ _ _=>exact hr
  | map _ _ _=>exact hr
  | box l =>
   obtain ⟨b,c,el,h1,h2,h0,h3⟩:=hr
   exact ⟨b,c,el,h1,h2,h0,hU hsub h3 (hbox id l ho)⟩
 ·intro id o b ho hob hb
  obtain ⟨_,h2,h3⟩:=hi.own id o b (hsub id o ho) hob hb
  exact ⟨.inr ⟨id,o,ho,hob,hb⟩,h2,h3⟩
 ·intro i j o p b ho hoo hp hop h1 h2
  exact hi.inj i j o p b (hsub i o ho) hoo (hsub j p hp) hop h1 h2
theorem DH (hi:Inv C w0 M m) {Gi X:Heap} {m':Mem} (hsub:∀ id o,Gi.get id=some o→m.G.get id=some o) (hi':Inv C m.w (ni m Gi) m') (he:Evo ⟨m.w,m.F,m.ι,Gi⟩ m')
  (hG':m'.G=X++Gi) (hX:∀ id o,X.get id=some o→Gi.get id=none→m.G.get id=none) :
  ∃ m'',m''.w=m'.w∧m''.G=X++m.G∧Inv C w0 M m''∧Evo m m''∧∀ v sv,RelSV m' v sv→RelSV m'' v sv:=by
 let ι2:Nat→Value:=fun id=>cond ((X++Gi).has id) (m'.ι id) (m.ι id)
 let m2:Mem:=⟨m'.w,m'.F,ι2,X++m.G⟩
 have hcase:∀ id o,(X++m.G).get id=some o→(m'.G.get id=some o∧ι2 id=m'.ι id)∨(Gi.get id=none∧m.G.get id=some o∧ι2 id=m.ι id):=by
  intro id o ho
  rw [Heap.get_append] at ho
  cases hx:X.get id with
  | some o1 =>
   rw [hx] at ho
   left
   have hg:(X++Gi).get id=some o1:=by rw [Heap.get_append,hx]
   refine ⟨by rw [hG',hg]; exact ho,?_⟩
   show cond _ _ _=_
   rw [Heap.has_of_get hg]; rfl
  | none =>
   rw [hx] at ho
   cases hgi:Gi.get id with
   | some o1 =>
    left
    have hg:(X++Gi).get id=some o1:=by rw [Heap.get_append,hx]; exact hgi
    have h1:=hsub id o1 hgi
    have ho:m.G.get id=some o:=ho
    rw [h1] at ho
    refine ⟨by rw [hG',hg]; exact ho,?_⟩
    show cond _ _ _=_
    rw [Heap.has_of_get hg]; rfl
   | none =>
    right
    have hg:(X++Gi).get id=none:=by rw [Heap.get_append,hx]; exact hgi
    refine ⟨rfl,ho,?_⟩
    show cond _ _ _=_
    rw [Heap.has_none hg]; rfl
 have hback:∀ id o,m'.G.get id=some o→(X++m.G).get id=some o∧ι2 id=m'.ι id:=by
  intro id o ho
  rw [hG'] at ho
  have hι : ι2 id=m'.ι id:=by
   show cond _ _ _=_
   rw [Heap.has_of_get ho]; rfl
  refine ⟨?_,hι⟩
  rw [Heap.get_append] at ho ⊢
  cases hx:X.get id with
  | some o1=>rw [hx] at ho; exact ho
  | none=>rw [hx] at ho; exact hsub id o ho
 have hMb:∀ id o b,m.G.get id=some o→isObj o=true→HB (m.ι id) b→Gi.get id=none→¬ (ni m Gi) b:=by
  rintro id o b ho hob hb hn ⟨id',o',ho',hob',hb'⟩
  have:=hi.inj id id' o o' b ho hob (hsub id' o' ho') hob' hb hb'
  subst this
  have ho':Gi.get id=some o':=ho'
  rw [hn] at ho'; cases ho'
 have hMw:∀ b,(ni m Gi) b→(w0.heap.size≤b∨M b)∧b < m.w.heap.size:=by
  rintro b ⟨id',o',ho',hob',hb'⟩
  have:=hi.own id' o' b (hsub id' o' ho') hob' hb'
  exact ⟨this.1,this.2.2⟩
 have hks:=hi.kept.size
 have hks':=hi'.kept.size
 have hother:∀ id o b,m.G.get id=some o→isObj o=true→HB (m.ι id) b→Gi.get id=none→m'.w.heap[b]?=m.w.heap[b]?:=by
  intro id o b ho hob hb hn
  exact hi'.kept.block b (hi.own id o b ho hob hb).2.2 (hMb id o b ho hob hb hn)
 have he1:Evo m' m2:=⟨fun b hb=>⟨hb,rfl⟩,fun id o ho=>⟨o,(hback id o ho).1,.inr (.inl ⟨(hback id o ho).2,Alike.refl o⟩)⟩⟩
 have he2:Evo m m2:=by
  refine ⟨he.fro,fun id o ho=>?_⟩
  cases hgi:Gi.get id with
  | some o1 =>
   have h1:=hsub id o1 hgi
   rw [ho] at h1; cases h1
   obtain ⟨o',h2,h3⟩:=he.get id o hgi
   obtain ⟨h4,h5⟩:=hback id o' h2
   refine ⟨o',h4,?_⟩
   rcases h3 with h3 | h3
   ·exact .inl h3
   ·have h5:m2.ι id=m'.ι id:=h5
    rw [h5]
    exact .inr h3
  | none =>
   have hx:X.get id=none:=by
    cases hx:X.get id with
    | none=>rfl
    | some o1=>have:=hX id o1 hx hgi; rw [ho] at this; cases this
   have hg:(X++m.G).get id=some o:=by rw [Heap.get_append,hx]; exact ho
   have hn:(X++Gi).get id=none:=by rw [Heap.get_append,hx]; exact hgi
   refine ⟨o,hg,.inr (.inl ⟨?_,Alike.refl o⟩)⟩
   show cond _ _ _=_
   rw [Heap.has_none hn]; rfl
 refine ⟨m2,rfl,rfl,⟨?_,?_,?_,?_,hi'.fro,fun g τ x hg=>(hi'.glob g τ x hg),?_,fun i v h=>cI he2 (hi.pin i v h)⟩,he2,fun v sv h=>il he1 h⟩
 ·refine ⟨hi'.kept.os.trans hi.kept.os,hi'.kept.tape.trans hi.kept.tape,hi'.kept.output.trans hi.kept.output,by show _≤m'.w.heap.size; omega,fun b hb hM=>?_⟩
  refine (hi'.kept.block b (by omega) ?_).trans (hi.kept.block b hb hM)
  intro hMb'
  rcases (hMw b hMb').1 with h | h
  ·omega
  ·exact hM h
 ·intro id o ho
  rcases hcase id o ho with ⟨h1,h2⟩ | ⟨h1,h2,h3⟩
  ·exact b8 he1 h2 (fun _ _=>rfl) (hi'.objs id o h1)
  ·by_cases hob:isObj o=true
   ·exact b8 he2 h3 (fun b hb=>hother id o b h2 hob hb h1) (hi.objs id o h2)
   ·cases o <;> simp_all [isObj,dM]
 ·intro id o b ho hob hb
  rcases hcase id o ho with ⟨h1,h2⟩ | ⟨h1,h2,h3⟩
  ·have hb':HB (m'.ι id) b:=by rw [← h2]; exact hb
   obtain ⟨q1,q2,q3⟩:=hi'.own id o b h1 hob hb'
   refine ⟨?_,q2,q3⟩
   rcases q1 with q1 | q1
   ·exact .inl (by omega)
   ·exact (hMw b q1).1
  ·have hb':HB (m.ι id) b:=by rw [← h3]; exact hb
   obtain ⟨q1,q2,q3⟩:=hi.own id o b h2 hob hb'
   refine ⟨q1,?_,by show b < m'.w.heap.size; omega⟩
   intro hF
   rcases hi'.bnd b hF with h | h | h
   ·exact q2 h
   ·exact hMb id o b h2 hob hb' h1 h
   ·omega
 ·have cross:∀ i j o p b,m'.G.get i=some o→ι2 i=m'.ι i→Gi.get j=none→m.G.get j=some p→ι2 j=m.ι j→isObj o=true→isObj p=true→HB (ι2 i) b→HB (ι2 j) b→False:=by
   intro i j o p b a1 a2 b1 b2 b3 hoo hop h1 h2
   rw [a2] at h1; rw [b3] at h2
   have q:=(hi'.own i o b a1 hoo h1).1
   have:=(hi.own j p b b2 hop h2).2.2
   rcases q with q | q
   ·omega
   ·exact hMb j p b b2 hop h2 b1 q
  intro i j o p b ho hoo hp hop h1 h2
  rcases hcase i o ho with ⟨a1,a2⟩ | ⟨a1,a2,a3⟩
  ·rcases hcase j p hp with ⟨b1,b2⟩ | ⟨b1,b2,b3⟩
   ·exact hi'.inj i j o p b a1 hoo b1 hop (by rw [← a2]; exact h1) (by rw [← b2]; exact h2)
   ·exact (cross i j o p b a1 a2 b1 b2 b3 hoo hop h1 h2).elim
  ·rcases hcase j p hp with ⟨b1,b2⟩ | ⟨b1,b2,b3⟩
   ·exact (cross j i p o b b1 b2 a1 a2 a3 hop hoo h2 h1).elim
   ·exact hi.inj i j o p b a2 hoo b2 hop (by rw [← a3]; exact h1) (by rw [← b3]; exact h2)
 ·intro b hF
  rcases hi'.bnd b hF with h | h | h
  ·exact hi.bnd b h
  ·rcases (hMw b h).1 with h | h
   ·exact .inr (.inr h)
   ·exact .inr (.inl h)
  ·exact .inr (.inr (by omega))
end
def Suf (G:Heap) (r:Option St):Prop:=∀ s',r=some s'→∃ X,s'.G=X++G
section
variable {C:Ctx} {s:St}
theorem ac {G:Heap}:Suf G none:=fun _ h=>by cases h
theorem lL {dst:Option Nat} {v:SV} {G:Heap} (h:∃ X,s.G=X++G):Suf G (some (aD dst v s)):=fun s' h'=>by
 cases h'
 cases dst <;> exact h
theorem xP:∃ X,s.G=X++s.G:=⟨[],rfl⟩
theorem cX {G:Heap} {x y:Option St} {b:Bool} (h1:Suf G x) (h2:Suf G y):Suf G (cond b x y):=by cases b <;> assumption
theorem la {G:Heap} {c:Prop} [Decidable c] {x y:Option St} (h1:Suf G x) (h2:Suf G y):Suf G (if c then x else y):=by split <;> assumption
theorem bP {G:Heap} {α : Type} {x:Option α} {F : α→Option St} (h:∀ a,Suf G (F a)):Suf G (x.bind F):=by
 cases x with
 | none=>exact ac
 | some a=>exact h a
theorem wt {G:Heap} {t:St} {site:Nat} {ob:Obj} {F:Nat→St→Option St} (ht:∃ X,t.G=X++G) (h:∀ i u,(∃ X,u.G=X++G)→Suf G (F i u)):Suf G (ca t site ob F):=by
 refine cX ac (h _ _ ?_)
 obtain ⟨X,hX⟩:=ht
 exact ⟨_ :: X,by rw [hX]; rfl⟩
theorem Bh {G:Heap} {v:SV} {F:Int→Option St} (h:∀ n,Suf G (F n)):Suf G (asI v F):=by
 unfold asI; split
 ·exact h _
 ·exact ac
theorem tH {G:Heap} {v:SV} {F:Int→Option St} (h:∀ n,Suf G (F n)):Suf G (lO v F):=by
 unfold lO; split
 ·exact h _
 ·exact ac
theorem FY {G:Heap} {e:Env} {d:Int} {x:Option Operand} {F:Int→Option St} (h:∀ n,Suf G (F n)):Suf G (CX C e d x F):=by
 cases x with
 | none=>exact h _
 | some x=>exact Bh h
theorem qp {G:Heap} {sz:Nat} {i:Int} {F:List Atom→Option St} (h:∀ c,Suf G (F c)):∀ (k j:Nat) (l:List Atom),Suf G (yX k sz l i j F)
 | 0,_,_=>ac
 | k+1,j,l=>by
  unfold yX
  refine cX ?_ (qp h k (j+1) _)
  split
  ·exact h _
  ·exact ac
theorem xe {G:Heap} {t:Nat} {x:SV} {i:Int} {F:Atom→Option St} (h:∀ n,Suf G (F n)):Suf G (indexAt C s t x i F):=by
 unfold indexAt; split
 ·exact bP fun _=>h _
 ·split
  ·exact bP fun _=>h _
  ·exact ac
 ·split
  ·exact bP fun _=>h _
  ·exact ac
 ·split
  ·exact bP fun _=>h _
  ·exact ac
 ·split
  ·exact bP fun _=>h _
  ·exact ac
 ·split
  ·exact cX (bP fun _=>h _) ac
  ·exact ac
 ·exact bP fun _=>h _
 ·split
  ·exact la (h _) ac
  ·exact ac
 ·exact ac
theorem Aw {G:Heap} {τ : Ty} {p:Atom} {F:SV→Option St} (h:∀ n,Suf G (F n)):Suf G (loadAt s τ p F):=by
 unfold loadAt; split
 ·split
  ·split
   ·exact h _
   ·exact ac
  ·exact ac
 ·split
  ·refine bP fun _=>?_
   split
   ·split
    ·exact h _
    ·exact ac
   ·exact ac
  ·exact cX (h _) ac
  ·exact ac
 ·split
  ·refine cX (bP fun _=>?_) ac
   split
   ·exact h _
   ·exact ac
  ·exact ac
 ·split
  ·exact h _
  ·exact ac
 ·exact ac
theorem EN {G:Heap} {hole:Option Nat} {j:Nat} {x:Option St} (h:Suf G x):Suf G (xW hole j x):=by
 unfold xW; split
 ·exact h
 ·exact la h ac
theorem dl:∀ (ids:List Nat) (G:Heap),∃ X,aq ids G=X++G
 | [],G=>⟨[],rfl⟩
 | i :: r,G=>by
  obtain ⟨X,hX⟩:=dl r ((i,.dead) :: G)
  exact ⟨X++[(i,.dead)],by simp [aq,hX]⟩
theorem nt {G G0:Heap} (ids:List Nat) (h:∃ X,G=X++G0):∃ X,aq ids G=X++G0:=by
 obtain ⟨X,hX⟩:=dl ids G
 obtain ⟨Y,hY⟩:=h
 exact ⟨X++Y,by rw [hX,hY,MO]⟩
theorem yI {τ : Ty} {p:Atom} {v:SV} {F:St→Option St} (h:∀ u,(∃ X,u.G=X++s.G)→Suf s.G (F u)):Suf s.G (storeAt s τ p v F):=by
 unfold storeAt; split
 ·split
  ·split
   ·refine cX ?_ ac
    split
    ·exact h _ ⟨[_],rfl⟩
    ·exact ac
   ·exact ac
  ·exact ac
 ·split
  ·split
   ·refine bP fun _=>?_
    split
    ·refine cX ac (h _ ?_)
     obtain ⟨X,hX⟩:=dl (cj v) s.G
     exact ⟨(_,_) :: X,by show (_,_) :: aq (cj v) s.G=_; rw [hX]; rfl⟩
    ·exact ac
   ·exact ac
  ·refine cX ?_ ac
   split
   ·rename_i x _
    refine EN (h _ ?_)
    obtain ⟨X,hX⟩:=dl x.2 s.G
    exact ⟨(_,_) :: X,by show (_,_) :: aq x.2 s.G=_; rw [hX]; rfl⟩
   ·exact ac
  ·exact ac
 ·split
  ·refine cX ?_ ac
   split
   ·refine h _ ?_
    obtain ⟨X,hX⟩:=dl (cj v) s.G
    exact ⟨(_,_) :: X,by show (_,_) :: aq (cj v) s.G=_; rw [hX]; rfl⟩
   ·exact ac
  ·exact ac
 ·exact ac
theorem Do {G:Heap} {v:SV} {F:Int→Option St} (h:∀ n,Suf G (F n)):Suf G (lenOf s v F):=by
 unfold lenOf; split
 ·exact h _
 ·exact h _
 ·exact h _
 ·split
  ·exact h _
  ·exact ac
 ·split
  ·exact h _
  ·exact ac
 ·split
  ·exact h _
  ·exact ac
 ·split
  ·exact h _
  ·exact ac
 ·split
  ·exact cX (h _) ac
  ·exact ac
 ·exact ac
theorem qv {G:Heap} {mx:Bool} {F:Int→Option St} (h:∀ n,Suf G (F n)):∀ (l:List SV) (a:Int),Suf G (kE mx a l F)
 | [],a=>h a
 | v :: l,a=>tH fun b=>qv h l _
theorem yH {G:Heap} {x:SV} {lo:Int} {hi mx:Option Int} {F:SV→Option St} (h:∀ n,Suf G (F n)):Suf G (eQ s x lo hi mx F):=by
 unfold eQ; split
 ·exact bP fun _=>h _
 ·exact bP fun _=>h _
 ·exact la (h _) ac
 ·exact la (h _) ac
 ·split
  ·exact bP fun _=>h _
  ·exact ac
 ·exact bP fun _=>h _
 ·split
  ·exact bP fun _=>la (h _) ac
  ·exact ac
 ·exact ac
theorem gF {d:Bool}:∀ {τ : Ty} {x : τ.den} {site:Nat} {G:Heap} {p:List Atom×Heap},aR d τ x site G=some p→∃ X,p.2=X++G
 | .prod a b,x,site,G,p,h=>by
  simp only [aR] at h
  split at h
  ·rename_i p1 h1
   split at h
   ·rename_i p2 h2
    cases h
    obtain ⟨X,hX⟩:=gF h1
    obtain ⟨Y,hY⟩:=gF h2
    exact ⟨Y++X,by simp [hX,hY]⟩
   ·cases h
  ·cases h
 | .unit,_,_,_,p,h=>by simp only [aR] at h; cases h; exact ⟨[],rfl⟩
 | .int _,_,_,_,p,h=>by simp only [aR] at h; cases h; exact ⟨[],rfl⟩
 | .bool,_,_,_,p,h=>by simp only [aR] at h; cases h; exact ⟨[],rfl⟩
 | .str,_,_,_,p,h=>by simp only [aR] at h; cases h; exact ⟨[],rfl⟩
 | .slice e,x,site,G,p,h=>by
  simp only [aR] at h
  cases hb:G.has (bg 8 G site) with
  | true=>rw [hb] at h; cases h
  | false=>rw [hb] at h; cases h; exact ⟨[_],rfl⟩
 | .arr _ _,_,_,_,_,h=>by simp [aR] at h
 | .ptr _,_,_,_,_,h=>by simp [aR] at h
 | .clo _ _,_,_,_,_,h=>by simp [aR] at h
theorem lP {d:Bool}:∀ {outs:List (Bool×Ty)} {x:(aM (outs.map (·.2))).den} {site:Nat} {G:Heap} {q:List (Bool×List Atom)×Heap},dx d outs x site G=some q→∃ X,q.2=X++G
 | [],_,_,_,q,h=>by simp only [dx] at h; cases h; exact ⟨[],rfl⟩
 | p :: r,x,site,G,q,h=>by
  unfold dx at h
  split at h
  ·rename_i c hc
   split at h
   ·rename_i q2 h2
    cases h
    obtain ⟨Y,hY⟩:=lP h2
    have h1:∃ X,c.2=X++G:=by
     cases hp:p.1 with
     | true=>rw [hp] at hc; exact gF hc
     | false=>rw [hp] at hc; cases hc; exact ⟨[],rfl⟩
    obtain ⟨X,hX⟩:=h1
    exact ⟨Y++X,by simp [hX,hY]⟩
   ·cases h
  ·cases h
theorem cG:∀ {ins:List (Mode×Ty)} {vs:List SV} {x:(aM (br ins)).den} {G G0 G':Heap},(∃ X,G=X++G0)→ap ins vs x G=some G'→∃ X,G'=X++G0
 | [],[],_,G,G0,G',hG,h=>by simp only [ap] at h; cases h; exact hG
 | [],_ :: _,_,_,_,_,_,h=>by simp [ap] at h
 | (.rd,_) :: r,[],_,_,_,_,_,h=>by simp [ap] at h
 | (.upd,_) :: r,[],_,_,_,_,_,h=>by simp [ap] at h
 | (.take,_) :: r,[],_,_,_,_,_,h=>by simp [ap] at h
 | (.rd,_) :: r,_ :: vs,x,G,G0,G',hG,h=>by
  simp only [ap] at h
  exact cG (ins:=r) hG h
 | (.take,_) :: r,v :: vs,x,G,G0,G',hG,h=>by
  simp only [ap] at h
  have hc:∀ k,∃ X,((k,Obj.dead) :: G)=X++G0:=fun k=>by obtain ⟨X,hX⟩:=hG; exact ⟨_ :: X,by rw [hX]; rfl⟩
  split at h
  ·exact cG (ins:=r) hG h
  ·exact cG (ins:=r) (hc _) h
  ·exact cG (ins:=r) (hc _) h
  ·cases h
 | (.upd,.slice e) :: r,v :: vs,x,G,G0,G',hG,h=>by
  simp only [ap] at h
  have hc:∀ k (o:Obj),∃ X,((k,o) :: G)=X++G0:=fun k o=>by obtain ⟨X,hX⟩:=hG; exact ⟨_ :: X,by rw [hX]; rfl⟩
  split at h
  ·exact cG (ins:=r) hG h
  ·exact cG (ins:=r) (hc _ _) h
  ·cases h
 | (.upd,.int _) :: _,_ :: _,_,_,_,_,_,h=>by simp [ap] at h
 | (.upd,.bool) :: _,_ :: _,_,_,_,_,_,h=>by simp [ap] at h
 | (.upd,.str) :: _,_ :: _,_,_,_,_,_,h=>by simp [ap] at h
 | (.upd,.prod _ _) :: _,_ :: _,_,_,_,_,_,h=>by simp [ap] at h
 | (.upd,.unit) :: _,_ :: _,_,_,_,_,_,h=>by simp [ap] at h
 | (.upd,.arr _ _) :: _,_ :: _,_,_,_,_,_,h=>by simp [ap] at h
 | (.upd,.ptr _) :: _,_ :: _,_,_,_,_,_,h=>by simp [ap] at h
 | (.upd,.clo _ _) :: _,_ :: _,_,_,_,_,_,h=>by simp [ap] at h
theorem pk {site:Nat} {G:Heap} (v:SV):∃ X,(bC site G v).2=X++G:=by
 unfold bC; split
 ·split
  ·rename_i ver' σ l' hg
   cases hc:(B1 _ ver' && !G.has (bg 8 G site)) with
   | false=>exact ⟨[],rfl⟩
   | true=>exact ⟨[_,_],rfl⟩
  ·exact ⟨[],rfl⟩
 ·exact ⟨[],rfl⟩
theorem fl {site:Nat}:∀ (ins:List (Mode×Ty)) (vs:List SV) (G:Heap),∃ X,(bT site ins vs G).2=X++G
 | [],vs,G=>⟨[],by cases vs <;> rfl⟩
 | (md,_) :: _,[],G=>⟨[],by cases md <;> rfl⟩
 | (.rd,_) :: r,v :: vs,G=>fl r vs G
 | (.upd,_) :: r,v :: vs,G=>fl r vs G
 | (.take,_) :: r,v :: vs,G=>by
  obtain ⟨X,hX⟩:=pk (site:=site) (G:=G) v
  obtain ⟨Y,hY⟩:=fl (site:=site) r vs (bC site G v).2
  exact ⟨Y++X,by show (bT site r vs (bC site G v).2).2=_; rw [hY,hX,MO]⟩
theorem yG {G0:Heap} {site f:Nat} {vs:List SV} {F:SV→St→Option St} (hs:∃ X,s.G=X++G0) (h:∀ v u,(∃ X,u.G=X++G0)→Suf G0 (F v u)):Suf G0 (jG C s site f vs F):=by
 unfold jG; split
 ·split
  ·refine bP fun _=>cX ?_ ac
   split
   ·rename_i G' hG'
    have h1:=cG hs hG'
    split
    ·rename_i q hq
     obtain ⟨X,hX⟩:=lP hq
     refine h _ _ ?_
     have h2:∀ b l,∃ Y,cond b G' (aq l G')=Y++G0:=fun b l=>by
      cases b with
      | true=>exact h1
      | false=>exact nt l h1
     obtain ⟨Y,hY⟩:=h2 _ _
     exact ⟨X++Y,by show q.2=_; rw [hX,hY,MO]⟩
    ·exact ac
   ·exact ac
  ·exact ac
 ·exact ac
theorem Ae {site f:Nat} {vs:List SV} {F:SV→St→Option St} (h:∀ v u,(∃ X,u.G=X++s.G)→Suf s.G (F v u)):Suf s.G (fL C s site f vs F):=by
 unfold fL; split
 ·rename_i c _
  exact yG (fl c.ins vs s.G) h
 ·exact ac
theorem E3 {G:Heap} {x y:Option St} (h1:Suf G x):Suf G (wu x y):=by
 unfold wu; split
 ·exact h1
 ·exact ac
theorem td (o:Oper):Suf s.G (ax C o s some):=by
 unfold ax
 dsimp only
 have P0:∀ (v:SV),Suf s.G (some (aD o.dst v s)):=fun v=>lL xP
 have N0:∀ (t:St) (ob:Obj) (v:Nat→SV),(∃ X,t.G=X++s.G)→Suf s.G (ca t (o.dst.getD 0) ob fun i s2=>some (aD o.dst (v i) s2)):=fun t ob v ht=>wt ht fun i u hu=>lL hu
 split
 all_goals first | exact P0 _ | exact ac | skip
 all_goals repeat' first
  | exact ac
  | exact P0 _
  | exact N0 _ _ _ xP
  | (refine N0 _ _ _ ?_; exact dl _ _)
  | (refine N0 _ _ _ ?_; exact nt _ (pk _))
  | refine cX ?_ ?_
  | refine la ?_ ?_
  | refine bP fun _=>?_
  | exact E3 (P0 _)
  | exact lL ⟨[_],rfl⟩
  | exact lL (s:=⟨_,aq _ s.G⟩) (dl _ _)
  | exact Aw fun _=>P0 _
  | exact yI fun u hu=>lL hu
  | exact Do fun _=>P0 _
  | exact qv (fun _=>P0 _) _ _
  | exact yH fun _=>P0 _
  | exact xe fun _=>P0 _
  | exact qp (fun _=>P0 _) _ _ _
  | exact Ae fun v u hu=>lL hu
  | refine Bh fun _=>?_
  | refine tH fun _=>?_
  | refine FY fun _=>?_
  | split
end
end Go.Vm

/-
 What is run in a region whose operations stand in no fixed order: told step by step.
-/
namespace Go.Vm
section
variable {C:Ctx} {s:St} {R:Type} {K:St→Option R} {o:Oper}
theorem tE (h1:kN C o s.env=true):ax C o s K=(ax C o s some).bind K:=by
 by_cases hb:∀ op xt x y yt,o.op≠.binOp op xt x y yt
 ·exact tu hb
 ·simp only [Classical.not_forall,Classical.not_not] at hb
  obtain ⟨op,xt,x,y,yt,ho⟩:=hb
  simp only [kN,ho] at h1
  simp only [ax,ho]
  split
  ·refine aK ?_ rfl
   split
   ·exact aK rfl rfl
   ·exact aK rfl rfl
   ·split
    ·rfl
    ·rfl
  ·split
   ·exact aX fun _=>rfl
   ·split
    ·rfl
    ·rfl
  ·refine aK ?_ rfl
   split
   ·rfl
   ·rfl
   ·rfl
  ·rename_i _ _ _ _ hy
   have hc:nb y=false:=by
    rw [hy] at h1
    simpa using h1
   rw [hc]; rfl
  ·split
   ·refine aK ?_ rfl
    split
    ·split
     ·split
      ·rfl
      ·rfl
      ·rfl
     ·rfl
    ·rfl
   ·rfl
theorem l7 (hf:fH o=true) {e:Env} {G:Heap} {s':St} (h:ax C o ⟨e,G⟩ some=some s'):s'.G=G∧∀ G',ax C o ⟨e,G'⟩ some=some ⟨s'.env,G'⟩:=by
 have put:∀ (v:SV) (G:Heap),(aD o.dst v ⟨e,G⟩).G=G∧∀ G',aD o.dst v ⟨e,G'⟩=⟨(aD o.dst v ⟨e,G⟩).env,G'⟩:=fun v G=>by
  cases o.dst <;> exact ⟨rfl,fun _=>rfl⟩
 have fin:∀ (v:SV),some (aD o.dst v ⟨e,G⟩)=some s'→s'.G=G∧∀ G',some (aD o.dst v ⟨e,G'⟩)=some (⟨s'.env,G'⟩ : St):=fun v hv=>by
  cases hv
  exact ⟨(put v G).1,fun G'=>by rw [(put v G).2]⟩
 unfold fH at hf
 split at hf
 ·rename_i x ho
  simp only [ax,ho] at h ⊢
  exact fin _ h
 ·rename_i x ho
  simp only [ax,ho] at h ⊢
  exact fin _ h
 ·rename_i c x y ho
  simp only [ax,ho] at h ⊢
  split at h
  ·rename_i t ht
   cases t with
   | true=>exact fin _ h
   | false=>exact fin _ h
  ·cases h
 ·rename_i x i ho
  simp only [ax,ho] at h ⊢
  split at h
  ·rename_i l hl
   split at h
   ·rename_i c hc
    have:=fin _ h
    refine ⟨this.1,fun G'=>?_⟩
    exact this.2 G'
   ·rename_i a ha
    have:=fin _ h
    refine ⟨this.1,fun G'=>?_⟩
    exact this.2 G'
   ·cases h
  ·cases h
 ·rename_i op t x ho
  simp only [ax,ho] at h ⊢
  split at h
  ·rename_i b hx
   have:=fin _ h
   refine ⟨this.1,fun G'=>?_⟩
   exact this.2 G'
  ·rename_i k n hx
   have:=fin _ h
   refine ⟨this.1,fun G'=>?_⟩
   exact this.2 G'
  ·cases h
 ·rename_i t parts ho
  simp only [ax,ho] at h ⊢
  cases ht:C.tab.get t with
  | none=>rw [ht] at h; cases h
  | some τ =>
   rw [ht] at h
   simp only at h ⊢
   cases ha : τ.isAgg with
   | false=>rw [ha] at h; cases h
   | true =>
    rw [ha,cond_true] at h
    cases hc:gj τ (parts.toList.map fun p=>(p.1,ak C e p.2)) (zeroCells τ) with
    | none=>rw [hc] at h; cases h
    | some c =>
     rw [hc] at h
     simp only [cond_true]
     exact fin _ h
 ·cases hf
theorem o6 {e:Env} (hl:jv C o e=true) {G:Heap} {s':St} (h:ax C o ⟨e,G⟩ some=some s') :
  s'.G=G∧∀ G':Heap,(∀ id l,C.vr id=false→G.get id=some (.box l)→G'.get id=some (.box l))→ax C o ⟨e,G'⟩ some=some ⟨s'.env,G'⟩:=by
 have put:∀ (v:SV) (G:Heap),(aD o.dst v ⟨e,G⟩).G=G∧∀ G',aD o.dst v ⟨e,G'⟩=⟨(aD o.dst v ⟨e,G⟩).env,G'⟩:=fun v G=>by
  cases o.dst <;> exact ⟨rfl,fun _=>rfl⟩
 have fin:∀ (v:SV),some (aD o.dst v ⟨e,G⟩)=some s'→s'.G=G∧∀ G',some (aD o.dst v ⟨e,G'⟩)=some (⟨s'.env,G'⟩ : St):=fun v hv=>by
  cases hv
  exact ⟨(put v G).1,fun G'=>by rw [(put v G).2]⟩
 unfold jv at hl
 split at hl
 ·rename_i t x f ho
  split at hl
  ·rename_i id off hx
   simp only [ax,ho,hx] at h ⊢
   split at h
   ·rename_i l τ hg ht
    split at h
    ·rename_i o' t' hf
     cases hb:Nat.ble 1 t'.size with
     | false=>rw [hb] at h; cases h
     | true =>
      rw [hb,cond_true] at h
      have:=fin _ h
      refine ⟨this.1,fun G' hG'=>?_⟩
      simp only [hG' id l (by simpa using hl) hg,ht,hf,hb,cond_true]
      exact this.2 G'
    ·cases h
   ·cases h
  ·cases hl
 ·rename_i t x ho
  split at hl
  ·rename_i id off hx
   simp only [ax,ho,hx] at h ⊢
   split at h
   ·rename_i τ p ht hp
    cases hp
    simp only [loadAt] at h ⊢
    split at h
    ·rename_i l hg
     split at h
     ·rename_i c hc
      have:=fin _ h
      refine ⟨this.1,fun G' hG'=>?_⟩
      simp only [ht,hG' id l (by simpa using hl) hg,hc]
      exact this.2 G'
     ·cases h
    ·cases h
   ·cases h
  ·cases hl
 ·rename_i op t x y t' ho
  split at hl
  ·rename_i k a k' b hx hy
   simp only [ax,ho,hx,hy] at h ⊢
   cases hk:decide (k=k') with
   | false=>rw [hk] at h; cases h
   | true =>
    rw [hk,cond_true] at h
    simp only [cond_true]
    split at h
    ·cases hz:eqI b 0 with
     | true=>rw [hz] at h; cases h
     | false=>rw [hz] at h; have:=fin _ h; exact ⟨this.1,fun G' _=>this.2 G'⟩
    ·cases hz:eqI b 0 with
     | true=>rw [hz] at h; cases h
     | false=>rw [hz] at h; have:=fin _ h; exact ⟨this.1,fun G' _=>this.2 G'⟩
    ·split at h
     ·have:=fin _ h; exact ⟨this.1,fun G' _=>this.2 G'⟩
     ·cases h
  ·cases hl
 ·cases hl
theorem vB {G G':Heap} (h:kU C G G'=true) {X:Heap} (hX:G'=X++G):∀ id l,C.vr id=false→G.get id=some (.box l)→G'.get id=some (.box l):=by
 intro id l hv hl
 subst hX
 unfold kU at h
 rw [List.length_append,Nat.add_sub_cancel,OF,LZ] at h
 rw [Heap.get_append]
 cases hx:X.get id with
 | none=>exact hl
 | some ob =>
  have:=h _ (Heap.mem_of_get hx)
  rw [hl] at this
  simp only at this
  rw [hv] at this
  cases this
end
section
variable {C:Ctx} {R:Type} {res:R} {all:List Oper}
def lT (all:List Oper) (o:Oper) (e:Env):Bool→Prop
 | true=>o.guard=none∨∃ j want d,o.guard=some (j,want)∧eH all j=some d∧e.get d=.av (.val .bool want)
 | false=>∃ j want d,o.guard=some (j,want)∧eH all j=some d∧(e.get d=.av .undef∨e.get d=.av (.val .bool (!want)))
theorem qC {o:Oper} {e e':Env} (h:∀ t,e'.get t=e.get t):dq all o e'=dq all o e:=by
 unfold dq
 exact List.map_congr_left fun t _=>by rw [h t]
theorem GB {o:Oper} {e:Env}:∀ t,(dq all o e).get t=e.get t∧t∈looks all o∨(dq all o e).get t=.av .u:=by
 intro t
 unfold dq
 induction looks all o with
 | nil=>exact .inr rfl
 | cons a l ih =>
  simp only [Mo,Env.get]
  cases h:B1 a t with
  | true=>left; rw [A4 h]; exact ⟨rfl,by simp⟩
  | false =>
   rcases ih with ⟨ih,hm⟩ | ih
   ·left; exact ⟨ih,by simp [hm]⟩
   ·right; exact ih
theorem pM {d:Nat} {b:Bool} {e:Env} (h:e.get d=.av (.val .bool b)) (t:Nat):Env.get ((d,.av (.val .bool b)) :: e) t=e.get t:=by
 rw [Env.get_cons]
 split
 ·rename_i hh; subst hh; exact h.symm
 ·rfl
theorem qn {o:Oper} {e:Env} {run skip:Env→Option R}
  (h:(match o.guard with
   | none=>run e
   | some (j,want)=>match eH all j with
    | none=>none
    | some d=>match e.get d with
     | .av (.val .bool b) =>
      cond b
       (cond want (run ((d,.av (.val .bool true)) :: e)) (skip ((d,.av (.val .bool true)) :: e)))
       (cond want (skip ((d,.av (.val .bool false)) :: e)) (run ((d,.av (.val .bool false)) :: e)))
     | .av .undef=>skip e
     | _=>none)=some res) :
  (lT all o e true∧∃ e',(∀ t,e'.get t=e.get t)∧run e'=some res)∨(lT all o e false∧∃ e',(∀ t,e'.get t=e.get t)∧skip e'=some res):=by
 split at h
 ·rename_i hg
  exact .inl ⟨.inl hg,e,fun _=>rfl,h⟩
 ·rename_i j want hg
  split at h
  ·cases h
  ·rename_i d hd
   split at h
   ·rename_i b hb
    cases b with
    | true =>
     cases want with
     | true=>exact .inl ⟨.inr ⟨j,true,d,hg,hd,hb⟩,_,pM hb,h⟩
     | false=>exact .inr ⟨⟨j,false,d,hg,hd,.inr hb⟩,_,pM hb,h⟩
    | false =>
     cases want with
     | true=>exact .inr ⟨⟨j,true,d,hg,hd,.inr hb⟩,_,pM hb,h⟩
     | false=>exact .inl ⟨.inr ⟨j,false,d,hg,hd,hb⟩,_,pM hb,h⟩
   ·rename_i hb
    exact .inr ⟨⟨j,want,d,hg,hd,.inl hb⟩,e,fun _=>rfl,h⟩
   ·cases h
theorem uq (dst:Option Nat) (v:SV) (e:Env) (t:Nat):(zJ dst v e).get t=if dst=some t then v else e.get t:=by
 cases dst with
 | none=>simp [zJ]
 | some d=>simp [zJ,Env.get_cons]
def ug (C:Ctx) (all:List Oper) (ms:List Nat) (nd:Nat→Bool) (B:Heap) (V:Nat→SV) (X:Nat→Heap) (E:Nat→Env) (L:Nat→List (Nat×Heap)) (j:Nat) (o:Oper):Prop :=
 (∀ t,(E (j+1)).get t=if o.dst=some t then V j else (E j).get t) ∧
 ((lT all o (E j) true∧L (j+1)=(j,X j) :: L j∧((dq all o (E j)).all fun p=>pi (ba (ms.getD j 0) (L j) B) p.2)=true ∧
   ((L j).all fun p=>!(bit (ms.getD j 0) p.1) || qR (ba (ms.getD j 0) (L j) B) p.2)=true∧(nd j=true→jv C o (dq all o (E j))=true) ∧
   ∃ s',ax C o ⟨dq all o (E j),ba (ms.getD j 0) (L j) B⟩ some=some s'∧V j=s'.env.get (o.dst.getD 0)∧s'.G=X j++ba (ms.getD j 0) (L j) B) ∨
  (lT all o (E j) false∧L (j+1)=L j∧V j=.av .undef∧X j=[]))
theorem ee {α : Type} (f:Nat→α) {i j:Nat} (a : α) (h:i < j):(fun j=>if j=i then a else f j) j=f j:=by
 have:j≠i:=by omega
 simp [this]
theorem rF {ms:List Nat} {nd:Nat→Bool} {B:Heap} {K:Env→List (Nat×Heap)→Option R}:∀ (r:List Oper) (i:Nat) (e:Env) (N:List (Nat×Heap)),(∀ j,j < r.length→r[j]?=all[i+j]?) →
  xh C all ms nd i r e N B K=some res →
  ∃ (V:Nat→SV) (X:Nat→Heap) (E:Nat→Env) (L:Nat→List (Nat×Heap)),E i=e∧L i=N∧K (E (i+r.length)) (L (i+r.length))=some res ∧
   ∀ j o,i≤j→j < i+r.length→all[j]?=some o→ug C all ms nd B V X E L j o
 | [],i,e,N,_,h=>⟨fun _=>.av .u,fun _=>[],fun _=>e,fun _=>N,rfl,rfl,h,fun j o h1 h2=>by simp at h2; omega⟩
 | o :: r,i,e,N,hl,h=>by
  have hi:all[i]?=some o:=by simpa using (hl 0 (by simp)).symm
  have hl':∀ j,j < r.length→r[j]?=all[i+1+j]?:=fun j hj=>by have:=hl (j+1) (by simp; omega); simpa [Md,Of 1 j] using this
  unfold xh at h
  have key:∀ (v:SV) (x:Heap) (e1:Env) (N1:List (Nat×Heap)),xh C all ms nd (i+1) r e1 N1 B K=some res →
    (∀ (V:Nat→SV) (X:Nat→Heap) (E:Nat→Env) (L:Nat→List (Nat×Heap)),V i=v→X i=x→E i=e→E (i+1)=e1→L i=N→L (i+1)=N1→ug C all ms nd B V X E L i o) →
    ∃ (V:Nat→SV) (X:Nat→Heap) (E:Nat→Env) (L:Nat→List (Nat×Heap)),E i=e∧L i=N∧K (E (i+(o :: r).length)) (L (i+(o :: r).length))=some res ∧
     ∀ j o',i≤j→j < i+(o :: r).length→all[j]?=some o'→ug C all ms nd B V X E L j o':=by
   intro v x e1 N1 h1 h2
   obtain ⟨V,X,E,L,q1,q2,q3,q4⟩:=rF r (i+1) e1 N1 hl' h1
   refine ⟨fun j=>if j=i then v else V j,fun j=>if j=i then x else X j,fun j=>if j=i then e else E j,fun j=>if j=i then N else L j,by simp,by simp,?_,?_⟩
   ·rw [LU,show i+(r.length+1)=i+1+r.length by omega,ee E e (by omega:i < i+1+r.length),ee L N (by omega:i < i+1+r.length)]
    exact q3
   ·intro j o' hj1 hj2 ho'
    rcases Mr hj1 with rfl | hj1
    ·rw [hi] at ho'; cases ho'
     exact h2 _ _ _ _ (by simp) (by simp) (by simp) (by simp [q1]) (by simp) (by simp [q2])
    ·have:=q4 j o' hj1 (by simp at hj2; omega) ho'
     unfold ug at this ⊢
     rw [ee V v hj1,ee X x hj1,ee E e hj1,ee E e (by omega:i < j+1),ee L N hj1,ee L N (by omega:i < j+1)]
     exact this
  rcases qn (all:=all) (o:=o) (e:=e) (run:=fun e'=>cond (kN C o (dq all o e') && ((dq all o e').all fun p=>pi (ba (ms.getD i 0) N B) p.2) && (N.all fun p=>!(bit (ms.getD i 0) p.1) || qR (ba (ms.getD i 0) N B) p.2) && (!nd i || jv C o (dq all o e')))
   (ax C o { env:=dq all o e',G:=ba (ms.getD i 0) N B } fun s' =>
    xh C all ms nd (i+1) r (zJ o.dst (s'.env.get (o.dst.getD 0)) e') ((i,s'.G.take (s'.G.length - (ba (ms.getD i 0) N B).length)) :: N) B K) none)
   (skip:=fun e'=>xh C all ms nd (i+1) r (zJ o.dst (.av .undef) e') N B K) h with ⟨hg,e',he',h⟩ | ⟨hg,e',he',h⟩
  ·rw [qC he'] at h
   cases hc:(kN C o (dq all o e) && ((dq all o e).all fun p=>pi (ba (ms.getD i 0) N B) p.2) && (N.all fun p=>!(bit (ms.getD i 0) p.1) || qR (ba (ms.getD i 0) N B) p.2) && (!nd i || jv C o (dq all o e))) with
   | false=>rw [hc] at h; cases h
   | true =>
    rw [hc,cond_true] at h
    simp only [A3] at hc
    obtain ⟨⟨⟨c1,c2⟩,c3⟩,c4⟩:=hc
    have c4:nd i=true→jv C o (dq all o e)=true:=fun hn=>by rw [hn] at c4; simpa using c4
    rw [tE (by exact c1)] at h
    obtain ⟨s',hs',h⟩:=B4.1 h
    obtain ⟨X1,hX1⟩:=td o s' hs'
    have hX1:s'.G=X1++ba (ms.getD i 0) N B:=hX1
    have ht:s'.G.take (s'.G.length - (ba (ms.getD i 0) N B).length)=X1:=by
     rw [hX1]; simp
    rw [ht] at h
    refine key (s'.env.get (o.dst.getD 0)) X1 _ _ h ?_
    intro V X E L a1 a2 a3 a4 a5 a6
    refine ⟨fun t=>?_,.inl ⟨by rw [a3]; exact hg,by rw [a6,a2,a5],by rw [a3,a5]; exact c2,by rw [a5]; exact c3,by rw [a3]; exact c4,s',by rw [a3,a5]; exact hs',a1,by rw [a2,a5]; exact hX1⟩⟩
    rw [a4,a1,a3,uq,he' t]
  ·refine key (.av .undef) [] _ _ h ?_
   intro V X E L a1 a2 a3 a4 a5 a6
   refine ⟨fun t=>?_,.inr ⟨by rw [a3]; exact hg,by rw [a6,a5],a1,a2⟩⟩
   rw [a4,a1,a3,uq,he' t]
def tn (C:Ctx) (all:List Oper) (kd:Nat→Bool) (V:Nat→SV) (E:Nat→Env) (H:Nat→Heap) (j:Nat) (o:Oper):Prop :=
 (∀ t,(E (j+1)).get t=if o.dst=some t then V j else (E j).get t) ∧
 ((lT all o (E j) true∧∃ s',ax C o ⟨dq all o (E j),H j⟩ some=some s'∧V j=s'.env.get (o.dst.getD 0)∧s'.G=H (j+1)∧(kd j=true→∀ id l,C.vr id=false→(H j).get id=some (.box l)→(H (j+1)).get id=some (.box l))) ∨
  (lT all o (E j) false∧V j=.av .undef∧H (j+1)=H j))
theorem xX (dst:Option Nat) (v:SV) (e:Env) (G:Heap) (t:Nat):(aD dst v ⟨e,G⟩).env.get t=if dst=some t then v else e.get t:=by
 cases dst with
 | none=>simp [aD]
 | some d=>simp [aD,Env.get_cons]
theorem qO {kd:Nat→Bool} {K:Env→Heap→Option R}:∀ (r:List Oper) (i:Nat) (e:Env) (G:Heap),(∀ j,j < r.length→r[j]?=all[i+j]?)→w9 C all kd i r e G K=some res →
  ∃ (V:Nat→SV) (E:Nat→Env) (H:Nat→Heap),E i=e∧H i=G∧K (E (i+r.length)) (H (i+r.length))=some res ∧
   ∀ j o,i≤j→j < i+r.length→all[j]?=some o→tn C all kd V E H j o
 | [],i,e,G,_,h=>⟨fun _=>.av .u,fun _=>e,fun _=>G,rfl,rfl,h,fun j o h1 h2=>by simp at h2; omega⟩
 | o :: r,i,e,G,hl,h=>by
  have hi:all[i]?=some o:=by simpa using (hl 0 (by simp)).symm
  have hl':∀ j,j < r.length→r[j]?=all[i+1+j]?:=fun j hj=>by have:=hl (j+1) (by simp; omega); simpa [Md,Of 1 j] using this
  unfold w9 at h
  have key:∀ (v:SV) (e1:Env) (G1:Heap),w9 C all kd (i+1) r e1 G1 K=some res →
    (∀ (V:Nat→SV) (E:Nat→Env) (H:Nat→Heap),V i=v→E i=e→E (i+1)=e1→H i=G→H (i+1)=G1→tn C all kd V E H i o) →
    ∃ (V:Nat→SV) (E:Nat→Env) (H:Nat→Heap),E i=e∧H i=G∧K (E (i+(o :: r).length)) (H (i+(o :: r).length))=some res ∧
     ∀ j o',i≤j→j < i+(o :: r).length→all[j]?=some o'→tn C all kd V E H j o':=by
   intro v e1 G1 h1 h2
   obtain ⟨V,E,H,q1,q2,q3,q4⟩:=qO r (i+1) e1 G1 hl' h1
   refine ⟨fun j=>if j=i then v else V j,fun j=>if j=i then e else E j,fun j=>if j=i then G else H j,by simp,by simp,?_,?_⟩
   ·rw [LU,show i+(r.length+1)=i+1+r.length by omega,ee E e (by omega:i < i+1+r.length),ee H G (by omega:i < i+1+r.length)]
    exact q3
   ·intro j o' hj1 hj2 ho'
    rcases Mr hj1 with rfl | hj1
    ·rw [hi] at ho'; cases ho'
     exact h2 _ _ _ (by simp) (by simp) (by simp [q1]) (by simp) (by simp [q2])
    ·have:=q4 j o' hj1 (by simp at hj2; omega) ho'
     unfold tn at this ⊢
     rw [ee V v hj1,ee E e hj1,ee E e (by omega:i < j+1),ee H G hj1,ee H G (by omega:i < j+1)]
     exact this
  rcases qn (all:=all) (o:=o) (e:=e) (run:=fun e'=>cond (kN C o (dq all o e')) (ax C o { env:=dq all o e',G:=G } fun s' =>
   cond (!kd i || kU C G s'.G) (w9 C all kd (i+1) r (aD o.dst (s'.env.get (o.dst.getD 0)) { env:=e',G:=[] }).env s'.G K) none) none)
   (skip:=fun e'=>w9 C all kd (i+1) r (aD o.dst (.av .undef) { env:=e',G:=[] }).env G K) h with ⟨hg,e',he',h⟩ | ⟨hg,e',he',h⟩
  ·rw [qC he'] at h
   cases hc:kN C o (dq all o e) with
   | false=>rw [hc] at h; cases h
   | true =>
    rw [hc,cond_true,tE (by exact hc)] at h
    obtain ⟨s',hs',h⟩:=B4.1 h
    obtain ⟨X1,hX1⟩:=td o s' hs'
    cases hkb:(!kd i || kU C G s'.G) with
    | false=>rw [hkb] at h; cases h
    | true =>
    rw [hkb,cond_true] at h
    have hkb:kd i=true→∀ id l,C.vr id=false→G.get id=some (.box l)→s'.G.get id=some (.box l):=fun hk=>vB (by rw [hk] at hkb; simpa using hkb) hX1
    refine key (s'.env.get (o.dst.getD 0)) _ _ h ?_
    intro V E H a1 a2 a3 a4 a5
    refine ⟨fun t=>?_,.inl ⟨by rw [a2]; exact hg,s',by rw [a2,a4]; exact hs',a1,a5.symm,by rw [a4,a5]; exact hkb⟩⟩
    rw [a3,a1,a2,xX,he' t]
  ·refine key (.av .undef) _ _ h ?_
   intro V E H a1 a2 a3 a4 a5
   refine ⟨fun t=>?_,.inr ⟨by rw [a2]; exact hg,a1,by rw [a5,a4]⟩⟩
   rw [a3,a1,a2,xX,he' t]
theorem lC {m j:Nat}:bit m j=true↔m.testBit j=true:=by
 unfold bit Nat.testBit
 constructor
 ·intro h; rw [A4 h]; rfl
 ·intro h
  rw [Nat.one_and_eq_mod_two] at h ⊢
  have:(m >>> j) % 2 < 2:=Nat.mod_lt _ (by omega)
  have h0:(m >>> j) % 2≠0:=by simpa using h
  have:(m >>> j) % 2=1:=by omega
  rw [this]; rfl
def kK (acc:List Nat) (o:Oper):Nat:=o.after.toList.foldl (fun m e=>cond (Region.binds .any e) (m ||| 2 ^ e.on ||| acc.getD e.on 0) m) 0
theorem BW:∀ (l:List Oper) (acc:List Nat),∃ r,fF l acc=acc++r∧r.length=l.length
 | [],acc=>⟨[],by simp [fF],rfl⟩
 | o :: l,acc=>by
  obtain ⟨r,h1,h2⟩:=BW l (acc++[kK acc o])
  exact ⟨kK acc o :: r,by show fF l (acc++[kK acc o])=_; rw [h1]; simp,by simp [h2]⟩
theorem xH:∀ (l:List Oper) (acc:List Nat) (j:Nat) (o:Oper),l[j]?=some o→(fF l acc).getD (acc.length+j) 0=kK ((fF l acc).take (acc.length+j)) o
 | [],_,j,_,h=>by simp at h
 | o :: l,acc,0,o',h=>by
  simp only [Mh,A1] at h
  subst h
  obtain ⟨r,h1,_⟩:=BW l (acc++[kK acc o])
  show (fF l (acc++[kK acc o])).getD _ 0=kK ((fF l (acc++[kK acc o])).take _) o
  rw [h1]
  simp
 | o :: l,acc,j+1,o',h=>by
  have:=xH l (acc++[kK acc o]) j o' (by simpa using h)
  rw [show acc.length+(j+1)=(acc++[kK acc o]).length+j by simp; omega]
  exact this
theorem yB (acc:List Nat) (j:Nat):∀ (l:List Edge) (m:Nat),bit (l.foldl (fun m e=>cond (Region.binds .any e) (m ||| 2 ^ e.on ||| acc.getD e.on 0) m) m) j=true ↔
  bit m j=true∨∃ e∈l,Region.binds .any e=true∧(e.on=j∨bit (acc.getD e.on 0) j=true)
 | [],m=>by simp
 | e :: l,m=>by
  rw [List.foldl_cons,yB acc j l]
  cases hb:Region.binds .any e with
  | false=>simp [hb]
  | true =>
   simp only [cond_true,lC,Nat.testBit_or,Nat.testBit_two_pow,Mt,decide_eq_true_eq,B7,exists_eq_or_imp,hb,true_and]
   constructor
   ·rintro ((h | h) | h)
    ·rcases h with h | h
     ·exact .inl h
     ·exact .inr (.inl (.inl h))
    ·exact .inr (.inl (.inr h))
    ·exact .inr (.inr h)
   ·rintro (h | (h | h) | h)
    ·exact .inl (.inl (.inl h))
    ·exact .inl (.inl (.inr h))
    ·exact .inl (.inr h)
    ·exact .inr h
end
end Go.Vm

/-
 What must come before what; memory and slots behind a set of operations.
-/
namespace Go.Vm
section
variable {C:Ctx} {R:Type} {res:R} {all:List Oper}
def Fr (k:Nat) (nd:Nat→Bool) (j:Nat) (o:Oper):Bool:=fH o || (decide (j < k) && nd j)
structure OrdOK (all:List Oper) (ms:List Nat) (k:Nat) (nd kd:Nat→Bool):Prop where
 le:k≤all.length
 edge:∀ (i:Nat) (o:Oper) (e:Edge),all[i]?=some o→e∈o.after.toList→Region.binds .any e=true→e.on < i
 pre:∀ i o j,all[i]?=some o→(bit (ms.getD i 0) j=true↔∃ e∈o.after.toList,Region.binds .any e=true∧(e.on=j∨bit (ms.getD e.on 0) j=true))
 cls:∀ i j,i < k→j < k→(jN all).getD i 0=(jN all).getD j 0→i=j
 looks:∀ i o t,all[i]?=some o→t∈looks all o→∀ q o',all[q]?=some o'→o'.dst=some t→bit (ms.getD i 0) q=true∨bit (ms.getD q 0) i=true
 uniq:∀ (p q:Nat) (o o':Oper) (d:Nat),all[p]?=some o→all[q]?=some o'→o.dst=some d→o'.dst=some d→p=q
 chain:∀ i o,k≤i→all[i]?=some o→∀ j o',j < i→all[j]?=some o'→bit (ms.getD i 0) j=true∨Fr k nd j o'=true
 kept:∀ i j,k≤i→i < all.length→j < k→nd j=true→bit (ms.getD i 0) j=false→kd i=true
theorem OrdOK.lt {ms:List Nat} {k:Nat} {nd kd:Nat→Bool} (h:OrdOK all ms k nd kd):∀ {i j:Nat},i < all.length→bit (ms.getD i 0) j=true→j < i:=by
 intro i
 induction i using Nat.strongRecOn with
 | ind i ih =>
  intro j hi hb
  obtain ⟨o,ho⟩ : ∃ o,all[i]?=some o:=⟨_,gr hi⟩
  obtain ⟨e,he,hbe,h1⟩:=(h.pre i o j ho).1 hb
  have hlt:=h.edge i o e ho he hbe
  rcases h1 with h1 | h1
  ·omega
  ·have:=ih e.on hlt (by omega) h1; omega
theorem rZ:∀ {l:List Nat} {i j:Nat} {a:Nat},aS l=true→l[i]?=some a→l[j]?=some a→i=j
 | [],_,_,_,_,h,_=>by simp at h
 | b :: l,0,0,_,_,_,_=>rfl
 | b :: l,0,j+1,a,hn,h1,h2=>by
  simp only [aS,A3,Mn] at hn
  simp only [Mh,A1] at h1
  subst h1
  have hm:b∈l:=A5 (i:=j) (by simpa using h2)
  have:=hn.1
  rw [MK] at this
  exact absurd (NJ b) (by simpa using this b hm)
 | b :: l,i+1,0,a,hn,h1,h2=>by
  simp only [aS,A3,Mn] at hn
  simp only [Mh,A1] at h2
  subst h2
  have hm:b∈l:=A5 (i:=i) (by simpa using h1)
  have:=hn.1
  rw [MK] at this
  exact absurd (NJ b) (by simpa using this b hm)
 | b :: l,i+1,j+1,a,hn,h1,h2=>by
  simp only [aS,A3] at hn
  exact congrArg (·+1) (rZ (i:=i) (j:=j) hn.2 (by simpa using h1) (by simpa using h2))
theorem ir:∀ {l:List Oper} {i j:Nat} {o o':Oper} {d:Nat},aS (l.filterMap fun o=>o.dst)=true→l[i]?=some o→l[j]?=some o'→o.dst=some d→o'.dst=some d→i=j
 | [],_,_,_,_,_,_,h,_,_,_=>by simp at h
 | b :: l,0,0,_,_,_,_,_,_,_,_=>rfl
 | b :: l,0,j+1,o,o',d,hn,h1,h2,d1,d2=>by
  simp only [Mh,A1] at h1
  subst h1
  rw [Oe d1] at hn
  simp only [aS,A3,Mn] at hn
  have hm:d∈l.filterMap fun o=>o.dst:=Ps.2 ⟨o',A5 (i:=j) (by simpa using h2),d2⟩
  have:=hn.1
  rw [MK] at this
  exact absurd (NJ d) (by simpa using this d hm)
 | b :: l,i+1,0,o,o',d,hn,h1,h2,d1,d2=>by
  simp only [Mh,A1] at h2
  subst h2
  rw [Oe d2] at hn
  simp only [aS,A3,Mn] at hn
  have hm:d∈l.filterMap fun o=>o.dst:=Ps.2 ⟨o,A5 (i:=i) (by simpa using h1),d1⟩
  have:=hn.1
  rw [MK] at this
  exact absurd (NJ d) (by simpa using this d hm)
 | b :: l,i+1,j+1,o,o',d,hn,h1,h2,d1,d2=>by
  have hn':aS (l.filterMap fun o=>o.dst)=true:=by
   cases hb:b.dst with
   | none=>rwa [List.filterMap_cons_none hb] at hn
   | some x =>
    rw [Oe hb] at hn
    simp only [aS,A3] at hn
    exact hn.2
  exact congrArg (·+1) (ir (i:=i) (j:=j) hn' (by simpa using h1) (by simpa using h2) d1 d2)
theorem lU {lt:Bool} {m:Nat}:∀ {l:List Oper} {j0 t:Nat} {o:Oper},eX lt m j0 l=true→l[t]?=some o→bit m (j0+t)=true∨fH o=true∨(lt=true∧vH o=true)
 | [],_,_,_,_,h=>by simp at h
 | b :: l,j0,0,o,h,h1=>by
  simp only [Mh,A1] at h1
  subst h1
  simp only [eX,A3,Mt] at h
  rcases h.1 with (h | h) | h
  ·exact .inl h
  ·exact .inr (.inl h)
  ·exact .inr (.inr h)
 | b :: l,j0,t+1,o,h,h1=>by
  simp only [eX,A3] at h
  have:=lU h.2 (t:=t) (by simpa using h1)
  rwa [show j0+(t+1)=j0+1+t by omega]
theorem ny {lt:Bool} {ms:List Nat}:∀ {n i:Nat},n - iC lt all ms n≤i→i < n→eX (lt && !gW all i) (ms.getD i 0) 0 (all.take i)=true
 | 0,_,_,h=>by omega
 | n+1,i,h,hi=>by
  simp only [iC] at h
  cases hb:eX (lt && !gW all n) (ms.getD n 0) 0 (all.take n) with
  | false=>rw [hb] at h; simp at h; omega
  | true =>
   rw [hb,cond_true] at h
   rcases Mr (MI hi) with rfl | hlt
   ·exact hb
   ·exact ny (by omega) hlt
theorem uR {l:List Oper} {i:Nat} {o:Oper} (h:l[i]?=some o):(o,i)∈l.zipIdx:=by
 rw [List.mem_zipIdx_iff_getElem?]; exact h
theorem Jg {lt:Bool} {k:Nat} (hk:k=all.length - iC lt all (fF all []) all.length) (h:okA lt all (fF all []) k=true):OrdOK all (fF all []) k (xQ lt all (fF all []) k) (EY lt all (fF all []) k):=by
 simp only [okA,A3] at h
 obtain ⟨⟨⟨⟨h0,h1⟩,h2⟩,h4⟩,h5⟩:=h
 simp only [LZ] at h1 h4
 have hle:k≤all.length:=by omega
 have hedge:∀ (i:Nat) (o:Oper) (e:Edge),all[i]?=some o→e∈o.after.toList→Region.binds .any e=true→e.on < i:=by
  intro i o e ho he hb
  have:=h1 (o,i) (uR ho) e he
  rw [hb] at this
  exact B5 (by simpa [OG] using this)
 refine ⟨hle,hedge,?_,?_,?_,fun p q o o' d=>ir h5,?_,?_⟩
 ·intro i o j ho
  have hg:=xH all [] i o ho
  simp only [List.length_nil,L9] at hg
  rw [hg]
  unfold kK
  rw [yB]
  constructor
  ·rintro (h | ⟨e,he,hb,h⟩)
   ·simp [bit] at h
   ·refine ⟨e,he,hb,?_⟩
    rcases h with h | h
    ·exact .inl h
    ·right
     have hlt:=hedge i o e ho he hb
     rw [A8,L7,if_pos hlt,← A8] at h
     exact h
  ·rintro ⟨e,he,hb,h⟩
   right
   refine ⟨e,he,hb,?_⟩
   rcases h with h | h
   ·exact .inl h
   ·right
    have hlt:=hedge i o e ho he hb
    rw [A8,L7,if_pos hlt,← A8]
    exact h
 ·intro i j hi hj he
  have get:∀ i,i < k→(jN (all.take k))[i]?=some ((jN all).getD i 0):=by
   intro i hi
   obtain ⟨o,ho⟩ : ∃ o,all[i]?=some o:=⟨_,gr (by omega)⟩
   simp [jN,L7,hi,ho,A8]
  exact rZ h2 (get i hi) (by rw [he]; exact get j hj)
 ·intro i o t ho ht q o' ho' hd
  have:=h4 (o,i) (uR ho) t ht (o',q) (uR ho')
  simp only [hd,NJ,cond_true,Mt] at this
  exact this
 ·intro i o hi ho j o' hj ho'
  have hlt:i < all.length:=(A2.1 ho).1
  cases hbit:bit ((fF all []).getD i 0) j with
  | true=>exact .inl rfl
  | false =>
  right
  have:=lU (ny (lt:=lt) (all:=all) (ms:=fF all []) (n:=all.length) (by omega) hlt) (t:=j) (o:=o') (by rw [L7,if_pos hj]; exact ho')
  rw [L9,hbit] at this
  unfold Fr
  rcases this with h | h | ⟨h,hl⟩
  ·cases h
  ·rw [h]; rfl
  ·simp only [A3] at h
   obtain ⟨hlt2,_⟩:=h
   have hla:gW all j=true:=by simp [gW,ho',hl]
   have hjk:j < k:=by
    rcases Nat.lt_or_ge j k with hjk | hjk
    ·exact hjk
    ·rw [hlt2] at h0
     have h0:uH all (fF all []) k=true:=by simpa using h0
     unfold uH at h0
     rw [LZ] at h0
     have h0:=h0 i (M2.2 hlt)
     have:OG i k=false:=by
      cases hq:OG i k with
      | false=>rfl
      | true =>
       have:i < k:=by simpa [Qc] using hq
       omega
     rw [this,Bool.false_or,LZ] at h0
     have h0:=h0 j (M2.2 hj)
     have:OG j k=false:=by
      cases hq:OG j k with
      | false=>rfl
      | true =>
       have:j < k:=by simpa [Qc] using hq
       omega
     rw [this,hbit,hla] at h0
     cases h0
   have:xQ lt all (fF all []) k j=true:=by
    unfold xQ
    rw [hlt2,hla,OJ,OJ,ME]
    exact ⟨i,M2.2 hlt,by rw [hbit]; simp [Nat.ble_eq,hi]⟩
   rw [this]
   simp [hjk]
 ·intro i j hi hil hj hn hb
  unfold xQ at hn
  simp only [A3] at hn
  obtain ⟨⟨hl,hla⟩,_⟩:=hn
  unfold EY
  rw [hl,OJ,ME]
  exact ⟨j,M2.2 hj,by rw [hla,hb]; rfl⟩
structure Trace (C:Ctx) (all:List Oper) (ms:List Nat) (k:Nat) (nd kd:Nat→Bool) (s:St) (V:Nat→SV) (X:Nat→Heap) (E:Nat→Env) (L:Nat→List (Nat×Heap)) (H:Nat→Heap):Prop where
 e0:E 0=s.env
 l0:L 0=[]
 stepA:∀ j o,j < k→all[j]?=some o→ug C all ms nd s.G V X E L j o
 stepT:∀ j o,k≤j→all[j]?=some o→tn C all kd V E H j o
 hk:H k=(L k).foldr (fun p G=>p.2++G) s.G
theorem sT {lt:Bool} {s:St} {K:St→Option R} (h:pL C lt all s K=some res) :
  ∃ k nd kd V X E L H,OrdOK all (fF all []) k nd kd∧Trace C all (fF all []) k nd kd s V X E L H∧okN all (fF all []) k (L k) s.G=true∧K ⟨E all.length,H all.length⟩=some res:=by
 unfold pL at h
 dsimp only at h
 obtain ⟨k,hk⟩ : ∃ k,k=all.length - iC lt all (fF all []) all.length:=⟨_,rfl⟩
 rw [← hk] at h
 cases hA:okA lt all (fF all []) k with
 | false=>rw [hA] at h; cases h
 | true =>
  rw [hA,cond_true] at h
  have ho:=Jg hk hA
  have hle:=ho.le
  obtain ⟨V,X,E,L,a1,a2,a3,a4⟩:=rF (all.take k) 0 s.env [] (fun j hj=>by rw [L7]; simp at hj; simp; omega) h
  have hl:(all.take k).length=k:=by simp; omega
  simp only [L9,hl] at a3 a4
  cases hN:okN all (fF all []) k (L k) s.G with
  | false=>rw [hN] at a3; cases a3
  | true =>
   rw [hN,cond_true] at a3
   obtain ⟨V2,E2,H,b1,b2,b3,b4⟩:=qO (all.drop k) k (E k) _ (fun j hj=>by rw [List.getElem?_drop]) a3
   have hl2:k+(all.drop k).length=all.length:=by simp; omega
   rw [hl2] at b3 b4
   refine ⟨k,_,_,fun i=>if i < k then V i else V2 i,X,fun i=>if i < k then E i else E2 i,L,H,ho,⟨?_,a2,?_,?_,b2⟩,hN,?_⟩
   ·by_cases h0:0 < k
    ·simp [h0,a1]
    ·have:k=0:=by omega
     subst this
     simp [b1,a1]
   ·intro j o hj hoj
    have:=a4 j o (Nat.zero_le _) hj hoj
    have e1:(if j+1 < k then E (j+1) else E2 (j+1))=E (j+1):=by
     split
     ·rfl
     ·have:j+1=k:=by omega
      rw [this,b1]
    unfold ug at this ⊢
    dsimp only
    rw [e1,if_pos hj,if_pos hj]
    exact this
   ·intro j o hj hoj
    have:=b4 j o hj (A2.1 hoj).1 hoj
    unfold tn at this ⊢
    dsimp only
    rw [if_neg (by omega),if_neg (by omega),if_neg (by omega)]
    exact this
   ·dsimp only
    rw [if_neg (by omega)]
    exact b3
def ku (all:List Oper) (i:Nat):Option Nat:=(all[i]?).bind (·.dst)
def lN (all:List Oper) (V:Nat→SV) (e0:Env) (S:Nat→Bool):Nat→Nat→SV
 | 0,t=>e0.get t
 | i+1,t=>if S i=true∧ku all i=some t then V i else lN all V e0 S i t
def aW (S:Nat→Bool) (i:Nat):Nat→Bool:=fun j=>S j || j == i
theorem gG {V:Nat→SV} {e0:Env} {S S':Nat→Bool} {t:Nat}:∀ {n:Nat},(∀ q,q < n→ku all q=some t→S q=S' q)→lN all V e0 S n t=lN all V e0 S' n t
 | 0,_=>rfl
 | n+1,h=>by
  simp only [lN]
  by_cases hd:ku all n=some t
  ·rw [h n (by omega) hd,gG fun q hq=>h q (by omega)]
  ·simp only [hd,and_false,if_false]
   exact gG fun q hq=>h q (by omega)
theorem oE {V:Nat→SV} {e0:Env} {S:Nat→Bool} {t:Nat}:∀ {n:Nat},(∀ q,q < n→ku all q=some t→S q=false)→lN all V e0 S n t=e0.get t
 | 0,_=>rfl
 | n+1,h=>by
  simp only [lN]
  rw [if_neg,oE fun q hq=>h q (by omega)]
  rintro ⟨h1,h2⟩
  rw [h n (by omega) h2] at h1; cases h1
theorem re {ms:List Nat} {k:Nat} {nd kd:Nat→Bool} (ho:OrdOK all ms k nd kd) {V:Nat→SV} {e0:Env} {S:Nat→Bool} {i t:Nat}:∀ {n:Nat},n≤all.length→i < n→lN all V e0 (aW S i) n t=if ku all i=some t then V i else lN all V e0 S n t
 | 0,_,h=>by omega
 | n+1,hn,h=>by
  by_cases hd:ku all i=some t
  ·rw [if_pos hd]
   rcases Mr (MI h) with rfl | hlt
   ·simp [lN,aW,hd]
   ·simp only [lN]
    rw [if_neg,re ho (by omega) hlt,if_pos hd]
    rintro ⟨_,h2⟩
    unfold ku at hd h2
    obtain ⟨o,h3,h4⟩:=B4.1 hd
    obtain ⟨o',h5,h6⟩:=B4.1 h2
    have:=ho.uniq i n o o' t h3 h5 h4 h6
    omega
  ·rw [if_neg hd]
   refine gG fun q _ hq=>?_
   have:q≠i:=fun e=>hd (e ▸ hq)
   simp [aW,this]
section
variable {ms:List Nat} {k:Nat} {nd kd:Nat→Bool} {s:St} {V:Nat→SV} {X:Nat→Heap} {E:Nat→Env} {L:Nat→List (Nat×Heap)} {H:Nat→Heap}
theorem Trace.env_step (ho:OrdOK all ms k nd kd) (h:Trace C all ms k nd kd s V X E L H) {i:Nat} {o:Oper} (hi:all[i]?=some o) (t:Nat):(E (i+1)).get t=if o.dst=some t then V i else (E i).get t:=by
 by_cases hk:i < k
 ·exact (h.stepA i o hk hi).1 t
 ·exact (h.stepT i o (by omega) hi).1 t
theorem Trace.env (ho:OrdOK all ms k nd kd) (h:Trace C all ms k nd kd s V X E L H):∀ {i:Nat},i≤all.length→∀ t,(E i).get t=lN all V s.env (fun q=>decide (q < i)) all.length t
 | 0,_,t=>by rw [h.e0,oE]; intro q _ _; simp
 | i+1,hi,t=>by
  obtain ⟨o,hoi⟩ : ∃ o,all[i]?=some o:=⟨_,gr (by omega)⟩
  have hS:(fun q=>decide (q < i+1))=aW (fun q=>decide (q < i)) i:=by
   funext q
   unfold aW
   by_cases h1:q < i
   ·have:q < i+1:=by omega
    simp [h1,this]
   ·by_cases h2:q=i
    ·simp [h2]
    ·have:¬ q < i+1:=by omega
     simp [h1,h2,this]
  rw [h.env_step ho hoi,hS,re ho (A7 _) (by omega),h.env ho (by omega)]
  simp [ku,hoi]
def Closed (all:List Oper) (ms:List Nat) (S:Nat→Bool):Prop:=∀ i,S i=true→i < all.length∧∀ j,bit (ms.getD i 0) j=true→S j=true
theorem Trace.seen (ho:OrdOK all ms k nd kd) (h:Trace C all ms k nd kd s V X E L H) {S:Nat→Bool} (hS:Closed all ms S) {i:Nat} {o:Oper} (hi:all[i]?=some o) (hn:S i=false) (hp:∀ j,bit (ms.getD i 0) j=true→S j=true)
  {t:Nat} (ht:t∈looks all o):(E i).get t=lN all V s.env S all.length t:=by
 have hlt:i < all.length:=(A2.1 hi).1
 rw [h.env ho (by omega)]
 refine gG fun q hq hd=>?_
 unfold ku at hd
 obtain ⟨o',h1,h2⟩:=B4.1 hd
 rcases ho.looks i o t hi ht q o' h1 h2 with h3 | h3
 ·rw [hp q h3]; simp [ho.lt hlt h3]
 ·have:=ho.lt hq h3
  have hSq:S q=false:=by
   cases hh:S q with
   | false=>rfl
   | true=>rw [(hS q hh).2 i h3] at hn; cases hn
  rw [hSq]; simp; omega
theorem Closed.put (ho:OrdOK all ms k nd kd) {S:Nat→Bool} (hS:Closed all ms S) {i:Nat} (hi:i < all.length) (hp:∀ j,bit (ms.getD i 0) j=true→S j=true):Closed all ms (aW S i):=by
 intro j hj
 unfold aW at hj
 simp only [Mt,beq_iff_eq] at hj
 rcases hj with hj | rfl
 ·exact ⟨(hS j hj).1,fun q hq=>by simp [aW,(hS j hj).2 q hq]⟩
 ·exact ⟨hi,fun q hq=>by simp [aW,hp q hq]⟩
def look (X:Nat→Heap) (B:Heap) (S:Nat→Bool):Nat→Nat→Option Obj
 | 0,id=>B.get id
 | j+1,id=>match cond (S j) ((X j).get id) none with
  | some o=>some o
  | none=>look X B S j id
theorem ls {X:Nat→Heap} {B:Heap} {S:Nat→Bool} {id:Nat} {o:Obj}:∀ {j:Nat},look X B S j id=some o →
  (∃ q,q < j∧S q=true∧(X q).get id=some o∧∀ q',q < q'→q' < j→S q'=true→(X q').get id=none)∨((∀ q,q < j→S q=true→(X q).get id=none)∧B.get id=some o)
 | 0,h=>.inr ⟨fun q hq=>by omega,h⟩
 | j+1,h=>by
  simp only [look] at h
  split at h
  ·rename_i o' ho'
   cases h
   cases hS:S j with
   | false=>rw [hS] at ho'; cases ho'
   | true=>rw [hS] at ho'; exact .inl ⟨j,by omega,hS,ho',fun q' h1 h2=>by omega⟩
  ·rename_i hn
   have hj:S j=true→(X j).get id=none:=fun hS=>by rw [hS] at hn; exact hn
   rcases ls h with ⟨q,h1,h2,h3,h4⟩ | ⟨h1,h2⟩
   ·refine .inl ⟨q,by omega,h2,h3,fun q' g1 g2 g3=>?_⟩
    rcases Mr (MI g2) with rfl | g2
    ·exact hj g3
    ·exact h4 q' g1 g2 g3
   ·refine .inr ⟨fun q g1 g2=>?_,h2⟩
    rcases Mr (MI g1) with rfl | g1
    ·exact hj g2
    ·exact h1 q g1 g2
theorem iy {X:Nat→Heap} {B:Heap} {S:Nat→Bool} {id:Nat}:∀ {j:Nat},(∀ q,q < j→S q=true→(X q).get id=none)→look X B S j id=B.get id
 | 0,_=>rfl
 | j+1,h=>by
  simp only [look]
  cases hS:S j with
  | false=>exact iy fun q hq=>h q (by omega)
  | true=>rw [cond_true,h j (by omega) hS]; exact iy fun q hq=>h q (by omega)
theorem vl {X:Nat→Heap} {B:Heap} {S:Nat→Bool} {id:Nat} {o:Obj}:∀ {j q:Nat},q < j→S q=true→(X q).get id=some o→(∀ q',q < q'→q' < j→S q'=true→(X q').get id=none)→look X B S j id=some o
 | 0,_,h,_,_,_=>by omega
 | j+1,q,h,hS,ho,hl=>by
  simp only [look]
  rcases Mr (MI h) with rfl | hlt
  ·rw [hS,cond_true,ho]
  ·have:cond (S j) ((X j).get id) none=none:=by
    cases hSj:S j with
    | false=>rfl
    | true=>exact hl j hlt (by omega) hSj
   rw [this]
   exact vl hlt hS ho fun q' h1 h2=>hl q' h1 (by omega)
theorem gQ {X:Nat→Heap} {B:Heap} {S S':Nat→Bool} {id:Nat}:∀ {j:Nat},(∀ q,q < j→S q=S' q∨(X q).get id=none)→look X B S j id=look X B S' j id
 | 0,_=>rfl
 | j+1,h=>by
  simp only [look]
  have:cond (S j) ((X j).get id) none=cond (S' j) ((X j).get id) none:=by
   rcases h j (by omega) with h | h
   ·rw [h]
   ·rw [h]; cases S j <;> cases S' j <;> rfl
  rw [this]
  split
  ·rfl
  ·exact gQ fun q hq=>h q (by omega)
theorem Trace.l_step (h:Trace C all ms k nd kd s V X E L H) {j:Nat} (hj:j < k) (hle:k≤all.length):L (j+1)=(j,X j) :: L j∨(L (j+1)=L j∧X j=[]):=by
 obtain ⟨o,ho⟩ : ∃ o,all[j]?=some o:=⟨_,gr (by omega)⟩
 rcases (h.stepA j o hj ho).2 with ⟨_,h1,_⟩ | ⟨_,h1,_,h2⟩
 ·exact .inl h1
 ·exact .inr ⟨h1,h2⟩
theorem Trace.heapFor_get (h:Trace C all ms k nd kd s V X E L H) (hle:k≤all.length) (m:Nat):∀ {j:Nat},j≤k→∀ id,(ba m (L j) s.G).get id=look X s.G (bit m) j id
 | 0,_,id=>by rw [h.l0]; rfl
 | j+1,hj,id=>by
  simp only [look]
  have ih:=h.heapFor_get hle m (j:=j) (by omega) id
  rcases h.l_step (by omega:j < k) hle with h1 | ⟨h1,h2⟩
  ·rw [h1]
   show (cond (bit m j) (X j++ba m (L j) s.G) (ba m (L j) s.G)).get id=_
   cases hb:bit m j with
   | false=>exact ih
   | true =>
    rw [cond_true,cond_true,Heap.get_append,ih]
    try (cases (X j).get id <;> rfl)
  ·rw [h1,h2,ih]
   have:cond (bit m j) (Heap.get [] id) none=none:=by cases bit m j <;> rfl
   rw [this]
theorem Trace.all_get (h:Trace C all ms k nd kd s V X E L H) (hle:k≤all.length):∀ {j:Nat},j≤k→∀ id,((L j).foldr (fun p G=>p.2++G) s.G).get id=look X s.G (fun _=>true) j id
 | 0,_,id=>by rw [h.l0]; rfl
 | j+1,hj,id=>by
  simp only [look,cond_true]
  have ih:=h.all_get hle (j:=j) (by omega) id
  rcases h.l_step (by omega:j < k) hle with h1 | ⟨h1,h2⟩
  ·rw [h1,List.foldr_cons,Heap.get_append,ih]
   try (show (match (X j).get id with | some o=>some o | none=>_)=_; cases (X j).get id <;> rfl)
  ·rw [h1,h2,ih]; rfl
theorem Trace.l_mem (h:Trace C all ms k nd kd s V X E L H) (hle:k≤all.length):∀ {j q:Nat},j≤k→q < j→X q=[]∨(q,X q)∈L j
 | 0,_,_,hq=>by omega
 | j+1,q,hj,hq=>by
  rcases h.l_step (by omega:j < k) hle with h1 | ⟨h1,h2⟩
  ·rw [h1]
   rcases Mr (MI hq) with rfl | hlt
   ·exact .inr (by simp)
   ·rcases h.l_mem hle (by omega) hlt with h | h
    ·exact .inl h
    ·exact .inr (by simp [h])
  ·rw [h1]
   rcases Mr (MI hq) with rfl | hlt
   ·exact .inl h2
   ·exact h.l_mem hle (by omega) hlt
structure Sep (all:List Oper) (ms:List Nat) (k:Nat) (X:Nat→Heap) (B:Heap):Prop where
 base:∀ q id o,q < k→(X q).get id=some o→B.get id=none
 two:∀ p q id o o',p < k→q < k→(X p).get id=some o→(X q).get id=some o'→p=q ∨
  ((bit (ms.getD p 0) q=true∨bit (ms.getD q 0) p=true)∧∀ i,i < k→bit (ms.getD i 0) p=false∨i=q∨bit (ms.getD i 0) q=true∨bit (ms.getD q 0) i=true)
theorem Trace.sep (h:Trace C all ms k nd kd s V X E L H) (hle:k≤all.length) (hN:okN all ms k (L k) s.G=true):Sep all ms k X s.G:=by
 have mem:∀ q id o,q < k→(X q).get id=some o→(q,X q)∈L k∧(id,o)∈X q:=by
  intro q id o hq hg
  rcases h.l_mem hle (A7 _) hq with h1 | h1
  ·rw [h1] at hg; simp [Heap.get] at hg
  ·exact ⟨h1,Heap.mem_of_get hg⟩
 simp only [okN,LZ] at hN
 refine ⟨fun q id o hq hg=>?_,fun p q id o o' hp hq hg hg'=>?_⟩
 ·obtain ⟨h1,h2⟩:=mem q id o hq hg
  have:=hN _ h1 _ h2
  simp only [A3,Mn] at this
  cases hb:s.G.get id with
  | none=>rfl
  | some o'=>have h3:=this.1.1; rw [Heap.has_of_get hb] at h3; cases h3
 ·obtain ⟨h1,h2⟩:=mem p id o hp hg
  obtain ⟨h3,h4⟩:=mem q id o' hq hg'
  have:=hN _ h1 _ h2
  simp only [A3] at this
  have:=this.2
  rw [LZ] at this
  have:=this _ h3
  simp only [Mt,A3] at this
  rcases this with (h5 | h5) | ⟨h5,h6⟩
  ·exact .inl (A4 h5)
  ·simp only [Mn] at h5
   rw [MK] at h5
   exact absurd (NJ (id % 1000)) (by simpa using h5 _ h4)
  ·refine .inr ⟨h5,fun i hi=>?_⟩
   rw [LZ] at h6
   have:=h6 i (by simpa using hi)
   simp only [Mt,Mn] at this
   rcases this with ((h7 | h7) | h7) | h7
   ·exact .inl h7
   ·exact .inr (.inl (A4 h7))
   ·exact .inr (.inr (.inl h7))
   ·exact .inr (.inr (.inr h7))
theorem xY (ho:OrdOK all ms k nd kd) {B:Heap} (hX:Sep all ms k X B) {S:Nat→Bool} (hS:Closed all ms S) {i:Nat} (hi:i < k) (hn:S i=false) (hp:∀ j,bit (ms.getD i 0) j=true→S j=true)
  {id:Nat} {o:Obj} (hg:look X B (bit (ms.getD i 0)) i id=some o):look X B S k id=some o:=by
 have hle:=ho.le
 rcases ls hg with ⟨q,h1,h2,h3,h4⟩ | ⟨h1,h2⟩
 ·refine vl (by omega) (hp q h2) h3 fun q' g1 g2 g3=>?_
  cases hx:(X q').get id with
  | none=>rfl
  | some o' =>
   rcases hX.two q q' id o o' (by omega) g2 h3 hx with e | ⟨e1,e2⟩
   ·omega
   ·rcases e2 i hi with e | e | e | e
    ·rw [h2] at e; cases e
    ·subst e; rw [hn] at g3; cases g3
    ·rw [h4 q' g1 (ho.lt (by omega) e) e] at hx; cases hx
    ·rw [(hS q' g3).2 i e] at hn; cases hn
 ·rw [iy,h2]
  intro q g1 g2
  cases hx:(X q).get id with
  | none=>rfl
  | some o'=>rw [hX.base q id o' g1 hx] at h2; cases h2
theorem DJ (ho:OrdOK all ms k nd kd) {B:Heap} (hX:Sep all ms k X B) {S:Nat→Bool} (hS:Closed all ms S) {i:Nat} (hi:i < k) (hn:S i=false)
  {id:Nat} {o:Obj} (hx:(X i).get id=some o) (hg:look X B (bit (ms.getD i 0)) i id=none):look X B S k id=none:=by
 have hle:=ho.le
 cases hl:look X B S k id with
 | none=>rfl
 | some o' =>
  rcases ls hl with ⟨q,h1,h2,h3,h4⟩ | ⟨h1,h2⟩
  ·rcases hX.two i q id o o' hi h1 hx h3 with e | ⟨e1,_⟩
   ·subst e; rw [hn] at h2; cases h2
   ·rcases e1 with e | e
    ·have hlt:=ho.lt (by omega) e
     exfalso
     -- the last of them
     have:∀ j,j≤i→q < j→look X B (bit (ms.getD i 0)) j id≠none:=by
      intro j
      induction j with
      | zero=>intro _ h; omega
      | succ j ih =>
       intro hj hq
       simp only [look]
       split
       ·simp
       ·rename_i hnone
        rcases Mr (MI hq) with rfl | hq
        ·rw [e,cond_true,h3] at hnone; cases hnone
        ·exact ih (by omega) hq
     exact this i (A7 _) hlt hg
    ·rw [(hS q h2).2 i e] at hn; cases hn
  ·rw [hX.base i id o hi hx] at h2; cases h2
theorem Gq (ho:OrdOK all ms k nd kd) {B:Heap} (hX:Sep all ms k X B) {S:Nat→Bool} (hS:Closed all ms S) {i:Nat} (hi:i < k) (hn:S i=false) (id:Nat) :
  look X B (aW S i) k id=(match (X i).get id with | some o=>some o | none=>look X B S k id):=by
 have hle:=ho.le
 cases hx:(X i).get id with
 | some o =>
  refine vl hi (by simp [aW]) hx fun q g1 g2 g3=>?_
  cases hq:(X q).get id with
  | none=>rfl
  | some o' =>
   have hSq:S q=true:=by
    simp only [aW,Mt,beq_iff_eq] at g3
    rcases g3 with g3 | g3
    ·exact g3
    ·omega
   rcases hX.two i q id o o' hi g2 hx hq with e | ⟨e1,_⟩
   ·omega
   ·rcases e1 with e | e
    ·have:=ho.lt (by omega) e; omega
    ·rw [(hS q hSq).2 i e] at hn; cases hn
 | none =>
  refine gQ fun q _=>?_
  by_cases e:q=i
  ·subst e; exact .inr hx
  ·left; simp [aW,e]
end
end
end Go.Vm

