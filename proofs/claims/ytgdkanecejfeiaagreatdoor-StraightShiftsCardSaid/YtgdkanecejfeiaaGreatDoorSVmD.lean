/-
 A machine on typed values, small enough to be reckoned by the kernel, and the proof that it goes with the model: part 4 of 4. What it computes for a function is that function's contract. No condition of its own.
-/
import Derived.Test.YtgdkanecejfeiaaGreatDoorSVmC
import Derived.ChangeKeysEq
import Derived.Lib.LaidTab
import Derived.WideKeyArgs
import Derived.ChangeSame
import Derived.RowKit
import Derived.Test.YtgdkanecejfeiaaGreatDoorSVmA
import Derived.IntWalk
import Derived.Laws.Strings
open Option renaming bind_some→gr,bind_eq_some_iff→B6,map_eq_some_iff→MG,pure_def→NV
open Option.some renaming injEq→A1,inj→B4
open List renaming getElem?_eq_getElem→A2,getElem?_eq_some_iff→A3,mem_of_getElem?→B2,mem_cons→B3,getD_eq_getElem?_getD→B5,length_cons→La,range→Le,all_eq_true→Lg,map_cons→Li,mem_cons_of_mem→Ll,getElem?_take→Ls,getElem?_cons_zero→Lt,append_assoc→LH,append_nil→LU,any_eq_false→L4,any_eq_true→L9,mem_range→Ma,getElem_of_mem→Mj,mem_map→MO,filterMap_cons_some→Nm,cons_append→Nw,all_cons→NP,mem_filterMap→OA,countP_append→OB,mapM_cons→OT,mapM_nil→OZ
open Bool renaming and_eq_true→A4,not_eq_true'→Lz,not_true→LN,false_eq_true→LR,or_eq_true→LV,false_or→MC,true_and→Nn
open Nat renaming eq_of_beq_eq_true→A5,le_refl→A7,beq→A8,le_of_ble_eq_true→B7,add_mul→Lf,ble→Lh,zero_add→Ln,add_assoc→Lo,eq_or_lt_of_le→LC,le_of_lt_succ→LX,add_zero→L7,zero_le→Mr,beq_refl→M5,blt→NC,add_comm→NM,testBit_succ→NX,blt_eq→Pb
open Sum renaming elim_inl→K7,elim→K8
open Array renaming getElem?_eq_some_iff→Lw,length_toList→LJ,getElem?_toList→LO,getD_eq_getD_getElem?→Md,replicate→Nd,forIn_toList→Ot
open List.Pairwise renaming nil→Mo
open List.cons renaming injEq→Mx
set_option linter.unusedVariables false
set_option linter.unusedSimpArgs false
/-
 A part of the memory is taken out, something is done there, and it is laid back.
-/
namespace Go.Vm
theorem Heap.get_append (X G:Heap) (i:Nat):Heap.get (X++G) i=(match X.get i with | some o=>some o | none=>G.get i):=by
 induction X with
 | nil=>rfl
 | cons p r ih =>
  obtain ⟨k,v⟩:=p
  simp only [Nw,Heap.get]
  cases A8 k i with
  | true=>rfl
  | false=>exact ih
theorem Heap.get_of_has {G:Heap}:∀ {i:Nat},G.has i=true→∃ o,G.get i=some o:=by
 induction G with
 | nil=>intro i h; simp [Heap.has] at h
 | cons p r ih =>
  intro i h
  obtain ⟨k,v⟩:=p
  simp only [Heap.has] at h
  simp only [Heap.get]
  cases hk:A8 k i with
  | true=>exact ⟨v,rfl⟩
  | false=>rw [hk] at h; exact ih h
theorem Heap.has_none {G:Heap} {i:Nat} (h:G.get i=none):G.has i=false:=by
 cases hh:G.has i with
 | false=>rfl
 | true=>obtain ⟨o,ho⟩:=Heap.get_of_has hh; rw [h] at ho; cases ho
theorem Heap.mem_of_get {G:Heap}:∀ {i:Nat} {o:Obj},G.get i=some o→(i,o)∈G:=by
 induction G with
 | nil=>intro i o h; simp [Heap.get] at h
 | cons p r ih =>
  intro i o h
  obtain ⟨k,v⟩:=p
  simp only [Heap.get] at h
  cases hk:A8 k i with
  | true=>rw [hk] at h; simp at h; subst h; rw [← A5 hk]; simp
  | false=>rw [hk] at h; exact Ll _ (ih h)
section
variable {P:Program} {C:Ctx} {w0:World} {M:Own} {m:Mem}
theorem tj (hi:Inv C w0 M m) {G':Heap} (h:∀ id,G'.get id=m.G.get id):Inv C w0 M ⟨m.w,m.F,m.ι,G'⟩∧Evo m ⟨m.w,m.F,m.ι,G'⟩:=by
 have he:Evo m ⟨m.w,m.F,m.ι,G'⟩:=⟨fun b hb=>⟨hb,rfl⟩,fun id o ho=>⟨o,by show G'.get id=_; rw [h]; exact ho,.inr (Goon.refl _ o)⟩⟩
 refine ⟨⟨hi.kept,?_,?_,?_,hi.fro,fun g τ x hg=>(hi.glob g τ x hg).mono he.fro,hi.bnd,fun i v h=>cX he (hi.pin i v h)⟩,he⟩
 ·intro id o ho
  exact co he rfl (fun _ _=>rfl) (hi.objs id o (by rw [← h]; exact ho))
 ·intro id o b ho; exact hi.own id o b (by rw [← h]; exact ho)
 ·intro i j o p b ho hoo hp; exact hi.inj i j o p b (by rw [← h]; exact ho) hoo (by rw [← h]; exact hp)
theorem nb {Gi:Heap} (hsub:∀ id o,Gi.get id=some o→m.G.get id=some o) {v:Value}:∀ {a:Atom},ae m v a→cK Gi a=true→ae ⟨m.w,m.F,m.ι,Gi⟩ v a
 | .u,_,_=>trivial
 | .undef,h,_=>h
 | .nils,h,_=>h
 | .val _ _,h,_=>h
 | .own id,h,hh=>by
  obtain ⟨h1,o,ho,hv⟩:=h
  obtain ⟨o',ho'⟩:=Heap.get_of_has hh
  have:=hsub id o' ho'; rw [ho] at this; cases this
  exact ⟨h1,o,ho',hv⟩
 | .view id off len,h,hh=>by
  obtain ⟨h1,o,ho,hv⟩:=h
  obtain ⟨o',ho'⟩:=Heap.get_of_has hh
  have:=hsub id o' ho'; rw [ho] at this; cases this
  exact ⟨h1,o,ho',hv⟩
 | .ptr id off,h,hh=>by
  obtain ⟨h1,o,ho,hv⟩:=h
  obtain ⟨o',ho'⟩:=Heap.get_of_has hh
  have:=hsub id o' ho'; rw [ho] at this; cases this
  exact ⟨h1,o,ho',hv⟩
 | .aptr id j p,h,hh=>by
  obtain ⟨h1,o,ho,hv⟩:=h
  obtain ⟨o',ho'⟩:=Heap.get_of_has hh
  have:=hsub id o' ho'; rw [ho] at this; cases this
  exact ⟨h1,o,ho',hv⟩
 | .cut id j p,h,hh=>by
  obtain ⟨h1,o,ho,hv⟩:=h
  obtain ⟨o',ho'⟩:=Heap.get_of_has hh
  have:=hsub id o' ho'; rw [ho] at this; cases this
  exact ⟨h1,o,ho',hv⟩
 | .ownd id,h,hh=>by
  obtain ⟨h1,o,ho,hv⟩:=h
  obtain ⟨o',ho'⟩:=Heap.get_of_has hh
  have:=hsub id o' ho'; rw [ho] at this; cases this
  exact ⟨h1,o,ho',hv⟩
 | .sub id ver j,h,hh=>by
  obtain ⟨h1,o,ho,hv⟩:=h
  obtain ⟨o',ho'⟩:=Heap.get_of_has hh
  have:=hsub id o' ho'; rw [ho] at this; cases this
  exact ⟨h1,o,ho',hv⟩
 | .saptr id ver j k,h,hh=>by
  obtain ⟨h1,o,ho,hv⟩:=h
  obtain ⟨o',ho'⟩:=Heap.get_of_has hh
  have:=hsub id o' ho'; rw [ho] at this; cases this
  exact ⟨h1,o,ho',hv⟩
 | .ownm id,h,hh=>by
  obtain ⟨h1,o,ho,hv⟩:=h
  obtain ⟨o',ho'⟩:=Heap.get_of_has hh
  have:=hsub id o' ho'; rw [ho] at this; cases this
  exact ⟨h1,o,ho',hv⟩
 | .bnd _ _,h,_=>h
 | .clo f caps,h,hh=>by
  obtain ⟨vs,h1,h2⟩:=h
  refine ⟨vs,h1,?_⟩
  simp only [cK,Lg] at hh
  clear h1
  induction caps generalizing vs with
  | nil =>
   match vs,h2 with
   | [],_=>trivial
  | cons c caps ih =>
   match vs,h2 with
   | u :: vs,h2 =>
    obtain ⟨⟨o,ho,hv⟩,h3⟩:=h2
    obtain ⟨o',ho'⟩:=Heap.get_of_has (hh c (by simp))
    have:=hsub c o' ho'; rw [ho] at this; cases this
    exact ⟨⟨o,ho',hv⟩,ih vs h3 fun x hx=>hh x (by simp [hx])⟩
theorem iA {Gi:Heap} (hsub:∀ id o,Gi.get id=some o→m.G.get id=some o):∀ {us:List Value} {l:List Atom},Rel2 (ae m) us l→l.all (fun a=>cK Gi a)=true→Rel2 (ae ⟨m.w,m.F,m.ι,Gi⟩) us l
 | [],[],_,_=>trivial
 | _ :: _,[],h,_=>h.elim
 | [],_ :: _,h,_=>h.elim
 | _ :: _,_ :: _,h,hh=>by
  simp only [NP,A4] at hh
  exact ⟨nb hsub h.1 hh.1,iA hsub h.2 hh.2⟩
theorem DG {Gi:Heap} (hsub:∀ id o,Gi.get id=some o→m.G.get id=some o) {v:Value}:∀ {sv:SV},RelSV m v sv→px Gi sv=true→RelSV ⟨m.w,m.F,m.ι,Gi⟩ v sv
 | .av a,h,hh=>by
  cases a with
  | val τ x=>exact h
  | _=>exact (ah (by intros; simp)).2 (nb hsub ((ah (by intros; simp)).1 h) hh)
 | .agg l,h,hh=>by
  obtain ⟨us,h1,h2,h3⟩:=h
  exact ⟨us,h1,h2,iA hsub h3 hh⟩
 | .tup l,h,hh=>by
  obtain ⟨us,h1,h2⟩:=h
  refine ⟨us,h1,?_⟩
  clear h1
  induction l generalizing us with
  | nil =>
   match us,h2 with
   | [],_=>trivial
  | cons p l ih =>
   simp only [px,NP,A4] at hh
   match us,h2 with
   | u :: us,h2 =>
    refine ⟨?_,ih hh.2 us h2.2⟩
    have h3:=h2.1
    obtain ⟨b,c⟩:=p
    cases b with
    | true=>obtain ⟨us,q1,q0,q2⟩:=h3; exact ⟨us,q1,q0,iA hsub q2 hh.1⟩
    | false =>
     obtain ⟨a,q1,q2⟩:=h3
     simp only at q1
     subst q1
     refine ⟨a,rfl,nb hsub q2 ?_⟩
     have:=hh.1
     simpa using this
theorem wZ {v:Value}:∀ {a:Atom},ae m v a→cK m.G a=true
 | .u,_=>rfl
 | .undef,_=>rfl
 | .nils,_=>rfl
 | .val _ _,_=>rfl
 | .own _,h=>by obtain ⟨_,o,ho,_⟩:=h; exact Heap.has_of_get ho
 | .view _ _ _,h=>by obtain ⟨_,o,ho,_⟩:=h; exact Heap.has_of_get ho
 | .ptr _ _,h=>by obtain ⟨_,o,ho,_⟩:=h; exact Heap.has_of_get ho
 | .aptr _ _ _,h=>by obtain ⟨_,o,ho,_⟩:=h; exact Heap.has_of_get ho
 | .cut _ _ _,h=>by obtain ⟨_,o,ho,_⟩:=h; exact Heap.has_of_get ho
 | .ownd _,h=>by obtain ⟨_,o,ho,_⟩:=h; exact Heap.has_of_get ho
 | .sub _ _ _,h=>by obtain ⟨_,o,ho,_⟩:=h; exact Heap.has_of_get ho
 | .saptr _ _ _ _,h=>by obtain ⟨_,o,ho,_⟩:=h; exact Heap.has_of_get ho
 | .ownm _,h=>by obtain ⟨_,o,ho,_⟩:=h; exact Heap.has_of_get ho
 | .bnd _ _,_=>rfl
 | .clo f caps,h=>by
  obtain ⟨vs,h1,h2⟩:=h
  simp only [cK,Lg]
  clear h1
  induction caps generalizing vs with
  | nil=>simp
  | cons c caps ih =>
   match vs,h2 with
   | u :: vs,h2 =>
    obtain ⟨⟨o,ho,_⟩,h3⟩:=h2
    intro x hx
    rcases B3.1 hx with rfl | hx
    ·exact Heap.has_of_get ho
    ·exact ih vs h3 x hx
theorem nt:∀ {us:List Value} {l:List Atom},Rel2 (ae m) us l→∀ a∈l,cK m.G a=true
 | [],[],_=>by simp
 | _ :: _,[],h=>h.elim
 | [],_ :: _,h=>h.elim
 | _ :: _,_ :: _,h=>by
  intro a ha
  rcases B3.1 ha with rfl | ha
  ·exact wZ h.1
  ·exact nt h.2 a ha
theorem wa {G G':Heap} (h:∀ i,G.has i=true→G'.has i=true) {a:Atom} (ha:cK G a=true):cK G' a=true:=by
 cases a with
 | clo f c=>simp only [cK,Lg] at ha ⊢; exact fun i hi=>h i (ha i hi)
 | own _=>exact h _ ha
 | view _ _ _=>exact h _ ha
 | ptr _ _=>exact h _ ha
 | aptr _ _ _=>exact h _ ha
 | cut _ _ _=>exact h _ ha
 | ownd _=>exact h _ ha
 | sub _ _ _=>exact h _ ha
 | saptr _ _ _ _=>exact h _ ha
 | ownm _=>exact h _ ha
 | _=>rfl
def nD (m:Mem) (Gi:Heap):Own:=⟨fun b=>∃ id,Blk ⟨m.w,m.F,m.ι,Gi⟩ id b,m.F,fun _=>none⟩
theorem Dq (hi:Inv C w0 M m) {Gi:Heap} (hsub:∀ id o,Gi.get id=some o→m.G.get id=some o) (hbox:∀ id l,Gi.get id=some (.box l)→l.all (fun a=>cK Gi a)=true) :
  Inv C m.w (nD m Gi) ⟨m.w,m.F,m.ι,Gi⟩:=by
 refine ⟨Kept.refl _ _,?_,?_,?_,hi.fro,fun g τ x hg=>hi.glob g τ x hg,fun b hb=>.inl hb,fun i v h=>by simp [nD] at h⟩
 ·intro id o ho
  have hr:=hi.objs id o (hsub id o ho)
  cases o with
  | dead=>trivial
  | arr τ l=>exact hr
  | deep _ _ _ _=>exact hr
  | map _ _ _=>exact hr
  | box l =>
   obtain ⟨b,c,el,h1,h2,h0,h3⟩:=hr
   exact ⟨b,c,el,h1,h2,h0,iA hsub h3 (hbox id l ho)⟩
 ·intro id o b ho hob hb
  obtain ⟨_,h2,h3⟩:=hi.own id o b (hsub id o ho) hob hb
  exact ⟨.inr ⟨id,o,ho,hob,hb⟩,h2,h3⟩
 ·intro i j o p b ho hoo hp hop h1 h2
  exact hi.inj i j o p b (hsub i o ho) hoo (hsub j p hp) hop h1 h2
theorem Dc (hi:Inv C w0 M m) {Gi X:Heap} {m':Mem} (hsub:∀ id o,Gi.get id=some o→m.G.get id=some o) (hi':Inv C m.w (nD m Gi) m') (he:Evo ⟨m.w,m.F,m.ι,Gi⟩ m')
  (hG':m'.G=X++Gi) (hX:∀ id o,X.get id=some o→Gi.get id=none→m.G.get id=none) :
  ∃ m'',m''.w=m'.w∧m''.G=X++m.G∧Inv C w0 M m''∧Evo m m''∧∀ v sv,RelSV m' v sv→RelSV m'' v sv:=by
 let ι2:Nat→Value:=fun id=>cond ((X++Gi).has id) (m'.ι id) (m.ι id)
 let m2:Mem:=⟨m'.w,m'.F,ι2,X++m.G⟩
 have hcase:∀ id o,(X++m.G).get id=some o→(m'.G.get id=some o∧ι2 id=m'.ι id)∨(Gi.get id=none∧m.G.get id=some o∧ι2 id=m.ι id):=by
  intro id o ho
  rw [Heap.get_append] at ho
  cases hx:X.get id with
  | some o1 =>
   rw [hx] at ho
   left
   have hg:(X++Gi).get id=some o1:=by rw [Heap.get_append,hx]
   refine ⟨by rw [hG',hg]; exact ho,?_⟩
   show cond _ _ _=_
   rw [Heap.has_of_get hg]; rfl
  | none =>
   rw [hx] at ho
   cases hgi:Gi.get id with
   | some o1 =>
    left
    have hg:(X++Gi).get id=some o1:=by rw [Heap.get_append,hx]; exact hgi
    have h1:=hsub id o1 hgi
    have ho:m.G.get id=some o:=ho
    rw [h1] at ho
    refine ⟨by rw [hG',hg]; exact ho,?_⟩
    show cond _ _ _=_
    rw [Heap.has_of_get hg]; rfl
   | none =>
    right
    have hg:(X++Gi).get id=none:=by rw [Heap.get_append,hx]; exact hgi
    refine ⟨rfl,ho,?_⟩
    show cond _ _ _=_
    rw [Heap.has_none hg]; rfl
 have hback:∀ id o,m'.G.get id=some o→(X++m.G).get id=some o∧ι2 id=m'.ι id:=by
  intro id o ho
  rw [hG'] at ho
  have hι : ι2 id=m'.ι id:=by
   show cond _ _ _=_
   rw [Heap.has_of_get ho]; rfl
  refine ⟨?_,hι⟩
  rw [Heap.get_append] at ho ⊢
  cases hx:X.get id with
  | some o1=>rw [hx] at ho; exact ho
  | none=>rw [hx] at ho; exact hsub id o ho
 have hMb:∀ id o b,m.G.get id=some o→isObj o=true→HB (m.ι id) b→Gi.get id=none→¬ (nD m Gi) b:=by
  rintro id o b ho hob hb hn ⟨id',o',ho',hob',hb'⟩
  have:=hi.inj id id' o o' b ho hob (hsub id' o' ho') hob' hb hb'
  subst this
  have ho':Gi.get id=some o':=ho'
  rw [hn] at ho'; cases ho'
 have hMw:∀ b,(nD m Gi) b→(w0.heap.size≤b∨M b)∧b < m.w.heap.size:=by
  rintro b ⟨id',o',ho',hob',hb'⟩
  have:=hi.own id' o' b (hsub id' o' ho') hob' hb'
  exact ⟨this.1,this.2.2⟩
 have hks:=hi.kept.size
 have hks':=hi'.kept.size
 have hother:∀ id o b,m.G.get id=some o→isObj o=true→HB (m.ι id) b→Gi.get id=none→m'.w.heap[b]?=m.w.heap[b]?:=by
  intro id o b ho hob hb hn
  exact hi'.kept.block b (hi.own id o b ho hob hb).2.2 (hMb id o b ho hob hb hn)
 have he1:Evo m' m2:=⟨fun b hb=>⟨hb,rfl⟩,fun id o ho=>⟨o,(hback id o ho).1,.inr (.inl ⟨(hback id o ho).2,Alike.refl o⟩)⟩⟩
 have he2:Evo m m2:=by
  refine ⟨he.fro,fun id o ho=>?_⟩
  cases hgi:Gi.get id with
  | some o1 =>
   have h1:=hsub id o1 hgi
   rw [ho] at h1; cases h1
   obtain ⟨o',h2,h3⟩:=he.get id o hgi
   obtain ⟨h4,h5⟩:=hback id o' h2
   refine ⟨o',h4,?_⟩
   rcases h3 with h3 | h3
   ·exact .inl h3
   ·have h5:m2.ι id=m'.ι id:=h5
    rw [h5]
    exact .inr h3
  | none =>
   have hx:X.get id=none:=by
    cases hx:X.get id with
    | none=>rfl
    | some o1=>have:=hX id o1 hx hgi; rw [ho] at this; cases this
   have hg:(X++m.G).get id=some o:=by rw [Heap.get_append,hx]; exact ho
   have hn:(X++Gi).get id=none:=by rw [Heap.get_append,hx]; exact hgi
   refine ⟨o,hg,.inr (.inl ⟨?_,Alike.refl o⟩)⟩
   show cond _ _ _=_
   rw [Heap.has_none hn]; rfl
 refine ⟨m2,rfl,rfl,⟨?_,?_,?_,?_,hi'.fro,fun g τ x hg=>(hi'.glob g τ x hg),?_,fun i v h=>cX he2 (hi.pin i v h)⟩,he2,fun v sv h=>gC he1 h⟩
 ·refine ⟨hi'.kept.os.trans hi.kept.os,hi'.kept.tape.trans hi.kept.tape,hi'.kept.output.trans hi.kept.output,by show _≤m'.w.heap.size; omega,fun b hb hM=>?_⟩
  refine (hi'.kept.block b (by omega) ?_).trans (hi.kept.block b hb hM)
  intro hMb'
  rcases (hMw b hMb').1 with h | h
  ·omega
  ·exact hM h
 ·intro id o ho
  rcases hcase id o ho with ⟨h1,h2⟩ | ⟨h1,h2,h3⟩
  ·exact co he1 h2 (fun _ _=>rfl) (hi'.objs id o h1)
  ·by_cases hob:isObj o=true
   ·exact co he2 h3 (fun b hb=>hother id o b h2 hob hb h1) (hi.objs id o h2)
   ·cases o <;> simp_all [isObj,db]
 ·intro id o b ho hob hb
  rcases hcase id o ho with ⟨h1,h2⟩ | ⟨h1,h2,h3⟩
  ·have hb':HB (m'.ι id) b:=by rw [← h2]; exact hb
   obtain ⟨q1,q2,q3⟩:=hi'.own id o b h1 hob hb'
   refine ⟨?_,q2,q3⟩
   rcases q1 with q1 | q1
   ·exact .inl (by omega)
   ·exact (hMw b q1).1
  ·have hb':HB (m.ι id) b:=by rw [← h3]; exact hb
   obtain ⟨q1,q2,q3⟩:=hi.own id o b h2 hob hb'
   refine ⟨q1,?_,by show b < m'.w.heap.size; omega⟩
   intro hF
   rcases hi'.bnd b hF with h | h | h
   ·exact q2 h
   ·exact hMb id o b h2 hob hb' h1 h
   ·omega
 ·have cross:∀ i j o p b,m'.G.get i=some o→ι2 i=m'.ι i→Gi.get j=none→m.G.get j=some p→ι2 j=m.ι j→isObj o=true→isObj p=true→HB (ι2 i) b→HB (ι2 j) b→False:=by
   intro i j o p b a1 a2 b1 b2 b3 hoo hop h1 h2
   rw [a2] at h1; rw [b3] at h2
   have q:=(hi'.own i o b a1 hoo h1).1
   have:=(hi.own j p b b2 hop h2).2.2
   rcases q with q | q
   ·omega
   ·exact hMb j p b b2 hop h2 b1 q
  intro i j o p b ho hoo hp hop h1 h2
  rcases hcase i o ho with ⟨a1,a2⟩ | ⟨a1,a2,a3⟩
  ·rcases hcase j p hp with ⟨b1,b2⟩ | ⟨b1,b2,b3⟩
   ·exact hi'.inj i j o p b a1 hoo b1 hop (by rw [← a2]; exact h1) (by rw [← b2]; exact h2)
   ·exact (cross i j o p b a1 a2 b1 b2 b3 hoo hop h1 h2).elim
  ·rcases hcase j p hp with ⟨b1,b2⟩ | ⟨b1,b2,b3⟩
   ·exact (cross j i p o b b1 b2 a1 a2 a3 hop hoo h2 h1).elim
   ·exact hi.inj i j o p b a2 hoo b2 hop (by rw [← a3]; exact h1) (by rw [← b3]; exact h2)
 ·intro b hF
  rcases hi'.bnd b hF with h | h | h
  ·exact hi.bnd b h
  ·rcases (hMw b h).1 with h | h
   ·exact .inr (.inr h)
   ·exact .inr (.inl h)
  ·exact .inr (.inr (by omega))
end
def Suf (G:Heap) (r:Option St):Prop:=∀ s',r=some s'→∃ X,s'.G=X++G
section
variable {C:Ctx} {s:St}
theorem af {G:Heap}:Suf G none:=fun _ h=>by cases h
theorem lZ {dst:Option Nat} {v:SV} {G:Heap} (h:∃ X,s.G=X++G):Suf G (some (aG dst v s)):=fun s' h'=>by
 cases h'
 cases dst <;> exact h
theorem wM:∃ X,s.G=X++s.G:=⟨[],rfl⟩
theorem dt {G:Heap} {x y:Option St} {b:Bool} (h1:Suf G x) (h2:Suf G y):Suf G (cond b x y):=by cases b <;> assumption
theorem lS {G:Heap} {c:Prop} [Decidable c] {x y:Option St} (h1:Suf G x) (h2:Suf G y):Suf G (if c then x else y):=by split <;> assumption
theorem cb {G:Heap} {α : Type} {x:Option α} {F : α→Option St} (h:∀ a,Suf G (F a)):Suf G (x.bind F):=by
 cases x with
 | none=>exact af
 | some a=>exact h a
theorem wN {G:Heap} {t:St} {site:Nat} {ob:Obj} {F:Nat→St→Option St} (ht:∃ X,t.G=X++G) (h:∀ i u,(∃ X,u.G=X++G)→Suf G (F i u)):Suf G (cv t site ob F):=by
 refine dt af (h _ _ ?_)
 obtain ⟨X,hX⟩:=ht
 exact ⟨_ :: X,by rw [hX]; rfl⟩
theorem Be {G:Heap} {v:SV} {F:Int→Option St} (h:∀ n,Suf G (F n)):Suf G (asI v F):=by
 unfold asI; split
 ·exact h _
 ·exact af
theorem tL {G:Heap} {v:SV} {F:Int→Option St} (h:∀ n,Suf G (F n)):Suf G (mq v F):=by
 unfold mq; split
 ·exact h _
 ·exact af
theorem DX {G:Heap} {e:Env} {d:Int} {x:Option Operand} {F:Int→Option St} (h:∀ n,Suf G (F n)):Suf G (Ce C e d x F):=by
 cases x with
 | none=>exact h _
 | some x=>exact Be h
theorem sj {G:Heap} {sz:Nat} {i:Int} {F:List Atom→Option St} (h:∀ c,Suf G (F c)):∀ (k j:Nat) (l:List Atom),Suf G (zQ k sz l i j F)
 | 0,_,_=>af
 | k+1,j,l=>by
  unfold zQ
  refine dt ?_ (sj h k (j+1) _)
  split
  ·exact h _
  ·exact af
theorem wg {G:Heap} {t:Nat} {x:SV} {i:Int} {F:Atom→Option St} (h:∀ n,Suf G (F n)):Suf G (indexAt C s t x i F):=by
 unfold indexAt; split
 ·exact cb fun _=>h _
 ·split
  ·exact cb fun _=>h _
  ·exact af
 ·split
  ·exact cb fun _=>h _
  ·exact af
 ·split
  ·exact cb fun _=>h _
  ·exact af
 ·split
  ·exact cb fun _=>h _
  ·exact af
 ·split
  ·exact dt (cb fun _=>h _) af
  ·exact af
 ·exact cb fun _=>h _
 ·split
  ·exact lS (h _) af
  ·exact af
 ·exact af
theorem Af {G:Heap} {τ : Ty} {p:Atom} {F:SV→Option St} (h:∀ n,Suf G (F n)):Suf G (loadAt s τ p F):=by
 unfold loadAt; split
 ·split
  ·split
   ·exact h _
   ·exact af
  ·exact af
 ·split
  ·refine cb fun _=>?_
   split
   ·split
    ·exact h _
    ·exact af
   ·exact af
  ·exact dt (h _) af
  ·exact af
 ·split
  ·refine dt (cb fun _=>?_) af
   split
   ·exact h _
   ·exact af
  ·exact af
 ·split
  ·exact h _
  ·exact af
 ·exact af
theorem Fv {G:Heap} {hole:Option Nat} {j:Nat} {x:Option St} (h:Suf G x):Suf G (xl hole j x):=by
 unfold xl; split
 ·exact h
 ·exact lS h af
theorem dI:∀ (ids:List Nat) (G:Heap),∃ X,am ids G=X++G
 | [],G=>⟨[],rfl⟩
 | i :: r,G=>by
  obtain ⟨X,hX⟩:=dI r ((i,.dead) :: G)
  exact ⟨X++[(i,.dead)],by simp [am,hX]⟩
theorem gL {G G0:Heap} (ids:List Nat) (h:∃ X,G=X++G0):∃ X,am ids G=X++G0:=by
 obtain ⟨X,hX⟩:=dI ids G
 obtain ⟨Y,hY⟩:=h
 exact ⟨X++Y,by rw [hX,hY,LH]⟩
theorem wu {τ : Ty} {p:Atom} {v:SV} {F:St→Option St} (h:∀ u,(∃ X,u.G=X++s.G)→Suf s.G (F u)):Suf s.G (storeAt s τ p v F):=by
 unfold storeAt; split
 ·split
  ·split
   ·refine dt ?_ af
    split
    ·exact h _ ⟨[_],rfl⟩
    ·exact af
   ·exact af
  ·exact af
 ·split
  ·split
   ·refine cb fun _=>?_
    split
    ·refine dt af (h _ ?_)
     obtain ⟨X,hX⟩:=dI (bD v) s.G
     exact ⟨(_,_) :: X,by show (_,_) :: am (bD v) s.G=_; rw [hX]; rfl⟩
    ·exact af
   ·exact af
  ·refine dt ?_ af
   split
   ·rename_i x _
    refine Fv (h _ ?_)
    obtain ⟨X,hX⟩:=dI x.2 s.G
    exact ⟨(_,_) :: X,by show (_,_) :: am x.2 s.G=_; rw [hX]; rfl⟩
   ·exact af
  ·exact af
 ·split
  ·refine dt ?_ af
   split
   ·refine h _ ?_
    obtain ⟨X,hX⟩:=dI (bD v) s.G
    exact ⟨(_,_) :: X,by show (_,_) :: am (bD v) s.G=_; rw [hX]; rfl⟩
   ·exact af
  ·exact af
 ·exact af
theorem Cq {G:Heap} {v:SV} {F:Int→Option St} (h:∀ n,Suf G (F n)):Suf G (lenOf s v F):=by
 unfold lenOf; split
 ·exact h _
 ·exact h _
 ·exact h _
 ·split
  ·exact h _
  ·exact af
 ·split
  ·exact h _
  ·exact af
 ·split
  ·exact h _
  ·exact af
 ·split
  ·exact h _
  ·exact af
 ·split
  ·exact dt (h _) af
  ·exact af
 ·exact af
theorem rm {G:Heap} {mx:Bool} {F:Int→Option St} (h:∀ n,Suf G (F n)):∀ (l:List SV) (a:Int),Suf G (lj mx a l F)
 | [],a=>h a
 | v :: l,a=>tL fun b=>rm h l _
theorem ym {G:Heap} {x:SV} {lo:Int} {hi mx:Option Int} {F:SV→Option St} (h:∀ n,Suf G (F n)):Suf G (fc s x lo hi mx F):=by
 unfold fc; split
 ·exact cb fun _=>h _
 ·exact cb fun _=>h _
 ·exact lS (h _) af
 ·exact lS (h _) af
 ·split
  ·exact cb fun _=>h _
  ·exact af
 ·exact cb fun _=>h _
 ·split
  ·exact cb fun _=>lS (h _) af
  ·exact af
 ·exact af
theorem g8 {d:Bool}:∀ {τ : Ty} {x : τ.den} {site:Nat} {G:Heap} {p:List Atom×Heap},ba d τ x site G=some p→∃ X,p.2=X++G
 | .prod a b,x,site,G,p,h=>by
  simp only [ba] at h
  split at h
  ·rename_i p1 h1
   split at h
   ·rename_i p2 h2
    cases h
    obtain ⟨X,hX⟩:=g8 h1
    obtain ⟨Y,hY⟩:=g8 h2
    exact ⟨Y++X,by simp [hX,hY]⟩
   ·cases h
  ·cases h
 | .unit,_,_,_,p,h=>by simp only [ba] at h; cases h; exact ⟨[],rfl⟩
 | .int _,_,_,_,p,h=>by simp only [ba] at h; cases h; exact ⟨[],rfl⟩
 | .bool,_,_,_,p,h=>by simp only [ba] at h; cases h; exact ⟨[],rfl⟩
 | .str,_,_,_,p,h=>by simp only [ba] at h; cases h; exact ⟨[],rfl⟩
 | .slice e,x,site,G,p,h=>by
  simp only [ba] at h
  cases hb:G.has (aO 8 G site) with
  | true=>rw [hb] at h; cases h
  | false=>rw [hb] at h; cases h; exact ⟨[_],rfl⟩
 | .arr _ _,_,_,_,_,h=>by simp [ba] at h
 | .ptr _,_,_,_,_,h=>by simp [ba] at h
 | .clo _ _,_,_,_,_,h=>by simp [ba] at h
theorem mz {d:Bool}:∀ {outs:List (Bool×Ty)} {x:(aB (outs.map (·.2))).den} {site:Nat} {G:Heap} {q:List (Bool×List Atom)×Heap},dT d outs x site G=some q→∃ X,q.2=X++G
 | [],_,_,_,q,h=>by simp only [dT] at h; cases h; exact ⟨[],rfl⟩
 | p :: r,x,site,G,q,h=>by
  unfold dT at h
  split at h
  ·rename_i c hc
   split at h
   ·rename_i q2 h2
    cases h
    obtain ⟨Y,hY⟩:=mz h2
    have h1:∃ X,c.2=X++G:=by
     cases hp:p.1 with
     | true=>rw [hp] at hc; exact g8 hc
     | false=>rw [hp] at hc; cases hc; exact ⟨[],rfl⟩
    obtain ⟨X,hX⟩:=h1
    exact ⟨Y++X,by simp [hX,hY]⟩
   ·cases h
  ·cases h
theorem cy:∀ {ins:List (Mode×Ty)} {vs:List SV} {x:(aB (aY ins)).den} {G G0 G':Heap},(∃ X,G=X++G0)→ac ins vs x G=some G'→∃ X,G'=X++G0
 | [],[],_,G,G0,G',hG,h=>by simp only [ac] at h; cases h; exact hG
 | [],_ :: _,_,_,_,_,_,h=>by simp [ac] at h
 | (.rd,_) :: r,[],_,_,_,_,_,h=>by simp [ac] at h
 | (.upd,_) :: r,[],_,_,_,_,_,h=>by simp [ac] at h
 | (.take,_) :: r,[],_,_,_,_,_,h=>by simp [ac] at h
 | (.box _,τ) :: r,[],_,_,_,_,_,h=>by cases τ <;> simp [ac] at h
 | (.box _,τ) :: r,v :: vs,x,G,G0,G',hG,h=>by
  cases τ with
  | ptr T =>
   simp only [ac] at h
   have hc:∀ k (o:Obj),∃ X,((k,o) :: G)=X++G0:=fun k o=>by obtain ⟨X,hX⟩:=hG; exact ⟨_ :: X,by rw [hX]; rfl⟩
   split at h
   ·exact cy (ins:=r) (hc _ _) h
   ·cases h
  | _=>simp [ac] at h
 | (.rd,_) :: r,_ :: vs,x,G,G0,G',hG,h=>by
  simp only [ac] at h
  exact cy (ins:=r) hG h
 | (.take,_) :: r,v :: vs,x,G,G0,G',hG,h=>by
  simp only [ac] at h
  have hc:∀ k,∃ X,((k,Obj.dead) :: G)=X++G0:=fun k=>by obtain ⟨X,hX⟩:=hG; exact ⟨_ :: X,by rw [hX]; rfl⟩
  split at h
  ·exact cy (ins:=r) hG h
  ·exact cy (ins:=r) (hc _) h
  ·exact cy (ins:=r) (hc _) h
  ·cases h
 | (.upd,.slice e) :: r,v :: vs,x,G,G0,G',hG,h=>by
  simp only [ac] at h
  have hc:∀ k (o:Obj),∃ X,((k,o) :: G)=X++G0:=fun k o=>by obtain ⟨X,hX⟩:=hG; exact ⟨_ :: X,by rw [hX]; rfl⟩
  split at h
  ·exact cy (ins:=r) hG h
  ·exact cy (ins:=r) (hc _ _) h
  ·cases h
 | (.upd,.int _) :: _,_ :: _,_,_,_,_,_,h=>by simp [ac] at h
 | (.upd,.bool) :: _,_ :: _,_,_,_,_,_,h=>by simp [ac] at h
 | (.upd,.str) :: _,_ :: _,_,_,_,_,_,h=>by simp [ac] at h
 | (.upd,.prod _ _) :: _,_ :: _,_,_,_,_,_,h=>by simp [ac] at h
 | (.upd,.unit) :: _,_ :: _,_,_,_,_,_,h=>by simp [ac] at h
 | (.upd,.arr _ _) :: _,_ :: _,_,_,_,_,_,h=>by simp [ac] at h
 | (.upd,.ptr _) :: _,_ :: _,_,_,_,_,_,h=>by simp [ac] at h
 | (.upd,.clo _ _) :: _,_ :: _,_,_,_,_,_,h=>by simp [ac] at h
theorem pL {site:Nat} {G:Heap} (v:SV):∃ X,(bM site G v).2=X++G:=by
 unfold bM; split
 ·split
  ·rename_i ver' σ l' hg
   cases hc:(A8 _ ver' && !G.has (aO 8 G site)) with
   | false=>exact ⟨[],rfl⟩
   | true=>exact ⟨[_,_],rfl⟩
  ·exact ⟨[],rfl⟩
 ·exact ⟨[],rfl⟩
theorem eC {site:Nat}:∀ (ins:List (Mode×Ty)) (vs:List SV) (G:Heap),∃ X,(cd site ins vs G).2=X++G
 | [],vs,G=>⟨[],by cases vs <;> rfl⟩
 | (md,_) :: _,[],G=>⟨[],by cases md <;> rfl⟩
 | (.rd,_) :: r,v :: vs,G=>eC r vs G
 | (.upd,_) :: r,v :: vs,G=>eC r vs G
 | (.box _,_) :: r,v :: vs,G=>eC r vs G
 | (.take,_) :: r,v :: vs,G=>by
  obtain ⟨X,hX⟩:=pL (site:=site) (G:=G) v
  obtain ⟨Y,hY⟩:=eC (site:=site) r vs (bM site G v).2
  exact ⟨Y++X,by show (cd site r vs (bM site G v).2).2=_; rw [hY,hX,LH]⟩
theorem mD {k:List Nat}:∀ {o:Nat} {τ : Ty} {x : τ.den} {site:Nat} {G:Heap} {q:List Atom×Heap},fI k o τ x site G=some q→∃ X,q.2=X++G
 | o,.prod a b,x,site,G,q,h=>by
  simp only [fI] at h
  split at h
  ·rename_i p hp
   split at h
   ·rename_i p2 hp2
    cases h
    obtain ⟨X,hX⟩:=mD hp
    obtain ⟨Y,hY⟩:=mD hp2
    exact ⟨Y++X,by rw [LH,← hX,← hY]⟩
   ·cases h
  ·cases h
 | o,.slice e,x,site,G,q,h=>by
  unfold fI at h
  cases hk:A8 (dJ k o) 0 with
  | true=>rw [hk] at h; cases h; exact ⟨[],rfl⟩
  | false =>
   rw [hk] at h
   simp only [cond_false] at h
   cases hh:G.has (aO 8 G (100000 * (o+1)+site)) with
   | true=>rw [hh] at h; cases h
   | false=>rw [hh] at h; cases h; exact ⟨[_],rfl⟩
 | _,.unit,_,_,_,_,h=>by cases h; exact ⟨[],rfl⟩
 | _,.int _,_,_,_,_,h=>by cases h; exact ⟨[],rfl⟩
 | _,.bool,_,_,_,_,h=>by cases h; exact ⟨[],rfl⟩
 | _,.str,_,_,_,_,h=>by cases h; exact ⟨[],rfl⟩
 | _,.arr _ _,_,_,_,_,h=>by cases h
 | _,.ptr _,_,_,_,_,h=>by cases h
 | _,.clo _ _,_,_,_,_,h=>by cases h
theorem eA:∀ {ins:List (Mode×Ty)} {vs:List SV} {x:(aB (aY ins)).den} {site:Nat} {G G0 G':Heap},(∃ X,G=X++G0)→bH ins vs x site G=some G'→∃ X,G'=X++G0
 | [],vs,_,_,G,G0,G',hG,h=>by
  have h:some G=some G':=by cases vs <;> exact h
  cases h; exact hG
 | (md,τ) :: r,[],_,_,_,_,_,_,h=>by cases md <;> first | (simp [bH] at h; done) | (cases τ <;> simp [bH] at h)
 | (.rd,_) :: r,_ :: vs,x,site,G,G0,G',hG,h=>eA (ins:=r) (vs:=vs) (x:=x) hG h
 | (.take,_) :: r,_ :: vs,x,site,G,G0,G',hG,h=>eA (ins:=r) (vs:=vs) (x:=x) hG h
 | (.upd,_) :: r,_ :: vs,x,site,G,G0,G',hG,h=>eA (ins:=r) (vs:=vs) (x:=x.2) hG h
 | (.box k,τ) :: r,v :: vs,x,site,G,G0,G',hG,h=>by
  cases τ with
  | ptr T =>
   simp only [bH] at h
   split at h
   ·split at h
    ·rename_i p hp
     obtain ⟨X,hX⟩:=hG
     obtain ⟨Y,hY⟩:=mD hp
     exact eA (ins:=r) (vs:=vs) ⟨_ :: (Y++X),by rw [hY,hX,Nw,LH]⟩ h
    ·cases h
   ·cases h
  | _=>simp [bH] at h
theorem xj {G0:Heap} {site f:Nat} {vs:List SV} {F:SV→St→Option St} (hs:∃ X,s.G=X++G0) (h:∀ v u,(∃ X,u.G=X++G0)→Suf G0 (F v u)):Suf G0 (jD C s site f vs F):=by
 unfold jD; split
 ·split
  ·refine cb fun _=>dt ?_ af
   split
   ·rename_i G' hG'
    have h1:=cy hs hG'
    split
    ·rename_i q hq
     obtain ⟨X,hX⟩:=mz hq
     split
     ·rename_i G2 hG2
      refine h _ _ ?_
      have h2:∀ b l l',∃ Y,cond b (am l' G') (am l (am l' G'))=Y++G0:=fun b l l'=>by
       cases b with
       | true=>exact gL l' h1
       | false=>exact gL l (gL l' h1)
      obtain ⟨Y,hY⟩:=h2 _ _ _
      exact eA ⟨X++Y,by rw [hX,hY,LH]⟩ hG2
     ·exact af
    ·exact af
   ·exact af
  ·exact af
 ·exact af
theorem zb {site f:Nat} {vs:List SV} {F:SV→St→Option St} (h:∀ v u,(∃ X,u.G=X++s.G)→Suf s.G (F v u)):Suf s.G (gE C s site f vs F):=by
 unfold gE; split
 ·rename_i c _
  exact xj (eC c.ins vs s.G) h
 ·exact af
theorem DW {G:Heap} {x y:Option St} (h1:Suf G x):Suf G (ya x y):=by
 unfold ya; split
 ·exact h1
 ·exact af
theorem tA (o:Oper):Suf s.G (aA C o s some):=by
 unfold aA
 dsimp only
 have P0:∀ (v:SV),Suf s.G (some (aG o.dst v s)):=fun v=>lZ wM
 have N0:∀ (t:St) (ob:Obj) (v:Nat→SV),(∃ X,t.G=X++s.G)→Suf s.G (cv t (o.dst.getD 0) ob fun i s2=>some (aG o.dst (v i) s2)):=fun t ob v ht=>wN ht fun i u hu=>lZ hu
 split
 all_goals first | exact P0 _ | exact af | skip
 all_goals repeat' first
  | exact af
  | exact P0 _
  | exact N0 _ _ _ wM
  | (refine N0 _ _ _ ?_; exact dI _ _)
  | (refine N0 _ _ _ ?_; exact gL _ (pL _))
  | refine dt ?_ ?_
  | refine lS ?_ ?_
  | refine cb fun _=>?_
  | exact DW (P0 _)
  | exact lZ ⟨[_],rfl⟩
  | exact lZ (s:=⟨_,am _ s.G⟩) (dI _ _)
  | exact Af fun _=>P0 _
  | exact wu fun u hu=>lZ hu
  | exact Cq fun _=>P0 _
  | exact rm (fun _=>P0 _) _ _
  | exact ym fun _=>P0 _
  | exact wg fun _=>P0 _
  | exact sj (fun _=>P0 _) _ _ _
  | exact zb fun v u hu=>lZ hu
  | refine Be fun _=>?_
  | refine tL fun _=>?_
  | refine DX fun _=>?_
  | split
end
end Go.Vm

/-
 What is run in a region whose operations stand in no fixed order: told step by step.
-/
namespace Go.Vm
section
variable {C:Ctx} {s:St} {R:Type} {K:St→Option R} {o:Oper}
theorem tD (h1:la C o s.env=true):aA C o s K=(aA C o s some).bind K:=by
 by_cases hb:∀ op xt x y yt,o.op≠.binOp op xt x y yt
 ·exact tN hb
 ·simp only [Classical.not_forall,Classical.not_not] at hb
  obtain ⟨op,xt,x,y,yt,ho⟩:=hb
  simp only [la,ho] at h1
  simp only [aA,ho]
  split
  ·refine aS ?_ rfl
   split
   ·exact aS rfl rfl
   ·exact aS rfl rfl
   ·split
    ·rfl
    ·rfl
  ·split
   ·exact bp fun _=>rfl
   ·split
    ·rfl
    ·rfl
  ·refine aS ?_ rfl
   split
   ·rfl
   ·rfl
   ·rfl
  ·rename_i _ _ _ _ hy
   have hc:np y=false:=by
    rw [hy] at h1
    simpa using h1
   rw [hc]; rfl
  ·split
   ·refine aS ?_ rfl
    split
    ·split
     ·split
      ·rfl
      ·rfl
      ·rfl
     ·rfl
    ·rfl
   ·rfl
theorem mY (hf:gh o=true) {e:Env} {G:Heap} {s':St} (h:aA C o ⟨e,G⟩ some=some s'):s'.G=G∧∀ G',aA C o ⟨e,G'⟩ some=some ⟨s'.env,G'⟩:=by
 have put:∀ (v:SV) (G:Heap),(aG o.dst v ⟨e,G⟩).G=G∧∀ G',aG o.dst v ⟨e,G'⟩=⟨(aG o.dst v ⟨e,G⟩).env,G'⟩:=fun v G=>by
  cases o.dst <;> exact ⟨rfl,fun _=>rfl⟩
 have fin:∀ (v:SV),some (aG o.dst v ⟨e,G⟩)=some s'→s'.G=G∧∀ G',some (aG o.dst v ⟨e,G'⟩)=some (⟨s'.env,G'⟩ : St):=fun v hv=>by
  cases hv
  exact ⟨(put v G).1,fun G'=>by rw [(put v G).2]⟩
 unfold gh at hf
 split at hf
 ·rename_i x ho
  simp only [aA,ho] at h ⊢
  exact fin _ h
 ·rename_i x ho
  simp only [aA,ho] at h ⊢
  exact fin _ h
 ·rename_i c x y ho
  simp only [aA,ho] at h ⊢
  split at h
  ·rename_i t ht
   cases t with
   | true=>exact fin _ h
   | false=>exact fin _ h
  ·cases h
 ·rename_i x i ho
  simp only [aA,ho] at h ⊢
  split at h
  ·rename_i l hl
   split at h
   ·rename_i c hc
    have:=fin _ h
    refine ⟨this.1,fun G'=>?_⟩
    exact this.2 G'
   ·rename_i a ha
    have:=fin _ h
    refine ⟨this.1,fun G'=>?_⟩
    exact this.2 G'
   ·cases h
  ·cases h
 ·rename_i op t x ho
  simp only [aA,ho] at h ⊢
  split at h
  ·rename_i b hx
   have:=fin _ h
   refine ⟨this.1,fun G'=>?_⟩
   exact this.2 G'
  ·rename_i k n hx
   have:=fin _ h
   refine ⟨this.1,fun G'=>?_⟩
   exact this.2 G'
  ·cases h
 ·rename_i t parts ho
  simp only [aA,ho] at h ⊢
  cases ht:C.tab.get t with
  | none=>rw [ht] at h; cases h
  | some τ =>
   rw [ht] at h
   simp only at h ⊢
   cases ha : τ.isAgg with
   | false=>rw [ha] at h; cases h
   | true =>
    rw [ha,cond_true] at h
    cases hc:gS τ (parts.toList.map fun p=>(p.1,ap C e p.2)) (zeroCells τ) with
    | none=>rw [hc] at h; cases h
    | some c =>
     rw [hc] at h
     simp only [cond_true]
     exact fin _ h
 ·cases hf
theorem pB {e:Env} (hl:jG C o e=true) {G:Heap} {s':St} (h:aA C o ⟨e,G⟩ some=some s') :
  s'.G=G∧∀ G':Heap,(∀ id l,C.vr id=false→G.get id=some (.box l)→G'.get id=some (.box l))→aA C o ⟨e,G'⟩ some=some ⟨s'.env,G'⟩:=by
 have put:∀ (v:SV) (G:Heap),(aG o.dst v ⟨e,G⟩).G=G∧∀ G',aG o.dst v ⟨e,G'⟩=⟨(aG o.dst v ⟨e,G⟩).env,G'⟩:=fun v G=>by
  cases o.dst <;> exact ⟨rfl,fun _=>rfl⟩
 have fin:∀ (v:SV),some (aG o.dst v ⟨e,G⟩)=some s'→s'.G=G∧∀ G',some (aG o.dst v ⟨e,G'⟩)=some (⟨s'.env,G'⟩ : St):=fun v hv=>by
  cases hv
  exact ⟨(put v G).1,fun G'=>by rw [(put v G).2]⟩
 unfold jG at hl
 split at hl
 ·rename_i t x f ho
  split at hl
  ·rename_i id off hx
   simp only [aA,ho,hx] at h ⊢
   split at h
   ·rename_i l τ hg ht
    split at h
    ·rename_i o' t' hf
     cases hb:Lh 1 t'.size with
     | false=>rw [hb] at h; cases h
     | true =>
      rw [hb,cond_true] at h
      have:=fin _ h
      refine ⟨this.1,fun G' hG'=>?_⟩
      simp only [hG' id l (by simpa using hl) hg,ht,hf,hb,cond_true]
      exact this.2 G'
    ·cases h
   ·cases h
  ·cases hl
 ·rename_i t x ho
  split at hl
  ·rename_i id off hx
   simp only [aA,ho,hx] at h ⊢
   split at h
   ·rename_i τ p ht hp
    cases hp
    simp only [loadAt] at h ⊢
    split at h
    ·rename_i l hg
     split at h
     ·rename_i c hc
      have:=fin _ h
      refine ⟨this.1,fun G' hG'=>?_⟩
      simp only [ht,hG' id l (by simpa using hl) hg,hc]
      exact this.2 G'
     ·cases h
    ·cases h
   ·cases h
  ·cases hl
 ·rename_i op t x y t' ho
  split at hl
  ·rename_i k a k' b hx hy
   simp only [aA,ho,hx,hy] at h ⊢
   cases hk:decide (k=k') with
   | false=>rw [hk] at h; cases h
   | true =>
    rw [hk,cond_true] at h
    simp only [cond_true]
    split at h
    ·cases hz:eqI b 0 with
     | true=>rw [hz] at h; cases h
     | false=>rw [hz] at h; have:=fin _ h; exact ⟨this.1,fun G' _=>this.2 G'⟩
    ·cases hz:eqI b 0 with
     | true=>rw [hz] at h; cases h
     | false=>rw [hz] at h; have:=fin _ h; exact ⟨this.1,fun G' _=>this.2 G'⟩
    ·split at h
     ·have:=fin _ h; exact ⟨this.1,fun G' _=>this.2 G'⟩
     ·cases h
  ·cases hl
 ·cases hl
theorem uY {G G':Heap} (h:lh C G G'=true) {X:Heap} (hX:G'=X++G):∀ id l,C.vr id=false→G.get id=some (.box l)→G'.get id=some (.box l):=by
 intro id l hv hl
 subst hX
 unfold lh at h
 rw [List.length_append,Nat.add_sub_cancel,List.take_left,Lg] at h
 rw [Heap.get_append]
 cases hx:X.get id with
 | none=>exact hl
 | some ob =>
  have:=h _ (Heap.mem_of_get hx)
  rw [hl] at this
  simp only at this
  rw [hv] at this
  cases this
end
section
variable {C:Ctx} {R:Type} {res:R} {all:List Oper}
def mr (all:List Oper) (o:Oper) (e:Env):Bool→Prop
 | true=>o.guard=none∨∃ j want d,o.guard=some (j,want)∧fl all j=some d∧e.get d=.av (.val .bool want)
 | false=>∃ j want d,o.guard=some (j,want)∧fl all j=some d∧(e.get d=.av .undef∨e.get d=.av (.val .bool (!want)))
theorem qB {o:Oper} {e e':Env} (h:∀ t,e'.get t=e.get t):ed all o e'=ed all o e:=by
 unfold ed
 exact List.map_congr_left fun t _=>by rw [h t]
theorem Dx {o:Oper} {e:Env}:∀ t,(ed all o e).get t=e.get t∧t∈looks all o∨(ed all o e).get t=.av .u:=by
 intro t
 unfold ed
 induction looks all o with
 | nil=>exact .inr rfl
 | cons a l ih =>
  simp only [Li,Env.get]
  cases h:A8 a t with
  | true=>left; rw [A5 h]; exact ⟨rfl,by simp⟩
  | false =>
   rcases ih with ⟨ih,hm⟩ | ih
   ·left; exact ⟨ih,by simp [hm]⟩
   ·right; exact ih
theorem qq {d:Nat} {b:Bool} {e:Env} (h:e.get d=.av (.val .bool b)) (t:Nat):Env.get ((d,.av (.val .bool b)) :: e) t=e.get t:=by
 rw [Env.get_cons]
 split
 ·rename_i hh; subst hh; exact h.symm
 ·rfl
theorem rY {o:Oper} {e:Env} {run skip:Env→Option R}
  (h:(match o.guard with
   | none=>run e
   | some (j,want)=>match fl all j with
    | none=>none
    | some d=>match e.get d with
     | .av (.val .bool b) =>
      cond b
       (cond want (run ((d,.av (.val .bool true)) :: e)) (skip ((d,.av (.val .bool true)) :: e)))
       (cond want (skip ((d,.av (.val .bool false)) :: e)) (run ((d,.av (.val .bool false)) :: e)))
     | .av .undef=>skip e
     | _=>none)=some res) :
  (mr all o e true∧∃ e',(∀ t,e'.get t=e.get t)∧run e'=some res)∨(mr all o e false∧∃ e',(∀ t,e'.get t=e.get t)∧skip e'=some res):=by
 split at h
 ·rename_i hg
  exact .inl ⟨.inl hg,e,fun _=>rfl,h⟩
 ·rename_i j want hg
  split at h
  ·cases h
  ·rename_i d hd
   split at h
   ·rename_i b hb
    cases b with
    | true =>
     cases want with
     | true=>exact .inl ⟨.inr ⟨j,true,d,hg,hd,hb⟩,_,qq hb,h⟩
     | false=>exact .inr ⟨⟨j,false,d,hg,hd,.inr hb⟩,_,qq hb,h⟩
    | false =>
     cases want with
     | true=>exact .inr ⟨⟨j,true,d,hg,hd,.inr hb⟩,_,qq hb,h⟩
     | false=>exact .inl ⟨.inr ⟨j,false,d,hg,hd,hb⟩,_,qq hb,h⟩
   ·rename_i hb
    exact .inr ⟨⟨j,want,d,hg,hd,.inl hb⟩,e,fun _=>rfl,h⟩
   ·cases h
theorem tC (dst:Option Nat) (v:SV) (e:Env) (t:Nat):(yZ dst v e).get t=if dst=some t then v else e.get t:=by
 cases dst with
 | none=>simp [yZ]
 | some d=>simp [yZ,Env.get_cons]
def t6 (C:Ctx) (all:List Oper) (ms:List Nat) (nd:Nat→Bool) (B:Heap) (V:Nat→SV) (X:Nat→Heap) (E:Nat→Env) (L:Nat→List (Nat×Heap)) (j:Nat) (o:Oper):Prop :=
 (∀ t,(E (j+1)).get t=if o.dst=some t then V j else (E j).get t) ∧
 ((mr all o (E j) true∧L (j+1)=(j,X j) :: L j∧((ed all o (E j)).all fun p=>px (bw (ms.getD j 0) (L j) B) p.2)=true ∧
   ((L j).all fun p=>!(bit (ms.getD j 0) p.1) || sH (bw (ms.getD j 0) (L j) B) p.2)=true∧(nd j=true→jG C o (ed all o (E j))=true) ∧
   ∃ s',aA C o ⟨ed all o (E j),bw (ms.getD j 0) (L j) B⟩ some=some s'∧V j=s'.env.get (o.dst.getD 0)∧s'.G=X j++bw (ms.getD j 0) (L j) B) ∨
  (mr all o (E j) false∧L (j+1)=L j∧V j=.av .undef∧X j=[]))
theorem eQ {α : Type} (f:Nat→α) {i j:Nat} (a : α) (h:i < j):(fun j=>if j=i then a else f j) j=f j:=by
 have:j≠i:=by omega
 simp [this]
theorem sQ {ms:List Nat} {nd:Nat→Bool} {B:Heap} {K:Env→List (Nat×Heap)→Option R}:∀ (r:List Oper) (i:Nat) (e:Env) (N:List (Nat×Heap)),(∀ j,j < r.length→r[j]?=all[i+j]?) →
  yu C all ms nd i r e N B K=some res →
  ∃ (V:Nat→SV) (X:Nat→Heap) (E:Nat→Env) (L:Nat→List (Nat×Heap)),E i=e∧L i=N∧K (E (i+r.length)) (L (i+r.length))=some res ∧
   ∀ j o,i≤j→j < i+r.length→all[j]?=some o→t6 C all ms nd B V X E L j o
 | [],i,e,N,_,h=>⟨fun _=>.av .u,fun _=>[],fun _=>e,fun _=>N,rfl,rfl,h,fun j o h1 h2=>by simp at h2; omega⟩
 | o :: r,i,e,N,hl,h=>by
  have hi:all[i]?=some o:=by simpa using (hl 0 (by simp)).symm
  have hl':∀ j,j < r.length→r[j]?=all[i+1+j]?:=fun j hj=>by have:=hl (j+1) (by simp; omega); simpa [Lo,NM 1 j] using this
  unfold yu at h
  have key:∀ (v:SV) (x:Heap) (e1:Env) (N1:List (Nat×Heap)),yu C all ms nd (i+1) r e1 N1 B K=some res →
    (∀ (V:Nat→SV) (X:Nat→Heap) (E:Nat→Env) (L:Nat→List (Nat×Heap)),V i=v→X i=x→E i=e→E (i+1)=e1→L i=N→L (i+1)=N1→t6 C all ms nd B V X E L i o) →
    ∃ (V:Nat→SV) (X:Nat→Heap) (E:Nat→Env) (L:Nat→List (Nat×Heap)),E i=e∧L i=N∧K (E (i+(o :: r).length)) (L (i+(o :: r).length))=some res ∧
     ∀ j o',i≤j→j < i+(o :: r).length→all[j]?=some o'→t6 C all ms nd B V X E L j o':=by
   intro v x e1 N1 h1 h2
   obtain ⟨V,X,E,L,q1,q2,q3,q4⟩:=sQ r (i+1) e1 N1 hl' h1
   refine ⟨fun j=>if j=i then v else V j,fun j=>if j=i then x else X j,fun j=>if j=i then e else E j,fun j=>if j=i then N else L j,by simp,by simp,?_,?_⟩
   ·rw [La,show i+(r.length+1)=i+1+r.length by omega,eQ E e (by omega:i < i+1+r.length),eQ L N (by omega:i < i+1+r.length)]
    exact q3
   ·intro j o' hj1 hj2 ho'
    rcases LC hj1 with rfl | hj1
    ·rw [hi] at ho'; cases ho'
     exact h2 _ _ _ _ (by simp) (by simp) (by simp) (by simp [q1]) (by simp) (by simp [q2])
    ·have:=q4 j o' hj1 (by simp at hj2; omega) ho'
     unfold t6 at this ⊢
     rw [eQ V v hj1,eQ X x hj1,eQ E e hj1,eQ E e (by omega:i < j+1),eQ L N hj1,eQ L N (by omega:i < j+1)]
     exact this
  rcases rY (all:=all) (o:=o) (e:=e) (run:=fun e'=>cond (la C o (ed all o e') && ((ed all o e').all fun p=>px (bw (ms.getD i 0) N B) p.2) && (N.all fun p=>!(bit (ms.getD i 0) p.1) || sH (bw (ms.getD i 0) N B) p.2) && (!nd i || jG C o (ed all o e')))
   (aA C o { env:=ed all o e',G:=bw (ms.getD i 0) N B } fun s' =>
    yu C all ms nd (i+1) r (yZ o.dst (s'.env.get (o.dst.getD 0)) e') ((i,s'.G.take (s'.G.length - (bw (ms.getD i 0) N B).length)) :: N) B K) none)
   (skip:=fun e'=>yu C all ms nd (i+1) r (yZ o.dst (.av .undef) e') N B K) h with ⟨hg,e',he',h⟩ | ⟨hg,e',he',h⟩
  ·rw [qB he'] at h
   cases hc:(la C o (ed all o e) && ((ed all o e).all fun p=>px (bw (ms.getD i 0) N B) p.2) && (N.all fun p=>!(bit (ms.getD i 0) p.1) || sH (bw (ms.getD i 0) N B) p.2) && (!nd i || jG C o (ed all o e))) with
   | false=>rw [hc] at h; cases h
   | true =>
    rw [hc,cond_true] at h
    simp only [A4] at hc
    obtain ⟨⟨⟨c1,c2⟩,c3⟩,c4⟩:=hc
    have c4:nd i=true→jG C o (ed all o e)=true:=fun hn=>by rw [hn] at c4; simpa using c4
    rw [tD (by exact c1)] at h
    obtain ⟨s',hs',h⟩:=B6.1 h
    obtain ⟨X1,hX1⟩:=tA o s' hs'
    have hX1:s'.G=X1++bw (ms.getD i 0) N B:=hX1
    have ht:s'.G.take (s'.G.length - (bw (ms.getD i 0) N B).length)=X1:=by
     rw [hX1]; simp
    rw [ht] at h
    refine key (s'.env.get (o.dst.getD 0)) X1 _ _ h ?_
    intro V X E L a1 a2 a3 a4 a5 a6
    refine ⟨fun t=>?_,.inl ⟨by rw [a3]; exact hg,by rw [a6,a2,a5],by rw [a3,a5]; exact c2,by rw [a5]; exact c3,by rw [a3]; exact c4,s',by rw [a3,a5]; exact hs',a1,by rw [a2,a5]; exact hX1⟩⟩
    rw [a4,a1,a3,tC,he' t]
  ·refine key (.av .undef) [] _ _ h ?_
   intro V X E L a1 a2 a3 a4 a5 a6
   refine ⟨fun t=>?_,.inr ⟨by rw [a3]; exact hg,by rw [a6,a5],a1,a2⟩⟩
   rw [a4,a1,a3,tC,he' t]
def ul (C:Ctx) (all:List Oper) (kd:Nat→Bool) (V:Nat→SV) (E:Nat→Env) (H:Nat→Heap) (j:Nat) (o:Oper):Prop :=
 (∀ t,(E (j+1)).get t=if o.dst=some t then V j else (E j).get t) ∧
 ((mr all o (E j) true∧∃ s',aA C o ⟨ed all o (E j),H j⟩ some=some s'∧V j=s'.env.get (o.dst.getD 0)∧s'.G=H (j+1)∧(kd j=true→∀ id l,C.vr id=false→(H j).get id=some (.box l)→(H (j+1)).get id=some (.box l))) ∨
  (mr all o (E j) false∧V j=.av .undef∧H (j+1)=H j))
theorem xU (dst:Option Nat) (v:SV) (e:Env) (G:Heap) (t:Nat):(aG dst v ⟨e,G⟩).env.get t=if dst=some t then v else e.get t:=by
 cases dst with
 | none=>simp [aG]
 | some d=>simp [aG,Env.get_cons]
theorem rB {kd:Nat→Bool} {K:Env→Heap→Option R}:∀ (r:List Oper) (i:Nat) (e:Env) (G:Heap),(∀ j,j < r.length→r[j]?=all[i+j]?)→yo C all kd i r e G K=some res →
  ∃ (V:Nat→SV) (E:Nat→Env) (H:Nat→Heap),E i=e∧H i=G∧K (E (i+r.length)) (H (i+r.length))=some res ∧
   ∀ j o,i≤j→j < i+r.length→all[j]?=some o→ul C all kd V E H j o
 | [],i,e,G,_,h=>⟨fun _=>.av .u,fun _=>e,fun _=>G,rfl,rfl,h,fun j o h1 h2=>by simp at h2; omega⟩
 | o :: r,i,e,G,hl,h=>by
  have hi:all[i]?=some o:=by simpa using (hl 0 (by simp)).symm
  have hl':∀ j,j < r.length→r[j]?=all[i+1+j]?:=fun j hj=>by have:=hl (j+1) (by simp; omega); simpa [Lo,NM 1 j] using this
  unfold yo at h
  have key:∀ (v:SV) (e1:Env) (G1:Heap),yo C all kd (i+1) r e1 G1 K=some res →
    (∀ (V:Nat→SV) (E:Nat→Env) (H:Nat→Heap),V i=v→E i=e→E (i+1)=e1→H i=G→H (i+1)=G1→ul C all kd V E H i o) →
    ∃ (V:Nat→SV) (E:Nat→Env) (H:Nat→Heap),E i=e∧H i=G∧K (E (i+(o :: r).length)) (H (i+(o :: r).length))=some res ∧
     ∀ j o',i≤j→j < i+(o :: r).length→all[j]?=some o'→ul C all kd V E H j o':=by
   intro v e1 G1 h1 h2
   obtain ⟨V,E,H,q1,q2,q3,q4⟩:=rB r (i+1) e1 G1 hl' h1
   refine ⟨fun j=>if j=i then v else V j,fun j=>if j=i then e else E j,fun j=>if j=i then G else H j,by simp,by simp,?_,?_⟩
   ·rw [La,show i+(r.length+1)=i+1+r.length by omega,eQ E e (by omega:i < i+1+r.length),eQ H G (by omega:i < i+1+r.length)]
    exact q3
   ·intro j o' hj1 hj2 ho'
    rcases LC hj1 with rfl | hj1
    ·rw [hi] at ho'; cases ho'
     exact h2 _ _ _ (by simp) (by simp) (by simp [q1]) (by simp) (by simp [q2])
    ·have:=q4 j o' hj1 (by simp at hj2; omega) ho'
     unfold ul at this ⊢
     rw [eQ V v hj1,eQ E e hj1,eQ E e (by omega:i < j+1),eQ H G hj1,eQ H G (by omega:i < j+1)]
     exact this
  rcases rY (all:=all) (o:=o) (e:=e) (run:=fun e'=>cond (la C o (ed all o e')) (aA C o { env:=ed all o e',G:=G } fun s' =>
   cond (!kd i || lh C G s'.G) (yo C all kd (i+1) r (aG o.dst (s'.env.get (o.dst.getD 0)) { env:=e',G:=[] }).env s'.G K) none) none)
   (skip:=fun e'=>yo C all kd (i+1) r (aG o.dst (.av .undef) { env:=e',G:=[] }).env G K) h with ⟨hg,e',he',h⟩ | ⟨hg,e',he',h⟩
  ·rw [qB he'] at h
   cases hc:la C o (ed all o e) with
   | false=>rw [hc] at h; cases h
   | true =>
    rw [hc,cond_true,tD (by exact hc)] at h
    obtain ⟨s',hs',h⟩:=B6.1 h
    obtain ⟨X1,hX1⟩:=tA o s' hs'
    cases hkb:(!kd i || lh C G s'.G) with
    | false=>rw [hkb] at h; cases h
    | true =>
    rw [hkb,cond_true] at h
    have hkb:kd i=true→∀ id l,C.vr id=false→G.get id=some (.box l)→s'.G.get id=some (.box l):=fun hk=>uY (by rw [hk] at hkb; simpa using hkb) hX1
    refine key (s'.env.get (o.dst.getD 0)) _ _ h ?_
    intro V E H a1 a2 a3 a4 a5
    refine ⟨fun t=>?_,.inl ⟨by rw [a2]; exact hg,s',by rw [a2,a4]; exact hs',a1,a5.symm,by rw [a4,a5]; exact hkb⟩⟩
    rw [a3,a1,a2,xU,he' t]
  ·refine key (.av .undef) _ _ h ?_
   intro V E H a1 a2 a3 a4 a5
   refine ⟨fun t=>?_,.inr ⟨by rw [a2]; exact hg,a1,by rw [a5,a4]⟩⟩
   rw [a3,a1,a2,xU,he' t]
theorem lM {m j:Nat}:bit m j=true↔m.testBit j=true:=by
 unfold bit Nat.testBit
 constructor
 ·intro h; rw [A5 h]; rfl
 ·intro h
  rw [Nat.one_and_eq_mod_two] at h ⊢
  have:(m >>> j) % 2 < 2:=Nat.mod_lt _ (by omega)
  have h0:(m >>> j) % 2≠0:=by simpa using h
  have:(m >>> j) % 2=1:=by omega
  rw [this]; rfl
def kw (acc:List Nat) (o:Oper):Nat:=o.after.toList.foldl (fun m e=>cond (Region.binds .any e) (m ||| 2 ^ e.on ||| acc.getD e.on 0) m) 0
theorem BS:∀ (l:List Oper) (acc:List Nat),∃ r,gg l acc=acc++r∧r.length=l.length
 | [],acc=>⟨[],by simp [gg],rfl⟩
 | o :: l,acc=>by
  obtain ⟨r,h1,h2⟩:=BS l (acc++[kw acc o])
  exact ⟨kw acc o :: r,by show gg l (acc++[kw acc o])=_; rw [h1]; simp,by simp [h2]⟩
theorem xM:∀ (l:List Oper) (acc:List Nat) (j:Nat) (o:Oper),l[j]?=some o→(gg l acc).getD (acc.length+j) 0=kw ((gg l acc).take (acc.length+j)) o
 | [],_,j,_,h=>by simp at h
 | o :: l,acc,0,o',h=>by
  simp only [Lt,A1] at h
  subst h
  obtain ⟨r,h1,_⟩:=BS l (acc++[kw acc o])
  show (gg l (acc++[kw acc o])).getD _ 0=kw ((gg l (acc++[kw acc o])).take _) o
  rw [h1]
  simp
 | o :: l,acc,j+1,o',h=>by
  have:=xM l (acc++[kw acc o]) j o' (by simpa using h)
  rw [show acc.length+(j+1)=(acc++[kw acc o]).length+j by simp; omega]
  exact this
theorem yn (acc:List Nat) (j:Nat):∀ (l:List Edge) (m:Nat),bit (l.foldl (fun m e=>cond (Region.binds .any e) (m ||| 2 ^ e.on ||| acc.getD e.on 0) m) m) j=true ↔
  bit m j=true∨∃ e∈l,Region.binds .any e=true∧(e.on=j∨bit (acc.getD e.on 0) j=true)
 | [],m=>by simp
 | e :: l,m=>by
  rw [List.foldl_cons,yn acc j l]
  cases hb:Region.binds .any e with
  | false=>simp [hb]
  | true =>
   simp only [cond_true,lM,Nat.testBit_or,Nat.testBit_two_pow,LV,decide_eq_true_eq,B3,exists_eq_or_imp,hb,true_and]
   constructor
   ·rintro ((h | h) | h)
    ·rcases h with h | h
     ·exact .inl h
     ·exact .inr (.inl (.inl h))
    ·exact .inr (.inl (.inr h))
    ·exact .inr (.inr h)
   ·rintro (h | (h | h) | h)
    ·exact .inl (.inl (.inl h))
    ·exact .inl (.inl (.inr h))
    ·exact .inl (.inr h)
    ·exact .inr h
end
end Go.Vm

/-
 What must come before what; memory and slots behind a set of operations.
-/
namespace Go.Vm
section
variable {C:Ctx} {R:Type} {res:R} {all:List Oper}
def Fr (k:Nat) (nd:Nat→Bool) (j:Nat) (o:Oper):Bool:=gh o || (decide (j < k) && nd j)
structure OrdOK (all:List Oper) (ms:List Nat) (k:Nat) (nd kd:Nat→Bool):Prop where
 le:k≤all.length
 edge:∀ (i:Nat) (o:Oper) (e:Edge),all[i]?=some o→e∈o.after.toList→Region.binds .any e=true→e.on < i
 pre:∀ i o j,all[i]?=some o→(bit (ms.getD i 0) j=true↔∃ e∈o.after.toList,Region.binds .any e=true∧(e.on=j∨bit (ms.getD e.on 0) j=true))
 cls:∀ i j,i < k→j < k→(kX all).getD i 0=(kX all).getD j 0→i=j
 looks:∀ i o t,all[i]?=some o→t∈looks all o→∀ q o',all[q]?=some o'→o'.dst=some t→bit (ms.getD i 0) q=true∨bit (ms.getD q 0) i=true
 uniq:∀ (p q:Nat) (o o':Oper) (d:Nat),all[p]?=some o→all[q]?=some o'→o.dst=some d→o'.dst=some d→p=q
 chain:∀ i o,k≤i→all[i]?=some o→∀ j o',j < i→all[j]?=some o'→bit (ms.getD i 0) j=true∨Fr k nd j o'=true
 kept:∀ i j,k≤i→i < all.length→j < k→nd j=true→bit (ms.getD i 0) j=false→kd i=true
theorem OrdOK.lt {ms:List Nat} {k:Nat} {nd kd:Nat→Bool} (h:OrdOK all ms k nd kd):∀ {i j:Nat},i < all.length→bit (ms.getD i 0) j=true→j < i:=by
 intro i
 induction i using Nat.strongRecOn with
 | ind i ih =>
  intro j hi hb
  obtain ⟨o,ho⟩ : ∃ o,all[i]?=some o:=⟨_,A2 hi⟩
  obtain ⟨e,he,hbe,h1⟩:=(h.pre i o j ho).1 hb
  have hlt:=h.edge i o e ho he hbe
  rcases h1 with h1 | h1
  ·omega
  ·have:=ih e.on hlt (by omega) h1; omega
theorem qS:∀ {l:List Nat} {i j:Nat} {a:Nat},aK l=true→l[i]?=some a→l[j]?=some a→i=j
 | [],_,_,_,_,h,_=>by simp at h
 | b :: l,0,0,_,_,_,_=>rfl
 | b :: l,0,j+1,a,hn,h1,h2=>by
  simp only [aK,A4,Lz] at hn
  simp only [Lt,A1] at h1
  subst h1
  have hm:b∈l:=B2 (i:=j) (by simpa using h2)
  have:=hn.1
  rw [L4] at this
  exact absurd (M5 b) (by simpa using this b hm)
 | b :: l,i+1,0,a,hn,h1,h2=>by
  simp only [aK,A4,Lz] at hn
  simp only [Lt,A1] at h2
  subst h2
  have hm:b∈l:=B2 (i:=i) (by simpa using h1)
  have:=hn.1
  rw [L4] at this
  exact absurd (M5 b) (by simpa using this b hm)
 | b :: l,i+1,j+1,a,hn,h1,h2=>by
  simp only [aK,A4] at hn
  exact congrArg (·+1) (qS (i:=i) (j:=j) hn.2 (by simpa using h1) (by simpa using h2))
theorem jd:∀ {l:List Oper} {i j:Nat} {o o':Oper} {d:Nat},aK (l.filterMap fun o=>o.dst)=true→l[i]?=some o→l[j]?=some o'→o.dst=some d→o'.dst=some d→i=j
 | [],_,_,_,_,_,_,h,_,_,_=>by simp at h
 | b :: l,0,0,_,_,_,_,_,_,_,_=>rfl
 | b :: l,0,j+1,o,o',d,hn,h1,h2,d1,d2=>by
  simp only [Lt,A1] at h1
  subst h1
  rw [Nm d1] at hn
  simp only [aK,A4,Lz] at hn
  have hm:d∈l.filterMap fun o=>o.dst:=OA.2 ⟨o',B2 (i:=j) (by simpa using h2),d2⟩
  have:=hn.1
  rw [L4] at this
  exact absurd (M5 d) (by simpa using this d hm)
 | b :: l,i+1,0,o,o',d,hn,h1,h2,d1,d2=>by
  simp only [Lt,A1] at h2
  subst h2
  rw [Nm d2] at hn
  simp only [aK,A4,Lz] at hn
  have hm:d∈l.filterMap fun o=>o.dst:=OA.2 ⟨o,B2 (i:=i) (by simpa using h1),d1⟩
  have:=hn.1
  rw [L4] at this
  exact absurd (M5 d) (by simpa using this d hm)
 | b :: l,i+1,j+1,o,o',d,hn,h1,h2,d1,d2=>by
  have hn':aK (l.filterMap fun o=>o.dst)=true:=by
   cases hb:b.dst with
   | none=>rwa [List.filterMap_cons_none hb] at hn
   | some x =>
    rw [Nm hb] at hn
    simp only [aK,A4] at hn
    exact hn.2
  exact congrArg (·+1) (jd (i:=i) (j:=j) hn' (by simpa using h1) (by simpa using h2) d1 d2)
theorem mA {lt:Bool} {m:Nat}:∀ {l:List Oper} {j0 t:Nat} {o:Oper},fD lt m j0 l=true→l[t]?=some o→bit m (j0+t)=true∨gh o=true∨(lt=true∧vl o=true)
 | [],_,_,_,_,h=>by simp at h
 | b :: l,j0,0,o,h,h1=>by
  simp only [Lt,A1] at h1
  subst h1
  simp only [fD,A4,LV] at h
  rcases h.1 with (h | h) | h
  ·exact .inl h
  ·exact .inr (.inl h)
  ·exact .inr (.inr h)
 | b :: l,j0,t+1,o,h,h1=>by
  simp only [fD,A4] at h
  have:=mA h.2 (t:=t) (by simpa using h1)
  rwa [show j0+(t+1)=j0+1+t by omega]
theorem nF {lt:Bool} {ms:List Nat}:∀ {n i:Nat},n - je lt all ms n≤i→i < n→fD (lt && !iD all i) (ms.getD i 0) 0 (all.take i)=true
 | 0,_,_,h=>by omega
 | n+1,i,h,hi=>by
  simp only [je] at h
  cases hb:fD (lt && !iD all n) (ms.getD n 0) 0 (all.take n) with
  | false=>rw [hb] at h; simp at h; omega
  | true =>
   rw [hb,cond_true] at h
   rcases LC (LX hi) with rfl | hlt
   ·exact hb
   ·exact nF (by omega) hlt
theorem v8 {l:List Oper} {i:Nat} {o:Oper} (h:l[i]?=some o):(o,i)∈l.zipIdx:=by
 rw [List.mem_zipIdx_iff_getElem?]; exact h
theorem IC {lt:Bool} {k:Nat} (hk:k=all.length - je lt all (gg all []) all.length) (h:okA lt all (gg all []) k=true):OrdOK all (gg all []) k (wY lt all (gg all []) k) (F5 lt all (gg all []) k):=by
 simp only [okA,A4] at h
 obtain ⟨⟨⟨⟨h0,h1⟩,h2⟩,h4⟩,h5⟩:=h
 simp only [Lg] at h1 h4
 have hle:k≤all.length:=by omega
 have hedge:∀ (i:Nat) (o:Oper) (e:Edge),all[i]?=some o→e∈o.after.toList→Region.binds .any e=true→e.on < i:=by
  intro i o e ho he hb
  have:=h1 (o,i) (v8 ho) e he
  rw [hb] at this
  exact B7 (by simpa [NC] using this)
 refine ⟨hle,hedge,?_,?_,?_,fun p q o o' d=>jd h5,?_,?_⟩
 ·intro i o j ho
  have hg:=xM all [] i o ho
  simp only [List.length_nil,Ln] at hg
  rw [hg]
  unfold kw
  rw [yn]
  constructor
  ·rintro (h | ⟨e,he,hb,h⟩)
   ·simp [bit] at h
   ·refine ⟨e,he,hb,?_⟩
    rcases h with h | h
    ·exact .inl h
    ·right
     have hlt:=hedge i o e ho he hb
     rw [B5,Ls,if_pos hlt,← B5] at h
     exact h
  ·rintro ⟨e,he,hb,h⟩
   right
   refine ⟨e,he,hb,?_⟩
   rcases h with h | h
   ·exact .inl h
   ·right
    have hlt:=hedge i o e ho he hb
    rw [B5,Ls,if_pos hlt,← B5]
    exact h
 ·intro i j hi hj he
  have get:∀ i,i < k→(kX (all.take k))[i]?=some ((kX all).getD i 0):=by
   intro i hi
   obtain ⟨o,ho⟩ : ∃ o,all[i]?=some o:=⟨_,A2 (by omega)⟩
   simp [kX,Ls,hi,ho,B5]
  exact qS h2 (get i hi) (by rw [he]; exact get j hj)
 ·intro i o t ho ht q o' ho' hd
  have:=h4 (o,i) (v8 ho) t ht (o',q) (v8 ho')
  simp only [hd,M5,cond_true,LV] at this
  exact this
 ·intro i o hi ho j o' hj ho'
  have hlt:i < all.length:=(A3.1 ho).1
  cases hbit:bit ((gg all []).getD i 0) j with
  | true=>exact .inl rfl
  | false =>
  right
  have:=mA (nF (lt:=lt) (all:=all) (ms:=gg all []) (n:=all.length) (by omega) hlt) (t:=j) (o:=o') (by rw [Ls,if_pos hj]; exact ho')
  rw [Ln,hbit] at this
  unfold Fr
  rcases this with h | h | ⟨h,hl⟩
  ·cases h
  ·rw [h]; rfl
  ·simp only [A4] at h
   obtain ⟨hlt2,_⟩:=h
   have hla:iD all j=true:=by simp [iD,ho',hl]
   have hjk:j < k:=by
    rcases Nat.lt_or_ge j k with hjk | hjk
    ·exact hjk
    ·rw [hlt2] at h0
     have h0:vg all (gg all []) k=true:=by simpa using h0
     unfold vg at h0
     rw [Lg] at h0
     have h0:=h0 i (Ma.2 hlt)
     have:NC i k=false:=by
      cases hq:NC i k with
      | false=>rfl
      | true =>
       have:i < k:=by simpa [Pb] using hq
       omega
     rw [this,MC,Lg] at h0
     have h0:=h0 j (Ma.2 hj)
     have:NC j k=false:=by
      cases hq:NC j k with
      | false=>rfl
      | true =>
       have:j < k:=by simpa [Pb] using hq
       omega
     rw [this,hbit,hla] at h0
     cases h0
   have:wY lt all (gg all []) k j=true:=by
    unfold wY
    rw [hlt2,hla,Nn,Nn,L9]
    exact ⟨i,Ma.2 hlt,by rw [hbit]; simp [Nat.ble_eq,hi]⟩
   rw [this]
   simp [hjk]
 ·intro i j hi hil hj hn hb
  unfold wY at hn
  simp only [A4] at hn
  obtain ⟨⟨hl,hla⟩,_⟩:=hn
  unfold F5
  rw [hl,Nn,L9]
  exact ⟨j,Ma.2 hj,by rw [hla,hb]; rfl⟩
structure Trace (C:Ctx) (all:List Oper) (ms:List Nat) (k:Nat) (nd kd:Nat→Bool) (s:St) (V:Nat→SV) (X:Nat→Heap) (E:Nat→Env) (L:Nat→List (Nat×Heap)) (H:Nat→Heap):Prop where
 e0:E 0=s.env
 l0:L 0=[]
 stepA:∀ j o,j < k→all[j]?=some o→t6 C all ms nd s.G V X E L j o
 stepT:∀ j o,k≤j→all[j]?=some o→ul C all kd V E H j o
 hk:H k=(L k).foldr (fun p G=>p.2++G) s.G
theorem s7 {lt:Bool} {s:St} {K:St→Option R} (h:qf C lt all s K=some res) :
  ∃ k nd kd V X E L H,OrdOK all (gg all []) k nd kd∧Trace C all (gg all []) k nd kd s V X E L H∧okN all (gg all []) k (L k) s.G=true∧K ⟨E all.length,H all.length⟩=some res:=by
 unfold qf at h
 dsimp only at h
 obtain ⟨k,hk⟩ : ∃ k,k=all.length - je lt all (gg all []) all.length:=⟨_,rfl⟩
 rw [← hk] at h
 cases hA:okA lt all (gg all []) k with
 | false=>rw [hA] at h; cases h
 | true =>
  rw [hA,cond_true] at h
  have ho:=IC hk hA
  have hle:=ho.le
  obtain ⟨V,X,E,L,a1,a2,a3,a4⟩:=sQ (all.take k) 0 s.env [] (fun j hj=>by rw [Ls]; simp at hj; simp; omega) h
  have hl:(all.take k).length=k:=by simp; omega
  simp only [Ln,hl] at a3 a4
  cases hN:okN all (gg all []) k (L k) s.G with
  | false=>rw [hN] at a3; cases a3
  | true =>
   rw [hN,cond_true] at a3
   obtain ⟨V2,E2,H,b1,b2,b3,b4⟩:=rB (all.drop k) k (E k) _ (fun j hj=>by rw [List.getElem?_drop]) a3
   have hl2:k+(all.drop k).length=all.length:=by simp; omega
   rw [hl2] at b3 b4
   refine ⟨k,_,_,fun i=>if i < k then V i else V2 i,X,fun i=>if i < k then E i else E2 i,L,H,ho,⟨?_,a2,?_,?_,b2⟩,hN,?_⟩
   ·by_cases h0:0 < k
    ·simp [h0,a1]
    ·have:k=0:=by omega
     subst this
     simp [b1,a1]
   ·intro j o hj hoj
    have:=a4 j o (Mr _) hj hoj
    have e1:(if j+1 < k then E (j+1) else E2 (j+1))=E (j+1):=by
     split
     ·rfl
     ·have:j+1=k:=by omega
      rw [this,b1]
    unfold t6 at this ⊢
    dsimp only
    rw [e1,if_pos hj,if_pos hj]
    exact this
   ·intro j o hj hoj
    have:=b4 j o hj (A3.1 hoj).1 hoj
    unfold ul at this ⊢
    dsimp only
    rw [if_neg (by omega),if_neg (by omega),if_neg (by omega)]
    exact this
   ·dsimp only
    rw [if_neg (by omega)]
    exact b3
def ld (all:List Oper) (i:Nat):Option Nat:=(all[i]?).bind (·.dst)
def ml (all:List Oper) (V:Nat→SV) (e0:Env) (S:Nat→Bool):Nat→Nat→SV
 | 0,t=>e0.get t
 | i+1,t=>if S i=true∧ld all i=some t then V i else ml all V e0 S i t
def bg (S:Nat→Bool) (i:Nat):Nat→Bool:=fun j=>S j || j == i
theorem g7 {V:Nat→SV} {e0:Env} {S S':Nat→Bool} {t:Nat}:∀ {n:Nat},(∀ q,q < n→ld all q=some t→S q=S' q)→ml all V e0 S n t=ml all V e0 S' n t
 | 0,_=>rfl
 | n+1,h=>by
  simp only [ml]
  by_cases hd:ld all n=some t
  ·rw [h n (by omega) hd,g7 fun q hq=>h q (by omega)]
  ·simp only [hd,and_false,if_false]
   exact g7 fun q hq=>h q (by omega)
theorem oK {V:Nat→SV} {e0:Env} {S:Nat→Bool} {t:Nat}:∀ {n:Nat},(∀ q,q < n→ld all q=some t→S q=false)→ml all V e0 S n t=e0.get t
 | 0,_=>rfl
 | n+1,h=>by
  simp only [ml]
  rw [if_neg,oK fun q hq=>h q (by omega)]
  rintro ⟨h1,h2⟩
  rw [h n (by omega) h2] at h1; cases h1
theorem sL {ms:List Nat} {k:Nat} {nd kd:Nat→Bool} (ho:OrdOK all ms k nd kd) {V:Nat→SV} {e0:Env} {S:Nat→Bool} {i t:Nat}:∀ {n:Nat},n≤all.length→i < n→ml all V e0 (bg S i) n t=if ld all i=some t then V i else ml all V e0 S n t
 | 0,_,h=>by omega
 | n+1,hn,h=>by
  by_cases hd:ld all i=some t
  ·rw [if_pos hd]
   rcases LC (LX h) with rfl | hlt
   ·simp [ml,bg,hd]
   ·simp only [ml]
    rw [if_neg,sL ho (by omega) hlt,if_pos hd]
    rintro ⟨_,h2⟩
    unfold ld at hd h2
    obtain ⟨o,h3,h4⟩:=B6.1 hd
    obtain ⟨o',h5,h6⟩:=B6.1 h2
    have:=ho.uniq i n o o' t h3 h5 h4 h6
    omega
  ·rw [if_neg hd]
   refine g7 fun q _ hq=>?_
   have:q≠i:=fun e=>hd (e ▸ hq)
   simp [bg,this]
section
variable {ms:List Nat} {k:Nat} {nd kd:Nat→Bool} {s:St} {V:Nat→SV} {X:Nat→Heap} {E:Nat→Env} {L:Nat→List (Nat×Heap)} {H:Nat→Heap}
theorem Trace.env_step (ho:OrdOK all ms k nd kd) (h:Trace C all ms k nd kd s V X E L H) {i:Nat} {o:Oper} (hi:all[i]?=some o) (t:Nat):(E (i+1)).get t=if o.dst=some t then V i else (E i).get t:=by
 by_cases hk:i < k
 ·exact (h.stepA i o hk hi).1 t
 ·exact (h.stepT i o (by omega) hi).1 t
theorem Trace.env (ho:OrdOK all ms k nd kd) (h:Trace C all ms k nd kd s V X E L H):∀ {i:Nat},i≤all.length→∀ t,(E i).get t=ml all V s.env (fun q=>decide (q < i)) all.length t
 | 0,_,t=>by rw [h.e0,oK]; intro q _ _; simp
 | i+1,hi,t=>by
  obtain ⟨o,hoi⟩ : ∃ o,all[i]?=some o:=⟨_,A2 (by omega)⟩
  have hS:(fun q=>decide (q < i+1))=bg (fun q=>decide (q < i)) i:=by
   funext q
   unfold bg
   by_cases h1:q < i
   ·have:q < i+1:=by omega
    simp [h1,this]
   ·by_cases h2:q=i
    ·simp [h2]
    ·have:¬ q < i+1:=by omega
     simp [h1,h2,this]
  rw [h.env_step ho hoi,hS,sL ho (A7 _) (by omega),h.env ho (by omega)]
  simp [ld,hoi]
def Closed (all:List Oper) (ms:List Nat) (S:Nat→Bool):Prop:=∀ i,S i=true→i < all.length∧∀ j,bit (ms.getD i 0) j=true→S j=true
theorem Trace.seen (ho:OrdOK all ms k nd kd) (h:Trace C all ms k nd kd s V X E L H) {S:Nat→Bool} (hS:Closed all ms S) {i:Nat} {o:Oper} (hi:all[i]?=some o) (hn:S i=false) (hp:∀ j,bit (ms.getD i 0) j=true→S j=true)
  {t:Nat} (ht:t∈looks all o):(E i).get t=ml all V s.env S all.length t:=by
 have hlt:i < all.length:=(A3.1 hi).1
 rw [h.env ho (by omega)]
 refine g7 fun q hq hd=>?_
 unfold ld at hd
 obtain ⟨o',h1,h2⟩:=B6.1 hd
 rcases ho.looks i o t hi ht q o' h1 h2 with h3 | h3
 ·rw [hp q h3]; simp [ho.lt hlt h3]
 ·have:=ho.lt hq h3
  have hSq:S q=false:=by
   cases hh:S q with
   | false=>rfl
   | true=>rw [(hS q hh).2 i h3] at hn; cases hn
  rw [hSq]; simp; omega
theorem Closed.put (ho:OrdOK all ms k nd kd) {S:Nat→Bool} (hS:Closed all ms S) {i:Nat} (hi:i < all.length) (hp:∀ j,bit (ms.getD i 0) j=true→S j=true):Closed all ms (bg S i):=by
 intro j hj
 unfold bg at hj
 simp only [LV,beq_iff_eq] at hj
 rcases hj with hj | rfl
 ·exact ⟨(hS j hj).1,fun q hq=>by simp [bg,(hS j hj).2 q hq]⟩
 ·exact ⟨hi,fun q hq=>by simp [bg,hp q hq]⟩
def look (X:Nat→Heap) (B:Heap) (S:Nat→Bool):Nat→Nat→Option Obj
 | 0,id=>B.get id
 | j+1,id=>match cond (S j) ((X j).get id) none with
  | some o=>some o
  | none=>look X B S j id
theorem l5 {X:Nat→Heap} {B:Heap} {S:Nat→Bool} {id:Nat} {o:Obj}:∀ {j:Nat},look X B S j id=some o →
  (∃ q,q < j∧S q=true∧(X q).get id=some o∧∀ q',q < q'→q' < j→S q'=true→(X q').get id=none)∨((∀ q,q < j→S q=true→(X q).get id=none)∧B.get id=some o)
 | 0,h=>.inr ⟨fun q hq=>by omega,h⟩
 | j+1,h=>by
  simp only [look] at h
  split at h
  ·rename_i o' ho'
   cases h
   cases hS:S j with
   | false=>rw [hS] at ho'; cases ho'
   | true=>rw [hS] at ho'; exact .inl ⟨j,by omega,hS,ho',fun q' h1 h2=>by omega⟩
  ·rename_i hn
   have hj:S j=true→(X j).get id=none:=fun hS=>by rw [hS] at hn; exact hn
   rcases l5 h with ⟨q,h1,h2,h3,h4⟩ | ⟨h1,h2⟩
   ·refine .inl ⟨q,by omega,h2,h3,fun q' g1 g2 g3=>?_⟩
    rcases LC (LX g2) with rfl | g2
    ·exact hj g3
    ·exact h4 q' g1 g2 g3
   ·refine .inr ⟨fun q g1 g2=>?_,h2⟩
    rcases LC (LX g1) with rfl | g1
    ·exact hj g2
    ·exact h1 q g1 g2
theorem iV {X:Nat→Heap} {B:Heap} {S:Nat→Bool} {id:Nat}:∀ {j:Nat},(∀ q,q < j→S q=true→(X q).get id=none)→look X B S j id=B.get id
 | 0,_=>rfl
 | j+1,h=>by
  simp only [look]
  cases hS:S j with
  | false=>exact iV fun q hq=>h q (by omega)
  | true=>rw [cond_true,h j (by omega) hS]; exact iV fun q hq=>h q (by omega)
theorem vS {X:Nat→Heap} {B:Heap} {S:Nat→Bool} {id:Nat} {o:Obj}:∀ {j q:Nat},q < j→S q=true→(X q).get id=some o→(∀ q',q < q'→q' < j→S q'=true→(X q').get id=none)→look X B S j id=some o
 | 0,_,h,_,_,_=>by omega
 | j+1,q,h,hS,ho,hl=>by
  simp only [look]
  rcases LC (LX h) with rfl | hlt
  ·rw [hS,cond_true,ho]
  ·have:cond (S j) ((X j).get id) none=none:=by
    cases hSj:S j with
    | false=>rfl
    | true=>exact hl j hlt (by omega) hSj
   rw [this]
   exact vS hlt hS ho fun q' h1 h2=>hl q' h1 (by omega)
theorem im {X:Nat→Heap} {B:Heap} {S S':Nat→Bool} {id:Nat}:∀ {j:Nat},(∀ q,q < j→S q=S' q∨(X q).get id=none)→look X B S j id=look X B S' j id
 | 0,_=>rfl
 | j+1,h=>by
  simp only [look]
  have:cond (S j) ((X j).get id) none=cond (S' j) ((X j).get id) none:=by
   rcases h j (by omega) with h | h
   ·rw [h]
   ·rw [h]; cases S j <;> cases S' j <;> rfl
  rw [this]
  split
  ·rfl
  ·exact im fun q hq=>h q (by omega)
theorem Trace.l_step (h:Trace C all ms k nd kd s V X E L H) {j:Nat} (hj:j < k) (hle:k≤all.length):L (j+1)=(j,X j) :: L j∨(L (j+1)=L j∧X j=[]):=by
 obtain ⟨o,ho⟩ : ∃ o,all[j]?=some o:=⟨_,A2 (by omega)⟩
 rcases (h.stepA j o hj ho).2 with ⟨_,h1,_⟩ | ⟨_,h1,_,h2⟩
 ·exact .inl h1
 ·exact .inr ⟨h1,h2⟩
theorem Trace.heapFor_get (h:Trace C all ms k nd kd s V X E L H) (hle:k≤all.length) (m:Nat):∀ {j:Nat},j≤k→∀ id,(bw m (L j) s.G).get id=look X s.G (bit m) j id
 | 0,_,id=>by rw [h.l0]; rfl
 | j+1,hj,id=>by
  simp only [look]
  have ih:=h.heapFor_get hle m (j:=j) (by omega) id
  rcases h.l_step (by omega:j < k) hle with h1 | ⟨h1,h2⟩
  ·rw [h1]
   show (cond (bit m j) (X j++bw m (L j) s.G) (bw m (L j) s.G)).get id=_
   cases hb:bit m j with
   | false=>exact ih
   | true =>
    rw [cond_true,cond_true,Heap.get_append,ih]
    try (cases (X j).get id <;> rfl)
  ·rw [h1,h2,ih]
   have:cond (bit m j) (Heap.get [] id) none=none:=by cases bit m j <;> rfl
   rw [this]
theorem Trace.all_get (h:Trace C all ms k nd kd s V X E L H) (hle:k≤all.length):∀ {j:Nat},j≤k→∀ id,((L j).foldr (fun p G=>p.2++G) s.G).get id=look X s.G (fun _=>true) j id
 | 0,_,id=>by rw [h.l0]; rfl
 | j+1,hj,id=>by
  simp only [look,cond_true]
  have ih:=h.all_get hle (j:=j) (by omega) id
  rcases h.l_step (by omega:j < k) hle with h1 | ⟨h1,h2⟩
  ·rw [h1,List.foldr_cons,Heap.get_append,ih]
   try (show (match (X j).get id with | some o=>some o | none=>_)=_; cases (X j).get id <;> rfl)
  ·rw [h1,h2,ih]; rfl
theorem Trace.l_mem (h:Trace C all ms k nd kd s V X E L H) (hle:k≤all.length):∀ {j q:Nat},j≤k→q < j→X q=[]∨(q,X q)∈L j
 | 0,_,_,hq=>by omega
 | j+1,q,hj,hq=>by
  rcases h.l_step (by omega:j < k) hle with h1 | ⟨h1,h2⟩
  ·rw [h1]
   rcases LC (LX hq) with rfl | hlt
   ·exact .inr (by simp)
   ·rcases h.l_mem hle (by omega) hlt with h | h
    ·exact .inl h
    ·exact .inr (by simp [h])
  ·rw [h1]
   rcases LC (LX hq) with rfl | hlt
   ·exact .inl h2
   ·exact h.l_mem hle (by omega) hlt
structure Sep (all:List Oper) (ms:List Nat) (k:Nat) (X:Nat→Heap) (B:Heap):Prop where
 base:∀ q id o,q < k→(X q).get id=some o→B.get id=none
 two:∀ p q id o o',p < k→q < k→(X p).get id=some o→(X q).get id=some o'→p=q ∨
  ((bit (ms.getD p 0) q=true∨bit (ms.getD q 0) p=true)∧∀ i,i < k→bit (ms.getD i 0) p=false∨i=q∨bit (ms.getD i 0) q=true∨bit (ms.getD q 0) i=true)
theorem Trace.sep (h:Trace C all ms k nd kd s V X E L H) (hle:k≤all.length) (hN:okN all ms k (L k) s.G=true):Sep all ms k X s.G:=by
 have mem:∀ q id o,q < k→(X q).get id=some o→(q,X q)∈L k∧(id,o)∈X q:=by
  intro q id o hq hg
  rcases h.l_mem hle (A7 _) hq with h1 | h1
  ·rw [h1] at hg; simp [Heap.get] at hg
  ·exact ⟨h1,Heap.mem_of_get hg⟩
 simp only [okN,Lg] at hN
 refine ⟨fun q id o hq hg=>?_,fun p q id o o' hp hq hg hg'=>?_⟩
 ·obtain ⟨h1,h2⟩:=mem q id o hq hg
  have:=hN _ h1 _ h2
  simp only [A4,Lz] at this
  cases hb:s.G.get id with
  | none=>rfl
  | some o'=>have h3:=this.1.1; rw [Heap.has_of_get hb] at h3; cases h3
 ·obtain ⟨h1,h2⟩:=mem p id o hp hg
  obtain ⟨h3,h4⟩:=mem q id o' hq hg'
  have:=hN _ h1 _ h2
  simp only [A4] at this
  have:=this.2
  rw [Lg] at this
  have:=this _ h3
  simp only [LV,A4] at this
  rcases this with (h5 | h5) | ⟨h5,h6⟩
  ·exact .inl (A5 h5)
  ·simp only [Lz] at h5
   rw [L4] at h5
   exact absurd (M5 (id % 1000)) (by simpa using h5 _ h4)
  ·refine .inr ⟨h5,fun i hi=>?_⟩
   rw [Lg] at h6
   have:=h6 i (by simpa using hi)
   simp only [LV,Lz] at this
   rcases this with ((h7 | h7) | h7) | h7
   ·exact .inl h7
   ·exact .inr (.inl (A5 h7))
   ·exact .inr (.inr (.inl h7))
   ·exact .inr (.inr (.inr h7))
theorem wQ (ho:OrdOK all ms k nd kd) {B:Heap} (hX:Sep all ms k X B) {S:Nat→Bool} (hS:Closed all ms S) {i:Nat} (hi:i < k) (hn:S i=false) (hp:∀ j,bit (ms.getD i 0) j=true→S j=true)
  {id:Nat} {o:Obj} (hg:look X B (bit (ms.getD i 0)) i id=some o):look X B S k id=some o:=by
 have hle:=ho.le
 rcases l5 hg with ⟨q,h1,h2,h3,h4⟩ | ⟨h1,h2⟩
 ·refine vS (by omega) (hp q h2) h3 fun q' g1 g2 g3=>?_
  cases hx:(X q').get id with
  | none=>rfl
  | some o' =>
   rcases hX.two q q' id o o' (by omega) g2 h3 hx with e | ⟨e1,e2⟩
   ·omega
   ·rcases e2 i hi with e | e | e | e
    ·rw [h2] at e; cases e
    ·subst e; rw [hn] at g3; cases g3
    ·rw [h4 q' g1 (ho.lt (by omega) e) e] at hx; cases hx
    ·rw [(hS q' g3).2 i e] at hn; cases hn
 ·rw [iV,h2]
  intro q g1 g2
  cases hx:(X q).get id with
  | none=>rfl
  | some o'=>rw [hX.base q id o' g1 hx] at h2; cases h2
theorem Eb (ho:OrdOK all ms k nd kd) {B:Heap} (hX:Sep all ms k X B) {S:Nat→Bool} (hS:Closed all ms S) {i:Nat} (hi:i < k) (hn:S i=false)
  {id:Nat} {o:Obj} (hx:(X i).get id=some o) (hg:look X B (bit (ms.getD i 0)) i id=none):look X B S k id=none:=by
 have hle:=ho.le
 cases hl:look X B S k id with
 | none=>rfl
 | some o' =>
  rcases l5 hl with ⟨q,h1,h2,h3,h4⟩ | ⟨h1,h2⟩
  ·rcases hX.two i q id o o' hi h1 hx h3 with e | ⟨e1,_⟩
   ·subst e; rw [hn] at h2; cases h2
   ·rcases e1 with e | e
    ·have hlt:=ho.lt (by omega) e
     exfalso
     -- the last of them
     have:∀ j,j≤i→q < j→look X B (bit (ms.getD i 0)) j id≠none:=by
      intro j
      induction j with
      | zero=>intro _ h; omega
      | succ j ih =>
       intro hj hq
       simp only [look]
       split
       ·simp
       ·rename_i hnone
        rcases LC (LX hq) with rfl | hq
        ·rw [e,cond_true,h3] at hnone; cases hnone
        ·exact ih (by omega) hq
     exact this i (A7 _) hlt hg
    ·rw [(hS q h2).2 i e] at hn; cases hn
  ·rw [hX.base i id o hi hx] at h2; cases h2
theorem Ed (ho:OrdOK all ms k nd kd) {B:Heap} (hX:Sep all ms k X B) {S:Nat→Bool} (hS:Closed all ms S) {i:Nat} (hi:i < k) (hn:S i=false) (id:Nat) :
  look X B (bg S i) k id=(match (X i).get id with | some o=>some o | none=>look X B S k id):=by
 have hle:=ho.le
 cases hx:(X i).get id with
 | some o =>
  refine vS hi (by simp [bg]) hx fun q g1 g2 g3=>?_
  cases hq:(X q).get id with
  | none=>rfl
  | some o' =>
   have hSq:S q=true:=by
    simp only [bg,LV,beq_iff_eq] at g3
    rcases g3 with g3 | g3
    ·exact g3
    ·omega
   rcases hX.two i q id o o' hi g2 hx hq with e | ⟨e1,_⟩
   ·omega
   ·rcases e1 with e | e
    ·have:=ho.lt (by omega) e; omega
    ·rw [(hS q hSq).2 i e] at hn; cases hn
 | none =>
  refine im fun q _=>?_
  by_cases e:q=i
  ·subst e; exact .inr hx
  ·left; simp [bg,e]
end
end
end Go.Vm

/-
 Regions whose operations stand in no fixed order.
-/
namespace Go.Vm
section
variable {P:Program} {C:Ctx} {w0:World} {M:Own} {N:Nat} {ops:Array Oper} {ms:List Nat} {k:Nat} {s:St} {nd kd:Nat→Bool} {V:Nat→SV} {X:Nat→Heap} {E:Nat→Env} {L:Nat→List (Nat×Heap)} {H:Nat→Heap} {a:Act}
theorem nz {m:Mem} {f:Nat→SV} {o:Oper} {e:Env} {b:Bool} (hS:∀ t,RelSV m (a.tmps.getD t undef) (f t)) (he:∀ t∈looks ops.toList o,e.get t=f t) (hg:mr ops.toList o e b) :
  Region.wanted o (yielded ops a.tmps)=b:=by
 have slot:∀ {j want d},o.guard=some (j,want)→fl ops.toList j=some d→d∈looks ops.toList o:=by
  intro j want d h1 h2
  unfold looks
  rw [h1]
  simp [h2]
 have yv:∀ {j d},fl ops.toList j=some d→(ops[j]?).bind (·.dst)=some d:=by
  intro j d hj
  unfold fl at hj
  rw [LO] at hj
  split at hj
  ·rename_i o ho; simp [ho,hj]
  ·simp at hj
 have get:∀ d v,a.tmps.getD d undef=v→v≠undef→a.tmps[d]?=some v:=by
  intro d v h hne
  rw [Md] at h
  cases hg:a.tmps[d]? with
  | none=>rw [hg] at h; exact absurd h.symm hne
  | some u=>rw [hg] at h; simp at h; rw [h]
 cases b with
 | true =>
  rcases hg with hg | ⟨j,want,d,h1,h2,h3⟩
  ·simp [Region.wanted,hg]
  ·have hv:=hS d
   rw [← he d (slot h1 h2),h3] at hv
   have hv:=get d _ (rel_bool hv) (by simp [undef])
   simp [Region.wanted,h1,yielded,yv h2,hv]
 | false =>
  obtain ⟨j,want,d,h1,h2,h3⟩:=hg
  have hv:=hS d
  rw [← he d (slot h1 h2)] at hv
  rcases h3 with h3 | h3
  ·rw [h3] at hv
   have hv:a.tmps.getD d undef=undef:=hv
   rw [Md] at hv
   simp only [Region.wanted,h1,yielded,yv h2,gr]
   cases hg:a.tmps[d]? with
   | none=>simp
   | some v=>rw [hg] at hv; simp at hv; subst hv; simp [undef]
  ·rw [h3] at hv
   have hv:=get d _ (rel_bool hv) (by simp [undef])
   simp [Region.wanted,h1,yielded,yv h2,hv]
theorem CT {m m':Mem} {o:Oper} {v:Value} {f g:Nat→SV} (he:Evo m m') (hS:∀ t,RelSV m (a.tmps.getD t undef) (f t)) (hd:∀ d,o.dst=some d→d < a.tmps.size)
  (hv:∀ d,o.dst=some d→RelSV m' v (g d)) (hg:∀ t,o.dst≠some t→g t=f t):∀ t,RelSV m' ((a.put o.dst v).tmps.getD t undef) (g t):=by
 intro t
 rw [kL a o.dst v hd]
 split
 ·rename_i e; exact hv t e
 ·rename_i e; rw [hg t e]; exact gC he (hS t)
def jO (all:List Oper) (k:Nat) (nd:Nat→Bool) (B:Heap) (X:Nat→Heap) (H:Nat→Heap) (S:Nat→Bool) (G:Heap):Prop :=
 ((∀ l o,k≤l→all[l]?=some o→Fr k nd l o=false→S l=false)∧∀ id,G.get id=look X B S k id) ∨
 (∃ j,k≤j∧j≤all.length∧(∀ l o,l < j→all[l]?=some o→Fr k nd l o=false→S l=true)∧(∀ l o,j≤l→all[l]?=some o→Fr k nd l o=false→S l=false)∧∀ id,G.get id=(H j).get id)
theorem Trace.free_new {all:List Oper} (h:Trace C all ms k nd kd s V X E L H) {i:Nat} {o:Oper} (hi:i < k) (ho:all[i]?=some o) (hf:Fr k nd i o=true):X i=[]:=by
 rcases (h.stepA i o hi ho).2 with ⟨_,_,_,_,hl,s',h1,_,h2⟩ | ⟨_,_,_,h2⟩
 ·unfold Fr at hf
  simp only [LV,A4] at hf
  have:s'.G=bw (ms.getD i 0) (L i) s.G:=by
   rcases hf with hf | hf
   ·exact (mY hf h1).1
   ·exact (pB (hl hf.2) h1).1
  rw [h2] at this
  simpa using this
 ·exact h2
theorem Trace.free_heap {all:List Oper} (h:Trace C all ms k nd kd s V X E L H) {i:Nat} {o:Oper} (hi:k≤i) (ho:all[i]?=some o) (hf:Fr k nd i o=true):H (i+1)=H i:=by
 have hf:gh o=true:=by
  unfold Fr at hf
  simp only [LV,A4,decide_eq_true_eq] at hf
  rcases hf with hf | hf
  ·exact hf
  ·omega
 rcases (h.stepT i o hi ho).2 with ⟨_,s',h1,_,h2,_⟩ | ⟨_,_,h2⟩
 ·rw [← h2,(mY hf h1).1]
 ·exact h2
theorem Trace.keep_box {all:List Oper} (h:Trace C all ms k nd kd s V X E L H) {id:Nat} {b:List Atom} (hvr:C.vr id=false) (h0:(H k).get id=some (.box b)):∀ (d:Nat),k+d≤all.length →
  (∀ l o,k≤l→l < k+d→all[l]?=some o→Fr k nd l o=true∨kd l=true)→(H (k+d)).get id=some (.box b)
 | 0,_,_=>h0
 | d+1,hd,hf=>by
  obtain ⟨o,ho⟩ : ∃ o,all[k+d]?=some o:=⟨_,A2 (by omega)⟩
  have ih:=h.keep_box hvr h0 d (by omega) fun l o h1 h2=>hf l o h1 (by omega)
  rw [show k+(d+1)=k+d+1 by omega]
  rcases hf _ o (by omega) (by omega) ho with hq | hq
  ·rw [h.free_heap (by omega) ho hq]; exact ih
  ·rcases (h.stepT _ o (by omega) ho).2 with ⟨_,s',_,_,_,h2⟩ | ⟨_,_,h2⟩
   ·exact h2 hq _ _ hvr ih
   ·rw [h2]; exact ih
theorem Trace.free_heaps {all:List Oper} (h:Trace C all ms k nd kd s V X E L H) {j:Nat} (hj:k≤j):∀ (d:Nat),j+d≤all.length→(∀ l o,j≤l→l < j+d→all[l]?=some o→Fr k nd l o=true)→H (j+d)=H j
 | 0,_,_=>rfl
 | d+1,hd,hf=>by
  obtain ⟨o,ho⟩ : ∃ o,all[j+d]?=some o:=⟨_,A2 (by omega)⟩
  have:=h.free_heap (by omega:k≤j+d) ho (hf _ o (by omega) (by omega) ho)
  rw [show j+(d+1)=j+d+1 by omega,this]
  exact h.free_heaps hj d (by omega) fun l o h1 h2=>hf l o h1 (by omega)
theorem AX {all:List Oper} (ho:OrdOK all ms k nd kd) (h:Trace C all ms k nd kd s V X E L H) {S:Nat→Bool} {G:Heap} (hH:jO all k nd s.G X H S G) {i:Nat} (hki:k≤i) (hi:i≤all.length)
  (hb:∀ l o,l < i→all[l]?=some o→Fr k nd l o=false→S l=true) (ha:∀ l o,i≤l→all[l]?=some o→Fr k nd l o=false→S l=false):∀ id,G.get id=(H i).get id:=by
 have hle:=ho.le
 rcases hH with ⟨h1,h2⟩ | ⟨j,j1,j2,j3,j4,j5⟩
 ·have e:H i=H k:=by
   obtain ⟨d,rfl⟩ : ∃ d,i=k+d:=⟨i - k,by omega⟩
   refine h.free_heaps (A7 _) d hi fun l o l1 l2 hl=>?_
   cases hf:Fr k nd l o with
   | true=>rfl
   | false=>have:=h1 l o l1 hl hf; rw [hb l o l2 hl hf] at this; cases this
  intro id
  rw [h2,e,h.hk,h.all_get hle (A7 _)]
  refine im fun q hq=>?_
  obtain ⟨o,hoq⟩ : ∃ o,all[q]?=some o:=⟨_,A2 (by omega)⟩
  cases hf:Fr k nd q o with
  | true=>right; rw [h.free_new hq hoq hf]; rfl
  | false=>left; exact hb q o (by omega) hoq hf
 ·intro id
  rw [j5]
  rcases Nat.le_total j i with hji | hji
  ·obtain ⟨d,rfl⟩ : ∃ d,i=j+d:=⟨i - j,by omega⟩
   rw [h.free_heaps j1 d hi fun l o l1 l2 hl=>?_]
   cases hf:Fr k nd l o with
   | true=>rfl
   | false=>have:=j4 l o l1 hl hf; rw [hb l o l2 hl hf] at this; cases this
  ·obtain ⟨d,rfl⟩ : ∃ d,j=i+d:=⟨j - i,by omega⟩
   rw [h.free_heaps hki d j2 fun l o l1 l2 hl=>?_]
   cases hf:Fr k nd l o with
   | true=>rfl
   | false=>have:=j3 l o l2 hl hf; rw [ha l o l1 hl hf] at this; cases this
theorem oS {all:List Oper} (ho:OrdOK all ms k nd kd) (h:Trace C all ms k nd kd s V X E L H) {S:Nat→Bool} {G:Heap} (hH:jO all k nd s.G X H S G) {i:Nat} {o:Oper} (hi:all[i]?=some o) (hX:i < k→X i=[])
  (hor:Fr k nd i o=true∨(i < k∧S i=false)):jO all k nd s.G X H (bg S i) G:=by
 have hne:∀ l o',all[l]?=some o'→Fr k nd l o'=false→Fr k nd i o=true→bg S i l=S l:=by
  intro l o' hl hf hfo
  have:l≠i:=fun e=>by subst e; rw [hi] at hl; cases hl; rw [hf] at hfo; cases hfo
  simp [bg,this]
 rcases hH with ⟨h1,h2⟩ | ⟨j,j1,j2,j3,j4,j5⟩
 ·refine .inl ⟨fun l o' hl ho' hf=>?_,fun id=>?_⟩
  ·rcases hor with hfo | ⟨hlt,_⟩
   ·rw [hne l o' ho' hf hfo]; exact h1 l o' hl ho' hf
   ·have:l≠i:=by omega
    simp only [bg,h1 l o' hl ho' hf,MC,beq_eq_false_iff_ne,ne_eq]
    exact this
  ·rw [h2]
   refine im fun q hq=>?_
   by_cases e:q=i
   ·subst e; right; rw [hX hq]; rfl
   ·left; simp [bg,e]
 ·rcases hor with hfo | ⟨hlt,hn⟩
  ·exact .inr ⟨j,j1,j2,fun l o' hl ho' hf=>by rw [hne l o' ho' hf hfo]; exact j3 l o' hl ho' hf,fun l o' hl ho' hf=>by rw [hne l o' ho' hf hfo]; exact j4 l o' hl ho' hf,j5⟩
  ·refine .inr ⟨j,j1,j2,fun l o' hl ho' hf=>by simp [bg,j3 l o' hl ho' hf],fun l o' hl ho' hf=>?_,j5⟩
   have:l≠i:=by omega
   simp only [bg,j4 l o' hl ho' hf,MC,beq_eq_false_iff_ne,ne_eq]
   exact this
structure Good (C:Ctx) (w0:World) (M:Own) (N:Nat) (all:List Oper) (k:Nat) (nd:Nat→Bool) (s:St) (V:Nat→SV) (X H:Nat→Heap) (S:Nat→Bool) (a:Act) (m:Mem):Prop where
 inv:Inv C w0 M m
 defers:a.defers=[]
 size:N≤a.tmps.size
 env:∀ t,RelSV m (a.tmps.getD t undef) (ml all V s.env S all.length t)
 heap:jO all k nd s.G X H S m.G
theorem FA {m:Mem} {o:Oper} {f:Nat→SV} {e:Env} (hS:∀ t,RelSV m (a.tmps.getD t undef) (f t)) (he:∀ t∈looks ops.toList o,e.get t=f t) :
  ∀ t,RelSV m (a.tmps.getD t undef) ((ed ops.toList o e).get t):=by
 intro t
 rcases Dx (all:=ops.toList) (o:=o) (e:=e) t with ⟨h1,h2⟩ | h1
 ·rw [h1,he t h2]; exact hS t
 ·rw [h1]; trivial
theorem Hd {dst:Option Nat} {d:Nat} {v:SV} {e:Env} {G:Heap} (h:dst=some d):(aG dst v ⟨e,G⟩).env.get (dst.getD 0)=v:=by
 subst h; simp [aG,Env.get_cons]
theorem CX (hC:CtxOK P C) (ho:OrdOK ops.toList ms k nd kd) (h:Trace C ops.toList ms k nd kd s V X E L H) (hX:Sep ops.toList ms k X s.G) (hbox:∀ id l,s.G.get id=some (.box l)→∀ a∈l,cK s.G a=true)
  (hd:∀ o∈ops.toList,∀ d,o.dst=some d→d < N) {Q:Exit→Act→World→Prop} {K:Act→World→Prop}
  {S:Nat→Bool} {m:Mem} {i:Nat} {o:Oper} (hg:Good C w0 M N ops.toList k nd s V X H S a m) (hS:Closed ops.toList ms S) (hi:ops.toList[i]?=some o) (hn:S i=false) (hp:∀ j,bit (ms.getD i 0) j=true→S j=true)
  (hK:∀ a' m',Good C w0 M N ops.toList k nd s V X H (bg S i) a' m'→K a' m'.w):wpOp P ops Q i K a m.w:=by
 have hlt:i < ops.toList.length:=(A3.1 hi).1
 have hle:=ho.le
 have hseen:∀ t∈looks ops.toList o,(E i).get t=ml ops.toList V s.env S ops.toList.length t:=fun t ht=>h.seen ho hS hi hn hp ht
 have hrel:=FA hg.env hseen
 have hmem:o∈ops.toList:=B2 hi
 have hdN:∀ d,o.dst=some d→d < a.tmps.size:=fun d hd'=>Nat.lt_of_lt_of_le (hd o hmem d hd') hg.size
 have hda:ld ops.toList i=o.dst:=by simp [ld,hi]
 have henv:∀ t,ml ops.toList V s.env (bg S i) ops.toList.length t=if o.dst=some t then V i else ml ops.toList V s.env S ops.toList.length t:=by
  intro t; rw [sL ho (A7 _) hlt,hda]
 have hops:ops[i]?=some o:=by rw [← LO]; exact hi
 -- what is left behind,by value and memory
 have fin:∀ (v:Value) (m':Mem),Inv C w0 M m'→Evo m m'→(∀ d,o.dst=some d→RelSV m' v (V i))→jO ops.toList k nd s.G X H (bg S i) m'.G→K (a.put o.dst v) m'.w:=by
  intro v m' h1 h2 h3 h4
  refine hK _ m' ⟨h1,by cases o.dst <;> exact hg.defers,by cases o.dst <;> simp [Act.put,hg.size],?_,h4⟩
  refine CT h2 hg.env hdN (fun d hd'=>?_) (fun t ht=>?_)
  ·rw [henv,if_pos hd']; exact h3 d hd'
  ·rw [henv,if_neg ht]
 -- passed by
 have skip:mr ops.toList o (E i) false→V i=.av .undef→jO ops.toList k nd s.G X H (bg S i) m.G→wpOp P ops Q i K a m.w:=by
  intro hgo hv hh
  unfold wpOp
  simp only [hops]
  rw [nz hg.env hseen hgo]
  simp only [LR,if_false]
  exact fin undef m hg.inv (Evo.refl m) (fun d _=>by rw [hv]; exact (rfl:undef=undef)) hh
 -- carried out
 have run:∀ {w1:World} {M1:Own} {m1:Mem} {s':St},mr ops.toList o (E i) true→m1.w=m.w→Inv C w1 M1 m1→(∀ t,RelSV m1 (a.tmps.getD t undef) ((ed ops.toList o (E i)).get t)) →
   aA C o ⟨ed ops.toList o (E i),m1.G⟩ some=some s'→V i=s'.env.get (o.dst.getD 0) →
   (∀ v m',Inv C w1 M1 m'→Evo m1 m'→(∀ d,o.dst=some d→RelSV m' v (V i))→m'.G=s'.G→K (a.put o.dst v) m'.w)→wpOp P ops Q i K a m.w:=by
  intro w1 M1 m1 s' hgo hw hi1 hr hrun hv hfin
  unfold wpOp
  simp only [hops]
  rw [nz hg.env hseen hgo]
  simp only [if_true]
  left
  rw [← hw]
  refine F3 (s:=⟨ed ops.toList o (E i),m1.G⟩) (K:=some) hC.tab hC.eqs hC.maps hC.con hi1 rfl (rJ hi1 hr) hrun K Q ?_
  rintro v w' ⟨s2,hs2,m',sv,rfl,hs3,q1,q2,q3⟩
  cases hs2
  refine hfin v m' q1 q2 (fun d hd'=>?_) (by rw [hs3]; cases o.dst <;> rfl)
  rw [hv,hs3,Hd hd']
  exact q3
 by_cases hf:gh o=true
 ·-- looks at no memory
  have hX0:i < k→X i=[]:=fun hik=>h.free_new hik hi (by unfold Fr; rw [hf]; rfl)
  have hh:jO ops.toList k nd s.G X H (bg S i) m.G:=oS ho h hg.heap hi hX0 (.inl (by unfold Fr; rw [hf]; rfl))
  have go:∀ {G:Heap} {s':St},mr ops.toList o (E i) true→aA C o ⟨ed ops.toList o (E i),G⟩ some=some s'→V i=s'.env.get (o.dst.getD 0)→wpOp P ops Q i K a m.w:=by
   intro G s' hgo hr hv
   refine run hgo rfl hg.inv hrel ((mY hf hr).2 m.G) hv fun v m' q1 q2 q3 q4=>fin v m' q1 q2 q3 ?_
   rw [q4]; exact hh
  by_cases hik:i < k
  ·rcases (h.stepA i o hik hi).2 with ⟨hgo,_,_,_,_,s',hr,hv,_⟩ | ⟨hgo,_,hv,_⟩
   ·exact go hgo hr hv
   ·exact skip hgo hv hh
  ·rcases (h.stepT i o (by omega) hi).2 with ⟨hgo,s',hr,hv,_,_⟩ | ⟨hgo,hv,_⟩
   ·exact go hgo hr hv
   ·exact skip hgo hv hh
 ·have hf:gh o=false:=by simpa using hf
  by_cases hik:i < k
  ·-- the first part
   rcases hg.heap with hA | ⟨j,j1,j2,j3,j4,j5⟩
   case inr =>
    -- a variable is looked at while the second part is under way
    have hnd:nd i=true:=by
     cases hfr:Fr k nd i o with
     | false=>have:=j3 i o (by omega) hi hfr; rw [hn] at this; cases this
     | true =>
      unfold Fr at hfr
      rw [hf] at hfr
      simp only [MC,A4] at hfr
      exact hfr.2
    have hfr:Fr k nd i o=true:=by unfold Fr; rw [hnd]; simp [hik]
    have hX0:X i=[]:=h.free_new hik hi hfr
    have hh:jO ops.toList k nd s.G X H (bg S i) m.G:=oS ho h hg.heap hi (fun _=>hX0) (.inl hfr)
    rcases (h.stepA i o hik hi).2 with ⟨hgo,_,_,_,hl,s',hr,hv,_⟩ | ⟨hgo,_,hv,_⟩
    ·have hbx:∀ id l,C.vr id=false→(bw (ms.getD i 0) (L i) s.G).get id=some (.box l)→m.G.get id=some (.box l):=by
      intro id l hvr hl2
      rw [h.heapFor_get hle (ms.getD i 0) (j:=i) (by omega)] at hl2
      have h1:=wQ ho hX hS hik hn hp hl2
      have h2:(H k).get id=some (.box l):=by
       rw [h.hk,h.all_get hle (A7 _),← h1]
       refine (im fun q hq=>?_).symm
       obtain ⟨oq,hoq⟩ : ∃ o,ops.toList[q]?=some o:=⟨_,A2 (by omega)⟩
       cases hfq:Fr k nd q oq with
       | true=>right; rw [h.free_new hq hoq hfq]; rfl
       | false=>left; exact j3 q oq (by omega) hoq hfq
      obtain ⟨d,rfl⟩ : ∃ d,j=k+d:=⟨j - k,by omega⟩
      rw [j5]
      refine h.keep_box hvr h2 d j2 fun q oq q1 q2 hoq=>?_
      cases hfq:Fr k nd q oq with
      | true=>exact .inl rfl
      | false =>
       right
       have hSq:=j3 q oq q2 hoq hfq
       refine ho.kept q i q1 (by omega) hik hnd ?_
       cases hb:bit (ms.getD q 0) i with
       | false=>rfl
       | true=>have:=(hS q hSq).2 i hb; rw [hn] at this; cases this
     refine run hgo rfl hg.inv hrel ((pB (hl hnd) hr).2 m.G hbx) hv fun v m' q1 q2 q3 q4=>fin v m' q1 q2 q3 ?_
     rw [q4]; exact hh
    ·exact skip hgo hv hh
   rcases (h.stepA i o hik hi).2 with ⟨hgo,hL,hsv,hbx,_,s',hr,hv,hsG⟩ | ⟨hgo,_,hv,hX0⟩
   ·have hGi:=h.heapFor_get hle (ms.getD i 0) (j:=i) (by omega)
    have hsub:∀ id o,(bw (ms.getD i 0) (L i) s.G).get id=some o→m.G.get id=some o:=by
     intro id ob hob
     rw [hA.2]
     rw [hGi] at hob
     exact wQ ho hX hS hik hn hp hob
    have hBhas:∀ id,s.G.has id=true→(bw (ms.getD i 0) (L i) s.G).has id=true:=by
     intro id hid
     obtain ⟨ob,hob⟩:=Heap.get_of_has hid
     have:(bw (ms.getD i 0) (L i) s.G).get id=some ob:=by
      rw [hGi,iV,hob]
      intro q hq _
      cases hx:(X q).get id with
      | none=>rfl
      | some o'=>rw [hX.base q id o' (by omega) hx] at hob; cases hob
     exact Heap.has_of_get this
    have hbox':∀ id l,(bw (ms.getD i 0) (L i) s.G).get id=some (.box l)→l.all (fun a=>cK (bw (ms.getD i 0) (L i) s.G) a)=true:=by
     intro id l hl
     rw [hGi] at hl
     rcases l5 hl with ⟨q,h1,h2,h3,_⟩ | ⟨_,h2⟩
     ·rcases h.l_mem hle (by omega:i≤k) h1 with h4 | h4
      ·rw [h4] at h3; simp [Heap.get] at h3
      ·rw [Lg] at hbx
       have h5:=hbx _ h4
       simp only [h2,LN,MC] at h5
       unfold sH at h5
       rw [Lg] at h5
       exact h5 _ (Heap.mem_of_get h3)
     ·rw [Lg]
      exact fun a ha=>wa hBhas (hbox id l h2 a ha)
    have hin:=Dq hg.inv hsub hbox'
    have hrel':∀ t,RelSV ⟨m.w,m.F,m.ι,bw (ms.getD i 0) (L i) s.G⟩ (a.tmps.getD t undef) ((ed ops.toList o (E i)).get t):=by
     intro t
     refine DG hsub (hrel t) ?_
     rw [Lg] at hsv
     have hmem':∀ (e:Env) (t:Nat),(∀ p∈e,px (bw (ms.getD i 0) (L i) s.G) p.2=true)→px (bw (ms.getD i 0) (L i) s.G) (e.get t)=true:=by
      intro e t he
      induction e with
      | nil=>rfl
      | cons p r ih =>
       obtain ⟨q,v⟩:=p
       simp only [Env.get]
       cases A8 q t with
       | true=>exact he (q,v) (by simp)
       | false=>exact ih fun p hp=>he p (by simp [hp])
     exact hmem' _ t hsv
    refine run (m1:=⟨m.w,m.F,m.ι,bw (ms.getD i 0) (L i) s.G⟩) hgo rfl hin hrel' hr hv fun v m' q1 q2 q3 q4=>?_
    obtain ⟨m2,r1,r2,r3,r4,r5⟩:=Dc hg.inv hsub q1 q2 (by rw [q4,hsG]) (fun id ob hx hnone=>by
     rw [hA.2]
     rw [hGi] at hnone
     exact Eb ho hX hS hik hn hx hnone)
    rw [← r1]
    refine fin v m2 r3 r4 (fun d hd'=>r5 _ _ (q3 d hd')) (.inl ⟨fun l o' hl ho' hf'=>?_,fun id=>?_⟩)
    ·have:l≠i:=by omega
     simp only [bg,hA.1 l o' hl ho' hf',MC,beq_eq_false_iff_ne,ne_eq]
     exact this
    ·rw [r2,Heap.get_append,Ed ho hX hS hik hn,hA.2]
     try (cases (X i).get id <;> rfl)
   ·exact skip hgo hv (oS ho h hg.heap hi (fun _=>hX0) (.inr ⟨hik,hn⟩))
  ·-- the second part
   have hb:∀ l o',l < i→ops.toList[l]?=some o'→Fr k nd l o'=false→S l=true:=by
    intro l o' hl ho' hf'
    rcases ho.chain i o (by omega) hi l o' hl ho' with hc | hc
    ·exact hp l hc
    ·rw [hf'] at hc; cases hc
   have ha:∀ l o',i≤l→ops.toList[l]?=some o'→Fr k nd l o'=false→S l=false:=by
    intro l o' hl ho' hf'
    rcases LC hl with rfl | hl
    ·exact hn
    ·cases hSl:S l with
     | false=>rfl
     | true =>
      rcases ho.chain l o' (by omega) ho' i o hl hi with hc | hc
      ·rw [(hS l hSl).2 i hc] at hn; cases hn
      ·have:Fr k nd i o=false:=by
        unfold Fr
        rw [hf]
        simp [hik]
       rw [this] at hc; cases hc
   have hGH:=AX ho h hg.heap (by omega) (by omega) hb ha
   have hafter:∀ G:Heap,(∀ id,G.get id=(H (i+1)).get id)→jO ops.toList k nd s.G X H (bg S i) G:=by
    intro G hG
    refine .inr ⟨i+1,by omega,by omega,fun l o' hl ho' hf'=>?_,fun l o' hl ho' hf'=>?_,hG⟩
    ·by_cases e:l=i
     ·simp [bg,e]
     ·simp [bg,hb l o' (by omega) ho' hf']
    ·have:l≠i:=by omega
     simp only [bg,ha l o' (by omega) ho' hf',MC,beq_eq_false_iff_ne,ne_eq]
     exact this
   rcases (h.stepT i o (by omega) hi).2 with ⟨hgo,s',hr,hv,hsG,_⟩ | ⟨hgo,hv,hH⟩
   ·obtain ⟨hi1,he1⟩:=tj hg.inv (G':=H i) fun id=>(hGH id).symm
    refine run (m1:=⟨m.w,m.F,m.ι,H i⟩) hgo rfl hi1 (fun t=>gC he1 (hrel t)) hr hv fun v m' q1 q2 q3 q4=>?_
    exact fin v m' q1 (Evo.trans he1 q2) q3 (hafter _ fun id=>by rw [q4,hsG])
   ·exact skip hgo hv (hafter _ fun id=>by rw [hH]; exact hGH id)
theorem l7 {S:Nat→Bool} {i:Nat} (hS:S i=false):∀ {n:Nat},i < n→(Le n).countP (bg S i)=(Le n).countP S+1
 | 0,h=>by omega
 | n+1,h=>by
  rw [List.range_succ,OB,OB]
  by_cases e:i=n
  ·subst e
   have h1:(Le i).countP (bg S i)=(Le i).countP S:=by
    refine List.countP_congr fun x hx=>?_
    have:=Ma.1 hx
    have hne:x≠i:=by omega
    simp [bg,hne]
   rw [h1]
   simp [bg,hS]
  ·rw [l7 hS (by omega:i < n)]
   have:bg S i n=S n:=by simp [bg,Ne.symm e]
   simp [List.countP_cons,this]
   omega
theorem uQ (hm:P.follows .mixedOrders=true):zu P:=by
 intro C w0 M N a m s R res K id lt ops Q hC hs hG hd h hQ
 refine wp_region_any hm ?_
 obtain ⟨k,nd,kd,V,X,E,L,H,ho,ht,hN,hKr⟩:=s7 h
 have hX:=ht.sep ho.le hN
 have hdst:=jL hd
 have hlen:ops.toList.length=ops.size:=by simp
 have hbox:∀ id l,s.G.get id=some (.box l)→∀ a∈l,cK s.G a=true:=by
  intro id l hl a ha
  rw [← hG] at hl ⊢
  obtain ⟨b,c,el,_,_,_,h3⟩:=hs.inv.objs id _ hl
  exact nt h3 a ha
 -- the draw
 obtain ⟨d1,d2⟩:=Cg hs.inv (w1:={ m.w with drawn:=m.w.drawn+1 }) ⟨rfl,rfl,rfl,A7 _,fun _ _ _=>rfl⟩
 let SS:Array Bool→Nat→Bool:=fun l j=>l.getD j false
 have set_S:∀ (l:Array Bool) (i:Nat),i < l.size→SS (l.setIfInBounds i true)=bg (SS l) i:=by
  intro l i hi
  funext j
  show (l.setIfInBounds i true).getD j false=(l.getD j false || j == i)
  by_cases e:j=i
  ·subst e; simp [hi]
  ·rw [getD_set_ne false (Ne.symm e)]; simp [e]
 have last:∀ {S:Nat→Bool} {a:Act} {m:Mem},(∀ i,i < ops.size→S i=true)→Good C w0 M N ops.toList k nd s V X H S a m→Q .normal a m.w:=by
  intro S a m hall hg
  have hGH:=AX ho ht hg.heap ho.le (A7 _) (fun l o hl _ _=>hall l (by omega)) (fun l o hl ho' _=>by
   have:=(A3.1 ho').1; omega)
  obtain ⟨hi1,he1⟩:=tj hg.inv (G':=H ops.toList.length) fun id=>(hGH id).symm
  refine hQ ⟨E ops.toList.length,H ops.toList.length⟩ a ⟨m.w,m.F,m.ι,H ops.toList.length⟩ hKr rfl ⟨hi1,hg.defers,hg.size,fun t=>?_⟩
  show RelSV _ _ ((E ops.toList.length).get t)
  rw [ht.env ho (A7 _)]
  rw [g7 (S':=S) fun q hq _=>by rw [hall q (by omega)]; exact decide_eq_true hq]
  exact gC he1 (hg.env t)
 have key:∀ (fuel:Nat) (listed:Array Bool) (a:Act) (m:Mem),listed.size=ops.size→ops.size≤fuel+(Le ops.size).countP (SS listed) →
   Closed ops.toList (gg ops.toList []) (SS listed)→Good C w0 M N ops.toList k nd s V X H (SS listed) a m→wpAny P .any ops Q fuel listed a m.w:=by
  intro fuel
  induction fuel with
  | zero =>
   intro listed a m hsz hcnt hcl hg
   have hall:∀ i,i < ops.size→SS listed i=true:=by
    have h1:(Le ops.size).countP (SS listed)=(Le ops.size).length:=by
     have:=List.countP_le_length (p:=SS listed) (l:=Le ops.size)
     simp only [List.length_range] at this ⊢
     omega
    rw [List.countP_eq_length] at h1
    exact fun i hi=>h1 i (Ma.2 hi)
   refine ⟨?_,last hall hg⟩
   unfold Region.ready
   rw [List.filter_eq_nil_iff]
   intro i hi
   have hi:=Ma.1 hi
   have h1:listed.getD i false=true:=hall i hi
   have:listed.getD i true=true:=by
    have hlt:i < listed.size:=by omega
    simpa [hlt] using h1
   rw [this]; simp
  | succ fuel ih =>
   intro listed a m hsz hcnt hcl hg
   refine ⟨fun hr=>last ?_ hg,fun i hi=>?_⟩
   ·intro i
    induction i using Nat.strongRecOn with
    | ind i ih2 =>
     intro hi
     cases hh:SS listed i with
     | true=>rfl
     | false =>
      have:i∈Region.ready .any ops listed:=by
       rw [mem_ready]
       have hh:listed.getD i false=false:=hh
       have hlt:i < listed.size:=by omega
       refine ⟨by simpa [hlt] using hh,ops[i],by simp [hi],fun e he hb=>?_⟩
       have hon:=ho.edge i ops[i] e (by rw [LO]; simp [hi]) (by simpa using he) hb
       exact ih2 e.on hon (by omega)
      rw [hr] at this
      cases this
   ·obtain ⟨h1,o,ho1,h2⟩:=mem_ready.1 hi
    have hlt:i < ops.size:=(Lw.1 ho1).1
    have hlt':i < listed.size:=by omega
    have hn:SS listed i=false:=by
     show listed.getD i false=false
     simpa [hlt'] using h1
    have hi':ops.toList[i]?=some o:=by rw [LO]; exact ho1
    have hp:∀ j,bit ((gg ops.toList []).getD i 0) j=true→SS listed j=true:=by
     intro j hj
     obtain ⟨e,he,hb,h3⟩:=(ho.pre i o j hi').1 hj
     have hon:SS listed e.on=true:=h2 e (by simpa using he) hb
     rcases h3 with h3 | h3
     ·rw [← h3]; exact hon
     ·exact (hcl e.on hon).2 j h3
    refine CX hC ho ht hX hbox hdst hg hcl hi' hn hp fun a' m' hg'=>?_
    refine ih (listed.setIfInBounds i true) a' m' (by simp [hsz]) ?_ ?_ ?_
    ·rw [set_S listed i hlt',l7 hn hlt]; omega
    ·rw [set_S listed i hlt']; exact hcl.put ho (by omega) hp
    ·rw [set_S listed i hlt']; exact hg'
 have hS0:SS (Nd ops.size false)=fun _=>false:=by
  funext j
  show (Nd ops.size false).getD j false=false
  simp [Array.getElem?_replicate]
  split <;> rfl
 refine key ops.size _ a ⟨{ m.w with drawn:=m.w.drawn+1 },m.F,m.ι,m.G⟩ (by simp) (by omega) ?_ ⟨d1,hs.defers,hs.size,fun t=>?_,.inl ⟨fun l o _ _ _=>by rw [hS0],fun id=>?_⟩⟩
 ·rw [hS0]; intro i hi; cases hi
 ·rw [hS0,oK fun _ _ _=>rfl]
  exact gC d2 (hs.env t)
 ·rw [hS0,iV (fun q _ hq=>by cases hq),← hG]
end
end Go.Vm

/-
 Equality of structs.
-/
namespace Go.Vm
def Ty.deep:Ty→Nat
 | .prod a b=>max (a.deep+1) b.deep
 | .arr _ e=>e.deep+1
 | _=>1
def Ty.Within (d:Nat):Ty→Prop
 | .prod a b=>a.deep≤d∧b.deep≤d+1
 | _=>True
def fj (P:Program):Ty→Option (List Field×Nat)→TypeId→Bool
 | .int _,none,_=>true
 | .bool,none,_=>true
 | .str,none,_=>true
 | .prod a b,none,t=>!(P.stoodInHeld t) && (match P.underlying t with
  | some (.struct fs)=>(match fs.toList with
   | f :: r => (f.name != "_") && fj P a none f.type && fj P b (some (r, a.size)) 0
   | []=>false)
  | _=>false)
 | .unit,none,t=>!(P.stoodInHeld t)
 | .arr _ e,none,t=>(match P.underlying t with
  | some (.array _ et)=>fj P e none et
  | _=>false)
 | .prod a b, some (f :: r, o), _ => (f.name != "_") && fj P a none f.type && fj P b (some (r, o + a.size)) 0
 | .unit,some ([],_),_=>true
 | _,_,_=>false
def DE (P:Program) (T:Tab) (eqs:List Nat):Bool:=eqs.all fun t=>match T.get t with
 | some τ=>fj P τ none t && Lh τ.deep 9000 && !(P.eqGuardType P.depth t)
 | none=>true
section
variable {P:Program}
theorem jl {τ : Ty} {t:TypeId} (h:chk P τ none t=true) (us:List Value) (o:Nat) (hl:o+τ.size≤us.length) (w:World) :
  (part t us.toArray o).run P w=.ok (toV τ ((us.drop o).take τ.size)) w:=by
 cases ha : τ.isAgg with
 | true=>simp [part,fJ h,ha,bK h,toV,List.drop_take]
 | false =>
  have h1':=gZ ha
  have hlt:o < us.length:=by omega
  simp only [part,Sem.run_bind,fJ h,ha,Result.andThen_ok,LR,if_false,List.getElem?_toArray,A2 hlt,toV,cond_false,h1',Sem.run_pure]
  rw [List.drop_eq_getElem_cons hlt]; rfl
theorem sR {α : Type} (p c r:List α):((p++(c++r)).drop p.length).take c.length=c:=by simp
theorem uB {b:Ty} {d:Nat} (h:b.deep≤d+1):b.Within d:=by
 cases b <;> simp only [Ty.deep,Ty.Within] at h ⊢
 omega
mutual
theorem BL {w:World} {F:Nat→Prop}:∀ {τ : Ty} {t:TypeId} {d:Nat} {cs cs':List Value} {x y : τ.den} {r:Bool},chk P τ none t=true→fj P τ none t=true→τ.deep≤d→eqT τ x y=some r→Rd w F τ cs x→Rd w F τ cs' y →
  ∀ w',(Op.equalIn d t (toV τ cs) (toV τ cs')).run P w'=.ok r w'
 | .int k,t,d,cs,cs',x,y,r,h1,_,h3,h4,h5,h6,w'=>by
  obtain ⟨d,rfl⟩ : ∃ d',d=d'+1:=⟨d - 1,by simp only [Ty.deep] at h3; omega⟩
  obtain ⟨rfl,_⟩:=h5
  obtain ⟨rfl,_⟩:=h6
  simp only [eqT,A1] at h4
  subst h4
  exact run_equalIn_int w' d t k k x y (rO h1)
 | .bool,t,d,cs,cs',x,y,r,h1,_,h3,h4,h5,h6,w'=>by
  obtain ⟨d,rfl⟩ : ∃ d',d=d'+1:=⟨d - 1,by simp only [Ty.deep] at h3; omega⟩
  unfold Rd at h5 h6
  subst h5; subst h6
  simp only [eqT,A1] at h4
  subst h4
  exact run_equalIn_bool' w' d t x y (mg h1)
 | .str,t,d,cs,cs',x,y,r,h1,_,h3,h4,h5,h6,w'=>by
  obtain ⟨d,rfl⟩ : ∃ d',d=d'+1:=⟨d - 1,by simp only [Ty.deep] at h3; omega⟩
  obtain ⟨rfl,_⟩:=h5
  obtain ⟨rfl,_⟩:=h6
  simp only [eqT,A1] at h4
  subst h4
  exact run_equalIn_string w' d t x y (mJ h1)
 | .prod a b,t,d,cs,cs',x,y,r,h1,h2,h3,h4,h5,h6,w'=>by
  simp only [fj,A4,Lz] at h2
  obtain ⟨hp,h2⟩:=h2
  simp only [chk,A4] at h1
  obtain ⟨_,h1⟩:=h1
  split at h2
  ·rename_i fs hu
   rw [hu] at h1
   simp only at h1
   split at h2
   ·rename_i f rest hfs
    rw [hfs] at h1
    simp only [A4] at h1 h2
    obtain ⟨⟨c1,c2⟩,c3⟩:=h1
    obtain ⟨⟨e1,e2⟩,e3⟩:=h2
    obtain ⟨d,rfl⟩ : ∃ d',d=d'+1:=⟨d - 1,by simp only [Ty.deep] at h3; omega⟩
    have hfo:P.fieldsOf t=fs:=by unfold Program.fieldsOf; rw [hu]
    show (Op.equalIn (d+1) t (.agg cs.toArray) (.agg cs'.toArray)).run P w'=_
    rw [run_equalIn_struct w' d t cs.toArray cs'.toArray (by rw [hfo]; exact hu) hp,hfo,hfs]
    have:=tS (τ:=.prod a b) (fs:=f :: rest) (o:=0) (d:=d) (pre:=[]) (pre':=[]) (suf:=[]) (suf':=[]) (by simp [chk,c1,c2]; simpa using c3) (by simp only [fj,A4]; exact ⟨⟨e1,e2⟩,by simpa using e3⟩) (by
     simp only [Ty.deep] at h3
     exact ⟨by omega,by omega⟩) h4 h5 h6 rfl rfl w'
    simpa using this
   ·simp at h2
  ·simp at h2
 | .unit,t,d,cs,cs',x,y,r,h1,h2,h3,h4,h5,h6,w'=>by
  simp only [fj,Lz] at h2
  simp only [chk,A4] at h1
  obtain ⟨_,h1⟩:=h1
  split at h1
  ·rename_i fs hu
   split at h1
   ·rename_i hfs
    obtain ⟨d,rfl⟩ : ∃ d',d=d'+1:=⟨d - 1,by simp only [Ty.deep] at h3; omega⟩
    have hfo:P.fieldsOf t=fs:=by unfold Program.fieldsOf; rw [hu]
    show (Op.equalIn (d+1) t (.agg cs.toArray) (.agg cs'.toArray)).run P w'=_
    rw [run_equalIn_struct w' d t cs.toArray cs'.toArray (by rw [hfo]; exact hu) h2,hfo,hfs]
    simp only [eqT,A1] at h4
    subst h4
    simp [Op.eqFields]
   ·simp at h1
  ·simp at h1
 | .slice _,_,_,_,_,_,_,_,_,_,_,h4,_,_,_=>by simp [eqT] at h4
 | .arr n e,t,d,cs,cs',x,y,r,h1,h2,h3,h4,h5,h6,w'=>by
  obtain ⟨d,rfl⟩ : ∃ d',d=d'+1:=⟨d - 1,by simp only [Ty.deep] at h3; omega⟩
  simp only [Ty.deep] at h3
  obtain ⟨et,hu,he⟩:=rC h1
  simp only [fj,hu] at h2
  obtain ⟨ie,ze,s1,s2,_⟩:=eI he
  obtain ⟨l1,l2,l3⟩:=h5
  obtain ⟨k1,k2,k3⟩:=h6
  have hc:P.cellsOf et=e.size:=by unfold Program.cellsOf; rw [s1]; simpa using s2
  show (Op.equalIn (d+1) t (.agg cs.toArray) (.agg cs'.toArray)).run P w'=_
  rw [run_equalIn_array w' d cs.toArray cs'.toArray hu s1,hc]
  have items:∀ (q q':List e.den) (i:Nat) (r:Bool),Aj (eqT e) q q'=some r→i+q.length=n→i+q'.length=n→(∀ j (hj:j < q.length),Rd w F e ((cs.drop ((i+j) * e.size)).take e.size) q[j])→(∀ j (hj:j < q'.length),Rd w F e ((cs'.drop ((i+j) * e.size)).take e.size) q'[j]) →
    (Op.eqItems d et e.size cs.toArray cs'.toArray (List.range' i q.length)).run P w'=.ok r w':=by
   intro q
   induction q with
   | nil =>
    intro q' i r hr hq hq' _ _
    cases q' with
    | nil=>simp only [Aj,A1] at hr; subst hr; simp [Op.eqItems]
    | cons b q'=>simp [Aj] at hr
   | cons a q ih =>
    intro q' i r hr hq hq' hR hR'
    cases q' with
    | nil=>simp [Aj] at hr
    | cons b q' =>
     simp only [La] at hq hq'
     have hle:(i+1) * e.size≤n * e.size:=Nat.mul_le_mul_right _ (by omega)
     rw [Lf,Nat.one_mul] at hle
     have p1:=jl he cs (i * e.size) (by omega) w'
     have p2:=jl he cs' (i * e.size) (by omega) w'
     simp only [Aj] at hr
     split at hr
     ·rename_i p hp
      split at hr
      ·rename_i q2 hq2
       cases hr
       have ra:=hR 0 (by simp)
       have rb:=hR' 0 (by simp)
       simp only [L7,List.getElem_cons_zero] at ra rb
       have ha:=BL (d:=d) he h2 (by omega) hp ra rb w'
       rw [La,List.range'_succ]
       simp only [Op.eqItems,Sem.run_bind,p1,p2,Result.andThen_ok,ha]
       cases p with
       | false=>simp
       | true =>
        simp only [LN,LR,if_false,Nn]
        exact ih q' (i+1) q2 hq2 (by omega) (by omega) (fun j hj=>by
         have:=hR (j+1) (by simp; omega)
         rw [show i+(j+1)=i+1+j by omega] at this
         simpa using this) (fun j hj=>by
         have:=hR' (j+1) (by simp; omega)
         rw [show i+(j+1)=i+1+j by omega] at this
         simpa using this)
      ·simp at hr
     ·simp at hr
  have:=items x y 0 r h4 (by omega) (by omega) (fun j hj=>by rw [Ln]; exact l3 j hj) (fun j hj=>by rw [Ln]; exact k3 j hj)
  rw [l1] at this
  rw [List.range_eq_range']
  exact this
 | .ptr _,_,_,_,_,_,_,_,_,_,_,h4,_,_,_=>by simp [eqT] at h4
 | .clo _ _,_,_,_,_,_,_,_,_,_,_,h4,_,_,_=>by simp [eqT] at h4
theorem tS {w:World} {F:Nat→Prop}:∀ {τ : Ty} {fs:List Field} {o d:Nat} {cs cs' pre pre' suf suf':List Value} {x y : τ.den} {r:Bool},chk P τ (some (fs,o)) 0=true→fj P τ (some (fs,o)) 0=true →
  τ.Within d→eqT τ x y=some r→Rd w F τ cs x→Rd w F τ cs' y→pre.length=o→pre'.length=o →
  ∀ w',(Op.eqFields d (pre++(cs++suf)).toArray (pre'++(cs'++suf')).toArray fs).run P w'=.ok r w'
 | .prod a b,f :: rest,o,d,cs,cs',pre,pre',suf,suf',x,y,r,h1,h2,h3,h4,h5,h6,hp,hp',w'=>by
  simp only [chk,A4] at h1
  simp only [fj,A4,bne_iff_ne,ne_eq] at h2
  obtain ⟨⟨c1,c2⟩,c3⟩:=h1
  obtain ⟨⟨e1,e2⟩,e3⟩:=h2
  have hoff:f.offset=o:=A5 c1
  obtain ⟨u1,u2,rfl,hu1,hu2⟩:=h5
  obtain ⟨v1,v2,rfl,hv1,hv2⟩:=h6
  have lu:=hu1.len
  have lv:=hv1.len
  have p1:(part f.type (pre++((u1++u2)++suf)).toArray f.offset).run P w'=.ok (toV a u1) w':=by
   rw [jl c2 _ _ (by simp; omega),hoff,← hp,← lu,LH u1,sR]
  have p2:(part f.type (pre'++((v1++v2)++suf')).toArray f.offset).run P w'=.ok (toV a v1) w':=by
   rw [jl c2 _ _ (by simp; omega),hoff,← hp',← lv,LH v1,sR]
  simp only [eqT] at h4
  split at h4
  ·rename_i p hpp
   split at h4
   ·rename_i q hq
    cases h4
    have ha:=BL c2 e2 h3.1 hpp hu1 hv1 w'
    simp only [Op.eqFields,e1,not_false_eq_true,if_true,ne_eq,Sem.run_bind,p1,p2,Result.andThen_ok,ha]
    cases p with
    | false=>simp
    | true =>
     simp only [LN,LR,if_false,Nn]
     have hb3:b.Within d:=uB h3.2
     have:=tS (τ:=b) (fs:=rest) (o:=o+a.size) (d:=d) (pre:=pre++u1) (pre':=pre'++v1) (suf:=suf) (suf':=suf') c3 e3 hb3 hq hu2 hv2 (by simp; omega) (by simp; omega) w'
     simpa using this
   ·simp at h4
  ·simp at h4
 | .prod a b,[],_,_,_,_,_,_,_,_,_,_,_,h1,_,_,_,_,_,_,_,_=>by simp [chk] at h1
 | .unit,[],o,d,cs,cs',pre,pre',suf,suf',x,y,r,h1,h2,h3,h4,h5,h6,hp,hp',w'=>by
  simp only [eqT,A1] at h4
  subst h4
  simp [Op.eqFields]
 | .unit,_ :: _,_,_,_,_,_,_,_,_,_,_,_,h1,_,_,_,_,_,_,_,_=>by simp [chk] at h1
 | .int _,_,_,_,_,_,_,_,_,_,_,_,_,h1,_,_,_,_,_,_,_,_=>by simp [chk] at h1
 | .bool,_,_,_,_,_,_,_,_,_,_,_,_,h1,_,_,_,_,_,_,_,_=>by simp [chk] at h1
 | .str,_,_,_,_,_,_,_,_,_,_,_,_,h1,_,_,_,_,_,_,_,_=>by simp [chk] at h1
 | .slice _,_,_,_,_,_,_,_,_,_,_,_,_,h1,_,_,_,_,_,_,_,_=>by simp [chk] at h1
 | .arr _ _,_,_,_,_,_,_,_,_,_,_,_,_,h1,_,_,_,_,_,_,_,_=>by simp [chk] at h1
 | .ptr _,_,_,_,_,_,_,_,_,_,_,_,_,h1,_,_,_,_,_,_,_,_=>by simp [chk] at h1
 | .clo _ _,_,_,_,_,_,_,_,_,_,_,_,_,h1,_,_,_,_,_,_,_,_=>by simp [chk] at h1
end
theorem Ig {C:Ctx} (hT:dX P C.tab=true) (h:DE P C.tab C.eqs=true):Ga P C:=by
 intro t τ ht ha hin w F cs cs' x y r hr h1 h2
 rw [L9] at hin
 obtain ⟨e,he,hee⟩:=hin
 have:e=t:=A5 hee
 subst this
 unfold DE at h
 rw [Lg] at h
 have:=h e he
 rw [ht] at this
 simp only [A4,Lz] at this
 obtain ⟨⟨c1,c2⟩,c3⟩:=this
 refine ⟨fun w'=>?_,fun op p q w'=>?_⟩
 ·show (Op.equalIn Op.maxDepth e _ _).run P w'=_
  exact BL (ak hT ht) c1 (by have:=B7 c2; show τ.deep≤10000; omega) hr h1 h2 w'
 ·have e1:toV τ cs=.agg cs.toArray:=by simp [toV,ha]
  have e2:toV τ cs'=.agg cs'.toArray:=by simp [toV,ha]
  rw [e1,e2]
  exact run_eqGuard_agg w' op e p q _ _ c3
end
end Go.Vm

/-
 Maps: what is asked of their types, checked once.
-/
namespace Go.Vm
section
variable {P:Program}
mutual
theorem FT {w:World} {F:Nat→Prop} (em:Bool):∀ {τ : Ty} {t:TypeId} {d:Nat} {cs:List Value} {x : τ.den},chk P τ none t=true→fj P τ none t=true→τ.plain=true→τ.deep≤d→Rd w F τ cs x →
  ∀ w',(Instr.checkKey em d t (toV τ cs)).run P w'=.ok () w'
 | .int k,t,d,cs,x,h1,_,_,h3,h5,w'=>by
  obtain ⟨d,rfl⟩ : ∃ d',d=d'+1:=⟨d - 1,by simp only [Ty.deep] at h3; omega⟩
  obtain ⟨rfl,_⟩:=h5
  simp [Instr.checkKey,run_underlying (rO h1),toV,Ty.isAgg]
 | .bool,t,d,cs,x,h1,_,_,h3,h5,w'=>by
  obtain ⟨d,rfl⟩ : ∃ d',d=d'+1:=⟨d - 1,by simp only [Ty.deep] at h3; omega⟩
  unfold Rd at h5
  subst h5
  simp [Instr.checkKey,run_underlying (mg h1),toV,Ty.isAgg]
 | .str,t,d,cs,x,h1,_,_,h3,h5,w'=>by
  obtain ⟨d,rfl⟩ : ∃ d',d=d'+1:=⟨d - 1,by simp only [Ty.deep] at h3; omega⟩
  obtain ⟨rfl,_⟩:=h5
  simp [Instr.checkKey,run_underlying (mJ h1),toV,Ty.isAgg]
 | .prod a b,t,d,cs,x,h1,h2,hpl,h3,h5,w'=>by
  simp only [fj,A4,Lz] at h2
  obtain ⟨hp,h2⟩:=h2
  simp only [chk,A4] at h1
  obtain ⟨_,h1⟩:=h1
  split at h2
  ·rename_i fs hu
   rw [hu] at h1
   simp only at h1
   split at h2
   ·rename_i f rest hfs
    rw [hfs] at h1
    simp only [A4] at h1 h2
    obtain ⟨⟨c1,c2⟩,c3⟩:=h1
    obtain ⟨⟨e1,e2⟩,e3⟩:=h2
    obtain ⟨d,rfl⟩ : ∃ d',d=d'+1:=⟨d - 1,by simp only [Ty.deep] at h3; omega⟩
    have:=rV (F:=F) (w:=w) em (τ:=.prod a b) (fs:=f :: rest) (o:=0) (d:=d) (cs:=cs) (x:=x) (pre:=[]) (suf:=[]) (by simp [chk,c1,c2]; simpa using c3) (by simp only [fj,A4]; exact ⟨⟨e1,e2⟩,by simpa using e3⟩) hpl (by
     simp only [Ty.deep] at h3
     exact ⟨by omega,by omega⟩) h5 rfl w'
    simp only [List.nil_append,LU] at this
    simp only [toV,Ty.isAgg,cond_true,Instr.checkKey,Sem.run_bind,run_underlying hu,Result.andThen_ok]
    rw [← Ot,hfs]
    rw [this]
    rfl
   ·simp at h2
  ·simp at h2
 | .unit,t,d,cs,x,h1,h2,_,h3,h5,w'=>by
  simp only [chk,A4] at h1
  obtain ⟨_,h1⟩:=h1
  split at h1
  ·rename_i fs hu
   split at h1
   ·rename_i hfs
    obtain ⟨d,rfl⟩ : ∃ d',d=d'+1:=⟨d - 1,by simp only [Ty.deep] at h3; omega⟩
    simp only [toV,Ty.isAgg,cond_true,Instr.checkKey,Sem.run_bind,run_underlying hu,Result.andThen_ok]
    rw [← Ot,hfs]
    simp
   ·simp at h1
  ·simp at h1
 | .slice _,_,_,_,_,_,_,h,_,_,_=>by cases h
 | .arr _ _,_,_,_,_,_,_,h,_,_,_=>by cases h
 | .ptr _,_,_,_,_,_,_,h,_,_,_=>by cases h
 | .clo _ _,_,_,_,_,_,_,h,_,_,_=>by cases h
theorem rV {w:World} {F:Nat→Prop} (em:Bool):∀ {τ : Ty} {fs:List Field} {o d:Nat} {cs pre suf:List Value} {x : τ.den},chk P τ (some (fs,o)) 0=true→fj P τ (some (fs,o)) 0=true→τ.plain=true →
  τ.Within d→Rd w F τ cs x→pre.length=o →
  ∀ w',(forIn (m:=Sem) fs PUnit.unit fun f (_:PUnit)=>(do
   if f.name ≠ "_" then Instr.checkKey em d f.type (← part f.type (pre ++ (cs ++ suf)).toArray f.offset)
   pure (ForInStep.yield PUnit.unit))).run P w'=.ok PUnit.unit w'
 | .prod a b,f :: rest,o,d,cs,pre,suf,x,h1,h2,hpl,h3,h5,hp,w'=>by
  simp only [chk,A4] at h1
  simp only [fj,A4,bne_iff_ne,ne_eq] at h2
  simp only [Ty.plain,A4] at hpl
  obtain ⟨⟨c1,c2⟩,c3⟩:=h1
  obtain ⟨⟨e1,e2⟩,e3⟩:=h2
  have hoff:f.offset=o:=A5 c1
  obtain ⟨u1,u2,rfl,hu1,hu2⟩:=h5
  have lu:=hu1.len
  have p1:(part f.type (pre++((u1++u2)++suf)).toArray f.offset).run P w'=.ok (toV a u1) w':=by
   rw [jl c2 _ _ (by simp; omega),hoff,← hp,← lu,LH u1,sR]
  have ha:=FT em c2 e2 hpl.1 h3.1 hu1 w'
  have hb3:b.Within d:=uB h3.2
  have:=rV em (τ:=b) (fs:=rest) (o:=o+a.size) (d:=d) (pre:=pre++u1) (suf:=suf) c3 e3 hpl.2 hb3 hu2 (by simp; omega) w'
  simp only [List.forIn_cons,Sem.run_bind,e1,ne_eq,not_false_eq_true,if_true,Result.andThen_ok,p1,ha,Sem.run_pure]
  simpa using this
 | .prod a b,[],_,_,_,_,_,_,h1,_,_,_,_,_,_=>by simp [chk] at h1
 | .unit,[],o,d,cs,pre,suf,x,h1,h2,_,h3,h5,hp,w'=>by simp
 | .unit,_ :: _,_,_,_,_,_,_,h1,_,_,_,_,_,_=>by simp [chk] at h1
 | .int _,_,_,_,_,_,_,_,h1,_,_,_,_,_,_=>by simp [chk] at h1
 | .bool,_,_,_,_,_,_,_,h1,_,_,_,_,_,_=>by simp [chk] at h1
 | .str,_,_,_,_,_,_,_,h1,_,_,_,_,_,_=>by simp [chk] at h1
 | .slice _,_,_,_,_,_,_,_,h1,_,_,_,_,_,_=>by simp [chk] at h1
 | .arr _ _,_,_,_,_,_,_,_,h1,_,_,_,_,_,_=>by simp [chk] at h1
 | .ptr _,_,_,_,_,_,_,_,h1,_,_,_,_,_,_=>by simp [chk] at h1
 | .clo _ _,_,_,_,_,_,_,_,h1,_,_,_,_,_,_=>by simp [chk] at h1
end
theorem ow:∀ {τ : Ty},τ.plain=true→∀ x y : τ.den,eqT τ x y=some (eqK τ x y)
 | .int _,_,_,_=>rfl
 | .bool,_,_,_=>rfl
 | .str,_,_,_=>rfl
 | .prod a b,h,x,y=>by
  simp only [Ty.plain,A4] at h
  have h1:=ow h.1 x.1 y.1
  have h2:=ow h.2 x.2 y.2
  unfold eqK
  simp only [eqT,h1,h2]
 | .unit,_,_,_=>rfl
 | .slice _,h,_,_=>by cases h
 | .arr _ _,h,_,_=>by cases h
 | .ptr _,h,_,_=>by cases h
 | .clo _ _,h,_,_=>by cases h
def Ey (P:Program) (p:Nat×(Ty×Ty)):Bool:=match P.underlying p.1 with
 | some (.map kt vt)=>chk P p.2.1 none kt && chk P p.2.2 none vt && p.2.1.plain && p.2.2.flat && !(decide (p.2.1=.unit)) && fj P p.2.1 none kt && Lh p.2.1.deep 9000
 | _=>false
def rD (P:Program) (T:List (Nat×(Ty×Ty))):Bool:=T.all (Ey P)
theorem Ac {T:List (Nat×(Ty×Ty))}:∀ {t:Nat} {p:Ty×Ty},lB T t=some p→(t,p)∈T:=by
 induction T with
 | nil=>intro t p h; simp [lB] at h
 | cons q r ih =>
  intro t p h
  obtain ⟨i,v⟩:=q
  simp only [lB] at h
  cases hb:A8 i t with
  | true=>rw [hb] at h; simp at h; subst h; rw [A5 hb]; simp
  | false=>rw [hb] at h; exact Ll _ (ih h)
theorem Gx {C:Ctx} (h:rD P C.maps=true):uk P C:=by
 intro t k v ht
 unfold rD at h
 rw [Lg] at h
 have:=h _ (Ac ht)
 unfold Ey at this
 simp only at this
 split at this
 ·rename_i kt vt hu
  simp only [A4] at this
  obtain ⟨⟨⟨⟨⟨⟨c1,c2⟩,c3⟩,c4⟩,c0⟩,c5⟩,c6⟩:=this
  have c0:¬ k=.unit:=by simpa using c0
  have c6:=B7 c6
  exact ⟨kt,vt,hu,c1,c2,c3,c0,c4,fun w F cs x em hx w'=>FT em c1 c5 c3 (by omega) hx w',fun w w1 F F1 cs cs' x y hx hy w'=>by
   show (Op.equalIn Op.maxDepth kt _ _).run P w'=_
   exact BL c1 c5 (by show k.deep≤10000; omega) (ow c3 x y) hx (jA (hZ c3) hy w F) w'⟩
 ·simp at this
end
end Go.Vm

/-
 A function's contract, from its text and its loops.
-/
namespace Go.Vm
structure LoopPf (C:Ctx) (A:Anns) (body:Code) where
 key:Nat
 ann:Ann
 B:ann.head.ty.den→Option (ann.head.ty.den⊕kK ann.exits)
 fix:ann.fn=aa B
 R:∀ x,round C A ann (fX key body) x=B x
theorem Ez {C:Ctx} {A:Anns} {body:Code} (l:List (LoopPf C A body)) (h1:cw body=l.map fun p=>fX p.key body)
  (h2:(l.map fun p=>A.get (fU (fX p.key body)))=l.map fun p=>some p.ann):qo C A (cw body):=by
 intro c hc ann hann x y hy
 rw [h1] at hc
 obtain ⟨p,hp,rfl⟩:=MO.1 hc
 have h3:A.get (fU (fX p.key body))=some p.ann:=by
  clear h1 hc
  induction l with
  | nil=>simp at hp
  | cons q l ih =>
   simp only [Li,Mx] at h2
   rcases B3.1 hp with rfl | hp
   ·exact h2.1
   ·exact ih h2.2 hp
 rw [h3] at hann
 cases hann
 rw [p.fix] at hy
 have:round C A p.ann (fX p.key body)=p.B:=funext p.R
 rw [this]
 exact dl.1 hy
structure SeatOK (P:Program) (T:Tab) (eqs:List Nat):Prop where
 tab:dX P T=true
 eqs:DE P T eqs=true
 order:P.follows .mixedOrders=true
theorem SeatOK.ctx {P:Program} {C:Ctx} (h:SeatOK P C.tab C.eqs) (hm:rD P C.maps=true) (hc:∀ f site c,C.con f site=some c→c.Holds P C.glob f):CtxOK P C :=
 ⟨h.tab,Ig h.tab h.eqs,Gx hm,hc⟩
theorem El {d:Bool} {P:Program} {C:Ctx} {A:Anns} {f:FuncId} {fn:Func} {ins:List (Mode×Ty)} {outs:oF} {M:(aB (ins.map (·.2))).den→Option (aB ((outs.map (·.2)).map (·.2)++aY ins)).den}
  (hS:SeatOK P C.tab C.eqs) (hc:∀ f site c,C.con f site=some c→c.Holds P C.glob f) (hf:P.funcs[f]?=some fn) (hb:fn.body=some (ip fn))
  (hL : qo C A (cw (ip fn))) (hk : (!(fn.name == "runtime.NumGoroutine") && ko fn.ntmps (ip fn) && vE A ins && tv P outs && rD P C.maps) = true) (hres : fn.results = (outs.map (·.1)).toArray)
  (heq:∀ x,qP C A (ip fn) ins outs x d=M x):Con.Holds P C.glob f ⟨ins,outs.map (·.2),M,d⟩:=by
 simp only [A4,Lz] at hk
 obtain ⟨⟨⟨⟨k1,k2⟩,k3⟩,k4⟩,k5⟩:=hk
 exact Di (hS.ctx k5 hc) (uQ hS.order) hf hb k1 hL k2 k3 hres k4 heq
end Go.Vm

/-
 A law's arguments, read as data, are readings of the machine; and the law's statement from the contract of its function.
-/
namespace Go.Vm
open Go.ChangeShapes Go.RowKit
def Ty.good:Ty→Bool
 | .int _=>true
 | .bool=>true
 | .str=>true
 | .slice e=>e.good && NC 0 e.size
 | .prod a b=>a.good && b.good
 | .unit=>true
 | .arr _ e=>e.good
 | _=>false
def Wf:(τ : Ty)→τ.den→Prop
 | .int k,n=>k.min≤n∧n≤k.max
 | .bool,_=>True
 | .str,s=>s.size≤maxLen
 | .slice e,l=>l.length≤maxLen∧∀ x∈l,Wf e x
 | .prod a b,x=>Wf a x.1∧Wf b x.2
 | .unit,_=>True
 | .arr n e,l=>l.length=n∧∀ x∈l,Wf e x
 | .ptr e,x=>Wf e x
 | .clo _ e,x=>Wf e x
theorem Rd.wf {w:World} {F:Nat→Prop}:∀ {τ : Ty} {cs:List Value} {x : τ.den},Rd w F τ cs x→Wf τ x
 | .int _,_,_,h=>h.2
 | .bool,_,_,_=>trivial
 | .str,_,_,h=>h.2
 | .slice e,_,l,h=>by
  obtain ⟨a,cap,_,h2,h3,h4⟩:=h
  refine ⟨by omega,fun x hx=>?_⟩
  obtain ⟨i,hi,rfl⟩:=Mj hx
  obtain ⟨b,off,c,el,fz,_,_,_,_,q5⟩:=h4 (List.ne_nil_of_mem hx)
  exact (q5 i hi).wf
 | .prod a b,_,_,h=>by
  obtain ⟨c1,c2,_,h1,h2⟩:=h
  exact ⟨h1.wf,h2.wf⟩
 | .unit,_,_,_=>trivial
 | .arr n e,_,l,h=>by
  obtain ⟨h1,_,h3⟩:=h
  refine ⟨h1,fun x hx=>?_⟩
  obtain ⟨i,hi,rfl⟩:=Mj hx
  exact (h3 i hi).wf
 | .ptr e,_,_,h=>by
  obtain ⟨b,off,c,el,fz,_,_,_,_,h⟩:=h
  exact Rd.wf (τ:=e) h
 | .clo g e,_,_,h=>by
  obtain ⟨vs,_,h⟩:=h
  exact Rd.wf (τ:=e) h
section
variable {H:Type}
def ofD:(τ : Ty)→DataW H→Option τ.den
 | .int _,.lit (.int _ n)=>some n
 | .bool,.lit (.bool b)=>some b
 | .str,.lit (.string s)=>some ⟨s.toArray⟩
 | .slice _,.nil=>some []
 | .slice e,.slice l _=>l.mapM (ofD e)
 | .arr _ e,.agg l=>l.mapM (ofD e)
 | .prod a b,.agg (d :: r)=>match ofD a d with
  | some x=>match ofD b (.agg r) with
   | some y=>some (x,y)
   | none=>none
  | none=>none
 | .unit,.agg []=>some ()
 | _,_=>none
variable {enc:TypeId×Value→H} {P:Program} {W:World} {sp:Nat→Bool} {hd:Bool}
theorem hU {τ : Ty} {t:TypeId} (h:chk P τ none t=true):P.cellsOf t=τ.size:=by
 obtain ⟨i,z,h1,h2,_⟩:=eI h
 simp [Program.cellsOf,h1,h2]
theorem t7 {α β : Type} {f : α→Option β}:∀ {l:List α},(∀ a∈l,∃ b,f a=some b)→∃ r,l.mapM f=some r
 | [],_=>⟨[],rfl⟩
 | a :: l,h=>by
  obtain ⟨b,hb⟩:=h a (by simp)
  obtain ⟨r,hr⟩:=t7 fun x hx=>h x (Ll _ hx)
  exact ⟨b :: r,by simp [OT,hb,hr]⟩
theorem Bg {e:Ty} {ys:List (DataW H×List MemPlace)} {Q:Nat→e.den→Prop} (h:∀ i y,ys[i]?=some y→∃ x,ofD e y.1=some x∧Q i x) :
  ∃ l,(ys.map (·.1)).mapM (ofD e)=some l∧l.length=ys.length∧∀ i (hi:i < l.length),Q i l[i]:=by
 obtain ⟨l,hl⟩:=t7 (f:=ofD e) (l:=ys.map (·.1)) fun d hd=>by
  obtain ⟨y,hy,rfl⟩:=MO.1 hd
  obtain ⟨i,hi,rfl⟩:=Mj hy
  obtain ⟨x,hx,_⟩:=h i ys[i] (A2 hi)
  exact ⟨x,hx⟩
 have hlen:l.length=ys.length:=by simpa using Lib.mapM_length hl
 refine ⟨l,hl,hlen,fun i hi=>?_⟩
 have hi':i < ys.length:=by omega
 obtain ⟨x,hx,hq⟩:=h i ys[i] (A2 hi')
 obtain ⟨b,hb1,hb2⟩:=Lib.mapM_at hl i ys[i].1 (by simp [hi'])
 rw [hx] at hb2
 cases hb2
 have:l[i]=x:=by rw [A2 hi] at hb1; exact B4 hb1
 rw [this]; exact hq
theorem wO {a:Addr} {n:Nat} {cs:List Value} (h:W.cells? 0 a n=some cs):cs.length=n∧∀ j,j < n→W.cell? (a.add j)=cs[j]?:=by
 unfold World.cells? at h
 rw [if_pos (Mr _)] at h
 have hl:cs.length=n:=by simpa using Lib.mapM_length h
 refine ⟨hl,fun j hj=>?_⟩
 obtain ⟨b,hb1,hb2⟩:=Lib.mapM_at h j j (by simp [hj])
 rw [hb2,hb1]
theorem Gr {a:Addr} {v:Value} (h:W.cell? a=some v):∃ b off c el fz,a=⟨b,off,none⟩∧W.heap[b]?=some (.cells c el fz):=by
 obtain ⟨b,off,spot⟩:=a
 unfold World.cell? at h
 split at h
 ·rename_i c el fz hh
  cases spot with
  | none=>exact ⟨b,off,c,el,fz,rfl,hh⟩
  | some _=>simp at h
 ·cases h
mutual
theorem nX:∀ {τ : Ty} {t:TypeId} {fuel:Nat} {cs:List Value} {x:DataW H×List MemPlace},τ.good=true→chk P τ none t=true→DataW.trod enc P W 0 sp hd fuel t cs=some x →
  ∃ y,ofD τ x.1=some y∧Rd W (fun b=>b < W.heap.size) τ cs y
 | .int k,t,fuel,cs,x,_,hc,h=>by
  obtain ⟨n,rfl,rfl,hw⟩:=DataW.trod_int (rO hc) h
  simp only [Lit.wf,A4,decide_eq_true_eq] at hw
  exact ⟨n,rfl,rfl,hw⟩
 | .bool,t,fuel,cs,x,_,hc,h=>by
  cases fuel with
  | zero=>simp [DataW.trod] at h
  | succ fuel =>
   simp only [DataW.trod,mg hc] at h
   split at h
   all_goals try (simp_all; done)
   rename_i b heq
   simp only [A1] at h
   subst h
   exact ⟨b,rfl,rfl⟩
 | .str,t,fuel,cs,x,_,hc,h=>by
  cases fuel with
  | zero=>simp [DataW.trod] at h
  | succ fuel =>
   simp only [DataW.trod,mJ hc] at h
   split at h <;> simp_all
   obtain ⟨h1,rfl⟩:=h
   exact ⟨_,rfl,rfl,h1⟩
 | .slice e,t,fuel,cs,x,hg,hc,h=>by
  simp only [Ty.good,A4] at hg
  have hpos:0 < e.size:=B7 hg.2
  obtain ⟨et,hu,hce⟩:=bc hc
  cases fuel with
  | zero=>simp [DataW.trod] at h
  | succ fuel =>
   simp only [DataW.trod,hu,hU hce] at h
   split at h
   all_goals try (simp_all; done)
   ·cases h
    exact ⟨[],rfl,none,0,rfl,A7 _,Mr _,fun h=>absurd rfl h⟩
   ·rename_i e' a len cap heq
    split at h
    ·rename_i hcond
     obtain ⟨elems,he,h⟩:=B6.1 h
     obtain ⟨rest,_,rfl⟩:=MG.1 h
     have hel:elems.length=len:=by simpa using Lib.mapM_length he
     have each:∀ i y,elems[i]?=some y→∃ ci,W.cells? 0 (a.add (i * e.size)) e.size=some ci∧DataW.trod enc P W 0 sp hd fuel et ci=some y:=by
      intro i y hy
      have hi:i < len:=by have:=(A3.1 hy).1; omega
      obtain ⟨b,hb1,hb2⟩:=Lib.mapM_at he i i (by simp [hi])
      rw [hy] at hb1; cases hb1
      cases heq
      rw [hU hce] at hb2
      exact B6.1 hb2
     obtain ⟨l,q1,q2,q3⟩:=Bg (e:=e) (ys:=elems) (Q:=fun i x=>∃ ci,W.cells? 0 (a.add (i * e.size)) e.size=some ci∧Rd W (fun b=>b < W.heap.size) e ci x) fun i y hy=>by
      obtain ⟨ci,h1,h2⟩:=each i y hy
      obtain ⟨x,h3,h4⟩:=nX hg.1 hce h2
      exact ⟨x,h3,ci,h1,h4⟩
     refine ⟨l,q1,some a,cap,by rw [q2,hel],by omega,hcond.2.2,fun hne=>?_⟩
     have hl0:0 < l.length:=List.length_pos_iff.2 hne
     obtain ⟨c0,h1,_⟩:=q3 0 hl0
     obtain ⟨k1,k2⟩:=wO h1
     have h00:W.cell? a=some (c0[0]'(by omega)):=by
      have:=k2 0 hpos
      rw [A2 (by omega)] at this
      simpa [Addr.add] using this
     obtain ⟨b,off,c,el,fz,rfl,hh⟩:=Gr h00
     have pt:∀ i (hi:i < l.length),∃ ci,ci.length=e.size∧(∀ j,j < e.size→c[off+i * e.size+j]?=ci[j]?)∧Rd W (fun b=>b < W.heap.size) e ci l[i]:=by
      intro i hi
      obtain ⟨ci,g1,g2⟩:=q3 i hi
      obtain ⟨g3,g4⟩:=wO g1
      refine ⟨ci,g3,fun j hj=>?_,g2⟩
      have:=g4 j hj
      rw [bd,bd,bO hh] at this
      exact this
     have hb:b < W.heap.size:=(Lw.1 hh).1
     have hsz:off+l.length * e.size≤c.size:=by
      obtain ⟨ci,g3,g4,_⟩:=pt (l.length - 1) (by omega)
      have:=g4 (e.size - 1) (by omega)
      rw [A2 (by omega)] at this
      have hlt:=(Lw.1 this).1
      have:l.length * e.size=(l.length - 1) * e.size+e.size:=by
       obtain ⟨n,hn⟩ : ∃ n,l.length=n+1:=⟨l.length - 1,by omega⟩
       rw [hn]; simp [Lf]
      omega
     refine ⟨b,off,c,el,fz,rfl,hb,hh,hsz,fun i hi=>?_⟩
     obtain ⟨ci,g3,g4,g5⟩:=pt i hi
     have:seg c (off+i * e.size) e.size=ci:=by
      apply List.ext_getElem?
      intro j
      by_cases hj:j < e.size
      ·rw [seg_getElem? _ _ _ _ hj,g4 j hj]
      ·rw [List.getElem?_eq_none (by omega:ci.length≤j)]
       unfold seg; rw [Ls,if_neg hj]
     rw [this]; exact g5
    ·cases h
 | .prod a b,t,fuel,cs,x,hg,hc,h=>by
  have hc0:=hc
  simp only [chk,A4] at hc
  obtain ⟨_,hc⟩:=hc
  split at hc
  ·rename_i fs hu
   cases fuel with
   | zero=>simp [DataW.trod] at h
   | succ fuel =>
    simp only [DataW.trod,hu,hU hc0] at h
    split at h
    ·rename_i hlen
     obtain ⟨xs,hx,rfl⟩:=MG.1 h
     split at hc
     ·rename_i f r hfs
      simp only [A4] at hc
      rw [hfs] at hx
      have:=pD (τ:=.prod a b) (fs:=f :: r) (o:=0) (cs:=cs) (xs:=xs) hg (by simp only [chk,A4]; exact ⟨hc.1,by simpa using hc.2⟩) hx (by simpa using hlen)
      simpa using this
     ·simp at hc
    ·cases h
  ·simp at hc
 | .unit,t,fuel,cs,x,_,hc,h=>by
  have hc0:=hc
  simp only [chk,A4] at hc
  obtain ⟨_,hc⟩:=hc
  split at hc
  ·rename_i fs hu
   split at hc
   ·rename_i hfs
    cases fuel with
    | zero=>simp [DataW.trod] at h
    | succ fuel =>
     simp only [DataW.trod,hu,hU hc0,hfs] at h
     split at h
     ·rename_i hlen
      simp only [OZ,NV,Option.map_some,A1] at h
      subst h
      refine ⟨(),rfl,?_⟩
      simp only [Ty.size] at hlen
      exact List.length_eq_zero_iff.1 hlen
     ·cases h
   ·simp at hc
  ·simp at hc
 | .arr n e,t,fuel,cs,x,hg,hc,h=>by
  obtain ⟨et,hu,hce⟩:=rC hc
  cases fuel with
  | zero=>simp [DataW.trod] at h
  | succ fuel =>
   simp only [DataW.trod,hu,hU hc,hU hce] at h
   split at h
   ·rename_i hlen
    obtain ⟨xs,hx,rfl⟩:=MG.1 h
    have hxl:xs.length=n:=by simpa using Lib.mapM_length hx
    obtain ⟨l,q1,q2,q3⟩:=Bg (e:=e) (ys:=xs) (Q:=fun i x=>Rd W (fun b=>b < W.heap.size) e ((cs.drop (i * e.size)).take e.size) x) fun i y hy=>by
     have hi:i < n:=by have:=(A3.1 hy).1; omega
     obtain ⟨b,hb1,hb2⟩:=Lib.mapM_at hx i i (by simp [hi])
     rw [hy] at hb1; cases hb1
     exact nX hg hce hb2
    exact ⟨l,q1,by omega,by simpa [Ty.size] using hlen,q3⟩
   ·cases h
 | .ptr _,_,_,_,_,hg,_,_=>by simp [Ty.good] at hg
 | .clo _ _,_,_,_,_,hg,_,_=>by simp [Ty.good] at hg
theorem pD:∀ {τ : Ty} {fs:List Field} {o fuel:Nat} {cs:List Value} {xs:List (DataW H×List MemPlace)},τ.good=true→chk P τ (some (fs,o)) 0=true →
  fs.mapM (fun f=>DataW.trod enc P W 0 sp hd fuel f.type ((cs.drop f.offset).take (P.cellsOf f.type)))=some xs→cs.length=o+τ.size →
  ∃ y,ofD τ (.agg (xs.map (·.1)))=some y∧Rd W (fun b=>b < W.heap.size) τ (cs.drop o) y
 | .prod a b,f :: r,o,fuel,cs,xs,hg,hc,hx,hl=>by
  simp only [Ty.good,A4] at hg
  simp only [chk,A4] at hc
  obtain ⟨⟨c1,c2⟩,c3⟩:=hc
  have hoff:f.offset=o:=A5 c1
  rw [OT] at hx
  simp only [Option.bind_eq_bind,B6,NV,A1] at hx
  obtain ⟨x0,h0,xs',hxs,rfl⟩:=hx
  rw [hU c2,hoff] at h0
  obtain ⟨y0,e0,r0⟩:=nX hg.1 c2 h0
  obtain ⟨y1,e1,r1⟩:=pD (τ:=b) (o:=o+a.size) hg.2 c3 hxs (by simp only [Ty.size] at hl; omega)
  refine ⟨(y0,y1),?_,(cs.drop o).take a.size,cs.drop (o+a.size),?_,r0,r1⟩
  ·simp only [Li,ofD,e0,e1]
  ·rw [← List.drop_drop,List.take_append_drop]
 | .unit,[],o,fuel,cs,xs,_,_,hx,hl=>by
  simp only [OZ,NV,A1] at hx
  subst hx
  refine ⟨(),rfl,?_⟩
  have:cs.drop o=[]:=List.drop_eq_nil_of_le (by simp only [Ty.size] at hl; omega)
  exact this
 | .prod _ _,[],_,_,_,_,_,hc,_,_=>by simp [chk] at hc
 | .unit,_ :: _,_,_,_,_,_,hc,_,_=>by simp [chk] at hc
 | .int _,_,_,_,_,_,_,hc,_,_=>by simp [chk] at hc
 | .bool,_,_,_,_,_,_,hc,_,_=>by simp [chk] at hc
 | .str,_,_,_,_,_,_,hc,_,_=>by simp [chk] at hc
 | .slice _,_,_,_,_,_,_,hc,_,_=>by simp [chk] at hc
 | .arr _ _,_,_,_,_,_,_,hc,_,_=>by simp [chk] at hc
 | .ptr _,_,_,_,_,_,hg,_,_,_=>by simp [Ty.good] at hg
 | .clo _ _,_,_,_,_,_,hg,_,_,_=>by simp [Ty.good] at hg
end
theorem CA {τ : Ty} {t:TypeId} {base:Nat} {v:Value} (hg : τ.good=true) (hc:chk P τ none t=true) (h:Value.okWide P W .any base t v):toV τ v.cells.toList=v:=by
 cases τ with
 | int k=>simp only [Value.okWide,rO hc,Cell.okWide,Cell.ok] at h; split at h <;> simp_all [toV,Ty.isAgg,Value.cells]
 | bool=>simp only [Value.okWide,mg hc,Cell.okWide,Cell.ok] at h; split at h <;> simp_all [toV,Ty.isAgg,Value.cells]
 | str=>simp only [Value.okWide,mJ hc,Cell.okWide,Cell.ok] at h; split at h <;> simp_all [toV,Ty.isAgg,Value.cells]
 | slice e =>
  obtain ⟨et,hu,_⟩:=bc hc
  simp only [Value.okWide,hu,Cell.okWide,Cell.ok] at h; split at h <;> simp_all [toV,Ty.isAgg,Value.cells]
 | prod a b =>
  obtain ⟨d,hu,hd⟩:=kY hc
  unfold Value.okWide at h
  rw [hu] at h
  cases d <;> simp [Ty.isAgg] at hd
  all_goals
   obtain ⟨cs,rfl,_⟩:=h
   simp [toV,Ty.isAgg,Value.cells]
 | unit =>
  obtain ⟨d,hu,hd⟩:=kY hc
  unfold Value.okWide at h
  rw [hu] at h
  cases d <;> simp [Ty.isAgg] at hd
  all_goals
   obtain ⟨cs,rfl,_⟩:=h
   simp [toV,Ty.isAgg,Value.cells]
 | arr n e =>
  obtain ⟨d,hu,hd⟩:=kY hc
  unfold Value.okWide at h
  rw [hu] at h
  cases d <;> simp [Ty.isAgg] at hd
  all_goals
   obtain ⟨cs,rfl,_⟩:=h
   simp [toV,Ty.isAgg,Value.cells]
 | ptr _=>simp [Ty.good] at hg
 | clo _ _=>simp [Ty.good] at hg
def dO (P:Program):List (Mode×Ty)→List TypeId→Bool
 | [],[]=>true
 | (.rd,τ) :: l,t :: ts=>τ.good && chk P τ none t && P.readableRec t && NC t P.types.size && dO P l ts
 | _,_=>false
def wA:(ins:List (Mode×Ty))→(aB (ins.map (·.2))).den→Prop
 | [],_=>True
 | p :: l,x=>Wf p.2 x.1∧wA l x.2
theorem BO {base:Nat}:∀ {ins:List (Mode×Ty)} {ts:List TypeId} {vs:List Value} {ds:List (DataW H)} {ps:List MemPlace},dO P ins ts=true→DataW.TrodAll enc P W 0 sp hd ts vs ds ps →
  (∀ (j:Nat) t v,ts[j]?=some t→vs[j]?=some v→Value.okWide P W .any base t v)→∃ x,ArgsRd W (fun b=>b < W.heap.size) ins vs x∧wA ins x∧ax ins vs=[]∧ds.length=ins.length
 | [],[],vs,ds,ps,_,h,_=>by
  obtain ⟨rfl,rfl,rfl⟩:=trodAll_nil h
  exact ⟨(),trivial,trivial,rfl,rfl⟩
 | [],_ :: _,_,_,_,hi,_,_=>by simp [dO] at hi
 | (_,_) :: _,[],_,_,_,hi,_,_=>by simp [dO] at hi
 | (.upd,_) :: _,_ :: _,_,_,_,hi,_,_=>by simp [dO] at hi
 | (.take,_) :: _,_ :: _,_,_,_,hi,_,_=>by simp [dO] at hi
 | (.box _,_) :: _,_ :: _,_,_,_,hi,_,_=>by simp [dO] at hi
 | (.rd,τ) :: l,t :: ts,vs,ds,ps,hi,h,hok=>by
  simp only [dO,A4] at hi
  obtain ⟨⟨⟨⟨c1,c2⟩,_⟩,_⟩,c3⟩:=hi
  obtain ⟨v,vs',d,ds',p,q,rfl,rfl,rfl,⟨fuel,h1⟩,h2⟩:=trodAll_cons h
  obtain ⟨y,_,hr⟩:=nX c1 c2 h1
  obtain ⟨x,x1,x2,x3,x4⟩:=BO (base:=base) c3 h2 fun j t v hj hv=>hok (j+1) t v (by simpa using hj) (by simpa using hv)
  exact ⟨(y,x),⟨⟨v.cells.toList,(CA c1 c2 (hok 0 t v rfl rfl)).symm,hr⟩,x1⟩,⟨hr.wf,x2⟩,x3,by simp [x4]⟩
theorem kv {P:Program}:∀ {ins:List (Mode×Ty)} {ts:List TypeId},dO P ins ts=true→pR ins=true
 | [],_,_=>rfl
 | (.rd,_) :: l,[],h=>by simp [dO] at h
 | (.rd,_) :: l,t :: ts,h=>by
  simp only [dO,A4] at h
  exact kv (ins:=l) h.2
 | (.upd,_) :: _,ts,h=>by cases ts <;> simp [dO] at h
 | (.take,_) :: _,ts,h=>by cases ts <;> simp [dO] at h
 | (.box _,_) :: _,ts,h=>by cases ts <;> simp [dO] at h
theorem ux {W':World} {sp':Nat→Bool} (hl:laidOutB P=true):∀ {ins:List (Mode×Ty)} {ts:List TypeId} {vs:List Value} {ds:List (DataW H)} {ps:List MemPlace},dO P ins ts=true →
  DataW.TrodAll enc P W 0 (fun _=>true) true ts vs ds ps→(∀ p∈ps,W.sameAt W' p)→(∀ p∈ps,sp' p.block=true)→DataW.TrodAll enc P W' 0 sp' true ts vs ds ps
 | [],[],vs,ds,ps,_,h,_,_=>by
  obtain ⟨rfl,rfl,rfl⟩:=trodAll_nil h
  exact rfl
 | [],_ :: _,_,_,_,hi,_,_,_=>by simp [dO] at hi
 | (_,_) :: _,[],_,_,_,hi,_,_,_=>by simp [dO] at hi
 | (.upd,_) :: _,_ :: _,_,_,_,hi,_,_,_=>by simp [dO] at hi
 | (.take,_) :: _,_ :: _,_,_,_,hi,_,_,_=>by simp [dO] at hi
 | (.box _,_) :: _,_ :: _,_,_,_,hi,_,_,_=>by simp [dO] at hi
 | (.rd,τ) :: l,t :: ts,vs,ds,ps,hi,h,hs,hsp=>by
  simp only [dO,A4] at hi
  obtain ⟨⟨⟨⟨_,_⟩,c4⟩,c5⟩,c3⟩:=hi
  obtain ⟨v,vs',d,ds',p,q,rfl,rfl,rfl,h1,h2⟩:=trodAll_cons h
  exact ⟨p,q,WideElems.Trod_stays hl c4 (B7 c5) h1 (fun x hx=>hs x (by simp [hx])) (fun x hx=>hsp x (by simp [hx])),ux hl c3 h2 (fun x hx=>hs x (by simp [hx])) (fun x hx=>hsp x (by simp [hx])),rfl⟩
end
theorem C6 {H:Type} {enc:TypeId×Value→H} {P:Program} {f:Func} {s:ChangeSpec} {W W':World} {args:Array Value} {ds:List (DataW H)} {before:List MemPlace} {ins:List (Mode×Ty)} {tb:TypeId} {fresh handsOn lg:Bool}
  (hl:laidOutB P=true) (hi:dO P ins f.params.toList=true) (hr:f.resultTypes=#[tb]) (hb:P.underlying tb=some .bool) (hv:s.vars=[])
  (hW:DataW.Whole enc P f.params.toList s.vars false W args.toList ds [] before) (hs:s.fn H (ds++[])={ results:=[.lit (.bool true)],args:=ds })
  (hk:Kept W (fun _=>False) W'):s.post enc P f false fresh handsOn lg W args (.bool true) W':=by
 have hold:∀ p∈before,decide (p.block < W.heap.size)=true:=fun p hp=>by simpa using hW.lt p hp
 have hblk:∀ b,b < W.heap.size→W'.heap[b]?=W.heap[b]?:=fun b hb=>hk.block b hb (fun h=>h)
 have hsame:∀ p∈before,W.sameAt W' p:=by
  intro p hp
  have:=hblk p.block (hW.lt p hp)
  cases p with
  | cell b off=>simp only [MemPlace.block] at this; simp [World.sameAt,World.cell?,this]
  | map b=>exact this
 have hW':=hW
 obtain ⟨p,q,hA,hV,rfl,hz,_⟩:=hW
 rw [hv] at hV
 obtain rfl:q=[]:=hV
 simp only [LU] at hold hsame hz hW'
 have args':∀ sp:Nat→Bool,(∀ x∈p,sp x.block=true)→DataW.TrodAll enc P W' 0 sp true f.params.toList args.toList ds p:=fun sp hsp=>ux hl hi hA hsame hsp
 have res':∀ (b:Nat) (sp:Nat→Bool) (hd:Bool),DataW.TrodAll enc P W' b sp hd f.resultTypes.toList ((Value.bool true).resultList f.resultTypes.size) [.lit (.bool true)] []:=by
  intro b sp hd
  rw [hr]
  exact trodAll_mk1 (shut_bool hb true)
 have ok':∀ (j:Nat) (t:TypeId) (r:Value),f.resultTypes[j]?=some t→((Value.bool true).resultList f.resultTypes.size)[j]?=some r→Value.okWide P W' .any 0 t r:=by
  intro j t r hj hv
  rw [hr] at hj hv
  match j,hj,hv with
  | 0,hj,hv =>
   simp [Value.resultList] at hj hv
   subst hj; subst hv
   simp [Value.okWide,hb,Cell.okWide,Cell.ok]
 have vars':∀ sp:Nat→Bool,DataW.TrodVars enc P W' sp s.vars (s.fn H (ds++[])).vars []:=by
  intro sp; rw [hv,hs]; exact rfl
 refine ⟨ds,[],p,[],p,[],hW',by rw [hs]; exact res' _ _ _,by rw [hs]; exact args' _ hold,vars' _,⟨hk.os,hk.output,fun i hi=>?_⟩,fun _=>⟨ok',[.lit (.bool true)]++ds,[],p,⟨p,[],?_,?_,by simp,?_,fun h=>by cases h⟩,fun x hx _=>hx⟩⟩
 ·rw [hblk i hi]
  cases h:W.heap[i]? with
  | none=>trivial
  | some o =>
   cases o with
   | cells c t fr=>exact ⟨rfl,rfl,rfl,fun _ _=>rfl⟩
   | map es ck=>exact .inr ⟨rfl,rfl⟩
   | _=>rfl
 ·have:=trodAll_append (args' (fun _=>true) (fun _ _=>rfl)) (res' 0 (fun _=>true) true)
  simpa using this
 ·rw [hv]; exact rfl
 ·intro b off hp
  have:=hblk b (of_decide_eq_true (hold _ hp))
  have h2:=hz b off hp
  simpa [World.frozen?,this] using h2
theorem De {H:Type} {enc:TypeId×Value→H} {P:Program} {f:FuncId} {fn:Func} {s:ChangeSpec} {glob:List (Nat×(Σ t:Ty,t.den))} {ins:List (Mode×Ty)} {tb:TypeId} {M:(aB (ins.map (·.2))).den→Option (aB ([(true,Ty.bool)].map (·.2)++aY ins)).den} {fresh handsOn lg:Bool}
  (hl : laidOutB P = true) (hf : P.funcs[f]? = some fn) (hb : fn.body.isSome = true) (hn : (fn.name == "runtime.NumGoroutine") = false) (hi : dO P ins fn.params.toList = true) (hr : fn.resultTypes = #[tb]) (hbt : P.underlying tb = some .bool) (hv : s.vars = [])
  (hs:∀ ds:List (DataW H),ds.length=ins.length→s.fn H (ds++[])={ results:=[.lit (.bool true)],args:=ds })
  (hc:Con.Holds P glob f ⟨ins,[(true,.bool)],M,false⟩) (hM:∀ x,wA ins x→∃ r,M x=some (true,r))
  {W:World} {base:Nat} {args:Array Value} {ds gs:List (DataW H)} {before:List MemPlace}
  (hg:∀ g τ x,eK glob g=some ⟨τ,x⟩→Rd W (fun b=>b < W.heap.size) (.ptr τ) [.pointer (some ⟨g,0,none⟩)] x)
  (hok:∀ (j:Nat) t v,fn.params[j]?=some t→args[j]?=some v→Value.okWide P W .any base t v) (hW:DataW.Whole enc P fn.params.toList s.vars false W args.toList ds gs before) :
  Calls P f args W fun e W'=>∃ v,e=.returned v∧s.post enc P fn false fresh handsOn lg W args v W':=by
 have hW0:=hW
 obtain ⟨p,q,hA,hV,_,_,_⟩:=hW
 obtain rfl:gs=[]:=by
  rw [hv] at hV
  cases gs with
  | nil=>rfl
  | cons g r=>exact absurd hV (by intro h; cases h)
 obtain ⟨x,a1,a2,a3,a4⟩:=BO (base:=base) hi hA (fun j t v hj hv=>hok j t v (by rw [← LO]; exact hj) (by rw [← LO]; exact hv))
 obtain ⟨r,hMx⟩:=hM x a2
 have hp:Pre glob W (fun b=>b < W.heap.size) ins args.toList x:=⟨a1,by rw [a3]; simp,by rw [a3]; exact Mo,fun b hb=>hb,hg⟩
 have fin:∀ {v:Value} {W':World},(∃ F2 css,xy W (fun b=>b < W.heap.size) ins args.toList [(true,.bool)] (true,r) v W' F2 css)→s.post enc P fn false fresh handsOn lg W args v W':=by
  rintro v W' ⟨F2,css,hP⟩
  have hk:=hP.kept
  rw [a3] at hk
  have hk':Kept W (fun _=>False) W':=⟨hk.os,hk.tape,hk.output,hk.size,fun b hb _=>hk.block b hb (by rintro ⟨u,hu,_⟩; simp at hu)⟩
  have hv':v=.bool true:=by
   have h1:=hP.res
   have h2:=hP.val
   match css,h1 with
   | [cs],h1 =>
    have h3:Rd W' F2 .bool cs true:=h1.1
    unfold Rd at h3
    subst h3
    rw [h2]; rfl
  subst hv'
  exact C6 hl hi hr hbt hv hW0 (hs ds a4) hk'
 have hn' : ¬ fn.name = "runtime.NumGoroutine" := by simpa using hn
 obtain ⟨body,hbody⟩:=Option.isSome_iff_exists.1 hb
 have hcall:(callFunc f args).run P W=.ok (.enter f args) W:=by simp [callFunc,hf,hn',hbody]
 have harr:args.toList.toArray=args:=by simp
 rcases hc.get (kv hi) hp hMx with ⟨_,h2⟩ | ⟨v,w',h1,_⟩
 ·rw [harr] at h2
  refine h2.mono fun e W' he=>?_
  obtain ⟨v,rfl,hR⟩:=he
  exact ⟨v,rfl,fin hR⟩
 ·rw [harr,hcall] at h1
  cases h1
end Go.Vm
namespace Go.Vm
theorem yD {P:Program} {W:World} {laid:List (String×DataW Unit)} (h:laidMetH P laid W) (hno:(laid.filter fun x=>x.2.handleName?.isSome)=[]) {name:String} {d:DataW Unit} {g:Nat} {t:TypeId} {τ : Ty} {x : τ.den}
  (hmem:(name,d)∈laid) (hg:P.globalNamed name=some g) (ht:(P.globals[g]?).map (·.type)=some t) (hc:(chk P τ none t && τ.good)=true) (hx:ofD τ d=some x) :
  Rd W (fun b=>b < W.heap.size) (.ptr τ) [.pointer (some ⟨g,0,none⟩)] x:=by
 simp only [A4] at hc
 unfold laidMetH at h
 rw [hno] at h
 obtain ⟨ps,hv,_⟩:=h
 have key:∀ (l:List (String×DataW Unit)) (ps:List MemPlace),DataW.LaidVars P W l ps→(name,d)∈l→∃ g t cs fuel p,P.globalNamed name=some g∧(P.globals[g]?).map (·.type)=some t∧W.var? P name=some cs∧DataW.trod (fun _=>()) P W 0 (fun _=>true) false fuel t cs.toList=some (d,p):=by
  intro l
  induction l with
  | nil=>intro _ _ hm; simp at hm
  | cons q l ih =>
   obtain ⟨n,e⟩:=q
   rintro ps ⟨g,t,cs,fuel,p,q,h1,h2,h3,h4,h5,_⟩ hm
   rcases B3.1 hm with hm | hm
   ·cases hm; exact ⟨g,t,cs,fuel,p,h1,h2,h3,h4⟩
   ·exact ih q h5 hm
 obtain ⟨g',t',cs,fuel,p,h1,h2,h3,h4⟩:=key laid ps hv hmem
 rw [hg] at h1; cases h1
 rw [ht] at h2; cases h2
 obtain ⟨y,hy,hr⟩:=nX hc.2 hc.1 h4
 rw [hx] at hy; cases hy
 unfold World.var? at h3
 rw [hg] at h3
 simp only [gr] at h3
 split at h3
 ·rename_i c el fz hh
  cases h3
  have hb:g < W.heap.size:=(Lw.1 hh).1
  have hl:=hr.len
  rw [LJ] at hl
  refine ⟨g,0,cs,el,fz,rfl,hb,hh,by omega,?_⟩
  have:seg cs 0 τ.size=cs.toList:=by
   unfold seg
   rw [List.drop_zero,List.take_of_length_le (by rw [LJ]; omega)]
  rw [this]; exact hr
 ·cases h3
theorem JZ {W:World} {glob:List (Nat×(Σ t:Ty,t.den))} (h:∀ p∈glob,Rd W (fun b=>b < W.heap.size) (.ptr p.2.1) [.pointer (some ⟨p.1,0,none⟩)] p.2.2) :
  ∀ g τ x,eK glob g=some ⟨τ,x⟩→Rd W (fun b=>b < W.heap.size) (.ptr τ) [.pointer (some ⟨g,0,none⟩)] x:=by
 induction glob with
 | nil=>intro g τ x hg; simp [eK] at hg
 | cons p r ih =>
  intro g τ x hg
  obtain ⟨k,v⟩:=p
  simp only [eK] at hg
  cases hk:A8 k g with
  | true =>
   rw [hk] at hg
   cases hg
   rw [← A5 hk]
   exact h (k,⟨τ,x⟩) (by simp)
  | false=>rw [hk] at hg; exact ih (fun p hp=>h p (by simp [hp])) g τ x hg
end Go.Vm

/-
 Plain laws for what the decompiler prints: numbers, lists, strings, loops.
-/
namespace Go.Vm
theorem vj:lim=68719476736:=by decide
theorem oQ {a b:Int} (h1 : -9223372036854775808≤a+b) (h2:a+b≤9223372036854775807):aC .i64 a b=a+b:=IntWalk.i64_in _ ⟨h1,h2⟩
theorem kz {a b:Int} (h1 : -9223372036854775808≤a - b) (h2:a - b≤9223372036854775807):cQ .i64 a b=a - b:=IntWalk.i64_in _ ⟨h1,h2⟩
theorem mQ {a b:Int} (h1 : -9223372036854775808≤a * b) (h2:a * b≤9223372036854775807):jS .i64 a b=a * b:=IntWalk.i64_in _ ⟨h1,h2⟩
theorem bj {a:Nat} (h:a < 9223372036854775807):aC .i64 (a:Int) 1=((a+1:Nat):Int):=by rw [oQ (by omega) (by omega)]; rfl
theorem nJ {a:Nat} (h:a≤9223372036854775800):cQ .i64 (a:Int) 1=(a:Int) - 1:=kz (by omega) (by omega)
theorem aM {a b:Int} (h:a < b):ltI a b=true:=by simp [ltI,h]
theorem aI {a b:Int} (h:b≤a):ltI a b=false:=by simp [ltI]; omega
theorem mm {a b:Int} (h:b < a):gtI a b=true:=by simp [gtI,h]
theorem jp {a b:Int} (h:a≤b):gtI a b=false:=by simp [gtI]; omega
theorem Bf {a b:Int} (h:b≤a):geI a b=true:=by simp [geI]; omega
theorem lz {a b:Int} (h:a < b):geI a b=false:=by simp [geI]; omega
theorem Ja {a b:Int} (h:a≤b):leI a b=true:=by simp [leI,h]
theorem JA {a b:Int} (h:b < a):leI a b=false:=by simp [leI]; omega
theorem kP {a b:Int} (h:a=b):eqI a b=true:=by simp [eqI,h]
theorem iz {a b:Int} (h:a≠b):eqI a b=false:=by simp [eqI,h]
theorem ik {a b:Int} (h:a≠b):neI a b=true:=by simp [neI,h]
theorem fA {a b:Int} (h:a=b):neI a b=false:=by simp [neI,h]
theorem Ek {d:Nat} (h:d≤9223372036854775807):i7 .i64 (d:Int) 2=((d / 2:Nat):Int):=by
 unfold i7
 have:(d:Int).tdiv 2=((d / 2:Nat):Int):=by rw [Int.tdiv_eq_ediv_of_nonneg (by omega)]; omega
 rw [this]
 exact IntWalk.i64_in _ ⟨by omega,by omega⟩
theorem Gj {d:Nat}:kO (d:Int) 2=((d % 2:Nat):Int):=by
 unfold kO
 rw [Int.tmod_eq_emod_of_nonneg (by omega)]; omega
def oth (d:Nat):Nat:=if d % 2=0 then d+1 else d - 1
theorem fi (d:Nat):oth (oth d)=d:=by unfold oth; split <;> split <;> omega
theorem ee {d m:Nat} (h:d < 2 * m):oth d < 2 * m:=by unfold oth; split <;> omega
theorem jV (d:Nat):oth d / 2=d / 2:=by unfold oth; split <;> omega
theorem jx (d:Nat):oth d % 2=1 - d % 2:=by unfold oth; split <;> omega
theorem GQ (d:Nat):d ^^^ 1=oth d:=by
 apply Nat.eq_of_testBit_eq
 intro i
 rw [Nat.testBit_xor]
 cases i with
 | zero =>
  simp only [Nat.testBit_zero]
  have:=jx d
  rcases Nat.mod_two_eq_zero_or_one d with h | h
  ·rw [this,h]; rfl
  ·rw [this,h]; rfl
 | succ i =>
  rw [NX,NX,NX,jV]
  simp
theorem EC {d:Nat} (h:d < 4611686018427387904):s6 .i64 (d:Int) 1=((oth d:Nat):Int):=by
 unfold s6
 have h1:(BitVec.ofInt (IntKind.bits .i64) (d:Int)).toNat=d:=by
  show (BitVec.ofInt 64 (d:Int)).toNat=d
  rw [BitVec.toNat_ofInt]
  omega
 have h2:(BitVec.ofInt (IntKind.bits .i64) (1:Int)).toNat=1:=by decide
 have h3:(BitVec.ofInt (IntKind.bits .i64) (d:Int) ^^^ BitVec.ofInt (IntKind.bits .i64) 1).toNat=oth d:=by
  rw [BitVec.toNat_xor,h1,h2,GQ]
 rw [h3]
 have:oth d≤d+1:=by unfold oth; split <;> omega
 exact IntWalk.i64_in _ ⟨by omega,by omega⟩
theorem ao {n i:Nat} (h:i < n):aQ n (i:Int)=some i:=by simp [aQ,h]
theorem hO {n:Nat} {i:Int} (h0:0≤i) (h:i < n):aQ n i=some i.toNat:=by simp [aQ,h0,h]
theorem aq {α : Type} {l:List α} {i:Nat}:aL l (i:Int)=l[i]?:=by simp [aL]
theorem Dy {α : Type} {l:List α} {i:Int} (h:0≤i):aL l i=l[i.toNat]?:=by simp [aL,h]
theorem c9 {α : Type} {l r:List α} (h:l.length+r.length≤68719476736):app l r=some (l++r):=by simp [app,vj,h]
theorem dL {e:Ty} {n c:Nat} (h:n≤c) (h2:c≤68719476736):eV e (n:Int) (c:Int)=some (List.replicate n (az e)):=by
 have h3:(c:Int)≤68719476736:=by omega
 simp [eV,vj,h,h3]
section
variable {σ ρ : Type} {f : σ→Option (σ⊕ρ)}
theorem cI {s t : σ} (h:f s=some (.inl t)):aa f s=aa f t:=by rw [mG,h]; rfl
theorem bW {s : σ} {r : ρ} (h:f s=some (.inr r)):aa f s=some r:=by rw [mG,h]; rfl
theorem lN (I : σ→Prop) (m : σ→Nat) (Q : ρ→Prop) (step:∀ s,I s→(∃ t,f s=some (.inl t)∧I t∧m t < m s)∨∃ r,f s=some (.inr r)∧Q r):∀ s,I s→∃ r,aa f s=some r∧Q r:=by
 have:∀ n s,m s≤n→I s→∃ r,aa f s=some r∧Q r:=by
  intro n
  induction n with
  | zero =>
   intro s hm hs
   rcases step s hs with ⟨t,_,_,h⟩ | ⟨r,h1,h2⟩
   ·omega
   ·exact ⟨r,bW h1,h2⟩
  | succ n ih =>
   intro s hm hs
   rcases step s hs with ⟨t,h1,h2,h⟩ | ⟨r,h1,h2⟩
   ·rw [cI h1]; exact ih t (by omega) h2
   ·exact ⟨r,bW h1,h2⟩
 exact fun s hs=>this (m s) s (A7 _) hs
end
def K3 {α : Type} (x:List α×Int×Int×Unit):Option ((List α×Int×Int×Unit)⊕((List α×Unit)⊕Empty)) :=
 cond (ltI x.2.1 x.2.2.1) ((aQ x.1.length x.2.2.1).bind fun j1=>(x.1[j1]?).bind fun y2=>(aQ x.1.length x.2.1).bind fun j3=>(x.1[j3]?).bind fun y4=>(aQ x.1.length x.2.1).bind fun j5=>(x.1[j5]?).bind fun _=>(aQ (x.1.set j5 y2).length x.2.2.1).bind fun j7=>((x.1.set j5 y2)[j7]?).bind fun _=>some (.inl (((x.1.set j5 y2).set j7 y4),((aC .i64 x.2.1 1),((cQ .i64 x.2.2.1 1),()))))) (some (.inr (.inl (x.1,()))))
end Go.Vm
namespace Go.Vm
def ai {S α ε : Type} (g:Nat→S→α→Option (S⊕ε)):Nat→S→List α→Option (S⊕ε)
 | _,s,[]=>some (.inl s)
 | i,s,a :: l=>(g i s a).bind (K8 (fun t=>ai g (i+1) t l) (fun e=>some (.inr e)))
theorem tU {σ ρ S α ε : Type} {B : σ→Option (σ⊕ρ)} (I:Nat→S→Prop) (st:S→Nat→σ) (out:S→ρ) (ex : ε→ρ) (g:Nat→S→α→Option (S⊕ε)) (l:List α)
  (h1:∀ s i a,I i s→l[i]?=some a→B (st s i)=(g i s a).bind (K8 (fun t=>some (.inl (st t (i+1)))) (fun e=>some (.inr (ex e)))))
  (hI:∀ s i a t,I i s→l[i]?=some a→g i s a=some (.inl t)→I (i+1) t)
  (h2:∀ s,I l.length s→B (st s l.length)=some (.inr (out s))):∀ (r p:List α) (s:S),p++r=l→I p.length s→aa B (st s p.length)=(ai g p.length s r).bind (K8 (fun t=>some (out t)) (fun e=>some (ex e)))
 | [],p,s,h,hs=>by
  have:p.length=l.length:=by rw [← h]; simp
  rw [this] at hs ⊢
  rw [bW (h2 s hs)]
  rfl
 | a :: r,p,s,h,hs=>by
  have ha:l[p.length]?=some a:=by rw [← h]; simp
  rw [mG,h1 s p.length a hs ha]
  simp only [ai]
  cases hg:g p.length s a with
  | none=>rfl
  | some x =>
   cases x with
   | inl t =>
    simp only [gr,K7]
    have:=tU I st out ex g l h1 hI h2 r (p++[a]) t (by simp [h]) (by simpa using hI s p.length a t hs ha hg)
    simpa using this
   | inr e=>rfl
theorem df {σ ρ S α ε : Type} {B : σ→Option (σ⊕ρ)} (I:Nat→S→Prop) (st:S→Nat→σ) (out:S→ρ) (ex : ε→ρ) (g:Nat→S→α→Option (S⊕ε)) (l:List α)
  (h1:∀ s i a,I i s→l[i]?=some a→B (st s i)=(g i s a).bind (K8 (fun t=>some (.inl (st t (i+1)))) (fun e=>some (.inr (ex e)))))
  (hI:∀ s i a t,I i s→l[i]?=some a→g i s a=some (.inl t)→I (i+1) t)
  (h2:∀ s,I l.length s→B (st s l.length)=some (.inr (out s))) (s:S) (hs:I 0 s):aa B (st s 0)=(ai g 0 s l).bind (K8 (fun t=>some (out t)) (fun e=>some (ex e))) :=
 tU I st out ex g l h1 hI h2 l [] s rfl hs
theorem mX {σ ρ S α ε : Type} {B : σ→Option (σ⊕ρ)} (st:S→Nat→σ) (out:S→ρ) (ex : ε→ρ) (g:Nat→S→α→Option (S⊕ε)) (l:List α)
  (h1:∀ s i a,l[i]?=some a→B (st s i)=(g i s a).bind (K8 (fun t=>some (.inl (st t (i+1)))) (fun e=>some (.inr (ex e)))))
  (h2:∀ s,B (st s l.length)=some (.inr (out s))) (s:S):aa B (st s 0)=(ai g 0 s l).bind (K8 (fun t=>some (out t)) (fun e=>some (ex e))) :=
 df (fun _ _=>True) st out ex g l (fun s i a _=>h1 s i a) (fun _ _ _ _ _ _ _=>trivial) (fun s _=>h2 s) s trivial
theorem gU {S α ε : Type} {g:Nat→S→α→Option (S⊕ε)} {I:Nat→S→Prop}:∀ {l:List α} {i:Nat} {s t:S},(∀ s j a t,I (i+j) s→l[j]?=some a→g (i+j) s a=some (.inl t)→I (i+j+1) t)→I i s→ai g i s l=some (.inl t)→I (i+l.length) t
 | [],i,s,t,_,hs,h=>by simp only [ai] at h; cases h; exact hs
 | a :: l,i,s,t,hI,hs,h=>by
  simp only [ai] at h
  cases hg:g i s a with
  | none=>rw [hg] at h; cases h
  | some x =>
   rw [hg] at h
   cases x with
   | inl u =>
    have:=gU (l:=l) (i:=i+1) (s:=u) (t:=t) (fun s j b t h1 h2 h3=>by
     have:=hI s (j+1) b t (by rwa [show i+(j+1)=i+1+j by omega]) (by simpa using h2) (by rwa [show i+(j+1)=i+1+j by omega])
     rwa [show i+(j+1)+1=i+1+j+1 by omega] at this) (by simpa using hI s 0 a u hs rfl hg) (by simpa using h)
    rw [La,show i+(l.length+1)=i+1+l.length by omega]
    exact this
   | inr e=>cases h
theorem uf {S α ε : Type} {g:Nat→S→α→Option (S⊕ε)} (f:Nat→S→α→S) {l:List α}:∀ {i:Nat} {s:S},(∀ j a s,l[j]?=some a→g (i+j) s a=some (.inl (f (i+j) s a)))→∃ t,ai g i s l=some (.inl t):=by
 induction l with
 | nil=>intro i s _; exact ⟨s,rfl⟩
 | cons a l ih =>
  intro i s h
  have h0:=h 0 a s rfl
  simp only [L7] at h0
  simp only [ai,h0,gr,K7]
  refine ih fun j b s hj=>?_
  have:=h (j+1) b s (by simpa using hj)
  rwa [show i+(j+1)=i+1+j by omega] at this
end Go.Vm

