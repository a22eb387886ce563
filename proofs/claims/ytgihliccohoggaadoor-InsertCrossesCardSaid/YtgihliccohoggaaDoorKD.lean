/-
 A new edge within a face.
-/
import Derived.Test.YtgihliccohoggaaDoorKB
set_option linter.unusedVariables false
set_option linter.unusedSimpArgs false
namespace Go.Vm
open Go.Proofs
set_option maxRecDepth 100000
attribute [local irreducible] loopFix
theorem path_app {nx : List Int} : ∀ {f g : List Int} {x z : Int},Path nx x (f++g) z↔∃ y,Path nx x f y∧Path nx y g z
 | [],g,x,z=>by
  constructor
  ·intro h; exact ⟨x,rfl,h⟩
  ·rintro ⟨y,h1,h2⟩; have : x=y:=h1; subst this; exact h2
 | a :: f,g,x,z=>by
  constructor
  ·rintro ⟨h1,y,h2,h3⟩
   obtain ⟨w,w1,w2⟩:=path_app.1 h3
   exact ⟨w,⟨h1,y,h2,w1⟩,w2⟩
  ·rintro ⟨w,⟨h1,y,h2,h3⟩,h4⟩
   exact ⟨h1,y,h2,path_app.2 ⟨w,h3,h4⟩⟩
theorem path_of {nx : List Int} : ∀ {f : List Int} {x z : Int},(f++[z])[0]?=some x→(∀ i (h : i < f.length),nx[f[i].toNat]?=(f++[z])[i+1]?)→Path nx x f z
 | [],x,z,h,_=>by simpa [Path] using h.symm
 | a :: f,x,z,h,h2=>by
  have hx : a=x:=by simpa using h
  have h0:=h2 0 (by simp)
  obtain ⟨y,hy⟩ : ∃ y,(f++[z])[0]?=some y:=⟨_,List.getElem?_eq_getElem (by simp)⟩
  refine ⟨hx,y,?_,path_of hy fun i hi=>?_⟩
  ·rw [← hx]
   rw [show ((a :: f)++[z])[0+1]?=(f++[z])[0]? from rfl,hy] at h0
   simpa using h0
  ·have:=h2 (i+1) (by simpa using hi)
   simpa using this
theorem cyc_path {nx : List Int} {x : Int} {f : List Int} (h : Cyc nx (x :: f)) : Path nx x (x :: f) x:=by
 refine path_of (by simp) fun i hi=>?_
 rw [h.2 i hi]
 by_cases e : i+1 < (x :: f).length
 ·rw [Nat.mod_eq_of_lt e,List.getD_eq_getElem?_getD,List.getElem?_append_left e,List.getElem?_eq_getElem e]; rfl
 ·have e2 : i+1=(x :: f).length:=by omega
  rw [e2,Nat.mod_self,List.getElem?_append_right (by omega)]
  simp
theorem cyc_rot {nx p q : List Int} (h : Cyc nx (p++q)) : Cyc nx (q++p):=by
 cases p with
 | nil=>simpa using h
 | cons a p =>
  cases q with
  | nil=>simpa using h
  | cons b q =>
   have h1:=cyc_path (x:=a) (f:=p++b :: q) h
   obtain ⟨y,h2,h3⟩:=path_app (f:=a :: p) (g:=b :: q).1 h1
   have : b=y:=h3.1
   subst this
   exact path_cyc (x:=b) (path_app.2 ⟨a,h3,h2⟩) (by simp)
theorem path_two {nx nx' : List Int} {z z' : Int} : ∀ {s : List Int} {x : Int},Path nx x s z→Path nx' x s z'→z∉s.tail→∀ y∈s,(nx[y.toNat]?=some z→nx'[y.toNat]?=some z')∧(nx[y.toNat]?≠some z→nx'[y.toNat]?=nx[y.toNat]?)
 | [],_,_,_,_,y,hy=>by simp at hy
 | [a],x,h1,h2,_,y,hy=>by
  have : y=a:=by simpa using hy
  subst this
  obtain ⟨rfl,w,w1,w2⟩:=h1
  obtain ⟨_,w',w1',w2'⟩:=h2
  have w2 : w=z:=w2
  have w2' : w'=z':=w2'
  subst w2; subst w2'
  exact ⟨fun _=>w1',fun h=>absurd w1 h⟩
 | a :: b :: s,x,h1,h2,hz,y,hy=>by
  obtain ⟨rfl,w,w1,w2⟩:=h1
  obtain ⟨_,w',w1',w2'⟩:=h2
  have e : b=w:=w2.1
  have e' : b=w':=w2'.1
  subst e; subst e'
  rcases List.mem_cons.1 hy with rfl | hy
  ·refine ⟨fun h=>?_,fun _=>by rw [w1,w1']⟩
   rw [w1] at h
   have : b=z:=Option.some.inj h
   exact absurd (by simp [this]) hz
  ·exact path_two w2 w2' (fun h=>hz (by simp at h ⊢; exact .inr h)) y hy
theorem path_turn {nx nx' : List Int} {z z' : Int} : ∀ {s : List Int} {x : Int},Path nx x s z→s≠[]→z∉s.tail→(∀ y∈s,(nx[y.toNat]?=some z→nx'[y.toNat]?=some z')∧(nx[y.toNat]?≠some z→nx'[y.toNat]?=nx[y.toNat]?))→Path nx' x s z'
 | [],_,_,h,_,_=>absurd rfl h
 | [a],x,h1,_,_,h=>by
  obtain ⟨rfl,w,w1,w2⟩:=h1
  have w2 : w=z:=w2
  subst w2
  exact ⟨rfl,z',(h a (by simp)).1 w1,rfl⟩
 | a :: b :: s,x,h1,_,hz,h=>by
  obtain ⟨rfl,w,w1,w2⟩:=h1
  have e : b=w:=w2.1
  subst e
  have hb : b≠z:=fun e=>hz (by simp [e])
  refine ⟨rfl,b,?_,path_turn w2 (by simp) (fun hm=>hz (by simp at hm ⊢; exact .inr hm)) fun y hy=>h y (by simp at hy ⊢; exact .inr hy)⟩
  rw [(h a (by simp)).2 (by rw [w1]; exact fun e=>hb (Option.some.inj e)),w1]
theorem path_keep {nx nx' : List Int} : ∀ {s : List Int} {x z : Int},Path nx x s z→(∀ y∈s,nx'[y.toNat]?=nx[y.toNat]?)→Path nx' x s z
 | [],_,_,h,_=>h
 | a :: s,x,z,⟨h1,y,h2,h3⟩,h=>⟨h1,y,by rw [← h1,h a (by simp),h1]; exact h2,path_keep h3 fun w hw=>h w (by simp [hw])⟩
theorem cyc_all {nx f g : List Int} (hf : Cyc nx f) (hg : Cyc nx g) (hN : NatL f) {x : Int} (hx : x∈f) (hxg : x∈g) : ∀ y∈f,y∈g:=by
 obtain ⟨p,q,rfl⟩:=List.append_of_mem hx
 have h1:=cyc_path (cyc_rot hf)
 have key : ∀ (s : List Int) (a z : Int),NatL s→Path nx a s z→a∈g→∀ y∈s,y∈g:=by
  intro s
  induction s with
  | nil=>intro a z _ _ _ y hy; simp at hy
  | cons b s ih =>
   intro a z hs h ha y hy
   obtain ⟨rfl,w,w1,w2⟩:=h
   rcases List.mem_cons.1 hy with e0 | hy2
   ·rw [e0]; exact ha
   ·obtain ⟨k,hk⟩:=hs b (by simp)
    subst hk
    cases s with
    | nil=>simp at hy2
    | cons c s =>
     have e : c=w:=w2.1
     subst e
     obtain ⟨k',hk'⟩:=hs c (by simp)
     subst hk'
     exact ih _ z (fun x hx=>hs x (by simp at hx ⊢; exact .inr hx)) w2 (cyc_closed hg ha (by simpa using w1)) y hy2
 intro y hy
 refine key _ _ _ (fun w hw=>hN w ?_) h1 hxg y ?_
 ·simp at hw ⊢; rcases hw with h | h | h <;> simp [h]
 ·simp at hy ⊢; rcases hy with h | h | h <;> simp [h]
theorem pigeon {n m : Nat} (φ : Nat→Nat) (h1 : ∀ i,i < n→φ i < m) (h2 : ∀ i j,i < n→j < n→φ i=φ j→i=j) : n≤m:=by
 have hn : ((List.range n).map φ).Nodup:=by
  refine List.pairwise_map.2 (List.Pairwise.imp_of_mem (fun {a b} ha hb hab e=>?_) List.nodup_range)
  exact hab (h2 a b (List.mem_range.1 ha) (List.mem_range.1 hb) e)
 have:=nodup_le m _ hn (by
  intro x hx
  obtain ⟨i,hi,rfl⟩:=List.mem_map.1 hx
  exact h1 i (List.mem_range.1 hi))
 simpa using this
theorem parts_le {L : Nat} {nx : List Int} {fs gs : List (List Int)} (hf : FsOK L fs) (hg : FsOK L gs) (cf : ∀ f∈fs,Cyc nx f) (cg : ∀ g∈gs,Cyc nx g) : fs.length≤gs.length:=by
 have pick : ∀ i,i < fs.length→∃ j,j < gs.length∧∃ f g x,fs[i]?=some f∧gs[j]?=some g∧x∈f∧x∈g:=by
  intro i hi
  have hm:=List.getElem_mem hi
  obtain ⟨hne,hel⟩:=hf.elem _ hm
  obtain ⟨x,hx⟩:=List.exists_mem_of_ne_nil _ hne
  obtain ⟨k,rfl,hk⟩:=hel x hx
  obtain ⟨j,g,h1,h2,h3⟩:=hg.face hk
  exact ⟨j,h3,_,g,(k : Int),List.getElem?_eq_getElem hi,h1,hx,h2⟩
 refine pigeon (fun i=>if h : i < fs.length then (pick i h).choose else 0) (fun i hi=>?_) (fun i j hi hj e=>?_)
 ·simp only [hi,dif_pos]
  exact (pick i hi).choose_spec.1
 ·simp only [hi,hj,dif_pos] at e
  obtain ⟨_,f,g,x,a1,a2,a3,a4⟩:=(pick i hi).choose_spec
  obtain ⟨_,f',g',x',b1,b2,b3,b4⟩:=(pick j hj).choose_spec
  rw [e,b2] at a2
  have : g'=g:=Option.some.inj a2
  subst this
  have hfm:=List.mem_of_getElem? a1
  have hgm:=List.mem_of_getElem? b2
  have hxf' : x∈f':=by
   have hfm':=List.mem_of_getElem? b1
   exact cyc_all (cg _ hgm) (cf _ hfm') (fun y hy=>hg.nat _ hgm y hy) b4 b3 x a4
  by_cases hij : i=j
  ·exact hij
  ·exfalso
   have hn:=(List.pairwise_flatten.1 hf.nodup).2
   rw [List.pairwise_iff_getElem] at hn
   have ei : fs[i]=f:=by rw [List.getElem?_eq_getElem hi] at a1; exact Option.some.inj a1
   have ej : fs[j]=f':=by rw [List.getElem?_eq_getElem hj] at b1; exact Option.some.inj b1
   rcases Nat.lt_or_ge i j with c | c
   ·exact hn i j hi hj c x (by rw [ei]; exact a3) x (by rw [ej]; exact hxf') rfl
   ·exact hn j i hj hi (by omega) x (by rw [ej]; exact hxf') x (by rw [ei]; exact a3) rfl
theorem parts_eq {L : Nat} {nx : List Int} {fs gs : List (List Int)} (hf : FsOK L fs) (hg : FsOK L gs) (cf : ∀ f∈fs,Cyc nx f) (cg : ∀ g∈gs,Cyc nx g) : fs.length=gs.length :=
 Nat.le_antisymm (parts_le hf hg cf cg) (parts_le hg hf cg cf)
end Go.Vm

namespace Go.Vm
open Go.Proofs
set_option maxRecDepth 100000
attribute [local irreducible] loopFix
theorem nodup_split {l : List Int} (hn : l.Nodup) {k : Nat} {f : Int} (hk : l[k]?=some f) : l=l.take k++f :: l.drop (k+1)∧f∉l.take k∧f∉l.drop (k+1):=by
 have hlt : k < l.length:=(List.getElem?_eq_some_iff.1 hk).1
 have hf : l[k]=f:=(List.getElem?_eq_some_iff.1 hk).2
 have e : l=l.take k++f :: l.drop (k+1):=by
  rw [← hf,← List.drop_eq_getElem_cons hlt,List.take_append_drop]
 have h2:=hn
 rw [e,List.nodup_append,List.nodup_cons] at h2
 exact ⟨e,fun hm=>h2.2.2 f hm f (by simp) rfl,h2.2.1.1⟩
theorem RotOK.list_nodup {N : Int} {E : List Arc} {A : List (List Int)} (h : RotOK N E A) {l : List Int} (hl : l∈A) : l.Nodup:=h.nodup.sublist (List.sublist_flatten_of_mem hl)
theorem count_one {l : List Int} {x : Int} (hn : l.Nodup) (hx : x∈l) : l.count x=1:=by
 have h1:=List.nodup_iff_count.1 hn x
 have h2:=List.count_pos_iff.2 hx
 omega
theorem rotOK_of {N : Nat} {E : List Arc} {A : List (List Int)} (hN : N≤16384) (hE : E.length≤32768) (hA : A.length=N) (hedge : ∀ a∈E,0≤a.1∧a.1 < (N : Int)∧0≤a.2.1∧a.2.1 < (N : Int)∧a.1≠a.2.1)
  (hnd : ∀ l∈A,l.Nodup) (hd : ∀ (v : Nat) (l : List Int),A[v]?=some l→∀ d∈l,∃ k : Nat,d=(k : Int)∧k < 2 * E.length∧tl E k=v) (hall : ∀ k,k < 2 * E.length→∃ l∈A,(k : Int)∈l) : RotOK (N : Nat) E A:=by
 have hn : A.flatten.Nodup:=by
  refine List.pairwise_flatten.2 ⟨hnd,?_⟩
  rw [List.pairwise_iff_getElem]
  intro i j hi hj hij x hx y hy e
  subst e
  obtain ⟨k,e1,_,e2⟩:=hd i _ (List.getElem?_eq_getElem hi) x hx
  obtain ⟨k',e1',_,e2'⟩:=hd j _ (List.getElem?_eq_getElem hj) x hy
  have : k=k':=by omega
  subst this
  omega
 have hel : ∀ x∈A.flatten,∃ k : Nat,x=(k : Int)∧k < 2 * E.length:=by
  intro x hx
  obtain ⟨l,hl,hxl⟩:=List.mem_flatten.1 hx
  obtain ⟨v,hv⟩:=List.mem_iff_getElem?.1 hl
  obtain ⟨k,e,h1,_⟩:=hd v l hv x hxl
  exact ⟨k,e,h1⟩
 refine ⟨by omega,by omega,hE,by omega,hedge,hd,hn,Nat.le_antisymm ?_ ?_⟩
 ·have hn2 : (A.flatten.map Int.toNat).Nodup:=by
   refine List.pairwise_map.2 (List.Pairwise.imp_of_mem (fun {a b} ha hb hab e=>?_) hn)
   obtain ⟨x,rfl,_⟩:=hel a ha
   obtain ⟨y,rfl,_⟩:=hel b hb
   simp at e
   omega
  have:=nodup_le (2 * E.length) _ hn2 (by
   intro x hx
   obtain ⟨d,hd',rfl⟩:=List.mem_map.1 hx
   obtain ⟨k,rfl,hk⟩:=hel d hd'
   simpa using hk)
  rwa [List.length_map] at this
 ·have pick : ∀ k,k < 2 * E.length→∃ i,A.flatten[i]?=some (k : Int):=fun k hk=>by
   obtain ⟨l,hl,hkl⟩:=hall k hk
   exact List.mem_iff_getElem?.1 (List.mem_flatten.2 ⟨l,hl,hkl⟩)
  refine pigeon (fun k=>if h : k < 2 * E.length then (pick k h).choose else 0) (fun k hk=>?_) (fun a b ha hb e=>?_)
  ·simp only [hk,dif_pos]
   exact (List.getElem?_eq_some_iff.1 (pick k hk).choose_spec).1
  ·simp only [ha,hb,dif_pos] at e
   have h1:=(pick a ha).choose_spec
   have h2:=(pick b hb).choose_spec
   rw [e,h2] at h1
   have:=Option.some.inj h1
   omega
theorem tl_old {E F : List Arc} {k : Nat} (hk : k < 2 * E.length) : tl (E++F) k=tl E k:=by
 unfold tl
 rw [List.getElem?_append_left (by omega)]
theorem tl_new0 {E : List Arc} {a : Arc} : tl (E++[a]) (2 * E.length)=a.1:=by
 unfold tl
 rw [show 2 * E.length / 2=E.length by omega,List.getElem?_append_right (Nat.le_refl _)]
 simp
theorem tl_new1 {E : List Arc} {a : Arc} : tl (E++[a]) (2 * E.length+1)=a.2.1:=by
 unfold tl
 rw [show (2 * E.length+1) / 2=E.length by omega,List.getElem?_append_right (Nat.le_refl _)]
 simp
section
variable {N : Nat} {E : List Arc} {A : List (List Int)} {nx : List Int}
theorem RotOK.split (h : RotOK (N : Nat) E A) {k w : Nat} (hk : k < 2 * E.length) (hw : tl E k=w) (hwN : w < N) : ∃ p q,A[w]?=some (p++(k : Int) :: q)∧subL A w=p++(k : Int) :: q∧(k : Int)∉p∧(k : Int)∉q:=by
 have hal : A.length=N:=by have:=h.len; omega
 have hlt : w < A.length:=by omega
 have hm:=h.around hk hw (List.getElem?_eq_getElem hlt)
 obtain ⟨i,hi⟩:=List.mem_iff_getElem?.1 hm
 have hn:=h.list_nodup (List.getElem_mem hlt)
 obtain ⟨e,n1,n2⟩:=nodup_split hn hi
 exact ⟨_,_,by rw [List.getElem?_eq_getElem hlt]; exact congrArg some e,by rw [subL_eq hlt]; exact e,n1,n2⟩
theorem Fol.cyc {E : List Arc} {A : List (List Int)} {fw : List Int} (h : Fol id E A fw) {l : List Int} (hl : l∈A) (hne : l≠[]) : Cyc fw l:=⟨hne,fun i hi=>h.get l hl i hi⟩
end
theorem oth2 (m : Nat) : oth (2 * m)=2 * m+1:=by unfold oth; rw [if_pos (by omega)]
theorem oth21 (m : Nat) : oth (2 * m+1)=2 * m:=by unfold oth; rw [if_neg (by omega)]; rfl
theorem path_last {nx : List Int} : ∀ {s : List Int} {x z : Int},Path nx x s z→s≠[]→∃ y∈s,nx[y.toNat]?=some z
 | [],_,_,_,h=>absurd rfl h
 | [a],x,z,⟨h1,y,h2,h3⟩,_=>⟨a,by simp,by rw [h1,h2]; exact congrArg some h3⟩
 | a :: b :: s,x,z,⟨h1,y,h2,h3⟩,_=>by
  obtain ⟨w,w1,w2⟩:=path_last h3 (by simp)
  exact ⟨w,by simp at w1 ⊢; exact .inr w1,w2⟩
theorem flat_split {α : Type} {fs : List (List α)} {j : Nat} {g : List α} (h : fs[j]?=some g) : ∃ a b,fs=a++g :: b:=by
 have hlt : j < fs.length:=(List.getElem?_eq_some_iff.1 h).1
 refine ⟨fs.take j,fs.drop (j+1),?_⟩
 rw [← (List.getElem?_eq_some_iff.1 h).2,← List.drop_eq_getElem_cons hlt,List.take_append_drop]
theorem count_flat {a b : List (List Int)} {g : List Int} (x : Int) : (a++g :: b).flatten.count x=a.flatten.count x+g.count x+b.flatten.count x:=by
 simp [List.count_append]; omega
section
variable {N : Nat} {E : List Arc} {A : List (List Int)} {nx : List Int}
theorem facesOf_fs {nx : List Int} (h : RotOK (N : Nat) E A) (hn : Fol oth E A nx) : FsOK (2 * E.length) (facesOf nx)∧∀ g∈facesOf nx,Cyc nx g:=by
 have hnx:=Fol.nxOK h hn
 refine ⟨?_,facesOf_cyc (fol_inj32 h hn) hnx⟩
 obtain ⟨m,_,hi⟩:=facesOf_spec hnx
 have hL : nx.length=2 * E.length:=hn.len
 rw [hL] at hi
 refine ⟨hi.elem,hi.nodup,fun k hk=>hi.cover k hk hk,?_⟩
 have:=hi.num
 show (facesOf nx).length≤_
 have h2 : (facesOf nx).length+unm m≤2 * E.length:=this
 omega
end
def emp (A : List (List Int)) : Nat:=A.countP fun l=>l.isEmpty
noncomputable def genZ (N : Nat) (E : List Arc) (A : List (List Int)) (F : Nat) : Int:=subI .i64 (comps N E : Nat) (quoI .i64 ((N : Int) - E.length+(F+emp A : Nat)) 2)
def empStep33 (_ : Nat) (n : Int) (l : List Int) : Option (Int⊕Empty):=some (.inl (cond (eqI (l.length : Nat) 0) (addI .i64 n 1) n))
theorem emp_fold : ∀ (A : List (List Int)) (i n : Nat),n+A.length≤1000000→foldE empStep33 i (n : Int) A=some (.inl ((n+emp A : Nat) : Int))
 | [],i,n,_=>rfl
 | l :: A,i,n,h=>by
  simp only [List.length_cons] at h
  cases l with
  | nil =>
   have e : empStep33 i (n : Int) []=some (.inl ((n+1 : Nat) : Int)):=by
    unfold empStep33
    rw [eqI_t (by rfl),cond_true,addI64 (by omega) (by omega)]; rfl
   simp only [foldE,e,Option.bind_some,Sum.elim_inl]
   rw [emp_fold A (i+1) (n+1) (by omega)]
   unfold emp
   simp only [List.countP_cons,List.isEmpty_nil,if_true]
   rw [show n+1+List.countP (fun l=>l.isEmpty) A=n+(List.countP (fun l=>l.isEmpty) A+1) by omega]
  | cons a l =>
   have e : empStep33 i (n : Int) (a :: l)=some (.inl (n : Int)):=by
    unfold empStep33
    rw [eqI_f (by simp; omega),cond_false]
   simp only [foldE,e,Option.bind_some,Sum.elim_inl]
   rw [emp_fold A (i+1) n (by omega)]
   unfold emp
   simp [List.countP_cons]
theorem RotOK.lists {N : Int} {E : List Arc} {A : List (List Int)} (h : RotOK N E A) : ∀ l∈A,l.length≤9223372036854775807:=fun l hl=>by have:=h.list_len hl; have:=h.m1; omega
section
variable {N : Nat} {E : List Arc} {A : List (List Int)} {nx : List Int}
theorem RotOK.al (h : RotOK (N : Nat) E A) : A.length=N:=by have:=h.len; omega
theorem RotOK.n16 (h : RotOK (N : Nat) E A) : N≤16384:=by have:=h.n1; omega
theorem fol_uniq (h : RotOK (N : Nat) E A) {nx mx : List Int} (hn : Fol oth E A nx) (hm : Fol oth E A mx) : mx=nx:=by
 refine List.ext_getElem? fun k=>?_
 by_cases hk : k < 2 * E.length
 ·obtain ⟨fw,_,ff⟩:=rfollow_eq h ()
  obtain ⟨y,_,h1,h2⟩:=fol_both h hn ff hk
  obtain ⟨y',_,h1',h2'⟩:=fol_both h hm ff hk
  rw [h2] at h2'
  rw [h1,h1',h2']
 ·rw [List.getElem?_eq_none (by rw [hm.len]; omega),List.getElem?_eq_none (by rw [hn.len]; omega)]
theorem faces_val (h : RotOK (N : Nat) E A) (hn : Fol oth E A nx) : Zbd (((N : Int),E,A,()),())=some (facesOf nx,())∧Zah (((N : Int),E,A,()),())=some (facesOf nx,()):=by
 obtain ⟨mx,m,_,f1,_,r1,r2⟩:=faces_both h h.validB h.lists
 rw [fol_uniq h hn f1] at r1 r2
 exact ⟨r1,r2⟩
theorem genus_val (h : RotOK (N : Nat) E A) (hn : Fol oth E A nx) : Zbb (((N : Int),E,A,()),())=some (genZ N E A (facesOf nx).length,())∧Zag (((N : Int),E,A,()),())=some (genZ N E A (facesOf nx).length,()):=by
 have hal:=h.al
 have hn16:=h.n16
 have hm1:=h.m1
 obtain ⟨r1,r2⟩:=faces_val h hn
 have hF:=(facesOf_fs h hn).1.num
 have hemp : emp A≤A.length:=List.countP_le_length
 have k1:=scan (B:=Zbb_B5) (fun n i=>((N : Int),E,A,n,A,((A.length : Nat) : Int),(i : Int),())) (fun n=>.inl ((N : Int),E,A,n,())) (fun e=>nomatch e) empStep33 A (by
  intro n i l hd'
  have hi : i < A.length:=(List.getElem?_eq_some_iff.1 hd').1
  simp only [Zbb_B5,empStep33]
  rw [ltI_t (by omega),cond_true,getI_of,hd',Option.bind_some,add1 (a:=i) (by omega)]
  cases eqI ((l.length : Nat) : Int) 0 <;> rfl) (by
  intro n
  simp only [Zbb_B5]
  rw [ltI_f (by omega)]; rfl) ((facesOf nx).length : Int)
 have k2:=scan (B:=Zag_B5) (fun n i=>(((A.length : Nat) : Int),E,A,n,(i : Int),())) (fun n=>.inl (((A.length : Nat) : Int),E,A,n,())) (fun e=>nomatch e) empStep33 A (by
  intro n i l hd'
  have hi : i < A.length:=(List.getElem?_eq_some_iff.1 hd').1
  simp only [Zag_B5,empStep33]
  rw [ltI_t (by omega),cond_true,getI_of,hd',Option.bind_some,add1 (a:=i) (by omega)]
  cases eqI ((l.length : Nat) : Int) 0 <;> rfl) (by
  intro n
  simp only [Zag_B5]
  rw [ltI_f (by omega)]; rfl) ((facesOf nx).length : Int)
 rw [emp_fold A 0 _ (by omega)] at k1 k2
 have e1 : addI .i64 (subI .i64 (N : Int) (E.length : Nat)) (((facesOf nx).length+emp A : Nat) : Int)=(N : Int) - E.length+((facesOf nx).length+emp A : Nat):=by
  rw [subI64 (by omega) (by omega),addI64 (by omega) (by omega)]
 constructor
 ·unfold Zbb
  simp only
  rw [valid_eq ((N : Int),E,A,()) h.lists,h.validB,Option.bind_some]
  simp only [Bool.not_true,cond_false]
  rw [r1,Option.bind_some]
  simp only
  rw [show Zbb_L5 ((N : Int),E,A,((facesOf nx).length : Nat),A,(A.length : Nat),0,())=_ from k1]
  simp only [Option.bind_some,Sum.elim_inl]
  rw [comps_val h]
  simp only [Option.bind_some]
  rw [e1]; rfl
 ·unfold Zag
  simp only
  rw [rvalid_eq ((N : Int),E,A,()) h.lists,h.validB,Option.bind_some]
  simp only [Bool.not_true,cond_false]
  rw [r2,Option.bind_some]
  simp only
  have k2' : Zag_L5 ((N : Int),E,A,((facesOf nx).length : Nat),0,())=some (.inl ((N : Int),E,A,(((facesOf nx).length+emp A : Nat) : Int),())):=by
   rw [show (N : Int)=((A.length : Nat) : Int) by omega]; exact k2
  rw [k2']
  simp only [Option.bind_some,Sum.elim_inl]
  rw [rcomps_val h]
  simp only [Option.bind_some]
  rw [e1]; rfl
theorem next_tail (h : RotOK (N : Nat) E A) (hn : Fol oth E A nx) {k y : Nat} (hy : nx[k]?=some (y : Int)) : k < 2 * E.length∧y < 2 * E.length∧tl E y=hd E k:=by
 have hk : k < 2 * E.length:=by
  have:=(List.getElem?_eq_some_iff.1 hy).1
  rw [hn.len] at this; exact this
 obtain ⟨v,l,i,h1,h2,h3,h4,h5⟩:=fol_at h hn hy
 obtain ⟨y',e1,e2,e3⟩:=h.dart v l h1 _ h5
 have : y=y':=by omega
 subst this
 have hm : ((oth k : Nat) : Int)∈l:=by
  rw [← h3,List.getD_eq_getElem?_getD,List.getElem?_eq_getElem h2]; exact List.getElem_mem h2
 obtain ⟨o,f1,f2,f3⟩:=h.dart v l h1 _ hm
 have : oth k=o:=by omega
 subst this
 exact ⟨hk,e2,by unfold hd; rw [e3,f3]⟩
theorem path_reach (h : RotOK (N : Nat) E A) (hn : Fol oth E A nx) : ∀ {s : List Int} {x z : Int} {a b p q : Nat},Path nx x s z→NatL s→x=(a : Int)→z=(b : Int)→tl E a=p→tl E b=q→Reach E p q
 | [],x,z,a,b,p,q,hp,_,hx,hz,h1,h2=>by
  have : x=z:=hp
  have : a=b:=by omega
  subst this
  have : p=q:=by omega
  subst this
  exact .refl _
 | c :: s,x,z,a,b,p,q,⟨e,y,e1,e2⟩,hN,hx,hz,h1,h2=>by
  subst hx
  rw [Int.toNat_natCast] at e1
  have hyn : ∃ y' : Nat,y=(y' : Int):=by
   cases s with
   | nil=>exact ⟨b,by rw [show y=z from e2,hz]⟩
   | cons d s =>
    obtain ⟨k,hk⟩:=hN d (by simp)
    exact ⟨k,by rw [← e2.1]; exact hk⟩
  obtain ⟨y',rfl⟩:=hyn
  obtain ⟨k1,k2,k3⟩:=next_tail h hn e1
  obtain ⟨w,w1,w2⟩:=h.tl_lt k2
  exact Reach.trans (.step (.refl _) k1 h1 (by rw [← k3]; exact w1)) (path_reach h hn e2 (fun x hx=>hN x (by simp [hx])) rfl hz w1 h2)
theorem face_reach (h : RotOK (N : Nat) E A) (hn : Fol oth E A nx) {g : List Int} (hg : g∈facesOf nx) {a b p q : Nat} (ha : (a : Int)∈g) (hb : (b : Int)∈g) (h1 : tl E a=p) (h2 : tl E b=q) : Reach E p q:=by
 obtain ⟨hf,cf⟩:=facesOf_fs h hn
 have hnat:=hf.nat g hg
 obtain ⟨s,t,rfl⟩:=List.append_of_mem ha
 have hc:=cyc_rot (cf _ hg)
 by_cases e : a=b
 ·subst e
  have : p=q:=by omega
  subst this
  exact .refl _
 ·have hm : (b : Int)∈t++s:=by
   simp at hb ⊢
   rcases hb with h | h | h
   ·exact .inr h
   ·omega
   ·exact .inl h
  obtain ⟨s1,s2,es⟩:=List.append_of_mem hm
  have hc' : Cyc nx ((a : Int) :: (t++s)):=hc
  rw [es] at hc'
  have hp:=cyc_path hc'
  obtain ⟨y,p1,p2⟩:=path_app (f:=(a : Int) :: s1) (g:=(b : Int) :: s2).1 hp
  refine path_reach h hn p1 (fun x hx=>hnat x ?_) rfl p2.1.symm h1 h2
  have : x∈(a : Int) :: (t++s):=by
   rw [es]
   simp at hx ⊢
   rcases hx with h | h <;> simp [h]
  simp at this ⊢
  rcases this with h | h | h <;> simp [h]
end
theorem reach_more {E F : List Arc} {x y : Nat} (h : Reach E x y) : Reach (E++F) x y:=by
 induction h with
 | refl=>exact .refl _
 | @step v w k _ hk e1 e2 ih =>
  refine .step ih (k:=k) (by simp; omega) (by rw [tl_old hk]; exact e1) ?_
  unfold hd at e2 ⊢
  rw [tl_old (oth_lt hk)]; exact e2
theorem reach_new {E : List Arc} {u v : Nat} (hj : Reach E u v) {x y : Nat} : Reach (E++[((u : Int),(v : Int),())]) x y↔Reach E x y:=by
 refine ⟨fun h=>?_,reach_more⟩
 induction h with
 | refl=>exact .refl _
 | @step a b k _ hk e1 e2 ih =>
  have hlen : (E++[((u : Int),(v : Int),())]).length=E.length+1:=by simp
  rw [hlen] at hk
  rcases Nat.lt_or_ge k (2 * E.length) with c | c
  ·rw [tl_old c] at e1
   unfold hd at e2
   rw [tl_old (oth_lt c)] at e2
   exact .step ih c e1 e2
  ·by_cases e : k=2 * E.length
   ·subst e
    unfold hd at e2
    rw [tl_new0] at e1
    rw [oth2,tl_new1] at e2
    have h1 : a=u:=by have : (u : Int)=a:=e1; omega
    have h2 : b=v:=by have : (v : Int)=b:=e2; omega
    subst h1; subst h2
    exact ih.trans hj
   ·have : k=2 * E.length+1:=by omega
    subst this
    unfold hd at e2
    rw [tl_new1] at e1
    rw [oth21,tl_new0] at e2
    have h1 : a=v:=by have : (v : Int)=a:=e1; omega
    have h2 : b=u:=by have : (u : Int)=b:=e2; omega
    subst h1; subst h2
    exact ih.trans hj.symm
theorem comps_congr {N : Nat} {E E' : List Arc} (h : ∀ x y,Reach E x y↔Reach E' x y) : comps N E=comps N E':=by
 unfold comps
 refine List.countP_congr fun v _=>?_
 rw [minB_iff,minB_iff]
 unfold MinV
 exact forall_congr' fun u=>forall_congr' fun _=>not_congr (h u v)
theorem emp_set {A : List (List Int)} {i : Nat} {l : List Int} (hi : i < A.length) (h : (subL A i).isEmpty=l.isEmpty) : emp (A.set i l)=emp A:=by
 unfold emp
 rw [List.countP_set hi,← h,subL_eq hi]
 have : (if A[i].isEmpty then 1 else 0)≤List.countP (fun l=>l.isEmpty) A:=by
  split
  ·rename_i hc
   exact List.countP_pos_iff.2 ⟨_,List.getElem_mem hi,hc⟩
  ·omega
 omega
end Go.Vm

namespace Go.Vm
open Go.Proofs
set_option maxRecDepth 100000
attribute [local irreducible] loopFix
theorem index_int (l : List Int) (v : Int) (hl : l.length≤68719476736) : (Zan (l,v,())=some (-1,())∧v∉l) ∨
  ∃ k : Nat,l[k]?=some v∧Zan (l,v,())=some ((k : Int),()):=by
 have h:=scan (B:=Zan_B2) (fun (_ : Unit) i=>(l,v,((l.length : Nat) : Int),(i : Int),()))
  (fun _=>.inr (.inl ())) (fun (k : Nat)=>.inl ((k : Int),())) (fun i (_ : Unit) a=>some (cond (eqI v a) (.inr i) (.inl ()))) l (by
   intro _ i a ha
   have hi : i < l.length:=(List.getElem?_eq_some_iff.1 ha).1
   unfold Zan_B2
   simp only
   rw [ltI_t (by omega),cond_true,getI_of,ha,Option.bind_some,Option.bind_some]
   cases eqI v a with
   | true=>rfl
   | false=>rw [cond_false,add1 (by omega)]; rfl) (by
   intro _
   unfold Zan_B2
   simp only
   rw [ltI_f (by omega)]; rfl) ()
 unfold Zan Zan_L2
 dsimp only
 rw [show ((0 : Int))=((0 : Nat) : Int) from rfl,h]
 rcases fold_find (fun a=>eqI v a) l 0 with ⟨h1,h2⟩ | ⟨k,a,h1,h2,h3⟩
 ·rw [h1]
  refine .inl ⟨rfl,fun hm=>?_⟩
  have:=h2 v hm
  simp [eqI] at this
 ·rw [h3]
  have : v=a:=by simpa [eqI] using h2
  subst this
  exact .inr ⟨k,h1,by simp only [Option.bind_some,Sum.elim_inr,Sum.elim_inl,Nat.zero_add]⟩
theorem clone_int (l : List Int) (hl : l.length≤68719476736) : Zas (l,())=some (l,()):=by
 unfold Zas
 dsimp only
 rw [app_of (by simpa using hl),Option.bind_some,List.nil_append]
 cases l with
 | nil=>simp [both]
 | cons a l=>rfl
theorem clone_arc (l : List Arc) (hl : l.length≤68719476736) : Zat (l,())=some (l,()):=by
 unfold Zat
 dsimp only
 rw [app_of (by simpa using hl),Option.bind_some,List.nil_append]
 cases l with
 | nil=>simp [both]
 | cons a l=>rfl
theorem copied_eq (N : Int) (E : List Arc) (A : List (List Int)) (hE : E.length≤1000000) (hA : A.length≤1000000) (hl : ∀ l∈A,l.length≤1000000) : Zbh ((N,E,A,()),())=some ((N,E,A,()),()):=by
 have h:=scanI (B:=Zbh_B3) (fun i (s : List (List Int))=>s=A.take i) (fun s i=>(0,N,E,s,A,((A.length : Nat) : Int),(i : Int),())) (fun s=>.inl (0,N,E,s,())) (fun (e : Empty)=>e.elim)
  (fun _ s (l : List Int)=>some (.inl (s++[l]))) A (by
   intro s i l hs hl'
   have hi : i < A.length:=(List.getElem?_eq_some_iff.1 hl').1
   unfold Zbh_B3
   simp only
   rw [ltI_t (by omega),cond_true,getI_of,hl',Option.bind_some,clone_int l (by have:=hl l (List.mem_of_getElem? hl'); omega),Option.bind_some,app_of (by rw [hs]; simp; omega),Option.bind_some,add1 (by omega)]
   rfl) (by
   intro s i l t hs hl' ht
   simp only [Option.some.injEq,Sum.inl.injEq] at ht
   subst ht
   rw [hs,List.take_add_one,hl']; rfl) (by
   intro s _
   unfold Zbh_B3
   simp only
   rw [ltI_f (by omega)]; rfl) [] (by simp)
 have hf : ∀ (l : List (List Int)) (i : Nat) (s : List (List Int)),foldE (fun (_ : Nat) s (x : List Int)=>(some (.inl (s++[x])) : Option (List (List Int)⊕Empty))) i s l=some (.inl (s++l)):=by
  intro l
  induction l with
  | nil=>intro i s; simp [foldE]
  | cons x l ih =>
   intro i s
   simp only [foldE,Option.bind_some,Sum.elim_inl]
   rw [ih]
   simp
 unfold Zbh
 dsimp only
 rw [clone_arc E (by omega),Option.bind_some]
 unfold Zbh_L3
 rw [show ((0,N,E,[],A,((A.length : Nat) : Int),0,()) : Int×Int×List Arc×List (List Int)×List (List Int)×Int×Int×Unit)=(0,N,E,[],A,((A.length : Nat) : Int),((0 : Nat) : Int),()) from rfl,h,hf]
 rfl
end Go.Vm

namespace Go.Vm
open Go.Proofs
set_option maxRecDepth 100000
attribute [local irreducible] loopFix
def bef (l : List Int) (d f : Int) : List Int:=l.flatMap fun x=>if x=f then [d,x] else [x]
theorem bef_not (d f : Int) : ∀ (l : List Int),f∉l→bef l d f=l
 | [],_=>rfl
 | x :: l,h=>by
  have hx : x≠f:=fun e=>h (by simp [e])
  have:=bef_not d f l (fun hm=>h (by simp [hm]))
  unfold bef at this ⊢
  rw [List.flatMap_cons,if_neg hx,this]; rfl
theorem bef_split (d f : Int) (a b : List Int) (ha : f∉a) (hb : f∉b) : bef (a++f :: b) d f=a++d :: f :: b:=by
 have h1:=bef_not d f a ha
 have h2:=bef_not d f b hb
 unfold bef at h1 h2 ⊢
 rw [List.flatMap_append,List.flatMap_cons,if_pos rfl,h1,h2]; rfl
theorem before_eq (l : List Int) (d f : Int) (hn : l.Nodup) (hf : f∈l) (hl : l.length≤1000000) : Zbg (l,d,f,())=some (bef l d f,()):=by
 unfold Zbg
 dsimp only
 rcases index_int l f (by omega) with ⟨_,h⟩ | ⟨k,h1,h2⟩
 ·exact absurd hf h
 ·obtain ⟨e,n1,n2⟩:=nodup_split hn h1
  have hlt : k < l.length:=(List.getElem?_eq_some_iff.1 h1).1
  rw [h2,Option.bind_some]
  have : Zae (l,((k : Int),()).1,[d],())=some (bef l d f,()):=by
   show ins1 l (k : Int) [d]=_
   unfold ins1
   rw [if_pos ⟨by omega,by simp; omega,by simp,by rw [lim_val]; simp; omega⟩]
   rw [show bef l d f=l.take k++d :: f :: l.drop (k+1) by rw [show bef l d f=bef (l.take k++f :: l.drop (k+1)) d f by rw [← e]]; exact bef_split d f _ _ n1 n2]
   congr 2
   rw [Int.toNat_natCast,List.append_assoc]
   congr 1
   rw [List.drop_eq_getElem_cons hlt,(List.getElem?_eq_some_iff.1 h1).2]; rfl
  rw [this]; rfl
theorem bef_mem {l : List Int} {d f x : Int} : x∈bef l d f↔x∈l∨(x=d∧f∈l):=by
 unfold bef
 rw [List.mem_flatMap]
 constructor
 ·rintro ⟨y,hy,hx⟩
  split at hx
  ·rename_i e
   subst e
   rcases List.mem_cons.1 hx with h | h
   ·exact .inr ⟨h,hy⟩
   ·rw [List.mem_singleton] at h; subst h; exact .inl hy
  ·rw [List.mem_singleton] at hx; subst hx; exact .inl hy
 ·rintro (h | ⟨rfl,h⟩)
  ·refine ⟨x,h,?_⟩
   split <;> simp
  ·exact ⟨f,h,by simp⟩
theorem bef_len {l : List Int} {d f : Int} : (bef l d f).length=l.length+l.count f:=by
 induction l with
 | nil=>rfl
 | cons x l ih =>
  unfold bef at ih ⊢
  rw [List.flatMap_cons,List.length_append,ih,List.count_cons]
  by_cases e : x=f
  ·rw [if_pos e]; simp [e]; omega
  ·rw [if_neg e]; simp [e]; omega
theorem ifaces_inner (fs : List (List Int)) (a b i : Int) (f out : List Int) (hf : ∀ d∈f,∃ k : Nat,d=(k : Int)∧k < out.length) (hl : f.length≤1000000) :
  Zbn_L6 (out,fs,i,a,b,f,(f.length : Nat),0,())=some (.inl (setAll out f i,fs,a,b,())):=by
 have:=scanI (B:=Zbn_B6) (fun _ (s : List Int)=>s.length=out.length) (fun s j=>(s,fs,i,a,b,f,((f.length : Nat) : Int),(j : Int),())) (fun s=>.inl (s,fs,a,b,())) (fun (e : Empty)=>e.elim)
  (fun _ s (d : Int)=>some (.inl (s.set d.toNat i))) f (by
   intro s j d hs hd
   have hj : j < f.length:=(List.getElem?_eq_some_iff.1 hd).1
   obtain ⟨k,rfl,hk⟩:=hf d (List.mem_of_getElem? hd)
   have hk2 : k < s.length:=by omega
   unfold Zbn_B6
   simp only
   rw [ltI_t (by omega),cond_true,getI_of,hd,Option.bind_some,idxI_of hk2,Option.bind_some,List.getElem?_eq_getElem hk2,Option.bind_some,add1 (by omega)]
   rfl) (by
   intro s j d t hs hd ht
   simp only [Option.some.injEq,Sum.inl.injEq] at ht
   subst ht
   simpa using hs) (by
   intro s _
   unfold Zbn_B6
   simp only
   rw [ltI_f (by omega)]; rfl) out rfl
 unfold Zbn_L6
 rw [show ((out,fs,i,a,b,f,((f.length : Nat) : Int),0,()) : List Int×List (List Int)×Int×Int×Int×List Int×Int×Int×Unit)=(out,fs,i,a,b,f,((f.length : Nat) : Int),((0 : Nat) : Int),()) from rfl,this,set_fold]
 rfl
theorem ifaces_eq {N : Int} {E : List Arc} {A : List (List Int)} (fs : List (List Int)) (h : FsOK (2 * E.length) fs) (hE : E.length≤32768) (r1 : Zbd ((N,E,A,()),())=some (fs,())) :
  Zbn ((N,E,A,()),())=some (marksOf (2 * E.length) fs,()):=by
 have hnum:=h.num
 have hfl:=h.flen (by omega)
 unfold Zbn
 simp only
 have e2 : mulI .i64 2 (E.length : Nat)=((2 * E.length : Nat) : Int):=by rw [mulI64 (by omega) (by omega)]; omega
 rw [e2,makeL_of (Nat.le_refl _) (by omega),Option.bind_some,r1,Option.bind_some]
 simp only
 have:=scanI (B:=Zbn_B3) (fun _ (s : List Int)=>s.length=2 * E.length) (fun s j=>(s,fs,((fs.length : Nat) : Int),(j : Int),())) (fun s=>.inl (s,())) (fun (e : Empty)=>e.elim)
  (fun i s (f : List Int)=>some (.inl (setAll s f (i : Int)))) fs (by
   intro s j f hs hf
   have hj : j < fs.length:=(List.getElem?_eq_some_iff.1 hf).1
   have hfm:=List.mem_of_getElem? hf
   have:=hfl f hfm
   unfold Zbn_B3
   simp only
   rw [ltI_t (by omega),cond_true,idxI_of hj,Option.bind_some,hf,Option.bind_some,ifaces_inner fs _ _ _ f s (fun d hd=>by rw [hs]; exact (h.elem f hfm).2 d hd) (by omega)]
   simp only [Option.bind_some,Sum.elim_inl]
   rw [add1 (by omega)]) (by
   intro s j d t hs hd ht
   simp only [Option.some.injEq,Sum.inl.injEq] at ht
   subst ht
   rw [setAll_len]; exact hs) (by
   intro s _
   unfold Zbn_B3
   simp only
   rw [ltI_f (by omega)]; rfl) (List.replicate (2 * E.length) (zeroVal I)) (by simp)
 unfold Zbn_L3
 rw [show ((List.replicate (2 * E.length) (zeroVal I),fs,((fs.length : Nat) : Int),0,()) : List Int×List (List Int)×Int×Int×Unit)=(List.replicate (2 * E.length) (zeroVal I),fs,((fs.length : Nat) : Int),((0 : Nat) : Int),()) from rfl,this,mark_fold]
 rfl
end Go.Vm

namespace Go.Vm
open Go.Proofs
set_option maxRecDepth 100000
attribute [local irreducible] loopFix
theorem rbefore_eq (l : List Int) (d f : Int) (hl : l.length≤1000000) : Zr (l,d,f,())=some (bef l d f,()):=by
 have h:=scanI (B:=Zr_B3) (fun i (s : List Int)=>s.length≤2 * i) (fun s i=>(s,l,d,f,(i : Int),())) (fun s=>.inl (s,())) (fun (e : Empty)=>e.elim)
  (fun _ s (x : Int)=>some (.inl (s++if x=f then [d,x] else [x]))) l (by
   intro s i x hs hx
   have hi : i < l.length:=(List.getElem?_eq_some_iff.1 hx).1
   unfold Zr_B3
   simp only
   rw [ltI_t (by omega),cond_true,getI_of,hx]
   simp only [Option.bind_some]
   by_cases e : x=f
   ·rw [eqI_t e,cond_true,app_of (by simp; omega)]
    simp only [Option.bind_some]
    rw [app_of (by simp; omega),Option.bind_some,add1 (by omega),if_pos e]
    simp
   ·rw [eqI_f e,cond_false,app_of (by simp; omega),Option.bind_some,add1 (by omega),if_neg e]
    rfl) (by
   intro s i x t hs hx ht
   simp only [Option.some.injEq,Sum.inl.injEq] at ht
   subst ht
   split <;> simp <;> omega) (by
   intro s _
   unfold Zr_B3
   simp only
   rw [ltI_f (by omega)]; rfl) [] (by simp)
 have hf : ∀ (l : List Int) (i : Nat) (s : List Int),foldE (fun (_ : Nat) s (x : Int)=>(some (.inl (s++if x=f then [d,x] else [x])) : Option (List Int⊕Empty))) i s l=some (.inl (s++bef l d f)):=by
  intro l
  induction l with
  | nil=>intro i s; simp [foldE,bef]
  | cons x l ih =>
   intro i s
   simp only [foldE,Option.bind_some,Sum.elim_inl]
   rw [ih]
   simp [bef,List.flatMap_cons]
 unfold Zr Zr_L3
 dsimp only
 rw [show ((0 : Int))=((0 : Nat) : Int) from rfl,h,hf]
 rfl
section
variable {N : Nat} {E : List Arc} {A : List (List Int)} {nx : List Int}
theorem rTail_eq (h : RotOK (N : Nat) E A) (hv : validB ((N : Int),E,A,())=true) (hl : ∀ l∈A,l.length≤9223372036854775807) {k : Nat} (hk : k < 2 * E.length) : Zam (((N : Int),E,A,()),((k : Int),()))=some (tl E k,()):=by
 have hm1:=h.m1
 unfold Zam
 simp only
 rw [rvalid_eq ((N : Int),E,A,()) hl,hv,Option.bind_some]
 simp only [Bool.not_true,cond_false]
 have e2 : mulI .i64 2 (E.length : Nat)=((2 * E.length : Nat) : Int):=by rw [mulI64 (by omega) (by omega)]; omega
 rw [ltI_f (by omega),cond_false,e2,geI_f (by omega),cond_false,tails_eq _ _ _ _ hm1,Option.bind_some]
 simp only
 rw [idxI_of (by rw [tails_length]; exact hk),Option.bind_some,tails_get E k hk]
 rfl
theorem rNext_eq (h : RotOK (N : Nat) E A) (hv : validB ((N : Int),E,A,())=true) (hl : ∀ l∈A,l.length≤9223372036854775807) (hn : Fol oth E A nx) {k : Nat} (hk : k < 2 * E.length) {y : Int} (hy : nx[k]?=some y) :
  Zap (((N : Int),E,A,()),((k : Int),()))=some (y,()):=by
 have hm1:=h.m1
 obtain ⟨fw,e2,f2⟩:=rfollow_eq h ()
 unfold Zap
 simp only
 rw [rvalid_eq ((N : Int),E,A,()) hl,hv,Option.bind_some]
 simp only [Bool.not_true,cond_false]
 have e3 : mulI .i64 2 (E.length : Nat)=((2 * E.length : Nat) : Int):=by rw [mulI64 (by omega) (by omega)]; omega
 rw [ltI_f (by omega),cond_false,e3,geI_f (by omega),cond_false,e2,Option.bind_some,other_eq k (by omega),Option.bind_some]
 simp only
 obtain ⟨z,z1,z2,z3⟩:=fol_both h hn f2 hk
 rw [idxI_of (by rw [f2.len]; exact oth_lt hk),Option.bind_some,z3,← z2,hy]
 rfl
open Classical in
theorem shared_loop (h : RotOK (N : Nat) E A) (hv : validB ((N : Int),E,A,())=true) (hl : ∀ l∈A,l.length≤9223372036854775807) (hn : Fol oth E A nx) {g : List Int} (hg : Cyc nx g) (hnd : g.Nodup) (hel : ∀ x∈g,∃ k : Nat,x=(k : Int)∧k < 2 * E.length)
  {i : Nat} (hi : i < g.length) (f : Int) : ∀ (r t : Nat),t+r=g.length→0 < r →
  Zp_L2 ((N : Int),E,A,g[i],f,g.getD ((i+t) % g.length) 0,())=some (.inl (decide (∃ s,t≤s∧s < g.length∧g.getD ((i+s) % g.length) 0=f),()))
 | 0,t,_,hr=>by omega
 | r+1,t,ht,_=>by
  have hm : (i+t) % g.length < g.length:=Nat.mod_lt _ (by omega)
  have hgd : g.getD ((i+t) % g.length) 0=g[(i+t) % g.length]:=by rw [List.getD_eq_getElem?_getD,List.getElem?_eq_getElem hm]; rfl
  obtain ⟨k,hk1,hk2⟩:=hel _ (List.getElem_mem hm)
  have hnext:=hg.2 _ hm
  by_cases e : g.getD ((i+t) % g.length) 0=f
  ·refine (loop_done (r:=.inl (true,())) ?_).trans ?_
   ·unfold Zp_B2
    simp only
    rw [eqI_t e]; rfl
   ·rw [decide_eq_true]
    exact ⟨t,Nat.le_refl _,by omega,e⟩
  ·have hmod : ((i+t) % g.length+1) % g.length=(i+(t+1)) % g.length:=by
    rw [Nat.mod_add_mod,Nat.add_assoc]
   have hstep : Zap (((N : Int),E,A,()),(g.getD ((i+t) % g.length) 0,()))=some (g.getD ((i+(t+1)) % g.length) 0,()):=by
    rw [hgd,hk1]
    refine rNext_eq h hv hl hn hk2 ?_
    rw [hk1,Int.toNat_natCast,hmod] at hnext
    exact hnext
   cases r with
   | zero =>
    have hend : g.getD ((i+(t+1)) % g.length) 0=g[i]:=by
     rw [show i+(t+1)=i+g.length by omega,Nat.add_mod_right,Nat.mod_eq_of_lt hi,List.getD_eq_getElem?_getD,List.getElem?_eq_getElem hi]; rfl
    refine (loop_done (r:=.inl (false,())) ?_).trans ?_
    ·unfold Zp_B2
     simp only
     rw [eqI_f e,cond_false,hstep,Option.bind_some]
     simp only
     rw [eqI_t hend]; rfl
    ·rw [decide_eq_false]
     rintro ⟨s,s1,s2,s3⟩
     have : s=t:=by omega
     subst this
     exact e s3
   | succ r =>
    have hne : g.getD ((i+(t+1)) % g.length) 0≠g[i]:=by
     have hm2 : (i+(t+1)) % g.length < g.length:=Nat.mod_lt _ (by omega)
     rw [List.getD_eq_getElem?_getD,List.getElem?_eq_getElem hm2]
     intro e2
     have e2 : g[(i+(t+1)) % g.length]=g[i]:=e2
     have:=nodup_idx hnd hm2 hi e2
     rcases Nat.lt_or_ge (i+(t+1)) g.length with c | c
     ·rw [Nat.mod_eq_of_lt c] at this; omega
     ·rw [Nat.mod_eq_sub_mod c,Nat.mod_eq_of_lt (by omega)] at this; omega
    refine (loop_step ?_).trans ((shared_loop h hv hl hn hg hnd hel hi f (r+1) (t+1) (by omega) (by omega)).trans ?_)
    ·unfold Zp_B2
     simp only
     rw [eqI_f e,cond_false,hstep,Option.bind_some]
     simp only
     rw [eqI_f hne]; rfl
    ·congr 3
     rw [decide_eq_decide]
     constructor
     ·rintro ⟨s,s1,s2,s3⟩; exact ⟨s,by omega,s2,s3⟩
     ·rintro ⟨s,s1,s2,s3⟩
      refine ⟨s,?_,s2,s3⟩
      rcases Nat.eq_or_lt_of_le s1 with rfl | c
      ·exact absurd s3 e
      ·exact c
theorem shared_eq (h : RotOK (N : Nat) E A) (hv : validB ((N : Int),E,A,())=true) (hl : ∀ l∈A,l.length≤9223372036854775807) (hn : Fol oth E A nx) (hf : FsOK (2 * E.length) (facesOf nx)) (hnx : NxOK nx nx.length) {d f : Nat} (hd : d < 2 * E.length) (hf2 : f < 2 * E.length) :
  ∃ a b : Int,(marksOf (2 * E.length) (facesOf nx))[d]?=some a∧(marksOf (2 * E.length) (facesOf nx))[f]?=some b∧Zp (((N : Int),E,A,()),(d : Int),(f : Int),())=some (decide (a=b),()):=by
 obtain ⟨j,j1,j2,g,j3,j4⟩:=marksOf_some hf hd
 obtain ⟨j',j1',j2',g',j3',j4'⟩:=marksOf_some hf hf2
 refine ⟨j,j',j2,j2',?_⟩
 have hgm:=List.mem_of_getElem? j3
 have hcyc:=facesOf_cyc (fol_inj32 h hn) hnx g hgm
 have hnd : g.Nodup:=hf.nodup.sublist (List.sublist_flatten_of_mem hgm)
 obtain ⟨i,hi,e⟩:=List.getElem_of_mem j4
 have:=shared_loop h hv hl hn hcyc hnd (hf.elem g hgm).2 hi (f : Int) g.length 0 (by omega) (by omega)
 unfold Zp
 dsimp only
 rw [Nat.add_zero,Nat.mod_eq_of_lt hi,List.getD_eq_getElem?_getD,List.getElem?_eq_getElem hi,Option.getD_some,e] at this
 rw [this]
 simp only [Option.bind_some,Sum.elim_inl]
 congr 2
 rw [decide_eq_decide]
 constructor
 ·rintro ⟨s,s1,s2,s3⟩
  have hm : (i+s) % g.length < g.length:=Nat.mod_lt _ (by omega)
  rw [List.getD_eq_getElem?_getD,List.getElem?_eq_getElem hm] at s3
  have s3 : g[(i+s) % g.length]=(f : Int):=s3
  have hfg : (f : Int)∈g:=s3 ▸ List.getElem_mem hm
  have:=marksOf_at hf j3 hfg
  rw [j2'] at this
  exact (Option.some.inj this).symm
 ·intro e2
  have : j=j':=by omega
  subst this
  rw [j3] at j3'
  have : g=g':=Option.some.inj j3'
  subst this
  obtain ⟨p,hp,e3⟩:=List.getElem_of_mem j4'
  refine ⟨(p+(g.length - i)) % g.length,Nat.zero_le _,Nat.mod_lt _ (by omega),?_⟩
  rw [Nat.add_mod_mod,show i+(p+(g.length - i))=p+g.length by omega,Nat.add_mod_right,Nat.mod_eq_of_lt hp,List.getD_eq_getElem?_getD,List.getElem?_eq_getElem hp,e3]; rfl
end
end Go.Vm

namespace Go.Vm
open Go.Proofs
set_option maxRecDepth 100000
attribute [local irreducible] loopFix
def insA (A : List (List Int)) (u v m : Nat) (d f : Int) : List (List Int):=(A.set u (bef (subL A u) (2 * m : Nat) d)).set v (bef (subL A v) (2 * m+1 : Nat) f)
structure EdgeOK (N : Nat) (E : List Arc) (A : List (List Int)) (d f u v : Nat) : Prop where
 rot : RotOK (N : Nat) E A
 val : validB ((N : Int),E,A,())=true
 d2 : d < 2 * E.length
 f2 : f < 2 * E.length
 tu : tl E d=u
 tv : tl E f=v
 un : u < N
 vn : v < N
 ne : u≠v
 m : E.length < 32768
 face : ∃ nx,Fol oth E A nx∧NxOK nx nx.length∧FsOK (2 * E.length) (facesOf nx)∧∃ a : Int,(marksOf (2 * E.length) (facesOf nx))[d]?=some a∧(marksOf (2 * E.length) (facesOf nx))[f]?=some a
end Go.Vm

namespace Go.Vm
open Go.Proofs
set_option maxRecDepth 100000
attribute [local irreducible] loopFix
theorem edge33 (N : Int) (E : List Arc) (A : List (List Int)) (d f : Int) (hl : ∀ l∈A,l.length≤9223372036854775807) :
  (∃ e,e≠0∧Zbq ((N,E,A,()),d,f,())=some ((0,[],[],()),e,())∧Zak ((N,E,A,()),d,f,())=some ((0,[],[],()),e,())) ∨
  ∃ n k j u v : Nat,N=(n : Int)∧d=(k : Int)∧f=(j : Int)∧EdgeOK n E A k j u v ∧
   Zbq ((N,E,A,()),d,f,())=some ((N,E++[((u : Int),(v : Int),())],insA A u v E.length d f,()),0,())∧Zak ((N,E,A,()),d,f,())=some ((N,E++[((u : Int),(v : Int),())],insA A u v E.length d f,()),0,()):=by
 unfold Zbq Zak
 dsimp only
 rw [valid_eq (N,E,A,()) hl,rvalid_eq (N,E,A,()) hl,Option.bind_some,Option.bind_some]
 cases hv : validB (N,E,A,()) with
 | false=>exact .inl ⟨13,by decide,rfl,rfl⟩
 | true =>
  have h:=valid_ok hv
  have hm1:=h.m1
  have hn0:=h.n0
  obtain ⟨n,rfl⟩ : ∃ n : Nat,N=(n : Int):=⟨N.toNat,(Int.toNat_of_nonneg hn0).symm⟩
  have hAl : A.length=n:=by have:=h.len; omega
  have hn16 : n≤16384:=by have:=h.n1; omega
  simp only [Bool.not_true,cond_false]
  have e2 : mulI .i64 2 (E.length : Nat)=((2 * E.length : Nat) : Int):=by rw [mulI64 (by omega) (by omega)]; omega
  rw [e2]
  by_cases hd : 0≤d∧d < ((2 * E.length : Nat) : Int)∧0≤f∧f < ((2 * E.length : Nat) : Int)
  ·obtain ⟨d0,d1,f0,f1⟩:=hd
   obtain ⟨k,rfl⟩ : ∃ k : Nat,d=(k : Int):=⟨d.toNat,(Int.toNat_of_nonneg d0).symm⟩
   obtain ⟨j,rfl⟩ : ∃ j : Nat,f=(j : Int):=⟨f.toNat,(Int.toNat_of_nonneg f0).symm⟩
   have hk : k < 2 * E.length:=by omega
   have hj : j < 2 * E.length:=by omega
   obtain ⟨u,tu,un⟩:=h.tl_lt hk
   obtain ⟨v,tv,vn⟩:=h.tl_lt hj
   rw [ltI_f (by unfold minI; split <;> omega),cond_false,geI_f (by unfold maxI; split <;> omega),cond_false]
   rw [ltI_f d0,cond_false,geI_f d1,cond_false,ltI_f f0,cond_false,geI_f f1,cond_false]
   rw [Tail_eq h hv hl hk,Tail_eq h hv hl hj,rTail_eq h hv hl hk,rTail_eq h hv hl hj,tu,tv]
   simp only [Option.bind_some]
   by_cases huv : u=v
   ·rw [eqI_t (by omega)]
    exact .inl ⟨8,by decide,rfl,rfl⟩
   ·rw [eqI_f (by omega),cond_false,cond_false]
    obtain ⟨fs,hfs,r1,r2,nx,hn,rfl,hnx⟩:=faces32 h hv hl
    rw [ifaces_eq (facesOf nx) hfs hm1 r1,Option.bind_some]
    obtain ⟨a,b,ma,mb,hsh⟩:=shared_eq h hv hl hn hfs hnx hk hj
    rw [hsh,Option.bind_some]
    dsimp only
    rw [marksOf_len,idxI_of hk,idxI_of hj]
    simp only [Option.bind_some,ma,mb]
    by_cases hab : a=b
    ·subst hab
     rw [neI_f rfl,cond_false,decide_eq_true rfl]
     simp only [Bool.not_true,cond_false]
     by_cases hE : E.length < 32768
     ·rw [geI_f (by omega),cond_false,cond_false]
      have hll : ∀ l∈A,l.length≤65536:=fun l hl'=>by have:=h.list_len hl'; omega
      rw [copied_eq _ _ _ (by omega) (by omega) (fun l hl'=>by have:=hll l hl'; omega)]
      simp only [Option.bind_some]
      have hu : u < A.length:=by omega
      have hv2 : v < A.length:=by omega
      have hAu : A[u]?=some A[u]:=List.getElem?_eq_getElem hu
      have hAv : A[v]?=some A[v]:=List.getElem?_eq_getElem hv2
      have hku : (k : Int)∈A[u]:=h.around hk tu hAu
      have hjv : (j : Int)∈A[v]:=h.around hj tv hAv
      have lu:=hll _ (List.getElem_mem hu)
      have lv:=hll _ (List.getElem_mem hv2)
      have e3 : addI .i64 ((2 * E.length : Nat) : Int) 1=((2 * E.length+1 : Nat) : Int):=by rw [addI64 (by omega) (by omega)]; omega
      rw [app_of (by simp; omega),idxI_of hu]
      simp only [Option.bind_some]
      rw [subL_eq hu,before_eq _ _ _ (h.list_nodup (List.getElem_mem hu)) hku (by omega)]
      simp only [Option.bind_some,if_true]
      rw [List.length_set,idxI_of hv2]
      simp only [Option.bind_some]
      have hs : subL (A.set u (bef A[u] ((2 * E.length : Nat) : Int) (k : Int))) v=A[v]:=by
       rw [subL_eq (by simpa using hv2),List.getElem_set_ne huv]
      rw [hs,e3,before_eq _ _ _ (h.list_nodup (List.getElem_mem hv2)) hjv (by omega)]
      simp only [Option.bind_some,if_true]
      rw [app_of (by simp; omega),app_of (by simp; omega)]
      simp only [Option.bind_some,List.nil_append]
      rw [app_of (by simp; omega),getI_of,hAu,getI_of,hAv]
      simp only [Option.bind_some]
      rw [rbefore_eq _ _ _ (by omega),rbefore_eq _ _ _ (by omega),idxI_of hu]
      simp only [Option.bind_some,hAu]
      rw [List.length_set,idxI_of hv2]
      simp only [Option.bind_some]
      rw [List.getElem?_set_ne huv,hAv]
      refine .inr ⟨n,k,j,u,v,rfl,rfl,rfl,⟨h,hv,hk,hj,tu,tv,un,vn,huv,hE,nx,hn,hnx,hfs,a,ma,mb⟩,?_,?_⟩
      ·unfold insA; rw [subL_eq hu,subL_eq hv2]
      ·unfold insA; rw [subL_eq hu,subL_eq hv2]; rfl
     ·rw [geI_t (by omega)]
      exact .inl ⟨2,by decide,rfl,rfl⟩
    ·rw [neI_t hab,decide_eq_false hab]
     exact .inl ⟨15,by decide,rfl,rfl⟩
  ·left
   refine ⟨3,by decide,?_,?_⟩
   ·by_cases h1 : minI d f < 0
    ·rw [ltI_t h1]; rfl
    ·rw [ltI_f (by omega),cond_false,geI_t]
     ·rfl
     ·unfold minI at h1; unfold maxI
      split at h1 <;> split <;> omega
   ·by_cases h1 : d < 0
    ·rw [ltI_t h1]; rfl
    ·rw [ltI_f (by omega),cond_false]
     by_cases h2 : d < ((2 * E.length : Nat) : Int)
     ·rw [geI_f h2,cond_false]
      by_cases h3 : f < 0
      ·rw [ltI_t h3]; rfl
      ·rw [ltI_f (by omega),cond_false,geI_t (by omega)]; rfl
     ·rw [geI_t (by omega)]; rfl
end Go.Vm

namespace Go.Vm
open Go.Proofs
set_option maxRecDepth 100000
attribute [local irreducible] loopFix
theorem insA_len {A : List (List Int)} {u v m : Nat} {d f : Int} : (insA A u v m d f).length=A.length:=by unfold insA; simp
theorem insA_get {A : List (List Int)} {u v m : Nat} {d f : Int} (huv : u≠v) (hu : u < A.length) (hv : v < A.length) (w : Nat) : (insA A u v m d f)[w]?=if w=v then some (bef (subL A v) (2 * m+1 : Nat) f) else if w=u then some (bef (subL A u) (2 * m : Nat) d) else A[w]?:=by
 unfold insA
 rw [List.getElem?_set]
 by_cases e1 : v=w
 ·subst e1; simp [hv]
 ·rw [if_neg e1,if_neg (Ne.symm e1),List.getElem?_set]
  by_cases e2 : u=w
  ·subst e2; simp [hu]
  ·rw [if_neg e2,if_neg (Ne.symm e2)]
section
variable {N : Nat} {E : List Arc} {A : List (List Int)} {d f u v : Nat}
theorem EdgeOK.al (h : EdgeOK N E A d f u v) : A.length=N:=by have:=h.rot.len; omega
theorem EdgeOK.mu (h : EdgeOK N E A d f u v) : (d : Int)∈subL A u:=by
 have hu : u < A.length:=by rw [h.al]; exact h.un
 rw [subL_eq hu]; exact h.rot.around h.d2 h.tu (List.getElem?_eq_getElem hu)
theorem EdgeOK.mv (h : EdgeOK N E A d f u v) : (f : Int)∈subL A v:=by
 have hv : v < A.length:=by rw [h.al]; exact h.vn
 rw [subL_eq hv]; exact h.rot.around h.f2 h.tv (List.getElem?_eq_getElem hv)
theorem EdgeOK.nu (h : EdgeOK N E A d f u v) {w : Nat} (hw : w < N) : (subL A w).Nodup:=by
 have hw : w < A.length:=by rw [h.al]; exact hw
 rw [subL_eq hw]; exact h.rot.list_nodup (List.getElem_mem hw)
theorem EdgeOK.ll (h : EdgeOK N E A d f u v) {w : Nat} (hw : w < N) : (subL A w).length≤2 * E.length:=by
 have hw : w < A.length:=by rw [h.al]; exact hw
 rw [subL_eq hw]; exact h.rot.list_len (List.getElem_mem hw)
theorem EdgeOK.list_len (h : EdgeOK N E A d f u v) : ∀ l∈insA A u v E.length d f,l.length≤2 * E.length+1:=by
 intro l hl
 obtain ⟨w,hw⟩:=List.mem_iff_getElem?.1 hl
 have hal:=h.al
 rw [insA_get h.ne (by rw [hal]; exact h.un) (by rw [hal]; exact h.vn)] at hw
 split at hw
 ·cases hw
  rw [bef_len,count_one (h.nu h.vn) h.mv]
  have:=h.ll h.vn; omega
 ·split at hw
  ·cases hw
   rw [bef_len,count_one (h.nu h.un) h.mu]
   have:=h.ll h.un; omega
  ·have:=h.rot.list_len (List.mem_of_getElem? hw); omega
end
end Go.Vm

namespace Go.Vm
open Go.Proofs
set_option maxRecDepth 100000
attribute [local irreducible] loopFix
section
variable {N : Nat} {E : List Arc} {A : List (List Int)} {d f u v : Nat}
theorem EdgeOK.rot' (h : EdgeOK N E A d f u v) : RotOK (N : Nat) (E++[((u : Int),(v : Int),())]) (insA A u v E.length d f):=by
 have hal:=h.al
 have hu : u < A.length:=by rw [hal]; exact h.un
 have hv : v < A.length:=by rw [hal]; exact h.vn
 have hlen : (E++[((u : Int),(v : Int),())]).length=E.length+1:=by simp
 have hn16 : N≤16384:=by have:=h.rot.n1; omega
 have hm:=h.m
 refine rotOK_of hn16 (by omega) (by rw [insA_len]; exact hal) ?_ ?_ ?_ ?_
 ·intro a ha
  rcases List.mem_append.1 ha with ha | ha
  ·exact h.rot.edge a ha
  ·rw [List.mem_singleton] at ha
   subst ha
   have:=h.un; have:=h.vn; have:=h.ne
   refine ⟨by show (0 : Int)≤u; omega,by show (u : Int) < N; omega,by show (0 : Int)≤v; omega,by show (v : Int) < N; omega,?_⟩
   show (u : Int)≠v
   omega
 ·intro l hl
  obtain ⟨w,hw⟩:=List.mem_iff_getElem?.1 hl
  rw [insA_get h.ne hu hv] at hw
  have fresh : ∀ {w k x : Nat},2 * E.length≤x→tl E k=w→k < 2 * E.length→w < N→(bef (subL A w) (x : Int) (k : Int)).Nodup:=by
   intro w k x hx hk hk2 hwN
   obtain ⟨p,q,h1,h2,h3,h4⟩:=h.rot.split hk2 hk hwN
   rw [h2,bef_split _ _ _ _ h3 h4]
   have hn:=h.nu hwN
   rw [h2] at hn
   have hno : (x : Int)∉p++(k : Int) :: q:=fun hm=>by
    obtain ⟨y,e1,e2,_⟩:=h.rot.dart w _ h1 _ hm
    omega
   rw [List.nodup_append] at hn ⊢
   refine ⟨hn.1,List.nodup_cons.2 ⟨fun hm=>hno (List.mem_append.2 (.inr hm)),hn.2.1⟩,?_⟩
   intro a ha b hb e
   rcases List.mem_cons.1 hb with rfl | hb
   ·subst e; exact hno (by simp [ha])
   ·exact hn.2.2 a ha b hb e
  split at hw
  ·cases hw; exact fresh (by omega) h.tv h.f2 h.vn
  ·split at hw
   ·cases hw; exact fresh (by omega) h.tu h.d2 h.un
   ·exact h.rot.list_nodup (List.mem_of_getElem? hw)
 ·intro w l hw x hx
  rw [insA_get h.ne hu hv] at hw
  have old : ∀ {w : Nat} {l : List Int},A[w]?=some l→∀ x∈l,∃ k : Nat,x=(k : Int)∧k < 2 * (E++[((u : Int),(v : Int),())]).length∧tl (E++[((u : Int),(v : Int),())]) k=w:=by
   intro w l hl x hx
   obtain ⟨k,e1,e2,e3⟩:=h.rot.dart w l hl x hx
   exact ⟨k,e1,by rw [hlen]; omega,by rw [tl_old e2]; exact e3⟩
  split at hw
  ·rename_i e
   cases hw
   subst e
   rcases bef_mem.1 hx with hx | ⟨rfl,_⟩
   ·exact old (by rw [List.getElem?_eq_getElem hv,← subL_eq hv]) x hx
   ·exact ⟨2 * E.length+1,rfl,by rw [hlen]; omega,by rw [tl_new1]⟩
  ·split at hw
   ·rename_i e
    cases hw
    subst e
    rcases bef_mem.1 hx with hx | ⟨rfl,_⟩
    ·exact old (by rw [List.getElem?_eq_getElem hu,← subL_eq hu]) x hx
    ·exact ⟨2 * E.length,rfl,by rw [hlen]; omega,by rw [tl_new0]⟩
   ·exact old hw x hx
 ·intro k hk
  rw [hlen] at hk
  have into : ∀ w l,(insA A u v E.length d f)[w]?=some l→(k : Int)∈l→∃ l∈insA A u v E.length d f,(k : Int)∈l:=fun w l h1 h2=>⟨l,List.mem_of_getElem? h1,h2⟩
  have gu:=insA_get (m:=E.length) (d:=(d : Int)) (f:=(f : Int)) h.ne hu hv u
  have gv:=insA_get (m:=E.length) (d:=(d : Int)) (f:=(f : Int)) h.ne hu hv v
  rw [if_neg h.ne,if_pos rfl] at gu
  rw [if_pos rfl] at gv
  rcases Nat.lt_or_ge k (2 * E.length) with hk2 | hk2
  ·obtain ⟨w,hw,hwN⟩:=h.rot.tl_lt hk2
   have hwA : w < A.length:=by omega
   have hm:=h.rot.around hk2 hw (List.getElem?_eq_getElem hwA)
   have gw:=insA_get (m:=E.length) (d:=(d : Int)) (f:=(f : Int)) h.ne hu hv w
   by_cases e1 : w=v
   ·subst e1
    exact into _ _ gv (bef_mem.2 (.inl (by rw [subL_eq hwA]; exact hm)))
   ·by_cases e2 : w=u
    ·subst e2
     exact into _ _ gu (bef_mem.2 (.inl (by rw [subL_eq hwA]; exact hm)))
    ·rw [if_neg e1,if_neg e2,List.getElem?_eq_getElem hwA] at gw
     exact into _ _ gw hm
  ·by_cases e : k=2 * E.length
   ·subst e; exact into _ _ gu (bef_mem.2 (.inr ⟨rfl,h.mu⟩))
   ·have : k=2 * E.length+1:=by omega
    subst this; exact into _ _ gv (bef_mem.2 (.inr ⟨rfl,h.mv⟩))
theorem list_turn {fw fw' : List Int} {p q : List Int} {x a : Int} (h : Cyc fw (p++x :: q)) (h' : Cyc fw' (p++a :: x :: q)) (hp : x∉p) (hq : x∉q) :
  fw'[a.toNat]?=some x∧∀ y∈p++x :: q,(fw[y.toNat]?=some x→fw'[y.toNat]?=some a)∧(fw[y.toNat]?≠some x→fw'[y.toNat]?=fw[y.toNat]?):=by
 have h1:=cyc_path (cyc_rot h)
 have h2 : Cyc fw' ((x :: q)++(p++[a])):=cyc_rot (p:=p++[a]) (q:=x :: q) (by simpa using h')
 have h3:=cyc_path (x:=x) (f:=q++(p++[a])) h2
 obtain ⟨y,h4,h5⟩:=path_app (f:=(x :: q)++p) (g:=[a]).1 (by simpa using h3)
 obtain ⟨rfl,w,w1,w2⟩:=h5
 have w2 : w=x:=w2
 subst w2
 refine ⟨w1,fun y hy=>?_⟩
 refine path_two h1 h4 ?_ y ?_
 ·show w∉q++p
  simp [hp,hq]
 ·simp at hy ⊢
  rcases hy with h | h | h <;> simp [h]
structure NextOK (E : List Arc) (nx nx' : List Int) (d f : Nat) : Prop where
 a : nx'[2 * E.length]?=some (f : Int)
 b : nx'[2 * E.length+1]?=some (d : Int)
 old : ∀ k,k < 2 * E.length→(nx[k]?=some (d : Int)→nx'[k]?=some ((2 * E.length : Nat) : Int))∧(nx[k]?=some (f : Int)→nx'[k]?=some ((2 * E.length+1 : Nat) : Int))∧(nx[k]?≠some (d : Int)→nx[k]?≠some (f : Int)→nx'[k]?=nx[k]?)
theorem EdgeOK.next (h : EdgeOK N E A d f u v) {nx nx' : List Int} (hn : Fol oth E A nx) (hn' : Fol oth (E++[((u : Int),(v : Int),())]) (insA A u v E.length d f) nx') : NextOK E nx nx' d f:=by
 have hr':=h.rot'
 have hal:=h.al
 have hu : u < A.length:=by rw [hal]; exact h.un
 have hv : v < A.length:=by rw [hal]; exact h.vn
 have hlen : (E++[((u : Int),(v : Int),())]).length=E.length+1:=by simp
 obtain ⟨fw,_,ff⟩:=rfollow_eq h.rot ()
 obtain ⟨fw',_,ff'⟩:=rfollow_eq hr' ()
 have gu:=insA_get (m:=E.length) (d:=(d : Int)) (f:=(f : Int)) h.ne hu hv u
 have gv:=insA_get (m:=E.length) (d:=(d : Int)) (f:=(f : Int)) h.ne hu hv v
 rw [if_neg h.ne,if_pos rfl] at gu
 rw [if_pos rfl] at gv
 obtain ⟨pu,qu,su1,su2,su3,su4⟩:=h.rot.split h.d2 h.tu h.un
 obtain ⟨pv,qv,sv1,sv2,sv3,sv4⟩:=h.rot.split h.f2 h.tv h.vn
 rw [su2,bef_split _ _ _ _ su3 su4] at gu
 rw [sv2,bef_split _ _ _ _ sv3 sv4] at gv
 obtain ⟨tu1,tu2⟩:=list_turn (ff.cyc (List.mem_of_getElem? su1) (by simp)) (ff'.cyc (List.mem_of_getElem? gu) (by simp)) su3 su4
 obtain ⟨tv1,tv2⟩:=list_turn (ff.cyc (List.mem_of_getElem? sv1) (by simp)) (ff'.cyc (List.mem_of_getElem? gv) (by simp)) sv3 sv4
 have conv : ∀ k,k < 2 * E.length→nx[k]?=fw[oth k]?:=fun k hk=>by
  obtain ⟨y,_,h1,h2⟩:=fol_both h.rot hn ff hk; rw [h1,h2]
 have conv' : ∀ k,k < 2 * E.length+2→nx'[k]?=fw'[oth k]?:=fun k hk=>by
  obtain ⟨y,_,h1,h2⟩:=fol_both hr' hn' ff' (k:=k) (by rw [hlen]; omega); rw [h1,h2]
 refine ⟨?_,?_,fun k hk=>?_⟩
 ·rw [conv' _ (by omega),oth2]; exact tv1
 ·rw [conv' _ (by omega),oth21]; exact tu1
 ·rw [conv k hk,conv' k (by omega)]
  have hok:=oth_lt hk
  obtain ⟨w,hw,hwN⟩:=h.rot.tl_lt hok
  have hwA : w < A.length:=by omega
  have hm:=h.rot.around hok hw (List.getElem?_eq_getElem hwA)
  have closed : ∀ {x : Nat} {t : Nat},x < 2 * E.length→fw[oth k]?=some (x : Int)→tl E x=t→t=w:=by
   intro x t hx h1 h2
   have hc:=ff.cyc (List.getElem_mem hwA) (fun e=>by rw [e] at hm; simp at hm)
   have:=cyc_closed hc hm h1
   obtain ⟨y,e1,_,e3⟩:=h.rot.dart w _ (List.getElem?_eq_getElem hwA) _ this
   have : y=x:=by omega
   subst this
   omega
  by_cases e1 : w=u
  ·subst e1
   have hm2 : ((oth k : Nat) : Int)∈pu++(d : Int) :: qu:=by
    rw [List.getElem?_eq_getElem hwA] at su1; rw [← Option.some.inj su1]; exact hm
   have:=tu2 _ hm2
   rw [Int.toNat_natCast] at this
   refine ⟨this.1,fun hf=>absurd (closed h.f2 hf h.tv).symm h.ne,fun h1 _=>this.2 h1⟩
  ·by_cases e2 : w=v
   ·subst e2
    have hm2 : ((oth k : Nat) : Int)∈pv++(f : Int) :: qv:=by
     rw [List.getElem?_eq_getElem hwA] at sv1; rw [← Option.some.inj sv1]; exact hm
    have:=tv2 _ hm2
    rw [Int.toNat_natCast] at this
    exact ⟨fun hd=>absurd (closed h.d2 hd h.tu) h.ne,this.1,fun _ h1=>this.2 h1⟩
   ·refine ⟨fun hd=>absurd (closed h.d2 hd h.tu).symm e1,fun hf=>absurd (closed h.f2 hf h.tv).symm e2,fun _ _=>?_⟩
    have gw:=insA_get (m:=E.length) (d:=(d : Int)) (f:=(f : Int)) h.ne hu hv w
    rw [if_neg e2,if_neg e1,List.getElem?_eq_getElem hwA] at gw
    obtain ⟨i,hi,e⟩:=List.getElem_of_mem hm
    have q1:=ff.get _ (List.getElem_mem hwA) i hi
    have q2:=ff'.get _ (List.mem_of_getElem? gw) i hi
    rw [e] at q1 q2
    simp only [id,Int.toNat_natCast] at q1 q2
    rw [q1,q2]
end
end Go.Vm

namespace Go.Vm
open Go.Proofs
set_option maxRecDepth 100000
attribute [local irreducible] loopFix
theorem split_parts {L d f : Nat} {nx nx' : List Int} {fs : List (List Int)} (hL : nx.length=L) (hf : FsOK L fs) (cf : ∀ g∈fs,Cyc nx g) (hinj : Inj nx) {j : Nat} {g : List Int} (hj : fs[j]?=some g) (hd : (d : Int)∈g) (hfg : (f : Int)∈g) (hdf : d≠f)
  (na : nx'[L]?=some (f : Int)) (nb : nx'[L+1]?=some (d : Int))
  (old : ∀ k,k < L→(nx[k]?=some (d : Int)→nx'[k]?=some (L : Int))∧(nx[k]?=some (f : Int)→nx'[k]?=some ((L+1 : Nat) : Int))∧(nx[k]?≠some (d : Int)→nx[k]?≠some (f : Int)→nx'[k]?=nx[k]?)) :
  ∃ (a b : List (List Int)) (s1 s2 : List Int),fs=a++g :: b∧(∀ x : Int,g.count x=((d : Int) :: s1).count x+((f : Int) :: s2).count x)∧g.length=s1.length+s2.length+2 ∧
   FsOK (L+2) (((d : Int) :: s1++[((L+1 : Nat) : Int)]) :: ((f : Int) :: s2++[(L : Int)]) :: (a++b))∧∀ h∈(((d : Int) :: s1++[((L+1 : Nat) : Int)]) :: ((f : Int) :: s2++[(L : Int)]) :: (a++b)),Cyc nx' h:=by
 have hgm:=List.mem_of_getElem? hj
 obtain ⟨a,b,rfl⟩:=flat_split hj
 have hgel:=(hf.elem g hgm).2
 have hgnd : g.Nodup:=hf.nodup.sublist (List.sublist_flatten_of_mem hgm)
 obtain ⟨p,q,rfl⟩:=List.append_of_mem hd
 have hc : Cyc nx ((d : Int) :: (q++p)):=cyc_rot (cf _ hgm)
 have hmem : (f : Int)∈q++p:=by
  simp at hfg ⊢
  rcases hfg with h | h | h
  ·exact .inr h
  ·omega
  ·exact .inl h
 obtain ⟨s1,s2,es⟩:=List.append_of_mem hmem
 have hcount : ∀ x : Int,(p++(d : Int) :: q).count x=((d : Int) :: s1).count x+((f : Int) :: s2).count x:=by
  intro x
  have:=congrArg (List.count x) es
  simp only [List.count_append,List.count_cons] at this ⊢
  omega
 have hlen : (p++(d : Int) :: q).length=s1.length+s2.length+2:=by
  have:=congrArg List.length es
  simp at this ⊢
  omega
 have hone : ∀ x : Int,((d : Int) :: s1).count x+((f : Int) :: s2).count x≤1:=fun x=>by
  rw [← hcount]; exact List.nodup_iff_count.1 hgnd x
 have hsub1 : ∀ x∈(d : Int) :: s1,x∈p++(d : Int) :: q:=fun x hx=>by
  have:=List.count_pos_iff.2 hx
  exact List.count_pos_iff.1 (by rw [hcount]; omega)
 have hsub2 : ∀ x∈(f : Int) :: s2,x∈p++(d : Int) :: q:=fun x hx=>by
  have:=List.count_pos_iff.2 hx
  exact List.count_pos_iff.1 (by rw [hcount]; omega)
 have hdis : ∀ x∈(d : Int) :: s1,x∉(f : Int) :: s2:=fun x h1 h2=>by
  have:=List.count_pos_iff.2 h1; have:=List.count_pos_iff.2 h2; have:=hone x; omega
 rw [es] at hc
 obtain ⟨y,h1,h2⟩:=path_app (f:=(d : Int) :: s1) (g:=(f : Int) :: s2).1 (cyc_path hc)
 have : (f : Int)=y:=h2.1
 subst this
 have nat1 : ∀ x∈(d : Int) :: s1,∃ k : Nat,x=(k : Int)∧k < L:=fun x hx=>hgel x (hsub1 x hx)
 have nat2 : ∀ x∈(f : Int) :: s2,∃ k : Nat,x=(k : Int)∧k < L:=fun x hx=>hgel x (hsub2 x hx)
 have inj : ∀ x y : Int,(∃ k : Nat,x=(k : Int)∧k < L)→(∃ k : Nat,y=(k : Int)∧k < L)→∀ z : Int,nx[x.toNat]?=some z→nx[y.toNat]?=some z→x=y:=by
  rintro x y ⟨k,rfl,_⟩ ⟨k',rfl,_⟩ z e1 e2
  have:=hinj _ _ _ e1 e2
  simp at this
  omega
 have last1:=path_last h1 (by simp)
 have last2:=path_last h2 (by simp)
 have t1 : Path nx' (d : Int) ((d : Int) :: s1) ((L+1 : Nat) : Int):=by
  refine path_turn h1 (by simp) (fun hm=>hdis _ (List.mem_of_mem_tail hm) (by simp)) fun y hy=>?_
  obtain ⟨k,rfl,hk⟩:=nat1 y hy
  rw [Int.toNat_natCast]
  refine ⟨(old k hk).2.1,fun hne=>(old k hk).2.2 (fun hd2=>?_) hne⟩
  obtain ⟨w,w1,w2⟩:=last2
  have:=inj (k : Int) w ⟨k,rfl,hk⟩ (nat2 w w1) _ (by simpa using hd2) w2
  subst this
  exact hdis _ hy w1
 have t2 : Path nx' (f : Int) ((f : Int) :: s2) (L : Int):=by
  refine path_turn h2 (by simp) (fun hm=>hdis _ (by simp) (List.mem_of_mem_tail hm)) fun y hy=>?_
  obtain ⟨k,rfl,hk⟩:=nat2 y hy
  rw [Int.toNat_natCast]
  refine ⟨(old k hk).1,fun hne=>(old k hk).2.2 hne (fun hd2=>?_)⟩
  obtain ⟨w,w1,w2⟩:=last1
  have:=inj (k : Int) w ⟨k,rfl,hk⟩ (nat1 w w1) _ (by simpa using hd2) w2
  subst this
  exact hdis _ w1 hy
 have c1 : Cyc nx' ((d : Int) :: s1++[((L+1 : Nat) : Int)]):=path_cyc (x:=(d : Int)) (path_app.2 ⟨_,t1,rfl,(d : Int),by simpa using nb,rfl⟩) (by simp)
 have c2 : Cyc nx' ((f : Int) :: s2++[(L : Int)]):=path_cyc (x:=(f : Int)) (path_app.2 ⟨_,t2,rfl,(f : Int),by simpa using na,rfl⟩) (by simp)
 have flat : ∀ x : Int,((((d : Int) :: s1++[((L+1 : Nat) : Int)]) :: ((f : Int) :: s2++[(L : Int)]) :: (a++b)).flatten).count x=(a++(p++(d : Int) :: q) :: b).flatten.count x+[(L : Int),((L+1 : Nat) : Int)].count x:=by
  intro x
  rw [count_flat,hcount]
  simp only [List.flatten_cons,List.count_append,List.flatten_append,List.count_cons,List.count_nil]
  omega
 have small : ∀ x∈(a++(p++(d : Int) :: q) :: b).flatten,∃ k : Nat,x=(k : Int)∧k < L:=fun x hx=>by
  obtain ⟨l,hl,hxl⟩:=List.mem_flatten.1 hx
  exact (hf.elem l hl).2 x hxl
 have other : ∀ h∈a++b,h∈a++(p++(d : Int) :: q) :: b∧∀ x∈h,x∉p++(d : Int) :: q:=by
  intro h hh
  have hhm : h∈a++(p++(d : Int) :: q) :: b:=by simp at hh ⊢; rcases hh with hh | hh <;> simp [hh]
  refine ⟨hhm,fun x hx hx2=>?_⟩
  have h1:=List.nodup_iff_count.1 hf.nodup x
  rw [count_flat] at h1
  have h2:=List.count_pos_iff.2 hx2
  rcases List.mem_append.1 hh with hh | hh
  ·have:=List.count_pos_iff.2 (List.mem_flatten.2 ⟨h,hh,hx⟩); omega
  ·have:=List.count_pos_iff.2 (List.mem_flatten.2 ⟨h,hh,hx⟩); omega
 refine ⟨a,b,s1,s2,rfl,hcount,hlen,⟨?_,?_,?_,?_⟩,?_⟩
 ·intro h hh
  rcases List.mem_cons.1 hh with rfl | hh
  ·refine ⟨by simp,fun x hx=>?_⟩
   rcases List.mem_append.1 hx with hx | hx
   ·obtain ⟨k,e,hk⟩:=nat1 x hx; exact ⟨k,e,by omega⟩
   ·rw [List.mem_singleton] at hx; exact ⟨L+1,hx,by omega⟩
  ·rcases List.mem_cons.1 hh with rfl | hh
   ·refine ⟨by simp,fun x hx=>?_⟩
    rcases List.mem_append.1 hx with hx | hx
    ·obtain ⟨k,e,hk⟩:=nat2 x hx; exact ⟨k,e,by omega⟩
    ·rw [List.mem_singleton] at hx; exact ⟨L,hx,by omega⟩
   ·obtain ⟨e1,e2⟩:=hf.elem h (other h hh).1
    exact ⟨e1,fun x hx=>by obtain ⟨k,e,hk⟩:=e2 x hx; exact ⟨k,e,by omega⟩⟩
 ·rw [List.nodup_iff_count]
  intro x
  rw [flat]
  have h1:=List.nodup_iff_count.1 hf.nodup x
  simp only [List.count_cons,List.count_nil,beq_iff_eq]
  by_cases hx : x∈(a++(p++(d : Int) :: q) :: b).flatten
  ·obtain ⟨k,rfl,hk⟩:=small x hx
   rw [if_neg (by omega),if_neg (by omega)]; omega
  ·rw [List.count_eq_zero.2 hx]
   split <;> split <;> omega
 ·intro k hk
  have : 0 < ((((d : Int) :: s1++[((L+1 : Nat) : Int)]) :: ((f : Int) :: s2++[(L : Int)]) :: (a++b)).flatten).count (k : Int):=by
   rw [flat]
   rcases Nat.lt_or_ge k L with h | h
   ·have:=List.count_pos_iff.2 (hf.cover k h); omega
   ·have hin : (k : Int)∈[(L : Int),((L+1 : Nat) : Int)]:=by
     simp; omega
    have:=List.count_pos_iff.2 hin; omega
  exact List.count_pos_iff.1 this
 ·have:=hf.num
  simp only [List.length_cons,List.length_append] at this ⊢
  omega
 ·intro h hh
  rcases List.mem_cons.1 hh with rfl | hh
  ·exact c1
  ·rcases List.mem_cons.1 hh with rfl | hh
   ·exact c2
   ·obtain ⟨hm,hdj⟩:=other h hh
    have hcy:=cf h hm
    have hne:=hcy.1
    cases h with
    | nil=>exact absurd rfl hne
    | cons x h =>
     refine path_cyc (path_keep (cyc_path hcy) fun y hy=>?_) (by simp)
     obtain ⟨k,rfl,hk⟩:=(hf.elem _ hm).2 y hy
     rw [Int.toNat_natCast]
     refine (old k hk).2.2 (fun e=>?_) (fun e=>?_)
     ·exact hdj _ (cyc_closed hcy hy e) hd
     ·exact hdj _ (cyc_closed hcy hy e) hfg
section
variable {N : Nat} {E : List Arc} {A : List (List Int)} {d f u v : Nat}
theorem EdgeOK.df (h : EdgeOK N E A d f u v) : d≠f:=by
 rintro rfl
 have h1:=h.tu
 rw [h.tv] at h1
 have:=h.ne
 omega
theorem EdgeOK.faces (h : EdgeOK N E A d f u v) {nx nx' : List Int} (hn : Fol oth E A nx) (hn' : Fol oth (E++[((u : Int),(v : Int),())]) (insA A u v E.length d f) nx') : (facesOf nx').length=(facesOf nx).length+1:=by
 obtain ⟨hf,cf⟩:=facesOf_fs h.rot hn
 obtain ⟨hf',cf'⟩:=facesOf_fs h.rot' hn'
 obtain ⟨mx,x1,x2,x3,a,ma,mb⟩:=h.face
 have : mx=nx:=by
  refine List.ext_getElem? fun k=>?_
  by_cases hk : k < 2 * E.length
  ·obtain ⟨fw,_,ff⟩:=rfollow_eq h.rot ()
   obtain ⟨y,_,h1,h2⟩:=fol_both h.rot hn ff hk
   obtain ⟨y',_,h1',h2'⟩:=fol_both h.rot x1 ff hk
   rw [h2] at h2'
   rw [h1,h1',h2']
  ·rw [List.getElem?_eq_none (by rw [x1.len]; omega),List.getElem?_eq_none (by rw [hn.len]; omega)]
 subst this
 obtain ⟨j,j1,j2,g,j3,j4⟩:=marksOf_some hf h.d2
 obtain ⟨j',j1',j2',g',j3',j4'⟩:=marksOf_some hf h.f2
 rw [ma] at j2
 rw [mb] at j2'
 have : j=j':=by
  have e1:=Option.some.inj j2
  have e2:=Option.some.inj j2'
  omega
 subst this
 rw [j3] at j3'
 have : g=g':=Option.some.inj j3'
 subst this
 have hN:=h.next hn hn'
 obtain ⟨a,b,s1,s2,e1,_,_,e2,e3⟩:=split_parts hn.len hf cf (fol_inj32 h.rot hn) j3 j4 j4' h.df hN.a hN.b hN.old
 have hlen : (E++[((u : Int),(v : Int),())]).length=E.length+1:=by simp
 rw [hlen] at hf'
 rw [parts_eq hf' (by rw [show 2 * (E.length+1)=2 * E.length+2 by omega]; exact e2) cf' e3,e1]
 simp only [List.length_cons,List.length_append]
 omega
end
end Go.Vm

namespace Go.Vm
open Go.Proofs
set_option maxRecDepth 100000
attribute [local irreducible] loopFix
section
variable {N : Nat} {E : List Arc} {A : List (List Int)} {d f u v : Nat}
theorem EdgeOK.join (h : EdgeOK N E A d f u v) : Reach E u v:=by
 obtain ⟨nx,hn,_,hf,a,ma,mb⟩:=h.face
 obtain ⟨j,j1,j2,g,j3,j4⟩:=marksOf_some hf h.d2
 obtain ⟨j',j1',j2',g',j3',j4'⟩:=marksOf_some hf h.f2
 rw [ma] at j2
 rw [mb] at j2'
 have : j=j':=by
  have e1:=Option.some.inj j2
  have e2:=Option.some.inj j2'
  omega
 subst this
 rw [j3] at j3'
 have : g=g':=Option.some.inj j3'
 subst this
 exact face_reach h.rot hn (List.mem_of_getElem? j3) j4 j4' h.tu h.tv
theorem bef_nonempty {l : List Int} {d f : Int} (h : f∈l) : (bef l d f).isEmpty=false∧l.isEmpty=false:=by
 have h1 : f∈bef l d f:=bef_mem.2 (.inl h)
 constructor
 ·cases hb : bef l d f with
  | nil=>rw [hb] at h1; simp at h1
  | cons a b=>rfl
 ·cases l with
  | nil=>simp at h
  | cons a b=>rfl
theorem EdgeOK.emp (h : EdgeOK N E A d f u v) : emp (insA A u v E.length d f)=emp A:=by
 have hal:=h.al
 have hu : u < A.length:=by rw [hal]; exact h.un
 have hv : v < A.length:=by rw [hal]; exact h.vn
 unfold insA
 have e1 : subL (A.set u (bef (subL A u) ((2 * E.length : Nat) : Int) (d : Int))) v=subL A v:=by
  rw [subL_eq (by simpa using hv),subL_eq hv,List.getElem_set_ne h.ne]
 rw [emp_set (by simpa using hv) (by rw [e1,(bef_nonempty h.mv).1,(bef_nonempty (d:=0) h.mv).2]),emp_set hu (by rw [(bef_nonempty h.mu).1,(bef_nonempty (d:=0) h.mu).2])]
theorem EdgeOK.genus (h : EdgeOK N E A d f u v) {nx nx' : List Int} (hn : Fol oth E A nx) (hn' : Fol oth (E++[((u : Int),(v : Int),())]) (insA A u v E.length d f) nx') :
  genZ N (E++[((u : Int),(v : Int),())]) (insA A u v E.length d f) (facesOf nx').length=genZ N E A (facesOf nx).length:=by
 unfold genZ
 rw [h.faces hn hn',h.emp,comps_congr (N:=N) fun x y=>reach_new h.join]
 congr 2
 simp
 omega
end
end Go.Vm

