/-
 Systems: how they are made, their genus, what is reached.
-/
import Derived.Test.YtpgfkljmcacegaaDoorN33E
set_option linter.unusedVariables false
set_option linter.unusedSimpArgs false
namespace Go.Vm
open Go.Proofs
set_option maxRecDepth 100000
attribute [local irreducible] loopFix
theorem nodup_split {l : List Int} (hn : l.Nodup) {k : Nat} {f : Int} (hk : l[k]?=some f) : l=l.take k++f :: l.drop (k+1)∧f∉l.take k∧f∉l.drop (k+1):=by
 have hlt : k < l.length:=(List.getElem?_eq_some_iff.1 hk).1
 have hf : l[k]=f:=(List.getElem?_eq_some_iff.1 hk).2
 have e : l=l.take k++f :: l.drop (k+1):=by
  rw [← hf,← List.drop_eq_getElem_cons hlt,List.take_append_drop]
 have h2:=hn
 rw [e,List.nodup_append,List.nodup_cons] at h2
 exact ⟨e,fun hm=>h2.2.2 f hm f (by simp) rfl,h2.2.1.1⟩
theorem RotOK.list_nodup {N : Int} {E : List Arc} {A : List (List Int)} (h : RotOK N E A) {l : List Int} (hl : l∈A) : l.Nodup:=h.nodup.sublist (List.sublist_flatten_of_mem hl)
section
variable {N : Nat} {E : List Arc} {A : List (List Int)} {nx : List Int}
theorem RotOK.split (h : RotOK (N : Nat) E A) {k w : Nat} (hk : k < 2 * E.length) (hw : tl E k=w) (hwN : w < N) : ∃ p q,A[w]?=some (p++(k : Int) :: q)∧subL A w=p++(k : Int) :: q∧(k : Int)∉p∧(k : Int)∉q:=by
 have hal : A.length=N:=by have:=h.len; omega
 have hlt : w < A.length:=by omega
 have hm:=h.around hk hw (List.getElem?_eq_getElem hlt)
 obtain ⟨i,hi⟩:=List.mem_iff_getElem?.1 hm
 have hn:=h.list_nodup (List.getElem_mem hlt)
 obtain ⟨e,n1,n2⟩:=nodup_split hn hi
 exact ⟨_,_,by rw [List.getElem?_eq_getElem hlt]; exact congrArg some e,by rw [subL_eq hlt]; exact e,n1,n2⟩
theorem Fol.cyc {E : List Arc} {A : List (List Int)} {fw : List Int} (h : Fol id E A fw) {l : List Int} (hl : l∈A) (hne : l≠[]) : Cyc fw l:=⟨hne,fun i hi=>h.get l hl i hi⟩
end
section
variable {N : Nat} {E : List Arc} {A : List (List Int)} {nx : List Int}
theorem facesOf_fs {nx : List Int} (h : RotOK (N : Nat) E A) (hn : Fol oth E A nx) : FsOK (2 * E.length) (facesOf nx)∧∀ g∈facesOf nx,Cyc nx g:=by
 have hnx:=Fol.nxOK h hn
 refine ⟨?_,facesOf_cyc (fol_inj32 h hn) hnx⟩
 obtain ⟨m,_,hi⟩:=facesOf_spec hnx
 have hL : nx.length=2 * E.length:=hn.len
 rw [hL] at hi
 refine ⟨hi.elem,hi.nodup,fun k hk=>hi.cover k hk hk,?_⟩
 have:=hi.num
 show (facesOf nx).length≤_
 have h2 : (facesOf nx).length+unm m≤2 * E.length:=this
 omega
end
def emp (A : List (List Int)) : Nat:=A.countP fun l=>l.isEmpty
noncomputable def genZ (N : Nat) (E : List Arc) (A : List (List Int)) (F : Nat) : Int:=subI .i64 (comps N E : Nat) (quoI .i64 ((N : Int) - E.length+(F+emp A : Nat)) 2)
def empStep33 (_ : Nat) (n : Int) (l : List Int) : Option (Int⊕Empty):=some (.inl (cond (eqI (l.length : Nat) 0) (addI .i64 n 1) n))
theorem RotOK.lists {N : Int} {E : List Arc} {A : List (List Int)} (h : RotOK N E A) : ∀ l∈A,l.length≤9223372036854775807:=fun l hl=>by have:=h.list_len hl; have:=h.m1; omega
section
variable {N : Nat} {E : List Arc} {A : List (List Int)} {nx : List Int}
theorem RotOK.al (h : RotOK (N : Nat) E A) : A.length=N:=by have:=h.len; omega
theorem RotOK.n16 (h : RotOK (N : Nat) E A) : N≤16384:=by have:=h.n1; omega
theorem next_tail (h : RotOK (N : Nat) E A) (hn : Fol oth E A nx) {k y : Nat} (hy : nx[k]?=some (y : Int)) : k < 2 * E.length∧y < 2 * E.length∧tl E y=hd E k:=by
 have hk : k < 2 * E.length:=by
  have:=(List.getElem?_eq_some_iff.1 hy).1
  rw [hn.len] at this; exact this
 obtain ⟨v,l,i,h1,h2,h3,h4,h5⟩:=fol_at h hn hy
 obtain ⟨y',e1,e2,e3⟩:=h.dart v l h1 _ h5
 have : y=y':=by omega
 subst this
 have hm : ((oth k : Nat) : Int)∈l:=by
  rw [← h3,List.getD_eq_getElem?_getD,List.getElem?_eq_getElem h2]; exact List.getElem_mem h2
 obtain ⟨o,f1,f2,f3⟩:=h.dart v l h1 _ hm
 have : oth k=o:=by omega
 subst this
 exact ⟨hk,e2,by unfold hd; rw [e3,f3]⟩
end
end Go.Vm
