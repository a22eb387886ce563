/-
 The faces, in the program and in the reference.
-/
import Derived.Test.YtnnbdielbgljaaaDoorP29D
set_option linter.unusedVariables false
set_option linter.unusedSimpArgs false
namespace Go.Vm
open Go.Proofs
set_option maxRecDepth 100000
attribute [local irreducible] loopFix
def unm (met : List Bool) : Nat:=met.countP fun b=>!b
theorem unm_set : ∀ {met : List Bool} {x : Nat},met[x]?=some false→unm (met.set x true)+1=unm met
 | [],x,h=>by simp at h
 | b :: met,0,h=>by simp at h; subst h; simp [unm]
 | b :: met,x+1,h=>by
  have:=unm_set (met:=met) (x:=x) (by simpa using h)
  unfold unm at this ⊢
  simp only [List.set_cons_succ,List.countP_cons]
  omega
def walk (nx : List Int) : Nat→List Bool→List Int→Int→Option (List Bool×List Int)
 | 0,_,_,_=>none
 | n+1,met,acc,x=>match met[x.toNat]? with
  | some true=>some (met,acc)
  | some false=>match nx[x.toNat]? with
   | some y=>walk nx n (met.set x.toNat true) (acc++[x]) y
   | none=>none
  | none=>none
def NxOK (nx : List Int) (L : Nat) : Prop:=nx.length=L∧∀ k,k < L→∃ y : Nat,y < L∧nx[k]?=some (y : Int)
theorem walk_some {nx : List Int} {L : Nat} (hn : NxOK nx L) : ∀ (n : Nat) (met : List Bool) (acc : List Int) (x : Nat),met.length=L→x < L→unm met < n →
  ∃ m f,walk nx n met acc (x : Int)=some (m,acc++f)∧m.length=L∧(∀ d∈f,∃ k : Nat,d=(k : Int)∧k < L∧met[k]?=some false) ∧
   (∀ k : Nat,k < L→(m[k]?=some true↔met[k]?=some true∨(k : Int)∈f))∧f.Nodup∧(met[x]?=some false→(x : Int)∈f)∧(met[x]?=some true→f=[])∧f.length+unm m=unm met
 | 0,_,_,_,_,_,h=>by omega
 | n+1,met,acc,x,hm,hx,hu=>by
  obtain ⟨b,hb⟩ : ∃ b,met[x]?=some b:=⟨_,List.getElem?_eq_getElem (by omega)⟩
  cases b with
  | true =>
   refine ⟨met,[],?_,hm,by simp,by simp,List.nodup_nil,by simp [hb],fun _=>rfl,by simp⟩
   simp [walk,hb]
  | false =>
   obtain ⟨y,hy,hny⟩:=hn.2 x hx
   have hus:=unm_set hb
   obtain ⟨m,f,h1,h2,h3,h4,h5,h6,h7,h8⟩:=walk_some hn n (met.set x true) (acc++[(x : Int)]) y (by simpa using hm) hy (by omega)
   have hset : ∀ k : Nat,k < L→((met.set x true)[k]?=some true↔met[k]?=some true∨k=x):=by
    intro k hk
    rw [List.getElem?_set]
    by_cases e : x=k
    ·subst e; simp; omega
    ·rw [if_neg e]; simp [Ne.symm e]
   have hsetf : ∀ k : Nat,(met.set x true)[k]?=some false→met[k]?=some false∧k≠x:=by
    intro k hk
    rw [List.getElem?_set] at hk
    by_cases e : x=k
    ·subst e; simp at hk
    ·rw [if_neg e] at hk; exact ⟨hk,Ne.symm e⟩
   refine ⟨m,(x : Int) :: f,?_,h2,?_,?_,?_,by simp,by simp [hb],?_⟩
   ·simp only [walk,Int.toNat_natCast,hb,hny]
    rw [h1]; simp
   ·intro d hd
    rcases List.mem_cons.1 hd with rfl | hd
    ·exact ⟨x,rfl,hx,hb⟩
    ·obtain ⟨k,k1,k2,k3⟩:=h3 d hd
     exact ⟨k,k1,k2,(hsetf k k3).1⟩
   ·intro k hk
    rw [h4 k hk,hset k hk]
    simp only [List.mem_cons]
    constructor
    ·rintro ((h | h) | h)
     ·exact .inl h
     ·exact .inr (.inl (by omega))
     ·exact .inr (.inr h)
    ·rintro (h | h | h)
     ·exact .inl (.inl h)
     ·exact .inl (.inr (by omega))
     ·exact .inr h
   ·rw [List.nodup_cons]
    refine ⟨fun hin=>?_,h5⟩
    obtain ⟨k,k1,_,k3⟩:=h3 _ hin
    exact (hsetf k k3).2 (by omega)
   ·simp only [List.length_cons]; omega
theorem faces_inner {nx : List Int} : ∀ (n : Nat) (met : List Bool) (acc : List Int) (x : Nat) (out : List (List Int)) (c d : Int) (r : List Bool×List Int),acc.length+n≤1000000→met.length=nx.length→NxOK nx nx.length→x < nx.length →
  walk nx n met acc (x : Int)=some r→Zaw_L11 (nx,met,out,acc,(x : Int),c,d,())=some (.inl (nx,r.1,out,r.2,c,d,()))
 | 0,_,_,_,_,_,_,_,_,_,_,_,h=>by simp [walk] at h
 | n+1,met,acc,x,out,c,d,r,hl,hm,hn,hx,h=>by
  obtain ⟨b,hb⟩ : ∃ b,met[x]?=some b:=⟨_,List.getElem?_eq_getElem (by omega)⟩
  obtain ⟨y,hy,hny⟩:=hn.2 x hx
  simp only [walk,Int.toNat_natCast,hb] at h
  cases b with
  | true =>
   cases h
   refine loop_done ?_
   simp only [Zaw_B11]
   rw [idxI_of (by omega),Option.bind_some,hb]
   rfl
  | false =>
   simp only [hny] at h
   have hs : Zaw_B11 (nx,met,out,acc,(x : Int),c,d,())=some (.inl (nx,met.set x true,out,acc++[(x : Int)],(y : Int),c,d,())):=by
    simp only [Zaw_B11]
    rw [idxI_of (by omega),Option.bind_some,hb,Option.bind_some,Option.bind_some]
    simp only [hb,Option.bind_some,Bool.not_false,cond_true]
    rw [app_of (by simp; omega),Option.bind_some,idxI_of hx,Option.bind_some,hny]
    rfl
   refine (loop_step hs).trans ?_
   exact faces_inner n (met.set x true) (acc++[(x : Int)]) y out c d r (by simp; omega) (by simpa using hm) hn hy h
theorem other_eq (k : Nat) (h : k < 4611686018427387904) : Zz ((k : Int),())=some ((oth k : Int),()):=by
 unfold Zz
 simp only
 rw [rem2]
 unfold oth
 by_cases e : k % 2=0
 ·rw [eqI_t (by omega),cond_true,add1 (by omega),if_pos e]
 ·rw [eqI_f (by omega),cond_false,sub1 (by omega),if_neg e]
  congr 2
  omega
theorem rfaces_inner {nx fw : List Int} (hfw : fw.length=nx.length) (hb2 : ∀ k,k < nx.length→fw[oth k]?=nx[k]?) (heven : ∀ k,k < nx.length→oth k < nx.length) (hL : nx.length≤100000) : ∀ (n : Nat) (met : List Bool) (acc : List Int) (x : Nat) (out : List (List Int)) (d : Int) (r : List Bool×List Int),
  acc.length+n≤1000000→met.length=nx.length→NxOK nx nx.length→x < nx.length →
  walk nx n met acc (x : Int)=some r→Zy_L12 (out,fw,met,acc,d,(x : Int),())=some (.inl (out,fw,r.1,r.2,d,()))
 | 0,_,_,_,_,_,_,_,_,_,_,h=>by simp [walk] at h
 | n+1,met,acc,x,out,d,r,hl,hm,hn,hx,h=>by
  obtain ⟨b,hb⟩ : ∃ b,met[x]?=some b:=⟨_,List.getElem?_eq_getElem (by omega)⟩
  obtain ⟨y,hy,hny⟩:=hn.2 x hx
  simp only [walk,Int.toNat_natCast,hb] at h
  cases b with
  | true =>
   cases h
   refine loop_done ?_
   simp only [Zy_B12]
   rw [idxI_of (by omega),Option.bind_some,hb]
   rfl
  | false =>
   simp only [hny] at h
   have hs : Zy_B12 (out,fw,met,acc,d,(x : Int),())=some (.inl (out,fw,met.set x true,acc++[(x : Int)],d,(y : Int),())):=by
    simp only [Zy_B12]
    rw [idxI_of (by omega),Option.bind_some,hb,Option.bind_some,Option.bind_some]
    simp only [hb,Option.bind_some,Bool.not_false,cond_true]
    rw [app_of (by simp; omega),Option.bind_some,other_eq x (by omega),Option.bind_some,idxI_of (by rw [hfw]; exact heven x hx),Option.bind_some,hb2 x hx,hny]
    rfl
   refine (loop_step hs).trans ?_
   exact rfaces_inner hfw hb2 heven hL n (met.set x true) (acc++[(x : Int)]) y out d r (by simp; omega) (by simpa using hm) hn hy h
def faceStep (nx : List Int) : Nat→List Bool×List (List Int)→Unit→Option ((List Bool×List (List Int))⊕Empty):=fun d s _ =>
 (walk nx (nx.length+1) s.1 [] (d : Int)).map fun r=>.inl (r.1,cond r.2.isEmpty s.2 (s.2++[r.2]))
structure FacesInv (L : Nat) (d : Nat) (s : List Bool×List (List Int)) : Prop where
 len : s.1.length=L
 elem : ∀ f∈s.2,f≠[]∧∀ x∈f,∃ k : Nat,x=(k : Int)∧k < L
 met : ∀ k : Nat,k < L→(s.1[k]?=some true↔(k : Int)∈s.2.flatten)
 nodup : s.2.flatten.Nodup
 cover : ∀ k,k < d→k < L→(k : Int)∈s.2.flatten
 num : s.2.length+unm s.1≤L
theorem unm_le (met : List Bool) : unm met≤met.length:=List.countP_le_length
theorem unm_rep (L : Nat) : unm (List.replicate L false)=L:=by
 unfold unm
 rw [List.countP_eq_length.2 (fun a ha=>by rw [List.mem_replicate] at ha; simp [ha.2])]
 simp
theorem faceStep_ok {nx : List Int} (hn : NxOK nx nx.length) {d : Nat} (hd : d < nx.length) {s : List Bool×List (List Int)} (hs : FacesInv nx.length d s) :
  ∃ t,faceStep nx d s ()=some (.inl t)∧FacesInv nx.length (d+1) t:=by
 have hu:=unm_le s.1
 obtain ⟨m,f,h1,h2,h3,h4,h5,h6,h7,h8⟩:=walk_some hn (nx.length+1) s.1 [] d hs.len hd (by rw [hs.len] at hu; omega)
 simp only [List.nil_append] at h1
 refine ⟨_,by simp only [faceStep,h1,Option.map_some]; rfl,?_⟩
 have fresh : ∀ x∈f,x∉s.2.flatten:=by
  intro x hx hin
  obtain ⟨k,rfl,k2,k3⟩:=h3 x hx
  rw [(hs.met k k2).2 hin] at k3; cases k3
 cases hf : f with
 | nil =>
  subst hf
  have hmd : s.1[d]?=some true:=by
   obtain ⟨b,hb⟩ : ∃ b,s.1[d]?=some b:=⟨_,List.getElem?_eq_getElem (by rw [hs.len]; exact hd)⟩
   cases b with
   | true=>exact hb
   | false=>have:=h6 hb; simp at this
  refine ⟨h2,hs.elem,fun k hk=>?_,hs.nodup,fun k hk hkL=>?_,?_⟩
  ·show m[k]?=some true↔_
   rw [h4 k hk,hs.met k hk]; simp
  ·rcases Nat.eq_or_lt_of_le (Nat.le_of_lt_succ hk) with rfl | hlt
   ·exact (hs.met k hkL).1 hmd
   ·exact hs.cover k hlt hkL
  ·have:=hs.num
   simp at h8
   show s.2.length+unm m≤_
   omega
 | cons a f' =>
  rw [← hf]
  have hemp : f.isEmpty=false:=by rw [hf]; rfl
  rw [hemp]
  simp only [cond_false]
  have hflat : (s.2++[f]).flatten=s.2.flatten++f:=by simp
  refine ⟨h2,?_,?_,?_,?_,?_⟩
  ·intro g hg
   rcases List.mem_append.1 hg with hg | hg
   ·exact hs.elem g hg
   ·simp only [List.mem_singleton] at hg
    subst hg
    refine ⟨by rw [hf]; simp,fun x hx=>?_⟩
    obtain ⟨k,k1,k2,_⟩:=h3 x hx
    exact ⟨k,k1,k2⟩
  ·intro k hk
   show m[k]?=some true↔_
   rw [h4 k hk,hs.met k hk,hflat,List.mem_append]
  ·show (s.2++[f]).flatten.Nodup
   rw [hflat,List.nodup_append]
   exact ⟨hs.nodup,h5,fun x hx y hy e=>fresh y hy (e ▸ hx)⟩
  ·intro k hk hkL
   show (k : Int)∈(s.2++[f]).flatten
   rw [hflat,List.mem_append]
   rcases Nat.eq_or_lt_of_le (Nat.le_of_lt_succ hk) with rfl | hlt
   ·obtain ⟨b,hb⟩ : ∃ b,s.1[k]?=some b:=⟨_,List.getElem?_eq_getElem (by rw [hs.len]; exact hkL)⟩
    cases b with
    | true=>exact .inl ((hs.met k hkL).1 hb)
    | false=>exact .inr (h6 hb)
   ·exact .inl (hs.cover k hlt hkL)
  ·have:=hs.num
   show (s.2++[f]).length+unm m≤_
   rw [hf] at h8
   simp only [List.length_append,List.length_cons,List.length_nil] at h8 ⊢
   omega
theorem faces_start (L : Nat) : FacesInv L 0 (List.replicate L false,[]):=by
 refine ⟨by simp,by simp,fun k hk=>?_,by simp,fun k hk=>by omega,?_⟩
 ·simp [List.getElem?_replicate,hk]
 ·have:=unm_rep L
  simp [this]
theorem faces_all {nx : List Int} (hn : NxOK nx nx.length) : ∀ (l : List Unit) (d : Nat) (s : List Bool×List (List Int)),d+l.length=nx.length→FacesInv nx.length d s →
  ∃ t,foldE (faceStep nx) d s l=some (.inl t)∧FacesInv nx.length nx.length t
 | [],d,s,h,hs=>by
  have : d=nx.length:=by simpa using h
  subst this
  exact ⟨s,rfl,hs⟩
 | () :: l,d,s,h,hs=>by
  simp only [List.length_cons] at h
  obtain ⟨t,h1,h2⟩:=faceStep_ok hn (by omega : d < nx.length) hs
  obtain ⟨t',h3,h4⟩:=faces_all hn l (d+1) t (by omega) h2
  exact ⟨t',by simp only [foldE,h1,Option.bind_some,Sum.elim_inl]; exact h3,h4⟩
def facesOf (nx : List Int) : List (List Int):=match foldE (faceStep nx) 0 (List.replicate nx.length false,[]) (List.replicate nx.length ()) with
 | some (.inl t)=>t.2
 | _=>[]
theorem facesOf_spec {nx : List Int} (hn : NxOK nx nx.length) : ∃ m,foldE (faceStep nx) 0 (List.replicate nx.length false,[]) (List.replicate nx.length ())=some (.inl (m,facesOf nx))∧FacesInv nx.length nx.length (m,facesOf nx):=by
 obtain ⟨t,h1,h2⟩:=faces_all hn (List.replicate nx.length ()) 0 _ (by simp) (faces_start nx.length)
 have : facesOf nx=t.2:=by unfold facesOf; rw [h1]
 rw [this]
 exact ⟨t.1,h1,h2⟩
theorem faces_loop {nx : List Int} (hL : nx.length≤100000) (hn : NxOK nx nx.length) : Zaw_L7 (nx,List.replicate nx.length false,[],(nx.length : Nat),0,())=some (.inl (facesOf nx,())):=by
 have key:=scanI (B:=Zaw_B7) (ε:=Empty) (fun d s=>FacesInv nx.length d s) (fun s i=>(nx,s.1,s.2,((nx.length : Nat) : Int),(i : Int),())) (fun s=>.inl (s.2,())) (fun e=>nomatch e) (faceStep nx) (List.replicate nx.length ()) (by
   rintro ⟨met,out⟩ d u hs hd
   have hd' : d < nx.length:=by have:=(List.getElem?_eq_some_iff.1 hd).1; simpa using this
   have hu:=unm_le met
   have hml : met.length=nx.length:=hs.len
   obtain ⟨m,f,h1,h2,h3,h4,h5,h6,h7,h8⟩:=walk_some hn (nx.length+1) met [] d hml hd' (by omega)
   simp only [List.nil_append] at h1
   simp only [Zaw_B7,faceStep]
   rw [ltI_t (by omega),cond_true,faces_inner (nx.length+1) met [] d out _ _ (m,f) (by simp; omega) hml hn hd' h1,h1]
   simp only [Option.bind_some,Sum.elim_inl,Option.map_some]
   have hnum:=hs.num
   simp only at hnum
   cases f with
   | nil =>
    rw [gtI_f (by simp)]
    simp only [cond_false,List.isEmpty_nil,cond_true]
    rw [add1 (by omega)]
   | cons a f =>
    rw [gtI_t (by simp),cond_true,app_of (by simp only [List.length_singleton]; omega),Option.bind_some,add1 (by omega)]
    rfl) (by
   rintro s d u t hs hd hg
   have hd' : d < nx.length:=by have:=(List.getElem?_eq_some_iff.1 hd).1; simpa using this
   obtain ⟨t',h1,h2⟩:=faceStep_ok hn hd' hs
   cases u
   rw [h1] at hg; cases hg
   exact h2) (by
   intro s hs
   simp only [Zaw_B7]
   rw [ltI_f (by simp)]; rfl) (List.replicate nx.length false,[]) (faces_start nx.length)
 obtain ⟨m,h1,_⟩:=facesOf_spec hn
 rw [h1] at key
 exact key
theorem rfaces_loop {nx fw : List Int} (hfw : fw.length=nx.length) (hb2 : ∀ k,k < nx.length→fw[oth k]?=nx[k]?) (heven : ∀ k,k < nx.length→oth k < nx.length) (hL : nx.length≤100000) (hn : NxOK nx nx.length) :
  Zy_L7 ([],fw,List.replicate nx.length false,0,())=some (.inl (facesOf nx,())):=by
 have key:=scanI (B:=Zy_B7) (ε:=Empty) (fun d s=>FacesInv nx.length d s) (fun s i=>(s.2,fw,s.1,(i : Int),())) (fun s=>.inl (s.2,())) (fun e=>nomatch e) (faceStep nx) (List.replicate nx.length ()) (by
   rintro ⟨met,out⟩ d u hs hd
   have hd' : d < nx.length:=by have:=(List.getElem?_eq_some_iff.1 hd).1; simpa using this
   have hu:=unm_le met
   have hml : met.length=nx.length:=hs.len
   obtain ⟨m,f,h1,h2,h3,h4,h5,h6,h7,h8⟩:=walk_some hn (nx.length+1) met [] d hml hd' (by omega)
   simp only [List.nil_append] at h1
   have hnum:=hs.num
   simp only at hnum
   simp only [Zy_B7,faceStep]
   rw [ltI_t (by omega),cond_true,idxI_of (by omega),Option.bind_some]
   obtain ⟨b,hb⟩ : ∃ b,met[d]?=some b:=⟨_,List.getElem?_eq_getElem (by omega)⟩
   rw [hb,Option.bind_some]
   cases b with
   | true =>
    have hf:=h7 hb
    subst hf
    have hw : walk nx (nx.length+1) met [] (d : Int)=some (met,[]):=by simp [walk,hb]
    rw [hw,cond_true,add1 (by omega)]
    rfl
   | false =>
    rw [cond_false,rfaces_inner hfw hb2 heven hL (nx.length+1) met [] d out _ (m,f) (by simp; omega) hml hn hd' h1,h1]
    have hne : f≠[]:=fun e=>by have:=h6 hb; rw [e] at this; simp at this
    cases f with
    | nil=>exact absurd rfl hne
    | cons a f =>
     simp only [Option.bind_some,Sum.elim_inl,Option.map_some]
     rw [app_of (by simp only [List.length_singleton]; omega),Option.bind_some,add1 (by omega)]
     rfl) (by
   rintro s d u t hs hd hg
   have hd' : d < nx.length:=by have:=(List.getElem?_eq_some_iff.1 hd).1; simpa using this
   obtain ⟨t',h1,h2⟩:=faceStep_ok hn hd' hs
   cases u
   rw [h1] at hg; cases hg
   exact h2) (by
   intro s hs
   simp only [Zy_B7]
   rw [ltI_f (by simp [hfw])]; rfl) (List.replicate nx.length false,[]) (faces_start nx.length)
 obtain ⟨m,h1,_⟩:=facesOf_spec hn
 rw [h1] at key
 exact key
section
variable {N : Int} {E : List Arc} {A : List (List Int)}
theorem Fol.nxOK (h : RotOK N E A) {o : List Int} (ho : Fol oth E A o) : NxOK o o.length:=by
 refine ⟨rfl,fun k hk=>?_⟩
 rw [ho.len] at hk ⊢
 obtain ⟨l,hl,hd⟩:=List.mem_flatten.1 (h.mem (oth_lt hk))
 obtain ⟨i,hi,hid⟩:=List.getElem_of_mem hd
 have g1:=ho.get l hl i hi
 rw [hid] at g1
 simp only [Int.toNat_natCast,oth_oth] at g1
 have hm : (i+1) % l.length < l.length:=Nat.mod_lt _ (by omega)
 rw [List.getD_eq_getElem?_getD,List.getElem?_eq_getElem hm,Option.getD_some] at g1
 obtain ⟨y,hy,hy2⟩:=h.mem_of hl (List.getElem_mem hm)
 rw [hy] at g1
 exact ⟨y,hy2,g1⟩
theorem faces_both (h : RotOK N E A) (hv : validB (N,E,A,())=true) (hl : ∀ l∈A,l.length≤9223372036854775807) : ∃ nx m,Zap ((N,E,A,()),())=some (nx,())∧Fol oth E A nx∧FacesInv nx.length nx.length (m,facesOf nx) ∧
  Zaw ((N,E,A,()),())=some (facesOf nx,())∧Zy ((N,E,A,()),())=some (facesOf nx,()):=by
 obtain ⟨nx,e1,f1⟩:=follow_eq h ()
 obtain ⟨fw,e2,f2⟩:=rfollow_eq h ()
 have hm1:=h.m1
 have hn:=Fol.nxOK h f1
 have hL : nx.length≤100000:=by rw [f1.len]; omega
 obtain ⟨m,_,hi⟩:=facesOf_spec hn
 refine ⟨nx,m,e1,f1,hi,?_,?_⟩
 ·unfold Zaw
  simp only
  rw [valid_eq (N,E,A,()) hl,hv,Option.bind_some]
  simp only [Bool.not_true,cond_false]
  rw [e1,Option.bind_some]
  simp only
  rw [makeL_of (Nat.le_refl _) (by omega),Option.bind_some,show List.replicate nx.length (zeroVal Ty.bool)=List.replicate nx.length false from rfl,faces_loop hL hn]
  rfl
 ·unfold Zy
  simp only
  rw [rvalid_eq (N,E,A,()) hl,hv,Option.bind_some]
  simp only [Bool.not_true,cond_false]
  rw [e2,Option.bind_some]
  simp only
  have hfl : fw.length=nx.length:=by rw [f1.len,f2.len]
  rw [makeL_of (Nat.le_refl _) (by omega),Option.bind_some,show List.replicate fw.length (zeroVal Ty.bool)=List.replicate fw.length false from rfl,hfl,
   rfaces_loop hfl (fun k hk=>by
    obtain ⟨y,_,y1,y2⟩:=fol_both h f1 f2 (k:=k) (by rw [← f1.len]; exact hk)
    rw [y1,y2]) (fun k hk=>by rw [f1.len] at hk ⊢; exact oth_lt hk) hL hn]
  rfl
end
end Go.Vm
