/-
 A machine on typed values, small enough to be reckoned by the kernel, and the proof that it goes with the model: part 4 of 4. What it computes for a function is that function's contract. No condition of its own.
-/
import Derived.Test.YtgdkanecejfeiaaGreatDoorVmC
import Derived.ChangeKeysEq
import Derived.Lib.LaidTab
import Derived.WideKeyArgs
import Derived.ChangeSame
import Derived.RowKit
import Derived.Test.YtgdkanecejfeiaaGreatDoorVmA
import Derived.IntWalk
import Derived.Laws.Strings
open Option renaming bind_some→dn,bind_eq_some_iff→B4,map_eq_some_iff→Nu,pure_def→OP
open List renaming getElem?_eq_getElem→gr,getElem?_eq_some_iff→A2,mem_cons→B7,length_cons→LU,range→LX,all_eq_true→LZ,mem_cons_of_mem→Me,map_cons→Mo,append_nil→MH,append_assoc→MO,mem_range→M2,getElem_of_mem→M3,mem_map→Nv,countP_append→Pu,mapM_cons→PQ,mapM_nil→PZ
open Option.some renaming injEq→A1,inj→B6
open Bool renaming and_eq_true→A3,not_eq_true'→Mn,not_true→Mp,or_eq_true→Mt,false_eq_true→MB,false_or→NB,true_and→OJ
open Nat renaming eq_of_beq_eq_true→A4,le_refl→A7,beq→B1,le_of_ble_eq_true→B5,add_mul→L4,ble→L6,zero_add→L9,zero_le→MJ,add_zero→M4,blt→OG,testBit_succ→OS
open Sum renaming elim_inl→B8,elim→LV
open Array renaming getElem?_eq_some_iff→Mi,length_toList→Mu,getElem?_toList→My,getD_eq_getD_getElem?→MW,replicate→N7,forIn_toList→Pl
open List.Pairwise renaming nil→MR
open List.cons renaming injEq→NE
set_option linter.unusedVariables false
set_option linter.unusedSimpArgs false
/-
 Regions whose operations stand in no fixed order.
-/
namespace Go.Vm
section
variable {P:Program} {C:Ctx} {w0:World} {M:Own} {N:Nat} {ops:Array Oper} {ms:List Nat} {k:Nat} {s:St} {nd kd:Nat→Bool} {V:Nat→SV} {X:Nat→Heap} {E:Nat→Env} {L:Nat→List (Nat×Heap)} {H:Nat→Heap} {a:Act}
theorem mY {m:Mem} {f:Nat→SV} {o:Oper} {e:Env} {b:Bool} (hS:∀ t,RelSV m (a.tmps.getD t undef) (f t)) (he:∀ t∈looks ops.toList o,e.get t=f t) (hg:lT ops.toList o e b) :
  Region.wanted o (yielded ops a.tmps)=b:=by
 have slot:∀ {j want d},o.guard=some (j,want)→eH ops.toList j=some d→d∈looks ops.toList o:=by
  intro j want d h1 h2
  unfold looks
  rw [h1]
  simp [h2]
 have yv:∀ {j d},eH ops.toList j=some d→(ops[j]?).bind (·.dst)=some d:=by
  intro j d hj
  unfold eH at hj
  rw [My] at hj
  split at hj
  ·rename_i o ho; simp [ho,hj]
  ·simp at hj
 have get:∀ d v,a.tmps.getD d undef=v→v≠undef→a.tmps[d]?=some v:=by
  intro d v h hne
  rw [MW] at h
  cases hg:a.tmps[d]? with
  | none=>rw [hg] at h; exact absurd h.symm hne
  | some u=>rw [hg] at h; simp at h; rw [h]
 cases b with
 | true =>
  rcases hg with hg | ⟨j,want,d,h1,h2,h3⟩
  ·simp [Region.wanted,hg]
  ·have hv:=hS d
   rw [← he d (slot h1 h2),h3] at hv
   have hv:=get d _ (rel_bool hv) (by simp [undef])
   simp [Region.wanted,h1,yielded,yv h2,hv]
 | false =>
  obtain ⟨j,want,d,h1,h2,h3⟩:=hg
  have hv:=hS d
  rw [← he d (slot h1 h2)] at hv
  rcases h3 with h3 | h3
  ·rw [h3] at hv
   have hv:a.tmps.getD d undef=undef:=hv
   rw [MW] at hv
   simp only [Region.wanted,h1,yielded,yv h2,dn]
   cases hg:a.tmps[d]? with
   | none=>simp
   | some v=>rw [hg] at hv; simp at hv; subst hv; simp [undef]
  ·rw [h3] at hv
   have hv:=get d _ (rel_bool hv) (by simp [undef])
   simp [Region.wanted,h1,yielded,yv h2,hv]
theorem C9 {m m':Mem} {o:Oper} {v:Value} {f g:Nat→SV} (he:Evo m m') (hS:∀ t,RelSV m (a.tmps.getD t undef) (f t)) (hd:∀ d,o.dst=some d→d < a.tmps.size)
  (hv:∀ d,o.dst=some d→RelSV m' v (g d)) (hg:∀ t,o.dst≠some t→g t=f t):∀ t,RelSV m' ((a.put o.dst v).tmps.getD t undef) (g t):=by
 intro t
 rw [kg a o.dst v hd]
 split
 ·rename_i e; exact hv t e
 ·rename_i e; rw [hg t e]; exact il he (hS t)
def ja (all:List Oper) (k:Nat) (nd:Nat→Bool) (B:Heap) (X:Nat→Heap) (H:Nat→Heap) (S:Nat→Bool) (G:Heap):Prop :=
 ((∀ l o,k≤l→all[l]?=some o→Fr k nd l o=false→S l=false)∧∀ id,G.get id=look X B S k id) ∨
 (∃ j,k≤j∧j≤all.length∧(∀ l o,l < j→all[l]?=some o→Fr k nd l o=false→S l=true)∧(∀ l o,j≤l→all[l]?=some o→Fr k nd l o=false→S l=false)∧∀ id,G.get id=(H j).get id)
theorem Trace.free_new {all:List Oper} (h:Trace C all ms k nd kd s V X E L H) {i:Nat} {o:Oper} (hi:i < k) (ho:all[i]?=some o) (hf:Fr k nd i o=true):X i=[]:=by
 rcases (h.stepA i o hi ho).2 with ⟨_,_,_,_,hl,s',h1,_,h2⟩ | ⟨_,_,_,h2⟩
 ·unfold Fr at hf
  simp only [Mt,A3] at hf
  have:s'.G=ba (ms.getD i 0) (L i) s.G:=by
   rcases hf with hf | hf
   ·exact (l7 hf h1).1
   ·exact (o6 (hl hf.2) h1).1
  rw [h2] at this
  simpa using this
 ·exact h2
theorem Trace.free_heap {all:List Oper} (h:Trace C all ms k nd kd s V X E L H) {i:Nat} {o:Oper} (hi:k≤i) (ho:all[i]?=some o) (hf:Fr k nd i o=true):H (i+1)=H i:=by
 have hf:fH o=true:=by
  unfold Fr at hf
  simp only [Mt,A3,decide_eq_true_eq] at hf
  rcases hf with hf | hf
  ·exact hf
  ·omega
 rcases (h.stepT i o hi ho).2 with ⟨_,s',h1,_,h2,_⟩ | ⟨_,_,h2⟩
 ·rw [← h2,(l7 hf h1).1]
 ·exact h2
theorem Trace.keep_box {all:List Oper} (h:Trace C all ms k nd kd s V X E L H) {id:Nat} {b:List Atom} (hvr:C.vr id=false) (h0:(H k).get id=some (.box b)):∀ (d:Nat),k+d≤all.length →
  (∀ l o,k≤l→l < k+d→all[l]?=some o→Fr k nd l o=true∨kd l=true)→(H (k+d)).get id=some (.box b)
 | 0,_,_=>h0
 | d+1,hd,hf=>by
  obtain ⟨o,ho⟩ : ∃ o,all[k+d]?=some o:=⟨_,gr (by omega)⟩
  have ih:=h.keep_box hvr h0 d (by omega) fun l o h1 h2=>hf l o h1 (by omega)
  rw [show k+(d+1)=k+d+1 by omega]
  rcases hf _ o (by omega) (by omega) ho with hq | hq
  ·rw [h.free_heap (by omega) ho hq]; exact ih
  ·rcases (h.stepT _ o (by omega) ho).2 with ⟨_,s',_,_,_,h2⟩ | ⟨_,_,h2⟩
   ·exact h2 hq _ _ hvr ih
   ·rw [h2]; exact ih
theorem Trace.free_heaps {all:List Oper} (h:Trace C all ms k nd kd s V X E L H) {j:Nat} (hj:k≤j):∀ (d:Nat),j+d≤all.length→(∀ l o,j≤l→l < j+d→all[l]?=some o→Fr k nd l o=true)→H (j+d)=H j
 | 0,_,_=>rfl
 | d+1,hd,hf=>by
  obtain ⟨o,ho⟩ : ∃ o,all[j+d]?=some o:=⟨_,gr (by omega)⟩
  have:=h.free_heap (by omega:k≤j+d) ho (hf _ o (by omega) (by omega) ho)
  rw [show j+(d+1)=j+d+1 by omega,this]
  exact h.free_heaps hj d (by omega) fun l o h1 h2=>hf l o h1 (by omega)
theorem Cq {all:List Oper} (ho:OrdOK all ms k nd kd) (h:Trace C all ms k nd kd s V X E L H) {S:Nat→Bool} {G:Heap} (hH:ja all k nd s.G X H S G) {i:Nat} (hki:k≤i) (hi:i≤all.length)
  (hb:∀ l o,l < i→all[l]?=some o→Fr k nd l o=false→S l=true) (ha:∀ l o,i≤l→all[l]?=some o→Fr k nd l o=false→S l=false):∀ id,G.get id=(H i).get id:=by
 have hle:=ho.le
 rcases hH with ⟨h1,h2⟩ | ⟨j,j1,j2,j3,j4,j5⟩
 ·have e:H i=H k:=by
   obtain ⟨d,rfl⟩ : ∃ d,i=k+d:=⟨i - k,by omega⟩
   refine h.free_heaps (A7 _) d hi fun l o l1 l2 hl=>?_
   cases hf:Fr k nd l o with
   | true=>rfl
   | false=>have:=h1 l o l1 hl hf; rw [hb l o l2 hl hf] at this; cases this
  intro id
  rw [h2,e,h.hk,h.all_get hle (A7 _)]
  refine gQ fun q hq=>?_
  obtain ⟨o,hoq⟩ : ∃ o,all[q]?=some o:=⟨_,gr (by omega)⟩
  cases hf:Fr k nd q o with
  | true=>right; rw [h.free_new hq hoq hf]; rfl
  | false=>left; exact hb q o (by omega) hoq hf
 ·intro id
  rw [j5]
  rcases Nat.le_total j i with hji | hji
  ·obtain ⟨d,rfl⟩ : ∃ d,i=j+d:=⟨i - j,by omega⟩
   rw [h.free_heaps j1 d hi fun l o l1 l2 hl=>?_]
   cases hf:Fr k nd l o with
   | true=>rfl
   | false=>have:=j4 l o l1 hl hf; rw [hb l o l2 hl hf] at this; cases this
  ·obtain ⟨d,rfl⟩ : ∃ d,j=i+d:=⟨j - i,by omega⟩
   rw [h.free_heaps hki d j2 fun l o l1 l2 hl=>?_]
   cases hf:Fr k nd l o with
   | true=>rfl
   | false=>have:=j3 l o l2 hl hf; rw [ha l o l1 hl hf] at this; cases this
theorem om {all:List Oper} (ho:OrdOK all ms k nd kd) (h:Trace C all ms k nd kd s V X E L H) {S:Nat→Bool} {G:Heap} (hH:ja all k nd s.G X H S G) {i:Nat} {o:Oper} (hi:all[i]?=some o) (hX:i < k→X i=[])
  (hor:Fr k nd i o=true∨(i < k∧S i=false)):ja all k nd s.G X H (aW S i) G:=by
 have hne:∀ l o',all[l]?=some o'→Fr k nd l o'=false→Fr k nd i o=true→aW S i l=S l:=by
  intro l o' hl hf hfo
  have:l≠i:=fun e=>by subst e; rw [hi] at hl; cases hl; rw [hf] at hfo; cases hfo
  simp [aW,this]
 rcases hH with ⟨h1,h2⟩ | ⟨j,j1,j2,j3,j4,j5⟩
 ·refine .inl ⟨fun l o' hl ho' hf=>?_,fun id=>?_⟩
  ·rcases hor with hfo | ⟨hlt,_⟩
   ·rw [hne l o' ho' hf hfo]; exact h1 l o' hl ho' hf
   ·have:l≠i:=by omega
    simp only [aW,h1 l o' hl ho' hf,NB,beq_eq_false_iff_ne,ne_eq]
    exact this
  ·rw [h2]
   refine gQ fun q hq=>?_
   by_cases e:q=i
   ·subst e; right; rw [hX hq]; rfl
   ·left; simp [aW,e]
 ·rcases hor with hfo | ⟨hlt,hn⟩
  ·exact .inr ⟨j,j1,j2,fun l o' hl ho' hf=>by rw [hne l o' ho' hf hfo]; exact j3 l o' hl ho' hf,fun l o' hl ho' hf=>by rw [hne l o' ho' hf hfo]; exact j4 l o' hl ho' hf,j5⟩
  ·refine .inr ⟨j,j1,j2,fun l o' hl ho' hf=>by simp [aW,j3 l o' hl ho' hf],fun l o' hl ho' hf=>?_,j5⟩
   have:l≠i:=by omega
   simp only [aW,j4 l o' hl ho' hf,NB,beq_eq_false_iff_ne,ne_eq]
   exact this
structure Good (C:Ctx) (w0:World) (M:Own) (N:Nat) (all:List Oper) (k:Nat) (nd:Nat→Bool) (s:St) (V:Nat→SV) (X H:Nat→Heap) (S:Nat→Bool) (a:Act) (m:Mem):Prop where
 inv:Inv C w0 M m
 defers:a.defers=[]
 size:N≤a.tmps.size
 env:∀ t,RelSV m (a.tmps.getD t undef) (lN all V s.env S all.length t)
 heap:ja all k nd s.G X H S m.G
theorem E5 {m:Mem} {o:Oper} {f:Nat→SV} {e:Env} (hS:∀ t,RelSV m (a.tmps.getD t undef) (f t)) (he:∀ t∈looks ops.toList o,e.get t=f t) :
  ∀ t,RelSV m (a.tmps.getD t undef) ((dq ops.toList o e).get t):=by
 intro t
 rcases GB (all:=ops.toList) (o:=o) (e:=e) t with ⟨h1,h2⟩ | h1
 ·rw [h1,he t h2]; exact hS t
 ·rw [h1]; trivial
theorem Hl {dst:Option Nat} {d:Nat} {v:SV} {e:Env} {G:Heap} (h:dst=some d):(aD dst v ⟨e,G⟩).env.get (dst.getD 0)=v:=by
 subst h; simp [aD,Env.get_cons]
theorem Dr (hC:CtxOK P C) (ho:OrdOK ops.toList ms k nd kd) (h:Trace C ops.toList ms k nd kd s V X E L H) (hX:Sep ops.toList ms k X s.G) (hbox:∀ id l,s.G.get id=some (.box l)→∀ a∈l,cz s.G a=true)
  (hd:∀ o∈ops.toList,∀ d,o.dst=some d→d < N) {Q:Exit→Act→World→Prop} {K:Act→World→Prop}
  {S:Nat→Bool} {m:Mem} {i:Nat} {o:Oper} (hg:Good C w0 M N ops.toList k nd s V X H S a m) (hS:Closed ops.toList ms S) (hi:ops.toList[i]?=some o) (hn:S i=false) (hp:∀ j,bit (ms.getD i 0) j=true→S j=true)
  (hK:∀ a' m',Good C w0 M N ops.toList k nd s V X H (aW S i) a' m'→K a' m'.w):wpOp P ops Q i K a m.w:=by
 have hlt:i < ops.toList.length:=(A2.1 hi).1
 have hle:=ho.le
 have hseen:∀ t∈looks ops.toList o,(E i).get t=lN ops.toList V s.env S ops.toList.length t:=fun t ht=>h.seen ho hS hi hn hp ht
 have hrel:=E5 hg.env hseen
 have hmem:o∈ops.toList:=List.mem_of_getElem? hi
 have hdN:∀ d,o.dst=some d→d < a.tmps.size:=fun d hd'=>Nat.lt_of_lt_of_le (hd o hmem d hd') hg.size
 have hda:ku ops.toList i=o.dst:=by simp [ku,hi]
 have henv:∀ t,lN ops.toList V s.env (aW S i) ops.toList.length t=if o.dst=some t then V i else lN ops.toList V s.env S ops.toList.length t:=by
  intro t; rw [re ho (A7 _) hlt,hda]
 have hops:ops[i]?=some o:=by rw [← My]; exact hi
 -- what is left behind,by value and memory
 have fin:∀ (v:Value) (m':Mem),Inv C w0 M m'→Evo m m'→(∀ d,o.dst=some d→RelSV m' v (V i))→ja ops.toList k nd s.G X H (aW S i) m'.G→K (a.put o.dst v) m'.w:=by
  intro v m' h1 h2 h3 h4
  refine hK _ m' ⟨h1,by cases o.dst <;> exact hg.defers,by cases o.dst <;> simp [Act.put,hg.size],?_,h4⟩
  refine C9 h2 hg.env hdN (fun d hd'=>?_) (fun t ht=>?_)
  ·rw [henv,if_pos hd']; exact h3 d hd'
  ·rw [henv,if_neg ht]
 -- passed by
 have skip:lT ops.toList o (E i) false→V i=.av .undef→ja ops.toList k nd s.G X H (aW S i) m.G→wpOp P ops Q i K a m.w:=by
  intro hgo hv hh
  unfold wpOp
  simp only [hops]
  rw [mY hg.env hseen hgo]
  simp only [MB,if_false]
  exact fin undef m hg.inv (Evo.refl m) (fun d _=>by rw [hv]; exact (rfl:undef=undef)) hh
 -- carried out
 have run:∀ {w1:World} {M1:Own} {m1:Mem} {s':St},lT ops.toList o (E i) true→m1.w=m.w→Inv C w1 M1 m1→(∀ t,RelSV m1 (a.tmps.getD t undef) ((dq ops.toList o (E i)).get t)) →
   ax C o ⟨dq ops.toList o (E i),m1.G⟩ some=some s'→V i=s'.env.get (o.dst.getD 0) →
   (∀ v m',Inv C w1 M1 m'→Evo m1 m'→(∀ d,o.dst=some d→RelSV m' v (V i))→m'.G=s'.G→K (a.put o.dst v) m'.w)→wpOp P ops Q i K a m.w:=by
  intro w1 M1 m1 s' hgo hw hi1 hr hrun hv hfin
  unfold wpOp
  simp only [hops]
  rw [mY hg.env hseen hgo]
  simp only [if_true]
  left
  rw [← hw]
  refine FT (s:=⟨dq ops.toList o (E i),m1.G⟩) (K:=some) hC.tab hC.eqs hC.maps hC.con hi1 rfl (su hi1 hr) hrun K Q ?_
  rintro v w' ⟨s2,hs2,m',sv,rfl,hs3,q1,q2,q3⟩
  cases hs2
  refine hfin v m' q1 q2 (fun d hd'=>?_) (by rw [hs3]; cases o.dst <;> rfl)
  rw [hv,hs3,Hl hd']
  exact q3
 by_cases hf:fH o=true
 ·-- looks at no memory
  have hX0:i < k→X i=[]:=fun hik=>h.free_new hik hi (by unfold Fr; rw [hf]; rfl)
  have hh:ja ops.toList k nd s.G X H (aW S i) m.G:=om ho h hg.heap hi hX0 (.inl (by unfold Fr; rw [hf]; rfl))
  have go:∀ {G:Heap} {s':St},lT ops.toList o (E i) true→ax C o ⟨dq ops.toList o (E i),G⟩ some=some s'→V i=s'.env.get (o.dst.getD 0)→wpOp P ops Q i K a m.w:=by
   intro G s' hgo hr hv
   refine run hgo rfl hg.inv hrel ((l7 hf hr).2 m.G) hv fun v m' q1 q2 q3 q4=>fin v m' q1 q2 q3 ?_
   rw [q4]; exact hh
  by_cases hik:i < k
  ·rcases (h.stepA i o hik hi).2 with ⟨hgo,_,_,_,_,s',hr,hv,_⟩ | ⟨hgo,_,hv,_⟩
   ·exact go hgo hr hv
   ·exact skip hgo hv hh
  ·rcases (h.stepT i o (by omega) hi).2 with ⟨hgo,s',hr,hv,_,_⟩ | ⟨hgo,hv,_⟩
   ·exact go hgo hr hv
   ·exact skip hgo hv hh
 ·have hf:fH o=false:=by simpa using hf
  by_cases hik:i < k
  ·-- the first part
   rcases hg.heap with hA | ⟨j,j1,j2,j3,j4,j5⟩
   case inr =>
    -- a variable is looked at while the second part is under way
    have hnd:nd i=true:=by
     cases hfr:Fr k nd i o with
     | false=>have:=j3 i o (by omega) hi hfr; rw [hn] at this; cases this
     | true =>
      unfold Fr at hfr
      rw [hf] at hfr
      simp only [NB,A3] at hfr
      exact hfr.2
    have hfr:Fr k nd i o=true:=by unfold Fr; rw [hnd]; simp [hik]
    have hX0:X i=[]:=h.free_new hik hi hfr
    have hh:ja ops.toList k nd s.G X H (aW S i) m.G:=om ho h hg.heap hi (fun _=>hX0) (.inl hfr)
    rcases (h.stepA i o hik hi).2 with ⟨hgo,_,_,_,hl,s',hr,hv,_⟩ | ⟨hgo,_,hv,_⟩
    ·have hbx:∀ id l,C.vr id=false→(ba (ms.getD i 0) (L i) s.G).get id=some (.box l)→m.G.get id=some (.box l):=by
      intro id l hvr hl2
      rw [h.heapFor_get hle (ms.getD i 0) (j:=i) (by omega)] at hl2
      have h1:=xY ho hX hS hik hn hp hl2
      have h2:(H k).get id=some (.box l):=by
       rw [h.hk,h.all_get hle (A7 _),← h1]
       refine (gQ fun q hq=>?_).symm
       obtain ⟨oq,hoq⟩ : ∃ o,ops.toList[q]?=some o:=⟨_,gr (by omega)⟩
       cases hfq:Fr k nd q oq with
       | true=>right; rw [h.free_new hq hoq hfq]; rfl
       | false=>left; exact j3 q oq (by omega) hoq hfq
      obtain ⟨d,rfl⟩ : ∃ d,j=k+d:=⟨j - k,by omega⟩
      rw [j5]
      refine h.keep_box hvr h2 d j2 fun q oq q1 q2 hoq=>?_
      cases hfq:Fr k nd q oq with
      | true=>exact .inl rfl
      | false =>
       right
       have hSq:=j3 q oq q2 hoq hfq
       refine ho.kept q i q1 (by omega) hik hnd ?_
       cases hb:bit (ms.getD q 0) i with
       | false=>rfl
       | true=>have:=(hS q hSq).2 i hb; rw [hn] at this; cases this
     refine run hgo rfl hg.inv hrel ((o6 (hl hnd) hr).2 m.G hbx) hv fun v m' q1 q2 q3 q4=>fin v m' q1 q2 q3 ?_
     rw [q4]; exact hh
    ·exact skip hgo hv hh
   rcases (h.stepA i o hik hi).2 with ⟨hgo,hL,hsv,hbx,_,s',hr,hv,hsG⟩ | ⟨hgo,_,hv,hX0⟩
   ·have hGi:=h.heapFor_get hle (ms.getD i 0) (j:=i) (by omega)
    have hsub:∀ id o,(ba (ms.getD i 0) (L i) s.G).get id=some o→m.G.get id=some o:=by
     intro id ob hob
     rw [hA.2]
     rw [hGi] at hob
     exact xY ho hX hS hik hn hp hob
    have hBhas:∀ id,s.G.has id=true→(ba (ms.getD i 0) (L i) s.G).has id=true:=by
     intro id hid
     obtain ⟨ob,hob⟩:=Heap.get_of_has hid
     have:(ba (ms.getD i 0) (L i) s.G).get id=some ob:=by
      rw [hGi,iy,hob]
      intro q hq _
      cases hx:(X q).get id with
      | none=>rfl
      | some o'=>rw [hX.base q id o' (by omega) hx] at hob; cases hob
     exact Heap.has_of_get this
    have hbox':∀ id l,(ba (ms.getD i 0) (L i) s.G).get id=some (.box l)→l.all (fun a=>cz (ba (ms.getD i 0) (L i) s.G) a)=true:=by
     intro id l hl
     rw [hGi] at hl
     rcases ls hl with ⟨q,h1,h2,h3,_⟩ | ⟨_,h2⟩
     ·rcases h.l_mem hle (by omega:i≤k) h1 with h4 | h4
      ·rw [h4] at h3; simp [Heap.get] at h3
      ·rw [LZ] at hbx
       have h5:=hbx _ h4
       simp only [h2,Mp,NB] at h5
       unfold qR at h5
       rw [LZ] at h5
       exact h5 _ (Heap.mem_of_get h3)
     ·rw [LZ]
      exact fun a ha=>vU hBhas (hbox id l h2 a ha)
    have hin:=DN hg.inv hsub hbox'
    have hrel':∀ t,RelSV ⟨m.w,m.F,m.ι,ba (ms.getD i 0) (L i) s.G⟩ (a.tmps.getD t undef) ((dq ops.toList o (E i)).get t):=by
     intro t
     refine Es hsub (hrel t) ?_
     rw [LZ] at hsv
     have hmem':∀ (e:Env) (t:Nat),(∀ p∈e,pi (ba (ms.getD i 0) (L i) s.G) p.2=true)→pi (ba (ms.getD i 0) (L i) s.G) (e.get t)=true:=by
      intro e t he
      induction e with
      | nil=>rfl
      | cons p r ih =>
       obtain ⟨q,v⟩:=p
       simp only [Env.get]
       cases B1 q t with
       | true=>exact he (q,v) (by simp)
       | false=>exact ih fun p hp=>he p (by simp [hp])
     exact hmem' _ t hsv
    refine run (m1:=⟨m.w,m.F,m.ι,ba (ms.getD i 0) (L i) s.G⟩) hgo rfl hin hrel' hr hv fun v m' q1 q2 q3 q4=>?_
    obtain ⟨m2,r1,r2,r3,r4,r5⟩:=DH hg.inv hsub q1 q2 (by rw [q4,hsG]) (fun id ob hx hnone=>by
     rw [hA.2]
     rw [hGi] at hnone
     exact DJ ho hX hS hik hn hx hnone)
    rw [← r1]
    refine fin v m2 r3 r4 (fun d hd'=>r5 _ _ (q3 d hd')) (.inl ⟨fun l o' hl ho' hf'=>?_,fun id=>?_⟩)
    ·have:l≠i:=by omega
     simp only [aW,hA.1 l o' hl ho' hf',NB,beq_eq_false_iff_ne,ne_eq]
     exact this
    ·rw [r2,Heap.get_append,Gq ho hX hS hik hn,hA.2]
     try (cases (X i).get id <;> rfl)
   ·exact skip hgo hv (om ho h hg.heap hi (fun _=>hX0) (.inr ⟨hik,hn⟩))
  ·-- the second part
   have hb:∀ l o',l < i→ops.toList[l]?=some o'→Fr k nd l o'=false→S l=true:=by
    intro l o' hl ho' hf'
    rcases ho.chain i o (by omega) hi l o' hl ho' with hc | hc
    ·exact hp l hc
    ·rw [hf'] at hc; cases hc
   have ha:∀ l o',i≤l→ops.toList[l]?=some o'→Fr k nd l o'=false→S l=false:=by
    intro l o' hl ho' hf'
    rcases Nat.eq_or_lt_of_le hl with rfl | hl
    ·exact hn
    ·cases hSl:S l with
     | false=>rfl
     | true =>
      rcases ho.chain l o' (by omega) ho' i o hl hi with hc | hc
      ·rw [(hS l hSl).2 i hc] at hn; cases hn
      ·have:Fr k nd i o=false:=by
        unfold Fr
        rw [hf]
        simp [hik]
       rw [this] at hc; cases hc
   have hGH:=Cq ho h hg.heap (by omega) (by omega) hb ha
   have hafter:∀ G:Heap,(∀ id,G.get id=(H (i+1)).get id)→ja ops.toList k nd s.G X H (aW S i) G:=by
    intro G hG
    refine .inr ⟨i+1,by omega,by omega,fun l o' hl ho' hf'=>?_,fun l o' hl ho' hf'=>?_,hG⟩
    ·by_cases e:l=i
     ·simp [aW,e]
     ·simp [aW,hb l o' (by omega) ho' hf']
    ·have:l≠i:=by omega
     simp only [aW,ha l o' (by omega) ho' hf',NB,beq_eq_false_iff_ne,ne_eq]
     exact this
   rcases (h.stepT i o (by omega) hi).2 with ⟨hgo,s',hr,hv,hsG,_⟩ | ⟨hgo,hv,hH⟩
   ·obtain ⟨hi1,he1⟩:=ta hg.inv (G':=H i) fun id=>(hGH id).symm
    refine run (m1:=⟨m.w,m.F,m.ι,H i⟩) hgo rfl hi1 (fun t=>il he1 (hrel t)) hr hv fun v m' q1 q2 q3 q4=>?_
    exact fin v m' q1 (Evo.trans he1 q2) q3 (hafter _ fun id=>by rw [q4,hsG])
   ·exact skip hgo hv (hafter _ fun id=>by rw [hH]; exact hGH id)
theorem lg {S:Nat→Bool} {i:Nat} (hS:S i=false):∀ {n:Nat},i < n→(LX n).countP (aW S i)=(LX n).countP S+1
 | 0,h=>by omega
 | n+1,h=>by
  rw [List.range_succ,Pu,Pu]
  by_cases e:i=n
  ·subst e
   have h1:(LX i).countP (aW S i)=(LX i).countP S:=by
    refine List.countP_congr fun x hx=>?_
    have:=M2.1 hx
    have hne:x≠i:=by omega
    simp [aW,hne]
   rw [h1]
   simp [aW,hS]
  ·rw [lg hS (by omega:i < n)]
   have:aW S i n=S n:=by simp [aW,Ne.symm e]
   simp [List.countP_cons,this]
   omega
theorem vL (hm:P.follows .mixedOrders=true):Aj P:=by
 intro C w0 M N a m s R res K id lt ops Q hC hs hG hd h hQ
 refine wp_region_any hm ?_
 obtain ⟨k,nd,kd,V,X,E,L,H,ho,ht,hN,hKr⟩:=sT h
 have hX:=ht.sep ho.le hN
 have hdst:=jf hd
 have hlen:ops.toList.length=ops.size:=by simp
 have hbox:∀ id l,s.G.get id=some (.box l)→∀ a∈l,cz s.G a=true:=by
  intro id l hl a ha
  rw [← hG] at hl ⊢
  obtain ⟨b,c,el,_,_,_,h3⟩:=hs.inv.objs id _ hl
  exact nG h3 a ha
 -- the draw
 obtain ⟨d1,d2⟩:=CH hs.inv (w1:={ m.w with drawn:=m.w.drawn+1 }) ⟨rfl,rfl,rfl,A7 _,fun _ _ _=>rfl⟩
 let SS:Array Bool→Nat→Bool:=fun l j=>l.getD j false
 have set_S:∀ (l:Array Bool) (i:Nat),i < l.size→SS (l.setIfInBounds i true)=aW (SS l) i:=by
  intro l i hi
  funext j
  show (l.setIfInBounds i true).getD j false=(l.getD j false || j == i)
  by_cases e:j=i
  ·subst e; simp [hi]
  ·rw [getD_set_ne false (Ne.symm e)]; simp [e]
 have last:∀ {S:Nat→Bool} {a:Act} {m:Mem},(∀ i,i < ops.size→S i=true)→Good C w0 M N ops.toList k nd s V X H S a m→Q .normal a m.w:=by
  intro S a m hall hg
  have hGH:=Cq ho ht hg.heap ho.le (A7 _) (fun l o hl _ _=>hall l (by omega)) (fun l o hl ho' _=>by
   have:=(A2.1 ho').1; omega)
  obtain ⟨hi1,he1⟩:=ta hg.inv (G':=H ops.toList.length) fun id=>(hGH id).symm
  refine hQ ⟨E ops.toList.length,H ops.toList.length⟩ a ⟨m.w,m.F,m.ι,H ops.toList.length⟩ hKr rfl ⟨hi1,hg.defers,hg.size,fun t=>?_⟩
  show RelSV _ _ ((E ops.toList.length).get t)
  rw [ht.env ho (A7 _)]
  rw [gG (S':=S) fun q hq _=>by rw [hall q (by omega)]; exact decide_eq_true hq]
  exact il he1 (hg.env t)
 have key:∀ (fuel:Nat) (listed:Array Bool) (a:Act) (m:Mem),listed.size=ops.size→ops.size≤fuel+(LX ops.size).countP (SS listed) →
   Closed ops.toList (fF ops.toList []) (SS listed)→Good C w0 M N ops.toList k nd s V X H (SS listed) a m→wpAny P .any ops Q fuel listed a m.w:=by
  intro fuel
  induction fuel with
  | zero =>
   intro listed a m hsz hcnt hcl hg
   have hall:∀ i,i < ops.size→SS listed i=true:=by
    have h1:(LX ops.size).countP (SS listed)=(LX ops.size).length:=by
     have:=List.countP_le_length (p:=SS listed) (l:=LX ops.size)
     simp only [List.length_range] at this ⊢
     omega
    rw [List.countP_eq_length] at h1
    exact fun i hi=>h1 i (M2.2 hi)
   refine ⟨?_,last hall hg⟩
   unfold Region.ready
   rw [List.filter_eq_nil_iff]
   intro i hi
   have hi:=M2.1 hi
   have h1:listed.getD i false=true:=hall i hi
   have:listed.getD i true=true:=by
    have hlt:i < listed.size:=by omega
    simpa [hlt] using h1
   rw [this]; simp
  | succ fuel ih =>
   intro listed a m hsz hcnt hcl hg
   refine ⟨fun hr=>last ?_ hg,fun i hi=>?_⟩
   ·intro i
    induction i using Nat.strongRecOn with
    | ind i ih2 =>
     intro hi
     cases hh:SS listed i with
     | true=>rfl
     | false =>
      have:i∈Region.ready .any ops listed:=by
       rw [mem_ready]
       have hh:listed.getD i false=false:=hh
       have hlt:i < listed.size:=by omega
       refine ⟨by simpa [hlt] using hh,ops[i],by simp [hi],fun e he hb=>?_⟩
       have hon:=ho.edge i ops[i] e (by rw [My]; simp [hi]) (by simpa using he) hb
       exact ih2 e.on hon (by omega)
      rw [hr] at this
      cases this
   ·obtain ⟨h1,o,ho1,h2⟩:=mem_ready.1 hi
    have hlt:i < ops.size:=(Mi.1 ho1).1
    have hlt':i < listed.size:=by omega
    have hn:SS listed i=false:=by
     show listed.getD i false=false
     simpa [hlt'] using h1
    have hi':ops.toList[i]?=some o:=by rw [My]; exact ho1
    have hp:∀ j,bit ((fF ops.toList []).getD i 0) j=true→SS listed j=true:=by
     intro j hj
     obtain ⟨e,he,hb,h3⟩:=(ho.pre i o j hi').1 hj
     have hon:SS listed e.on=true:=h2 e (by simpa using he) hb
     rcases h3 with h3 | h3
     ·rw [← h3]; exact hon
     ·exact (hcl e.on hon).2 j h3
    refine Dr hC ho ht hX hbox hdst hg hcl hi' hn hp fun a' m' hg'=>?_
    refine ih (listed.setIfInBounds i true) a' m' (by simp [hsz]) ?_ ?_ ?_
    ·rw [set_S listed i hlt',lg hn hlt]; omega
    ·rw [set_S listed i hlt']; exact hcl.put ho (by omega) hp
    ·rw [set_S listed i hlt']; exact hg'
 have hS0:SS (N7 ops.size false)=fun _=>false:=by
  funext j
  show (N7 ops.size false).getD j false=false
  simp [Array.getElem?_replicate]
  split <;> rfl
 refine key ops.size _ a ⟨{ m.w with drawn:=m.w.drawn+1 },m.F,m.ι,m.G⟩ (by simp) (by omega) ?_ ⟨d1,hs.defers,hs.size,fun t=>?_,.inl ⟨fun l o _ _ _=>by rw [hS0],fun id=>?_⟩⟩
 ·rw [hS0]; intro i hi; cases hi
 ·rw [hS0,oE fun _ _ _=>rfl]
  exact il d2 (hs.env t)
 ·rw [hS0,iy (fun q _ hq=>by cases hq),← hG]
end
end Go.Vm

/-
 Equality of structs.
-/
namespace Go.Vm
def Ty.deep:Ty→Nat
 | .prod a b=>max (a.deep+1) b.deep
 | .arr _ e=>e.deep+1
 | _=>1
def Ty.Within (d:Nat):Ty→Prop
 | .prod a b=>a.deep≤d∧b.deep≤d+1
 | _=>True
def eG (P:Program):Ty→Option (List Field×Nat)→TypeId→Bool
 | .int _,none,_=>true
 | .bool,none,_=>true
 | .str,none,_=>true
 | .prod a b,none,t=>!(P.stoodInHeld t) && (match P.underlying t with
  | some (.struct fs)=>(match fs.toList with
   | f :: r => (f.name != "_") && eG P a none f.type && eG P b (some (r, a.size)) 0
   | []=>false)
  | _=>false)
 | .unit,none,t=>!(P.stoodInHeld t)
 | .arr _ e,none,t=>(match P.underlying t with
  | some (.array _ et)=>eG P e none et
  | _=>false)
 | .prod a b, some (f :: r, o), _ => (f.name != "_") && eG P a none f.type && eG P b (some (r, o + a.size)) 0
 | .unit,some ([],_),_=>true
 | _,_,_=>false
def Eb (P:Program) (T:Tab) (eqs:List Nat):Bool:=eqs.all fun t=>match T.get t with
 | some τ=>eG P τ none t && L6 τ.deep 9000 && !(P.eqGuardType P.depth t)
 | none=>true
section
variable {P:Program}
theorem iH {τ : Ty} {t:TypeId} (h:chk P τ none t=true) (us:List Value) (o:Nat) (hl:o+τ.size≤us.length) (w:World) :
  (part t us.toArray o).run P w=.ok (toV τ ((us.drop o).take τ.size)) w:=by
 cases ha : τ.isAgg with
 | true=>simp [part,eV h,ha,bu h,toV,List.drop_take]
 | false =>
  have h1':=gM ha
  have hlt:o < us.length:=by omega
  simp only [part,Sem.run_bind,eV h,ha,Result.andThen_ok,MB,if_false,List.getElem?_toArray,gr hlt,toV,cond_false,h1',Sem.run_pure]
  rw [List.drop_eq_getElem_cons hlt]; rfl
theorem qD {α : Type} (p c r:List α):((p++(c++r)).drop p.length).take c.length=c:=by simp
theorem ui {b:Ty} {d:Nat} (h:b.deep≤d+1):b.Within d:=by
 cases b <;> simp only [Ty.deep,Ty.Within] at h ⊢
 omega
mutual
theorem BN {w:World} {F:Nat→Prop}:∀ {τ : Ty} {t:TypeId} {d:Nat} {cs cs':List Value} {x y : τ.den} {r:Bool},chk P τ none t=true→eG P τ none t=true→τ.deep≤d→eqT τ x y=some r→Rd w F τ cs x→Rd w F τ cs' y →
  ∀ w',(Op.equalIn d t (toV τ cs) (toV τ cs')).run P w'=.ok r w'
 | .int k,t,d,cs,cs',x,y,r,h1,_,h3,h4,h5,h6,w'=>by
  obtain ⟨d,rfl⟩ : ∃ d',d=d'+1:=⟨d - 1,by simp only [Ty.deep] at h3; omega⟩
  obtain ⟨rfl,_⟩:=h5
  obtain ⟨rfl,_⟩:=h6
  simp only [eqT,A1] at h4
  subst h4
  exact run_equalIn_int w' d t k k x y (rU h1)
 | .bool,t,d,cs,cs',x,y,r,h1,_,h3,h4,h5,h6,w'=>by
  obtain ⟨d,rfl⟩ : ∃ d',d=d'+1:=⟨d - 1,by simp only [Ty.deep] at h3; omega⟩
  unfold Rd at h5 h6
  subst h5; subst h6
  simp only [eqT,A1] at h4
  subst h4
  exact run_equalIn_bool' w' d t x y (lA h1)
 | .str,t,d,cs,cs',x,y,r,h1,_,h3,h4,h5,h6,w'=>by
  obtain ⟨d,rfl⟩ : ∃ d',d=d'+1:=⟨d - 1,by simp only [Ty.deep] at h3; omega⟩
  obtain ⟨rfl,_⟩:=h5
  obtain ⟨rfl,_⟩:=h6
  simp only [eqT,A1] at h4
  subst h4
  exact run_equalIn_string w' d t x y (mj h1)
 | .prod a b,t,d,cs,cs',x,y,r,h1,h2,h3,h4,h5,h6,w'=>by
  simp only [eG,A3,Mn] at h2
  obtain ⟨hp,h2⟩:=h2
  simp only [chk,A3] at h1
  obtain ⟨_,h1⟩:=h1
  split at h2
  ·rename_i fs hu
   rw [hu] at h1
   simp only at h1
   split at h2
   ·rename_i f rest hfs
    rw [hfs] at h1
    simp only [A3] at h1 h2
    obtain ⟨⟨c1,c2⟩,c3⟩:=h1
    obtain ⟨⟨e1,e2⟩,e3⟩:=h2
    obtain ⟨d,rfl⟩ : ∃ d',d=d'+1:=⟨d - 1,by simp only [Ty.deep] at h3; omega⟩
    have hfo:P.fieldsOf t=fs:=by unfold Program.fieldsOf; rw [hu]
    show (Op.equalIn (d+1) t (.agg cs.toArray) (.agg cs'.toArray)).run P w'=_
    rw [run_equalIn_struct w' d t cs.toArray cs'.toArray (by rw [hfo]; exact hu) hp,hfo,hfs]
    have:=tC (τ:=.prod a b) (fs:=f :: rest) (o:=0) (d:=d) (pre:=[]) (pre':=[]) (suf:=[]) (suf':=[]) (by simp [chk,c1,c2]; simpa using c3) (by simp only [eG,A3]; exact ⟨⟨e1,e2⟩,by simpa using e3⟩) (by
     simp only [Ty.deep] at h3
     exact ⟨by omega,by omega⟩) h4 h5 h6 rfl rfl w'
    simpa using this
   ·simp at h2
  ·simp at h2
 | .unit,t,d,cs,cs',x,y,r,h1,h2,h3,h4,h5,h6,w'=>by
  simp only [eG,Mn] at h2
  simp only [chk,A3] at h1
  obtain ⟨_,h1⟩:=h1
  split at h1
  ·rename_i fs hu
   split at h1
   ·rename_i hfs
    obtain ⟨d,rfl⟩ : ∃ d',d=d'+1:=⟨d - 1,by simp only [Ty.deep] at h3; omega⟩
    have hfo:P.fieldsOf t=fs:=by unfold Program.fieldsOf; rw [hu]
    show (Op.equalIn (d+1) t (.agg cs.toArray) (.agg cs'.toArray)).run P w'=_
    rw [run_equalIn_struct w' d t cs.toArray cs'.toArray (by rw [hfo]; exact hu) h2,hfo,hfs]
    simp only [eqT,A1] at h4
    subst h4
    simp [Op.eqFields]
   ·simp at h1
  ·simp at h1
 | .slice _,_,_,_,_,_,_,_,_,_,_,h4,_,_,_=>by simp [eqT] at h4
 | .arr n e,t,d,cs,cs',x,y,r,h1,h2,h3,h4,h5,h6,w'=>by
  obtain ⟨d,rfl⟩ : ∃ d',d=d'+1:=⟨d - 1,by simp only [Ty.deep] at h3; omega⟩
  simp only [Ty.deep] at h3
  obtain ⟨et,hu,he⟩:=qm h1
  simp only [eG,hu] at h2
  obtain ⟨ie,ze,s1,s2,_⟩:=dV he
  obtain ⟨l1,l2,l3⟩:=h5
  obtain ⟨k1,k2,k3⟩:=h6
  have hc:P.cellsOf et=e.size:=by unfold Program.cellsOf; rw [s1]; simpa using s2
  show (Op.equalIn (d+1) t (.agg cs.toArray) (.agg cs'.toArray)).run P w'=_
  rw [run_equalIn_array w' d cs.toArray cs'.toArray hu s1,hc]
  have items:∀ (q q':List e.den) (i:Nat) (r:Bool),zN (eqT e) q q'=some r→i+q.length=n→i+q'.length=n→(∀ j (hj:j < q.length),Rd w F e ((cs.drop ((i+j) * e.size)).take e.size) q[j])→(∀ j (hj:j < q'.length),Rd w F e ((cs'.drop ((i+j) * e.size)).take e.size) q'[j]) →
    (Op.eqItems d et e.size cs.toArray cs'.toArray (List.range' i q.length)).run P w'=.ok r w':=by
   intro q
   induction q with
   | nil =>
    intro q' i r hr hq hq' _ _
    cases q' with
    | nil=>simp only [zN,A1] at hr; subst hr; simp [Op.eqItems]
    | cons b q'=>simp [zN] at hr
   | cons a q ih =>
    intro q' i r hr hq hq' hR hR'
    cases q' with
    | nil=>simp [zN] at hr
    | cons b q' =>
     simp only [LU] at hq hq'
     have hle:(i+1) * e.size≤n * e.size:=Nat.mul_le_mul_right _ (by omega)
     rw [L4,Nat.one_mul] at hle
     have p1:=iH he cs (i * e.size) (by omega) w'
     have p2:=iH he cs' (i * e.size) (by omega) w'
     simp only [zN] at hr
     split at hr
     ·rename_i p hp
      split at hr
      ·rename_i q2 hq2
       cases hr
       have ra:=hR 0 (by simp)
       have rb:=hR' 0 (by simp)
       simp only [M4,List.getElem_cons_zero] at ra rb
       have ha:=BN (d:=d) he h2 (by omega) hp ra rb w'
       rw [LU,List.range'_succ]
       simp only [Op.eqItems,Sem.run_bind,p1,p2,Result.andThen_ok,ha]
       cases p with
       | false=>simp
       | true =>
        simp only [Mp,MB,if_false,OJ]
        exact ih q' (i+1) q2 hq2 (by omega) (by omega) (fun j hj=>by
         have:=hR (j+1) (by simp; omega)
         rw [show i+(j+1)=i+1+j by omega] at this
         simpa using this) (fun j hj=>by
         have:=hR' (j+1) (by simp; omega)
         rw [show i+(j+1)=i+1+j by omega] at this
         simpa using this)
      ·simp at hr
     ·simp at hr
  have:=items x y 0 r h4 (by omega) (by omega) (fun j hj=>by rw [L9]; exact l3 j hj) (fun j hj=>by rw [L9]; exact k3 j hj)
  rw [l1] at this
  rw [List.range_eq_range']
  exact this
 | .ptr _,_,_,_,_,_,_,_,_,_,_,h4,_,_,_=>by simp [eqT] at h4
 | .clo _ _,_,_,_,_,_,_,_,_,_,_,h4,_,_,_=>by simp [eqT] at h4
theorem tC {w:World} {F:Nat→Prop}:∀ {τ : Ty} {fs:List Field} {o d:Nat} {cs cs' pre pre' suf suf':List Value} {x y : τ.den} {r:Bool},chk P τ (some (fs,o)) 0=true→eG P τ (some (fs,o)) 0=true →
  τ.Within d→eqT τ x y=some r→Rd w F τ cs x→Rd w F τ cs' y→pre.length=o→pre'.length=o →
  ∀ w',(Op.eqFields d (pre++(cs++suf)).toArray (pre'++(cs'++suf')).toArray fs).run P w'=.ok r w'
 | .prod a b,f :: rest,o,d,cs,cs',pre,pre',suf,suf',x,y,r,h1,h2,h3,h4,h5,h6,hp,hp',w'=>by
  simp only [chk,A3] at h1
  simp only [eG,A3,bne_iff_ne,ne_eq] at h2
  obtain ⟨⟨c1,c2⟩,c3⟩:=h1
  obtain ⟨⟨e1,e2⟩,e3⟩:=h2
  have hoff:f.offset=o:=A4 c1
  obtain ⟨u1,u2,rfl,hu1,hu2⟩:=h5
  obtain ⟨v1,v2,rfl,hv1,hv2⟩:=h6
  have lu:=hu1.len
  have lv:=hv1.len
  have p1:(part f.type (pre++((u1++u2)++suf)).toArray f.offset).run P w'=.ok (toV a u1) w':=by
   rw [iH c2 _ _ (by simp; omega),hoff,← hp,← lu,MO u1,qD]
  have p2:(part f.type (pre'++((v1++v2)++suf')).toArray f.offset).run P w'=.ok (toV a v1) w':=by
   rw [iH c2 _ _ (by simp; omega),hoff,← hp',← lv,MO v1,qD]
  simp only [eqT] at h4
  split at h4
  ·rename_i p hpp
   split at h4
   ·rename_i q hq
    cases h4
    have ha:=BN c2 e2 h3.1 hpp hu1 hv1 w'
    simp only [Op.eqFields,e1,not_false_eq_true,if_true,ne_eq,Sem.run_bind,p1,p2,Result.andThen_ok,ha]
    cases p with
    | false=>simp
    | true =>
     simp only [Mp,MB,if_false,OJ]
     have hb3:b.Within d:=ui h3.2
     have:=tC (τ:=b) (fs:=rest) (o:=o+a.size) (d:=d) (pre:=pre++u1) (pre':=pre'++v1) (suf:=suf) (suf':=suf') c3 e3 hb3 hq hu2 hv2 (by simp; omega) (by simp; omega) w'
     simpa using this
   ·simp at h4
  ·simp at h4
 | .prod a b,[],_,_,_,_,_,_,_,_,_,_,_,h1,_,_,_,_,_,_,_,_=>by simp [chk] at h1
 | .unit,[],o,d,cs,cs',pre,pre',suf,suf',x,y,r,h1,h2,h3,h4,h5,h6,hp,hp',w'=>by
  simp only [eqT,A1] at h4
  subst h4
  simp [Op.eqFields]
 | .unit,_ :: _,_,_,_,_,_,_,_,_,_,_,_,h1,_,_,_,_,_,_,_,_=>by simp [chk] at h1
 | .int _,_,_,_,_,_,_,_,_,_,_,_,_,h1,_,_,_,_,_,_,_,_=>by simp [chk] at h1
 | .bool,_,_,_,_,_,_,_,_,_,_,_,_,h1,_,_,_,_,_,_,_,_=>by simp [chk] at h1
 | .str,_,_,_,_,_,_,_,_,_,_,_,_,h1,_,_,_,_,_,_,_,_=>by simp [chk] at h1
 | .slice _,_,_,_,_,_,_,_,_,_,_,_,_,h1,_,_,_,_,_,_,_,_=>by simp [chk] at h1
 | .arr _ _,_,_,_,_,_,_,_,_,_,_,_,_,h1,_,_,_,_,_,_,_,_=>by simp [chk] at h1
 | .ptr _,_,_,_,_,_,_,_,_,_,_,_,_,h1,_,_,_,_,_,_,_,_=>by simp [chk] at h1
 | .clo _ _,_,_,_,_,_,_,_,_,_,_,_,_,h1,_,_,_,_,_,_,_,_=>by simp [chk] at h1
end
theorem IX {C:Ctx} (hT:dH P C.tab=true) (h:Eb P C.tab C.eqs=true):Hb P C:=by
 intro t τ ht ha hin w F cs cs' x y r hr h1 h2
 rw [List.any_eq_true] at hin
 obtain ⟨e,he,hee⟩:=hin
 have:e=t:=A4 hee
 subst this
 unfold Eb at h
 rw [LZ] at h
 have:=h e he
 rw [ht] at this
 simp only [A3,Mn] at this
 obtain ⟨⟨c1,c2⟩,c3⟩:=this
 refine ⟨fun w'=>?_,fun op p q w'=>?_⟩
 ·show (Op.equalIn Op.maxDepth e _ _).run P w'=_
  exact BN (aj hT ht) c1 (by have:=B5 c2; show τ.deep≤10000; omega) hr h1 h2 w'
 ·have e1:toV τ cs=.agg cs.toArray:=by simp [toV,ha]
  have e2:toV τ cs'=.agg cs'.toArray:=by simp [toV,ha]
  rw [e1,e2]
  exact run_eqGuard_agg w' op e p q _ _ c3
end
end Go.Vm

/-
 Maps: what is asked of their types, checked once.
-/
namespace Go.Vm
section
variable {P:Program}
mutual
theorem E1 {w:World} {F:Nat→Prop} (em:Bool):∀ {τ : Ty} {t:TypeId} {d:Nat} {cs:List Value} {x : τ.den},chk P τ none t=true→eG P τ none t=true→τ.plain=true→τ.deep≤d→Rd w F τ cs x →
  ∀ w',(Instr.checkKey em d t (toV τ cs)).run P w'=.ok () w'
 | .int k,t,d,cs,x,h1,_,_,h3,h5,w'=>by
  obtain ⟨d,rfl⟩ : ∃ d',d=d'+1:=⟨d - 1,by simp only [Ty.deep] at h3; omega⟩
  obtain ⟨rfl,_⟩:=h5
  simp [Instr.checkKey,run_underlying (rU h1),toV,Ty.isAgg]
 | .bool,t,d,cs,x,h1,_,_,h3,h5,w'=>by
  obtain ⟨d,rfl⟩ : ∃ d',d=d'+1:=⟨d - 1,by simp only [Ty.deep] at h3; omega⟩
  unfold Rd at h5
  subst h5
  simp [Instr.checkKey,run_underlying (lA h1),toV,Ty.isAgg]
 | .str,t,d,cs,x,h1,_,_,h3,h5,w'=>by
  obtain ⟨d,rfl⟩ : ∃ d',d=d'+1:=⟨d - 1,by simp only [Ty.deep] at h3; omega⟩
  obtain ⟨rfl,_⟩:=h5
  simp [Instr.checkKey,run_underlying (mj h1),toV,Ty.isAgg]
 | .prod a b,t,d,cs,x,h1,h2,hpl,h3,h5,w'=>by
  simp only [eG,A3,Mn] at h2
  obtain ⟨hp,h2⟩:=h2
  simp only [chk,A3] at h1
  obtain ⟨_,h1⟩:=h1
  split at h2
  ·rename_i fs hu
   rw [hu] at h1
   simp only at h1
   split at h2
   ·rename_i f rest hfs
    rw [hfs] at h1
    simp only [A3] at h1 h2
    obtain ⟨⟨c1,c2⟩,c3⟩:=h1
    obtain ⟨⟨e1,e2⟩,e3⟩:=h2
    obtain ⟨d,rfl⟩ : ∃ d',d=d'+1:=⟨d - 1,by simp only [Ty.deep] at h3; omega⟩
    have:=rA (F:=F) (w:=w) em (τ:=.prod a b) (fs:=f :: rest) (o:=0) (d:=d) (cs:=cs) (x:=x) (pre:=[]) (suf:=[]) (by simp [chk,c1,c2]; simpa using c3) (by simp only [eG,A3]; exact ⟨⟨e1,e2⟩,by simpa using e3⟩) hpl (by
     simp only [Ty.deep] at h3
     exact ⟨by omega,by omega⟩) h5 rfl w'
    simp only [List.nil_append,MH] at this
    simp only [toV,Ty.isAgg,cond_true,Instr.checkKey,Sem.run_bind,run_underlying hu,Result.andThen_ok]
    rw [← Pl,hfs]
    rw [this]
    rfl
   ·simp at h2
  ·simp at h2
 | .unit,t,d,cs,x,h1,h2,_,h3,h5,w'=>by
  simp only [chk,A3] at h1
  obtain ⟨_,h1⟩:=h1
  split at h1
  ·rename_i fs hu
   split at h1
   ·rename_i hfs
    obtain ⟨d,rfl⟩ : ∃ d',d=d'+1:=⟨d - 1,by simp only [Ty.deep] at h3; omega⟩
    simp only [toV,Ty.isAgg,cond_true,Instr.checkKey,Sem.run_bind,run_underlying hu,Result.andThen_ok]
    rw [← Pl,hfs]
    simp
   ·simp at h1
  ·simp at h1
 | .slice _,_,_,_,_,_,_,h,_,_,_=>by cases h
 | .arr _ _,_,_,_,_,_,_,h,_,_,_=>by cases h
 | .ptr _,_,_,_,_,_,_,h,_,_,_=>by cases h
 | .clo _ _,_,_,_,_,_,_,h,_,_,_=>by cases h
theorem rA {w:World} {F:Nat→Prop} (em:Bool):∀ {τ : Ty} {fs:List Field} {o d:Nat} {cs pre suf:List Value} {x : τ.den},chk P τ (some (fs,o)) 0=true→eG P τ (some (fs,o)) 0=true→τ.plain=true →
  τ.Within d→Rd w F τ cs x→pre.length=o →
  ∀ w',(forIn (m:=Sem) fs PUnit.unit fun f (_:PUnit)=>(do
   if f.name ≠ "_" then Instr.checkKey em d f.type (← part f.type (pre ++ (cs ++ suf)).toArray f.offset)
   pure (ForInStep.yield PUnit.unit))).run P w'=.ok PUnit.unit w'
 | .prod a b,f :: rest,o,d,cs,pre,suf,x,h1,h2,hpl,h3,h5,hp,w'=>by
  simp only [chk,A3] at h1
  simp only [eG,A3,bne_iff_ne,ne_eq] at h2
  simp only [Ty.plain,A3] at hpl
  obtain ⟨⟨c1,c2⟩,c3⟩:=h1
  obtain ⟨⟨e1,e2⟩,e3⟩:=h2
  have hoff:f.offset=o:=A4 c1
  obtain ⟨u1,u2,rfl,hu1,hu2⟩:=h5
  have lu:=hu1.len
  have p1:(part f.type (pre++((u1++u2)++suf)).toArray f.offset).run P w'=.ok (toV a u1) w':=by
   rw [iH c2 _ _ (by simp; omega),hoff,← hp,← lu,MO u1,qD]
  have ha:=E1 em c2 e2 hpl.1 h3.1 hu1 w'
  have hb3:b.Within d:=ui h3.2
  have:=rA em (τ:=b) (fs:=rest) (o:=o+a.size) (d:=d) (pre:=pre++u1) (suf:=suf) c3 e3 hpl.2 hb3 hu2 (by simp; omega) w'
  simp only [List.forIn_cons,Sem.run_bind,e1,ne_eq,not_false_eq_true,if_true,Result.andThen_ok,p1,ha,Sem.run_pure]
  simpa using this
 | .prod a b,[],_,_,_,_,_,_,h1,_,_,_,_,_,_=>by simp [chk] at h1
 | .unit,[],o,d,cs,pre,suf,x,h1,h2,_,h3,h5,hp,w'=>by simp
 | .unit,_ :: _,_,_,_,_,_,_,h1,_,_,_,_,_,_=>by simp [chk] at h1
 | .int _,_,_,_,_,_,_,_,h1,_,_,_,_,_,_=>by simp [chk] at h1
 | .bool,_,_,_,_,_,_,_,h1,_,_,_,_,_,_=>by simp [chk] at h1
 | .str,_,_,_,_,_,_,_,h1,_,_,_,_,_,_=>by simp [chk] at h1
 | .slice _,_,_,_,_,_,_,_,h1,_,_,_,_,_,_=>by simp [chk] at h1
 | .arr _ _,_,_,_,_,_,_,_,h1,_,_,_,_,_,_=>by simp [chk] at h1
 | .ptr _,_,_,_,_,_,_,_,h1,_,_,_,_,_,_=>by simp [chk] at h1
 | .clo _ _,_,_,_,_,_,_,_,h1,_,_,_,_,_,_=>by simp [chk] at h1
end
theorem oJ:∀ {τ : Ty},τ.plain=true→∀ x y : τ.den,eqT τ x y=some (eqK τ x y)
 | .int _,_,_,_=>rfl
 | .bool,_,_,_=>rfl
 | .str,_,_,_=>rfl
 | .prod a b,h,x,y=>by
  simp only [Ty.plain,A3] at h
  have h1:=oJ h.1 x.1 y.1
  have h2:=oJ h.2 x.2 y.2
  unfold eqK
  simp only [eqT,h1,h2]
 | .unit,_,_,_=>rfl
 | .slice _,h,_,_=>by cases h
 | .arr _ _,h,_,_=>by cases h
 | .ptr _,h,_,_=>by cases h
 | .clo _ _,h,_,_=>by cases h
def DT (P:Program) (p:Nat×(Ty×Ty)):Bool:=match P.underlying p.1 with
 | some (.map kt vt)=>chk P p.2.1 none kt && chk P p.2.2 none vt && p.2.1.plain && p.2.2.flat && !(decide (p.2.1=.unit)) && eG P p.2.1 none kt && L6 p.2.1.deep 9000
 | _=>false
def sf (P:Program) (T:List (Nat×(Ty×Ty))):Bool:=T.all (DT P)
theorem zT {T:List (Nat×(Ty×Ty))}:∀ {t:Nat} {p:Ty×Ty},ks T t=some p→(t,p)∈T:=by
 induction T with
 | nil=>intro t p h; simp [ks] at h
 | cons q r ih =>
  intro t p h
  obtain ⟨i,v⟩:=q
  simp only [ks] at h
  cases hb:B1 i t with
  | true=>rw [hb] at h; simp at h; subst h; rw [A4 hb]; simp
  | false=>rw [hb] at h; exact Me _ (ih h)
theorem Hw {C:Ctx} (h:sf P C.maps=true):tT P C:=by
 intro t k v ht
 unfold sf at h
 rw [LZ] at h
 have:=h _ (zT ht)
 unfold DT at this
 simp only at this
 split at this
 ·rename_i kt vt hu
  simp only [A3] at this
  obtain ⟨⟨⟨⟨⟨⟨c1,c2⟩,c3⟩,c4⟩,c0⟩,c5⟩,c6⟩:=this
  have c0:¬ k=.unit:=by simpa using c0
  have c6:=B5 c6
  exact ⟨kt,vt,hu,c1,c2,c3,c0,c4,fun w F cs x em hx w'=>E1 em c1 c5 c3 (by omega) hx w',fun w w1 F F1 cs cs' x y hx hy w'=>by
   show (Op.equalIn Op.maxDepth kt _ _).run P w'=_
   exact BN c1 c5 (by show k.deep≤10000; omega) (oJ c3 x y) hx (jp (gD c3) hy w F) w'⟩
 ·simp at this
end
end Go.Vm

/-
 A function's contract, from its text and its loops.
-/
namespace Go.Vm
structure LoopPf (C:Ctx) (A:Anns) (body:Code) where
 key:Nat
 ann:Ann
 B:ann.head.ty.den→Option (ann.head.ty.den⊕kL ann.exits)
 fix:ann.fn=aa B
 R:∀ x,round C A ann (fC key body) x=B x
theorem FB {C:Ctx} {A:Anns} {body:Code} (l:List (LoopPf C A body)) (h1:cb body=l.map fun p=>fC p.key body)
  (h2:(l.map fun p=>A.get (fj (fC p.key body)))=l.map fun p=>some p.ann):pY C A (cb body):=by
 intro c hc ann hann x y hy
 rw [h1] at hc
 obtain ⟨p,hp,rfl⟩:=Nv.1 hc
 have h3:A.get (fj (fC p.key body))=some p.ann:=by
  clear h1 hc
  induction l with
  | nil=>simp at hp
  | cons q l ih =>
   simp only [Mo,NE] at h2
   rcases B7.1 hp with rfl | hp
   ·exact h2.1
   ·exact ih h2.2 hp
 rw [h3] at hann
 cases hann
 rw [p.fix] at hy
 have:round C A p.ann (fC p.key body)=p.B:=funext p.R
 rw [this]
 exact cU.1 hy
structure SeatOK (P:Program) (T:Tab) (eqs:List Nat):Prop where
 tab:dH P T=true
 eqs:Eb P T eqs=true
 order:P.follows .mixedOrders=true
theorem SeatOK.ctx {P:Program} {C:Ctx} (h:SeatOK P C.tab C.eqs) (hm:sf P C.maps=true) (hc:∀ f site c,C.con f site=some c→c.Holds P C.glob f):CtxOK P C :=
 ⟨h.tab,IX h.tab h.eqs,Hw hm,hc⟩
theorem Eh {d:Bool} {P:Program} {C:Ctx} {A:Anns} {f:FuncId} {fn:Func} {ins:List (Mode×Ty)} {outs:n9} {M:(aM (ins.map (·.2))).den→Option (aM ((outs.map (·.2)).map (·.2)++br ins)).den}
  (hS:SeatOK P C.tab C.eqs) (hc:∀ f site c,C.con f site=some c→c.Holds P C.glob f) (hf:P.funcs[f]?=some fn) (hb:fn.body=some (gP fn))
  (hL : pY C A (cb (gP fn))) (hk : (!(fn.name == "runtime.NumGoroutine") && jI fn.ntmps (gP fn) && vz A ins && tU P outs && sf P C.maps) = true) (hres : fn.results = (outs.map (·.1)).toArray)
  (heq:∀ x,qE C A (gP fn) ins outs x d=M x):Con.Holds P C.glob f ⟨ins,outs.map (·.2),M,d⟩:=by
 simp only [A3,Mn] at hk
 obtain ⟨⟨⟨⟨k1,k2⟩,k3⟩,k4⟩,k5⟩:=hk
 exact DC (hS.ctx k5 hc) (vL hS.order) hf hb k1 hL k2 k3 hres k4 heq
end Go.Vm

/-
 A law's arguments, read as data, are readings of the machine; and the law's statement from the contract of its function.
-/
namespace Go.Vm
open Go.ChangeShapes Go.RowKit
def Ty.good:Ty→Bool
 | .int _=>true
 | .bool=>true
 | .str=>true
 | .slice e=>e.good && OG 0 e.size
 | .prod a b=>a.good && b.good
 | .unit=>true
 | .arr _ e=>e.good
 | _=>false
def Wf:(τ : Ty)→τ.den→Prop
 | .int k,n=>k.min≤n∧n≤k.max
 | .bool,_=>True
 | .str,s=>s.size≤maxLen
 | .slice e,l=>l.length≤maxLen∧∀ x∈l,Wf e x
 | .prod a b,x=>Wf a x.1∧Wf b x.2
 | .unit,_=>True
 | .arr n e,l=>l.length=n∧∀ x∈l,Wf e x
 | .ptr e,x=>Wf e x
 | .clo _ e,x=>Wf e x
theorem Rd.wf {w:World} {F:Nat→Prop}:∀ {τ : Ty} {cs:List Value} {x : τ.den},Rd w F τ cs x→Wf τ x
 | .int _,_,_,h=>h.2
 | .bool,_,_,_=>trivial
 | .str,_,_,h=>h.2
 | .slice e,_,l,h=>by
  obtain ⟨a,cap,_,h2,h3,h4⟩:=h
  refine ⟨by omega,fun x hx=>?_⟩
  obtain ⟨i,hi,rfl⟩:=M3 hx
  obtain ⟨b,off,c,el,fz,_,_,_,_,q5⟩:=h4 (List.ne_nil_of_mem hx)
  exact (q5 i hi).wf
 | .prod a b,_,_,h=>by
  obtain ⟨c1,c2,_,h1,h2⟩:=h
  exact ⟨h1.wf,h2.wf⟩
 | .unit,_,_,_=>trivial
 | .arr n e,_,l,h=>by
  obtain ⟨h1,_,h3⟩:=h
  refine ⟨h1,fun x hx=>?_⟩
  obtain ⟨i,hi,rfl⟩:=M3 hx
  exact (h3 i hi).wf
 | .ptr e,_,_,h=>by
  obtain ⟨b,off,c,el,fz,_,_,_,_,h⟩:=h
  exact Rd.wf (τ:=e) h
 | .clo g e,_,_,h=>by
  obtain ⟨vs,_,h⟩:=h
  exact Rd.wf (τ:=e) h
section
variable {H:Type}
def ofD:(τ : Ty)→DataW H→Option τ.den
 | .int _,.lit (.int _ n)=>some n
 | .bool,.lit (.bool b)=>some b
 | .str,.lit (.string s)=>some ⟨s.toArray⟩
 | .slice _,.nil=>some []
 | .slice e,.slice l _=>l.mapM (ofD e)
 | .arr _ e,.agg l=>l.mapM (ofD e)
 | .prod a b,.agg (d :: r)=>match ofD a d with
  | some x=>match ofD b (.agg r) with
   | some y=>some (x,y)
   | none=>none
  | none=>none
 | .unit,.agg []=>some ()
 | _,_=>none
variable {enc:TypeId×Value→H} {P:Program} {W:World} {sp:Nat→Bool} {hd:Bool}
theorem gE {τ : Ty} {t:TypeId} (h:chk P τ none t=true):P.cellsOf t=τ.size:=by
 obtain ⟨i,z,h1,h2,_⟩:=dV h
 simp [Program.cellsOf,h1,h2]
theorem tW {α β : Type} {f : α→Option β}:∀ {l:List α},(∀ a∈l,∃ b,f a=some b)→∃ r,l.mapM f=some r
 | [],_=>⟨[],rfl⟩
 | a :: l,h=>by
  obtain ⟨b,hb⟩:=h a (by simp)
  obtain ⟨r,hr⟩:=tW fun x hx=>h x (Me _ hx)
  exact ⟨b :: r,by simp [PQ,hb,hr]⟩
theorem BT {e:Ty} {ys:List (DataW H×List MemPlace)} {Q:Nat→e.den→Prop} (h:∀ i y,ys[i]?=some y→∃ x,ofD e y.1=some x∧Q i x) :
  ∃ l,(ys.map (·.1)).mapM (ofD e)=some l∧l.length=ys.length∧∀ i (hi:i < l.length),Q i l[i]:=by
 obtain ⟨l,hl⟩:=tW (f:=ofD e) (l:=ys.map (·.1)) fun d hd=>by
  obtain ⟨y,hy,rfl⟩:=Nv.1 hd
  obtain ⟨i,hi,rfl⟩:=M3 hy
  obtain ⟨x,hx,_⟩:=h i ys[i] (gr hi)
  exact ⟨x,hx⟩
 have hlen:l.length=ys.length:=by simpa using Lib.mapM_length hl
 refine ⟨l,hl,hlen,fun i hi=>?_⟩
 have hi':i < ys.length:=by omega
 obtain ⟨x,hx,hq⟩:=h i ys[i] (gr hi')
 obtain ⟨b,hb1,hb2⟩:=Lib.mapM_at hl i ys[i].1 (by simp [hi'])
 rw [hx] at hb2
 cases hb2
 have:l[i]=x:=by rw [gr hi] at hb1; exact B6 hb1
 rw [this]; exact hq
theorem yJ {a:Addr} {n:Nat} {cs:List Value} (h:W.cells? 0 a n=some cs):cs.length=n∧∀ j,j < n→W.cell? (a.add j)=cs[j]?:=by
 unfold World.cells? at h
 rw [if_pos (MJ _)] at h
 have hl:cs.length=n:=by simpa using Lib.mapM_length h
 refine ⟨hl,fun j hj=>?_⟩
 obtain ⟨b,hb1,hb2⟩:=Lib.mapM_at h j j (by simp [hj])
 rw [hb2,hb1]
theorem Ha {a:Addr} {v:Value} (h:W.cell? a=some v):∃ b off c el fz,a=⟨b,off,none⟩∧W.heap[b]?=some (.cells c el fz):=by
 obtain ⟨b,off,spot⟩:=a
 unfold World.cell? at h
 split at h
 ·rename_i c el fz hh
  cases spot with
  | none=>exact ⟨b,off,c,el,fz,rfl,hh⟩
  | some _=>simp at h
 ·cases h
mutual
theorem m4:∀ {τ : Ty} {t:TypeId} {fuel:Nat} {cs:List Value} {x:DataW H×List MemPlace},τ.good=true→chk P τ none t=true→DataW.trod enc P W 0 sp hd fuel t cs=some x →
  ∃ y,ofD τ x.1=some y∧Rd W (fun b=>b < W.heap.size) τ cs y
 | .int k,t,fuel,cs,x,_,hc,h=>by
  obtain ⟨n,rfl,rfl,hw⟩:=DataW.trod_int (rU hc) h
  simp only [Lit.wf,A3,decide_eq_true_eq] at hw
  exact ⟨n,rfl,rfl,hw⟩
 | .bool,t,fuel,cs,x,_,hc,h=>by
  cases fuel with
  | zero=>simp [DataW.trod] at h
  | succ fuel =>
   simp only [DataW.trod,lA hc] at h
   split at h
   all_goals try (simp_all; done)
   rename_i b heq
   simp only [A1] at h
   subst h
   exact ⟨b,rfl,rfl⟩
 | .str,t,fuel,cs,x,_,hc,h=>by
  cases fuel with
  | zero=>simp [DataW.trod] at h
  | succ fuel =>
   simp only [DataW.trod,mj hc] at h
   split at h <;> simp_all
   obtain ⟨h1,rfl⟩:=h
   exact ⟨_,rfl,rfl,h1⟩
 | .slice e,t,fuel,cs,x,hg,hc,h=>by
  simp only [Ty.good,A3] at hg
  have hpos:0 < e.size:=B5 hg.2
  obtain ⟨et,hu,hce⟩:=aT hc
  cases fuel with
  | zero=>simp [DataW.trod] at h
  | succ fuel =>
   simp only [DataW.trod,hu,gE hce] at h
   split at h
   all_goals try (simp_all; done)
   ·cases h
    exact ⟨[],rfl,none,0,rfl,A7 _,MJ _,fun h=>absurd rfl h⟩
   ·rename_i e' a len cap heq
    split at h
    ·rename_i hcond
     obtain ⟨elems,he,h⟩:=B4.1 h
     obtain ⟨rest,_,rfl⟩:=Nu.1 h
     have hel:elems.length=len:=by simpa using Lib.mapM_length he
     have each:∀ i y,elems[i]?=some y→∃ ci,W.cells? 0 (a.add (i * e.size)) e.size=some ci∧DataW.trod enc P W 0 sp hd fuel et ci=some y:=by
      intro i y hy
      have hi:i < len:=by have:=(A2.1 hy).1; omega
      obtain ⟨b,hb1,hb2⟩:=Lib.mapM_at he i i (by simp [hi])
      rw [hy] at hb1; cases hb1
      cases heq
      rw [gE hce] at hb2
      exact B4.1 hb2
     obtain ⟨l,q1,q2,q3⟩:=BT (e:=e) (ys:=elems) (Q:=fun i x=>∃ ci,W.cells? 0 (a.add (i * e.size)) e.size=some ci∧Rd W (fun b=>b < W.heap.size) e ci x) fun i y hy=>by
      obtain ⟨ci,h1,h2⟩:=each i y hy
      obtain ⟨x,h3,h4⟩:=m4 hg.1 hce h2
      exact ⟨x,h3,ci,h1,h4⟩
     refine ⟨l,q1,some a,cap,by rw [q2,hel],by omega,hcond.2.2,fun hne=>?_⟩
     have hl0:0 < l.length:=List.length_pos_iff.2 hne
     obtain ⟨c0,h1,_⟩:=q3 0 hl0
     obtain ⟨k1,k2⟩:=yJ h1
     have h00:W.cell? a=some (c0[0]'(by omega)):=by
      have:=k2 0 hpos
      rw [gr (by omega)] at this
      simpa [Addr.add] using this
     obtain ⟨b,off,c,el,fz,rfl,hh⟩:=Ha h00
     have pt:∀ i (hi:i < l.length),∃ ci,ci.length=e.size∧(∀ j,j < e.size→c[off+i * e.size+j]?=ci[j]?)∧Rd W (fun b=>b < W.heap.size) e ci l[i]:=by
      intro i hi
      obtain ⟨ci,g1,g2⟩:=q3 i hi
      obtain ⟨g3,g4⟩:=yJ g1
      refine ⟨ci,g3,fun j hj=>?_,g2⟩
      have:=g4 j hj
      rw [aU,aU,bD hh] at this
      exact this
     have hb:b < W.heap.size:=(Mi.1 hh).1
     have hsz:off+l.length * e.size≤c.size:=by
      obtain ⟨ci,g3,g4,_⟩:=pt (l.length - 1) (by omega)
      have:=g4 (e.size - 1) (by omega)
      rw [gr (by omega)] at this
      have hlt:=(Mi.1 this).1
      have:l.length * e.size=(l.length - 1) * e.size+e.size:=by
       obtain ⟨n,hn⟩ : ∃ n,l.length=n+1:=⟨l.length - 1,by omega⟩
       rw [hn]; simp [L4]
      omega
     refine ⟨b,off,c,el,fz,rfl,hb,hh,hsz,fun i hi=>?_⟩
     obtain ⟨ci,g3,g4,g5⟩:=pt i hi
     have:seg c (off+i * e.size) e.size=ci:=by
      apply List.ext_getElem?
      intro j
      by_cases hj:j < e.size
      ·rw [seg_getElem? _ _ _ _ hj,g4 j hj]
      ·rw [List.getElem?_eq_none (by omega:ci.length≤j)]
       unfold seg; rw [List.getElem?_take,if_neg hj]
     rw [this]; exact g5
    ·cases h
 | .prod a b,t,fuel,cs,x,hg,hc,h=>by
  have hc0:=hc
  simp only [chk,A3] at hc
  obtain ⟨_,hc⟩:=hc
  split at hc
  ·rename_i fs hu
   cases fuel with
   | zero=>simp [DataW.trod] at h
   | succ fuel =>
    simp only [DataW.trod,hu,gE hc0] at h
    split at h
    ·rename_i hlen
     obtain ⟨xs,hx,rfl⟩:=Nu.1 h
     split at hc
     ·rename_i f r hfs
      simp only [A3] at hc
      rw [hfs] at hx
      have:=oX (τ:=.prod a b) (fs:=f :: r) (o:=0) (cs:=cs) (xs:=xs) hg (by simp only [chk,A3]; exact ⟨hc.1,by simpa using hc.2⟩) hx (by simpa using hlen)
      simpa using this
     ·simp at hc
    ·cases h
  ·simp at hc
 | .unit,t,fuel,cs,x,_,hc,h=>by
  have hc0:=hc
  simp only [chk,A3] at hc
  obtain ⟨_,hc⟩:=hc
  split at hc
  ·rename_i fs hu
   split at hc
   ·rename_i hfs
    cases fuel with
    | zero=>simp [DataW.trod] at h
    | succ fuel =>
     simp only [DataW.trod,hu,gE hc0,hfs] at h
     split at h
     ·rename_i hlen
      simp only [PZ,OP,Option.map_some,A1] at h
      subst h
      refine ⟨(),rfl,?_⟩
      simp only [Ty.size] at hlen
      exact List.length_eq_zero_iff.1 hlen
     ·cases h
   ·simp at hc
  ·simp at hc
 | .arr n e,t,fuel,cs,x,hg,hc,h=>by
  obtain ⟨et,hu,hce⟩:=qm hc
  cases fuel with
  | zero=>simp [DataW.trod] at h
  | succ fuel =>
   simp only [DataW.trod,hu,gE hc,gE hce] at h
   split at h
   ·rename_i hlen
    obtain ⟨xs,hx,rfl⟩:=Nu.1 h
    have hxl:xs.length=n:=by simpa using Lib.mapM_length hx
    obtain ⟨l,q1,q2,q3⟩:=BT (e:=e) (ys:=xs) (Q:=fun i x=>Rd W (fun b=>b < W.heap.size) e ((cs.drop (i * e.size)).take e.size) x) fun i y hy=>by
     have hi:i < n:=by have:=(A2.1 hy).1; omega
     obtain ⟨b,hb1,hb2⟩:=Lib.mapM_at hx i i (by simp [hi])
     rw [hy] at hb1; cases hb1
     exact m4 hg hce hb2
    exact ⟨l,q1,by omega,by simpa [Ty.size] using hlen,q3⟩
   ·cases h
 | .ptr _,_,_,_,_,hg,_,_=>by simp [Ty.good] at hg
 | .clo _ _,_,_,_,_,hg,_,_=>by simp [Ty.good] at hg
theorem oX:∀ {τ : Ty} {fs:List Field} {o fuel:Nat} {cs:List Value} {xs:List (DataW H×List MemPlace)},τ.good=true→chk P τ (some (fs,o)) 0=true →
  fs.mapM (fun f=>DataW.trod enc P W 0 sp hd fuel f.type ((cs.drop f.offset).take (P.cellsOf f.type)))=some xs→cs.length=o+τ.size →
  ∃ y,ofD τ (.agg (xs.map (·.1)))=some y∧Rd W (fun b=>b < W.heap.size) τ (cs.drop o) y
 | .prod a b,f :: r,o,fuel,cs,xs,hg,hc,hx,hl=>by
  simp only [Ty.good,A3] at hg
  simp only [chk,A3] at hc
  obtain ⟨⟨c1,c2⟩,c3⟩:=hc
  have hoff:f.offset=o:=A4 c1
  rw [PQ] at hx
  simp only [Option.bind_eq_bind,B4,OP,A1] at hx
  obtain ⟨x0,h0,xs',hxs,rfl⟩:=hx
  rw [gE c2,hoff] at h0
  obtain ⟨y0,e0,r0⟩:=m4 hg.1 c2 h0
  obtain ⟨y1,e1,r1⟩:=oX (τ:=b) (o:=o+a.size) hg.2 c3 hxs (by simp only [Ty.size] at hl; omega)
  refine ⟨(y0,y1),?_,(cs.drop o).take a.size,cs.drop (o+a.size),?_,r0,r1⟩
  ·simp only [Mo,ofD,e0,e1]
  ·rw [← List.drop_drop,List.take_append_drop]
 | .unit,[],o,fuel,cs,xs,_,_,hx,hl=>by
  simp only [PZ,OP,A1] at hx
  subst hx
  refine ⟨(),rfl,?_⟩
  have:cs.drop o=[]:=List.drop_eq_nil_of_le (by simp only [Ty.size] at hl; omega)
  exact this
 | .prod _ _,[],_,_,_,_,_,hc,_,_=>by simp [chk] at hc
 | .unit,_ :: _,_,_,_,_,_,hc,_,_=>by simp [chk] at hc
 | .int _,_,_,_,_,_,_,hc,_,_=>by simp [chk] at hc
 | .bool,_,_,_,_,_,_,hc,_,_=>by simp [chk] at hc
 | .str,_,_,_,_,_,_,hc,_,_=>by simp [chk] at hc
 | .slice _,_,_,_,_,_,_,hc,_,_=>by simp [chk] at hc
 | .arr _ _,_,_,_,_,_,_,hc,_,_=>by simp [chk] at hc
 | .ptr _,_,_,_,_,_,hg,_,_,_=>by simp [Ty.good] at hg
 | .clo _ _,_,_,_,_,_,hg,_,_,_=>by simp [Ty.good] at hg
end
theorem Dh {τ : Ty} {t:TypeId} {base:Nat} {v:Value} (hg : τ.good=true) (hc:chk P τ none t=true) (h:Value.okWide P W .any base t v):toV τ v.cells.toList=v:=by
 cases τ with
 | int k=>simp only [Value.okWide,rU hc,Cell.okWide,Cell.ok] at h; split at h <;> simp_all [toV,Ty.isAgg,Value.cells]
 | bool=>simp only [Value.okWide,lA hc,Cell.okWide,Cell.ok] at h; split at h <;> simp_all [toV,Ty.isAgg,Value.cells]
 | str=>simp only [Value.okWide,mj hc,Cell.okWide,Cell.ok] at h; split at h <;> simp_all [toV,Ty.isAgg,Value.cells]
 | slice e =>
  obtain ⟨et,hu,_⟩:=aT hc
  simp only [Value.okWide,hu,Cell.okWide,Cell.ok] at h; split at h <;> simp_all [toV,Ty.isAgg,Value.cells]
 | prod a b =>
  obtain ⟨d,hu,hd⟩:=kn hc
  unfold Value.okWide at h
  rw [hu] at h
  cases d <;> simp [Ty.isAgg] at hd
  all_goals
   obtain ⟨cs,rfl,_⟩:=h
   simp [toV,Ty.isAgg,Value.cells]
 | unit =>
  obtain ⟨d,hu,hd⟩:=kn hc
  unfold Value.okWide at h
  rw [hu] at h
  cases d <;> simp [Ty.isAgg] at hd
  all_goals
   obtain ⟨cs,rfl,_⟩:=h
   simp [toV,Ty.isAgg,Value.cells]
 | arr n e =>
  obtain ⟨d,hu,hd⟩:=kn hc
  unfold Value.okWide at h
  rw [hu] at h
  cases d <;> simp [Ty.isAgg] at hd
  all_goals
   obtain ⟨cs,rfl,_⟩:=h
   simp [toV,Ty.isAgg,Value.cells]
 | ptr _=>simp [Ty.good] at hg
 | clo _ _=>simp [Ty.good] at hg
def gA (P:Program):List (Mode×Ty)→List TypeId→Bool
 | [],[]=>true
 | (.rd,τ) :: l,t :: ts=>τ.good && chk P τ none t && P.readableRec t && OG t P.types.size && gA P l ts
 | _,_=>false
def xT:(ins:List (Mode×Ty))→(aM (ins.map (·.2))).den→Prop
 | [],_=>True
 | p :: l,x=>Wf p.2 x.1∧xT l x.2
theorem Cr {base:Nat}:∀ {ins:List (Mode×Ty)} {ts:List TypeId} {vs:List Value} {ds:List (DataW H)} {ps:List MemPlace},gA P ins ts=true→DataW.TrodAll enc P W 0 sp hd ts vs ds ps →
  (∀ (j:Nat) t v,ts[j]?=some t→vs[j]?=some v→Value.okWide P W .any base t v)→∃ x,ArgsRd W (fun b=>b < W.heap.size) ins vs x∧xT ins x∧aN ins vs=[]∧ds.length=ins.length
 | [],[],vs,ds,ps,_,h,_=>by
  obtain ⟨rfl,rfl,rfl⟩:=trodAll_nil h
  exact ⟨(),trivial,trivial,rfl,rfl⟩
 | [],_ :: _,_,_,_,hi,_,_=>by simp [gA] at hi
 | (_,_) :: _,[],_,_,_,hi,_,_=>by simp [gA] at hi
 | (.upd,_) :: _,_ :: _,_,_,_,hi,_,_=>by simp [gA] at hi
 | (.take,_) :: _,_ :: _,_,_,_,hi,_,_=>by simp [gA] at hi
 | (.rd,τ) :: l,t :: ts,vs,ds,ps,hi,h,hok=>by
  simp only [gA,A3] at hi
  obtain ⟨⟨⟨⟨c1,c2⟩,_⟩,_⟩,c3⟩:=hi
  obtain ⟨v,vs',d,ds',p,q,rfl,rfl,rfl,⟨fuel,h1⟩,h2⟩:=trodAll_cons h
  obtain ⟨y,_,hr⟩:=m4 c1 c2 h1
  obtain ⟨x,x1,x2,x3,x4⟩:=Cr (base:=base) c3 h2 fun j t v hj hv=>hok (j+1) t v (by simpa using hj) (by simpa using hv)
  exact ⟨(y,x),⟨⟨v.cells.toList,(Dh c1 c2 (hok 0 t v rfl rfl)).symm,hr⟩,x1⟩,⟨hr.wf,x2⟩,x3,by simp [x4]⟩
theorem uA {W':World} {sp':Nat→Bool} (hl:laidOutB P=true):∀ {ins:List (Mode×Ty)} {ts:List TypeId} {vs:List Value} {ds:List (DataW H)} {ps:List MemPlace},gA P ins ts=true →
  DataW.TrodAll enc P W 0 (fun _=>true) true ts vs ds ps→(∀ p∈ps,W.sameAt W' p)→(∀ p∈ps,sp' p.block=true)→DataW.TrodAll enc P W' 0 sp' true ts vs ds ps
 | [],[],vs,ds,ps,_,h,_,_=>by
  obtain ⟨rfl,rfl,rfl⟩:=trodAll_nil h
  exact rfl
 | [],_ :: _,_,_,_,hi,_,_,_=>by simp [gA] at hi
 | (_,_) :: _,[],_,_,_,hi,_,_,_=>by simp [gA] at hi
 | (.upd,_) :: _,_ :: _,_,_,_,hi,_,_,_=>by simp [gA] at hi
 | (.take,_) :: _,_ :: _,_,_,_,hi,_,_,_=>by simp [gA] at hi
 | (.rd,τ) :: l,t :: ts,vs,ds,ps,hi,h,hs,hsp=>by
  simp only [gA,A3] at hi
  obtain ⟨⟨⟨⟨_,_⟩,c4⟩,c5⟩,c3⟩:=hi
  obtain ⟨v,vs',d,ds',p,q,rfl,rfl,rfl,h1,h2⟩:=trodAll_cons h
  exact ⟨p,q,WideElems.Trod_stays hl c4 (B5 c5) h1 (fun x hx=>hs x (by simp [hx])) (fun x hx=>hsp x (by simp [hx])),uA hl c3 h2 (fun x hx=>hs x (by simp [hx])) (fun x hx=>hsp x (by simp [hx])),rfl⟩
end
theorem Dd {H:Type} {enc:TypeId×Value→H} {P:Program} {f:Func} {s:ChangeSpec} {W W':World} {args:Array Value} {ds:List (DataW H)} {before:List MemPlace} {ins:List (Mode×Ty)} {tb:TypeId} {fresh handsOn kM:Bool}
  (hl:laidOutB P=true) (hi:gA P ins f.params.toList=true) (hr:f.resultTypes=#[tb]) (hb:P.underlying tb=some .bool) (hv:s.vars=[])
  (hW:DataW.Whole enc P f.params.toList s.vars false W args.toList ds [] before) (hs:s.fn H (ds++[])={ results:=[.lit (.bool true)],args:=ds })
  (hk:Kept W (fun _=>False) W'):s.post enc P f false fresh handsOn kM W args (.bool true) W':=by
 have hold:∀ p∈before,decide (p.block < W.heap.size)=true:=fun p hp=>by simpa using hW.lt p hp
 have hblk:∀ b,b < W.heap.size→W'.heap[b]?=W.heap[b]?:=fun b hb=>hk.block b hb (fun h=>h)
 have hsame:∀ p∈before,W.sameAt W' p:=by
  intro p hp
  have:=hblk p.block (hW.lt p hp)
  cases p with
  | cell b off=>simp only [MemPlace.block] at this; simp [World.sameAt,World.cell?,this]
  | map b=>exact this
 have hW':=hW
 obtain ⟨p,q,hA,hV,rfl,hz,_⟩:=hW
 rw [hv] at hV
 obtain rfl:q=[]:=hV
 simp only [MH] at hold hsame hz hW'
 have args':∀ sp:Nat→Bool,(∀ x∈p,sp x.block=true)→DataW.TrodAll enc P W' 0 sp true f.params.toList args.toList ds p:=fun sp hsp=>uA hl hi hA hsame hsp
 have res':∀ (b:Nat) (sp:Nat→Bool) (hd:Bool),DataW.TrodAll enc P W' b sp hd f.resultTypes.toList ((Value.bool true).resultList f.resultTypes.size) [.lit (.bool true)] []:=by
  intro b sp hd
  rw [hr]
  exact trodAll_mk1 (shut_bool hb true)
 have ok':∀ (j:Nat) (t:TypeId) (r:Value),f.resultTypes[j]?=some t→((Value.bool true).resultList f.resultTypes.size)[j]?=some r→Value.okWide P W' .any 0 t r:=by
  intro j t r hj hv
  rw [hr] at hj hv
  match j,hj,hv with
  | 0,hj,hv =>
   simp [Value.resultList] at hj hv
   subst hj; subst hv
   simp [Value.okWide,hb,Cell.okWide,Cell.ok]
 have vars':∀ sp:Nat→Bool,DataW.TrodVars enc P W' sp s.vars (s.fn H (ds++[])).vars []:=by
  intro sp; rw [hv,hs]; exact rfl
 refine ⟨ds,[],p,[],p,[],hW',by rw [hs]; exact res' _ _ _,by rw [hs]; exact args' _ hold,vars' _,⟨hk.os,hk.output,fun i hi=>?_⟩,fun _=>⟨ok',[.lit (.bool true)]++ds,[],p,⟨p,[],?_,?_,by simp,?_,fun h=>by cases h⟩,fun x hx _=>hx⟩⟩
 ·rw [hblk i hi]
  cases h:W.heap[i]? with
  | none=>trivial
  | some o =>
   cases o with
   | cells c t fr=>exact ⟨rfl,rfl,rfl,fun _ _=>rfl⟩
   | map es ck=>exact .inr ⟨rfl,rfl⟩
   | _=>rfl
 ·have:=trodAll_append (args' (fun _=>true) (fun _ _=>rfl)) (res' 0 (fun _=>true) true)
  simpa using this
 ·rw [hv]; exact rfl
 ·intro b off hp
  have:=hblk b (of_decide_eq_true (hold _ hp))
  have h2:=hz b off hp
  simpa [World.frozen?,this] using h2
theorem Db {H:Type} {enc:TypeId×Value→H} {P:Program} {f:FuncId} {fn:Func} {s:ChangeSpec} {glob:List (Nat×(Σ t:Ty,t.den))} {ins:List (Mode×Ty)} {tb:TypeId} {M:(aM (ins.map (·.2))).den→Option (aM ([(true,Ty.bool)].map (·.2)++br ins)).den} {fresh handsOn kM:Bool}
  (hl : laidOutB P = true) (hf : P.funcs[f]? = some fn) (hb : fn.body.isSome = true) (hn : (fn.name == "runtime.NumGoroutine") = false) (hi : gA P ins fn.params.toList = true) (hr : fn.resultTypes = #[tb]) (hbt : P.underlying tb = some .bool) (hv : s.vars = [])
  (hs:∀ ds:List (DataW H),ds.length=ins.length→s.fn H (ds++[])={ results:=[.lit (.bool true)],args:=ds })
  (hc:Con.Holds P glob f ⟨ins,[(true,.bool)],M,false⟩) (hM:∀ x,xT ins x→∃ r,M x=some (true,r))
  {W:World} {base:Nat} {args:Array Value} {ds gs:List (DataW H)} {before:List MemPlace}
  (hg:∀ g τ x,d7 glob g=some ⟨τ,x⟩→Rd W (fun b=>b < W.heap.size) (.ptr τ) [.pointer (some ⟨g,0,none⟩)] x)
  (hok:∀ (j:Nat) t v,fn.params[j]?=some t→args[j]?=some v→Value.okWide P W .any base t v) (hW:DataW.Whole enc P fn.params.toList s.vars false W args.toList ds gs before) :
  Calls P f args W fun e W'=>∃ v,e=.returned v∧s.post enc P fn false fresh handsOn kM W args v W':=by
 have hW0:=hW
 obtain ⟨p,q,hA,hV,_,_,_⟩:=hW
 obtain rfl:gs=[]:=by
  rw [hv] at hV
  cases gs with
  | nil=>rfl
  | cons g r=>exact absurd hV (by intro h; cases h)
 obtain ⟨x,a1,a2,a3,a4⟩:=Cr (base:=base) hi hA (fun j t v hj hv=>hok j t v (by rw [← My]; exact hj) (by rw [← My]; exact hv))
 obtain ⟨r,hMx⟩:=hM x a2
 have hp:Pre glob W (fun b=>b < W.heap.size) ins args.toList x:=⟨a1,by rw [a3]; simp,by rw [a3]; exact MR,fun b hb=>hb,hg⟩
 have fin:∀ {v:Value} {W':World},(∃ F2 css,Post W (fun b=>b < W.heap.size) ins args.toList [(true,.bool)] (true,r) v W' F2 css)→s.post enc P fn false fresh handsOn kM W args v W':=by
  rintro v W' ⟨F2,css,hP⟩
  have hk:=hP.kept
  rw [a3] at hk
  have hk':Kept W (fun _=>False) W':=⟨hk.os,hk.tape,hk.output,hk.size,fun b hb _=>hk.block b hb (by rintro ⟨u,hu,_⟩; simp at hu)⟩
  have hv':v=.bool true:=by
   have h1:=hP.res
   have h2:=hP.val
   match css,h1 with
   | [cs],h1 =>
    have h3:Rd W' F2 .bool cs true:=h1.1
    unfold Rd at h3
    subst h3
    rw [h2]; rfl
  subst hv'
  exact Dd hl hi hr hbt hv hW0 (hs ds a4) hk'
 have hn' : ¬ fn.name = "runtime.NumGoroutine" := by simpa using hn
 obtain ⟨body,hbody⟩:=Option.isSome_iff_exists.1 hb
 have hcall:(callFunc f args).run P W=.ok (.enter f args) W:=by simp [callFunc,hf,hn',hbody]
 have harr:args.toList.toArray=args:=by simp
 rcases hc W _ args.toList x (true,r) hp hMx with ⟨_,h2⟩ | ⟨v,w',h1,_⟩
 ·rw [harr] at h2
  refine h2.mono fun e W' he=>?_
  obtain ⟨v,rfl,hR⟩:=he
  exact ⟨v,rfl,fin hR⟩
 ·rw [harr,hcall] at h1
  cases h1
end Go.Vm
namespace Go.Vm
theorem zB {P:Program} {W:World} {laid:List (String×DataW Unit)} (h:laidMetH P laid W) (hno:(laid.filter fun x=>x.2.handleName?.isSome)=[]) {name:String} {d:DataW Unit} {g:Nat} {t:TypeId} {τ : Ty} {x : τ.den}
  (hmem:(name,d)∈laid) (hg:P.globalNamed name=some g) (ht:(P.globals[g]?).map (·.type)=some t) (hc:(chk P τ none t && τ.good)=true) (hx:ofD τ d=some x) :
  Rd W (fun b=>b < W.heap.size) (.ptr τ) [.pointer (some ⟨g,0,none⟩)] x:=by
 simp only [A3] at hc
 unfold laidMetH at h
 rw [hno] at h
 obtain ⟨ps,hv,_⟩:=h
 have key:∀ (l:List (String×DataW Unit)) (ps:List MemPlace),DataW.LaidVars P W l ps→(name,d)∈l→∃ g t cs fuel p,P.globalNamed name=some g∧(P.globals[g]?).map (·.type)=some t∧W.var? P name=some cs∧DataW.trod (fun _=>()) P W 0 (fun _=>true) false fuel t cs.toList=some (d,p):=by
  intro l
  induction l with
  | nil=>intro _ _ hm; simp at hm
  | cons q l ih =>
   obtain ⟨n,e⟩:=q
   rintro ps ⟨g,t,cs,fuel,p,q,h1,h2,h3,h4,h5,_⟩ hm
   rcases B7.1 hm with hm | hm
   ·cases hm; exact ⟨g,t,cs,fuel,p,h1,h2,h3,h4⟩
   ·exact ih q h5 hm
 obtain ⟨g',t',cs,fuel,p,h1,h2,h3,h4⟩:=key laid ps hv hmem
 rw [hg] at h1; cases h1
 rw [ht] at h2; cases h2
 obtain ⟨y,hy,hr⟩:=m4 hc.2 hc.1 h4
 rw [hx] at hy; cases hy
 unfold World.var? at h3
 rw [hg] at h3
 simp only [dn] at h3
 split at h3
 ·rename_i c el fz hh
  cases h3
  have hb:g < W.heap.size:=(Mi.1 hh).1
  have hl:=hr.len
  rw [Mu] at hl
  refine ⟨g,0,cs,el,fz,rfl,hb,hh,by omega,?_⟩
  have:seg cs 0 τ.size=cs.toList:=by
   unfold seg
   rw [List.drop_zero,List.take_of_length_le (by rw [Mu]; omega)]
  rw [this]; exact hr
 ·cases h3
theorem J4 {W:World} {glob:List (Nat×(Σ t:Ty,t.den))} (h:∀ p∈glob,Rd W (fun b=>b < W.heap.size) (.ptr p.2.1) [.pointer (some ⟨p.1,0,none⟩)] p.2.2) :
  ∀ g τ x,d7 glob g=some ⟨τ,x⟩→Rd W (fun b=>b < W.heap.size) (.ptr τ) [.pointer (some ⟨g,0,none⟩)] x:=by
 induction glob with
 | nil=>intro g τ x hg; simp [d7] at hg
 | cons p r ih =>
  intro g τ x hg
  obtain ⟨k,v⟩:=p
  simp only [d7] at hg
  cases hk:B1 k g with
  | true =>
   rw [hk] at hg
   cases hg
   rw [← A4 hk]
   exact h (k,⟨τ,x⟩) (by simp)
  | false=>rw [hk] at hg; exact ih (fun p hp=>h p (by simp [hp])) g τ x hg
end Go.Vm

/-
 Plain laws for what the decompiler prints: numbers, lists, strings, loops.
-/
namespace Go.Vm
theorem v9:lim=68719476736:=by decide
theorem gO {a b:Int} (h1 : -9223372036854775808≤a+b) (h2:a+b≤9223372036854775807):aA .i64 a b=a+b:=IntWalk.i64_in _ ⟨h1,h2⟩
theorem cC {a b:Int} (h1 : -9223372036854775808≤a - b) (h2:a - b≤9223372036854775807):bE .i64 a b=a - b:=IntWalk.i64_in _ ⟨h1,h2⟩
theorem gq {a b:Int} (h1 : -9223372036854775808≤a * b) (h2:a * b≤9223372036854775807):dK .i64 a b=a * b:=IntWalk.i64_in _ ⟨h1,h2⟩
theorem aZ {a:Nat} (h:a < 9223372036854775807):aA .i64 (a:Int) 1=((a+1:Nat):Int):=by rw [gO (by omega) (by omega)]; rfl
theorem pD {a:Nat} (h:a≤9223372036854775800):bE .i64 (a:Int) 1=(a:Int) - 1:=cC (by omega) (by omega)
theorem aJ {a b:Int} (h:a < b):ltI a b=true:=by simp [ltI,h]
theorem aC {a b:Int} (h:b≤a):ltI a b=false:=by simp [ltI]; omega
theorem iX {a b:Int} (h:b < a):gtI a b=true:=by simp [gtI,h]
theorem eC {a b:Int} (h:a≤b):gtI a b=false:=by simp [gtI]; omega
theorem tS {a b:Int} (h:b≤a):geI a b=true:=by simp [geI]; omega
theorem iI {a b:Int} (h:a < b):geI a b=false:=by simp [geI]; omega
theorem IE {a b:Int} (h:a≤b):leI a b=true:=by simp [leI,h]
theorem gH {a b:Int} (h:a=b):eqI a b=true:=by simp [eqI,h]
theorem gL {a b:Int} (h:a≠b):eqI a b=false:=by simp [eqI,h]
theorem fT {a b:Int} (h:a≠b):neI a b=true:=by simp [neI,h]
theorem dF {a b:Int} (h:a=b):neI a b=false:=by simp [neI,h]
theorem FL {d:Nat} (h:d≤9223372036854775807):iq .i64 (d:Int) 2=((d / 2:Nat):Int):=by
 unfold iq
 have:(d:Int).tdiv 2=((d / 2:Nat):Int):=by rw [Int.tdiv_eq_ediv_of_nonneg (by omega)]; omega
 rw [this]
 exact IntWalk.i64_in _ ⟨by omega,by omega⟩
theorem Hj {d:Nat}:kC (d:Int) 2=((d % 2:Nat):Int):=by
 unfold kC
 rw [Int.tmod_eq_emod_of_nonneg (by omega)]; omega
def oth (d:Nat):Nat:=if d % 2=0 then d+1 else d - 1
theorem eE (d:Nat):oth (oth d)=d:=by unfold oth; split <;> split <;> omega
theorem dL {d m:Nat} (h:d < 2 * m):oth d < 2 * m:=by unfold oth; split <;> omega
theorem i6 (d:Nat):oth d / 2=d / 2:=by unfold oth; split <;> omega
theorem jb (d:Nat):oth d % 2=1 - d % 2:=by unfold oth; split <;> omega
theorem HC (d:Nat):d ^^^ 1=oth d:=by
 apply Nat.eq_of_testBit_eq
 intro i
 rw [Nat.testBit_xor]
 cases i with
 | zero =>
  simp only [Nat.testBit_zero]
  have:=jb d
  rcases Nat.mod_two_eq_zero_or_one d with h | h
  ·rw [this,h]; rfl
  ·rw [this,h]; rfl
 | succ i =>
  rw [OS,OS,OS,i6]
  simp
theorem FR {d:Nat} (h:d < 4611686018427387904):s7 .i64 (d:Int) 1=((oth d:Nat):Int):=by
 unfold s7
 have h1:(BitVec.ofInt (IntKind.bits .i64) (d:Int)).toNat=d:=by
  show (BitVec.ofInt 64 (d:Int)).toNat=d
  rw [BitVec.toNat_ofInt]
  omega
 have h2:(BitVec.ofInt (IntKind.bits .i64) (1:Int)).toNat=1:=by decide
 have h3:(BitVec.ofInt (IntKind.bits .i64) (d:Int) ^^^ BitVec.ofInt (IntKind.bits .i64) 1).toNat=oth d:=by
  rw [BitVec.toNat_xor,h1,h2,HC]
 rw [h3]
 have:oth d≤d+1:=by unfold oth; split <;> omega
 exact IntWalk.i64_in _ ⟨by omega,by omega⟩
theorem ay {n i:Nat} (h:i < n):aO n (i:Int)=some i:=by simp [aO,h]
theorem jX {n:Nat} {i:Int} (h0:0≤i) (h:i < n):aO n i=some i.toNat:=by simp [aO,h0,h]
theorem am {α : Type} {l:List α} {i:Nat}:aF l (i:Int)=l[i]?:=by simp [aF]
theorem yu {α : Type} {l:List α} {i:Int} (h:0≤i):aF l i=l[i.toNat]?:=by simp [aF,h]
theorem da {α : Type} {l r:List α} (h:l.length+r.length≤68719476736):app l r=some (l++r):=by simp [app,v9,h]
theorem dr {e:Ty} {n c:Nat} (h:n≤c) (h2:c≤68719476736):eN e (n:Int) (c:Int)=some (List.replicate n (az e)):=by
 have h3:(c:Int)≤68719476736:=by omega
 simp [eN,v9,h,h3]
section
variable {σ ρ : Type} {f : σ→Option (σ⊕ρ)}
theorem c7 {s t : σ} (h:f s=some (.inl t)):aa f s=aa f t:=by rw [mB,h]; rfl
theorem cf {s : σ} {r : ρ} (h:f s=some (.inr r)):aa f s=some r:=by rw [mB,h]; rfl
theorem oM (I : σ→Prop) (m : σ→Nat) (Q : ρ→Prop) (step:∀ s,I s→(∃ t,f s=some (.inl t)∧I t∧m t < m s)∨∃ r,f s=some (.inr r)∧Q r):∀ s,I s→∃ r,aa f s=some r∧Q r:=by
 have:∀ n s,m s≤n→I s→∃ r,aa f s=some r∧Q r:=by
  intro n
  induction n with
  | zero =>
   intro s hm hs
   rcases step s hs with ⟨t,_,_,h⟩ | ⟨r,h1,h2⟩
   ·omega
   ·exact ⟨r,cf h1,h2⟩
  | succ n ih =>
   intro s hm hs
   rcases step s hs with ⟨t,h1,h2,h⟩ | ⟨r,h1,h2⟩
   ·rw [c7 h1]; exact ih t (by omega) h2
   ·exact ⟨r,cf h1,h2⟩
 exact fun s hs=>this (m s) s (A7 _) hs
end
def LT {α : Type} (x:List α×Int×Int×Unit):Option ((List α×Int×Int×Unit)⊕((List α×Unit)⊕Empty)) :=
 cond (ltI x.2.1 x.2.2.1) ((aO x.1.length x.2.2.1).bind fun j1=>(x.1[j1]?).bind fun y2=>(aO x.1.length x.2.1).bind fun j3=>(x.1[j3]?).bind fun y4=>(aO x.1.length x.2.1).bind fun j5=>(x.1[j5]?).bind fun _=>(aO (x.1.set j5 y2).length x.2.2.1).bind fun j7=>((x.1.set j5 y2)[j7]?).bind fun _=>some (.inl (((x.1.set j5 y2).set j7 y4),((aA .i64 x.2.1 1),((bE .i64 x.2.2.1 1),()))))) (some (.inr (.inl (x.1,()))))
end Go.Vm
namespace Go.Vm
def ae {S α ε : Type} (g:Nat→S→α→Option (S⊕ε)):Nat→S→List α→Option (S⊕ε)
 | _,s,[]=>some (.inl s)
 | i,s,a :: l=>(g i s a).bind (LV (fun t=>ae g (i+1) t l) (fun e=>some (.inr e)))
theorem ti {σ ρ S α ε : Type} {B : σ→Option (σ⊕ρ)} (I:Nat→S→Prop) (st:S→Nat→σ) (out:S→ρ) (ex : ε→ρ) (g:Nat→S→α→Option (S⊕ε)) (l:List α)
  (h1:∀ s i a,I i s→l[i]?=some a→B (st s i)=(g i s a).bind (LV (fun t=>some (.inl (st t (i+1)))) (fun e=>some (.inr (ex e)))))
  (hI:∀ s i a t,I i s→l[i]?=some a→g i s a=some (.inl t)→I (i+1) t)
  (h2:∀ s,I l.length s→B (st s l.length)=some (.inr (out s))):∀ (r p:List α) (s:S),p++r=l→I p.length s→aa B (st s p.length)=(ae g p.length s r).bind (LV (fun t=>some (out t)) (fun e=>some (ex e)))
 | [],p,s,h,hs=>by
  have:p.length=l.length:=by rw [← h]; simp
  rw [this] at hs ⊢
  rw [cf (h2 s hs)]
  rfl
 | a :: r,p,s,h,hs=>by
  have ha:l[p.length]?=some a:=by rw [← h]; simp
  rw [mB,h1 s p.length a hs ha]
  simp only [ae]
  cases hg:g p.length s a with
  | none=>rfl
  | some x =>
   cases x with
   | inl t =>
    simp only [dn,B8]
    have:=ti I st out ex g l h1 hI h2 r (p++[a]) t (by simp [h]) (by simpa using hI s p.length a t hs ha hg)
    simpa using this
   | inr e=>rfl
theorem dp {σ ρ S α ε : Type} {B : σ→Option (σ⊕ρ)} (I:Nat→S→Prop) (st:S→Nat→σ) (out:S→ρ) (ex : ε→ρ) (g:Nat→S→α→Option (S⊕ε)) (l:List α)
  (h1:∀ s i a,I i s→l[i]?=some a→B (st s i)=(g i s a).bind (LV (fun t=>some (.inl (st t (i+1)))) (fun e=>some (.inr (ex e)))))
  (hI:∀ s i a t,I i s→l[i]?=some a→g i s a=some (.inl t)→I (i+1) t)
  (h2:∀ s,I l.length s→B (st s l.length)=some (.inr (out s))) (s:S) (hs:I 0 s):aa B (st s 0)=(ae g 0 s l).bind (LV (fun t=>some (out t)) (fun e=>some (ex e))) :=
 ti I st out ex g l h1 hI h2 l [] s rfl hs
theorem jF {σ ρ S α ε : Type} {B : σ→Option (σ⊕ρ)} (st:S→Nat→σ) (out:S→ρ) (ex : ε→ρ) (g:Nat→S→α→Option (S⊕ε)) (l:List α)
  (h1:∀ s i a,l[i]?=some a→B (st s i)=(g i s a).bind (LV (fun t=>some (.inl (st t (i+1)))) (fun e=>some (.inr (ex e)))))
  (h2:∀ s,B (st s l.length)=some (.inr (out s))) (s:S):aa B (st s 0)=(ae g 0 s l).bind (LV (fun t=>some (out t)) (fun e=>some (ex e))) :=
 dp (fun _ _=>True) st out ex g l (fun s i a _=>h1 s i a) (fun _ _ _ _ _ _ _=>trivial) (fun s _=>h2 s) s trivial
theorem gk {S α ε : Type} {g:Nat→S→α→Option (S⊕ε)} {I:Nat→S→Prop}:∀ {l:List α} {i:Nat} {s t:S},(∀ s j a t,I (i+j) s→l[j]?=some a→g (i+j) s a=some (.inl t)→I (i+j+1) t)→I i s→ae g i s l=some (.inl t)→I (i+l.length) t
 | [],i,s,t,_,hs,h=>by simp only [ae] at h; cases h; exact hs
 | a :: l,i,s,t,hI,hs,h=>by
  simp only [ae] at h
  cases hg:g i s a with
  | none=>rw [hg] at h; cases h
  | some x =>
   rw [hg] at h
   cases x with
   | inl u =>
    have:=gk (l:=l) (i:=i+1) (s:=u) (t:=t) (fun s j b t h1 h2 h3=>by
     have:=hI s (j+1) b t (by rwa [show i+(j+1)=i+1+j by omega]) (by simpa using h2) (by rwa [show i+(j+1)=i+1+j by omega])
     rwa [show i+(j+1)+1=i+1+j+1 by omega] at this) (by simpa using hI s 0 a u hs rfl hg) (by simpa using h)
    rw [LU,show i+(l.length+1)=i+1+l.length by omega]
    exact this
   | inr e=>cases h
theorem tK {S α ε : Type} {g:Nat→S→α→Option (S⊕ε)} (f:Nat→S→α→S) {l:List α}:∀ {i:Nat} {s:S},(∀ j a s,l[j]?=some a→g (i+j) s a=some (.inl (f (i+j) s a)))→∃ t,ae g i s l=some (.inl t):=by
 induction l with
 | nil=>intro i s _; exact ⟨s,rfl⟩
 | cons a l ih =>
  intro i s h
  have h0:=h 0 a s rfl
  simp only [M4] at h0
  simp only [ae,h0,dn,B8]
  refine ih fun j b s hj=>?_
  have:=h (j+1) b s (by simpa using hj)
  rwa [show i+(j+1)=i+1+j by omega] at this
end Go.Vm

