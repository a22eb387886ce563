/-
 Rows of operations, in every order that the machine may take.
-/
import Derived.Test.YtgdkanecejfeiaaGreatDoorSXD
import Derived.Test.YtgdkanecejfeiaaGreatDoorSVmD
open List renaming getElem?_eq_getElem→A2,getElem?_eq_some_iff→A3,mem_append→B1,mem_of_getElem?→B2,mem_cons→B3,range→Le,all_eq_true→Lg,mem_cons_of_mem→Ll,mem_cons_self→LL,any_eq_true→L9,mem_range→Ma,flatMap_cons→MM,mem_flatMap→MT
open Bool renaming and_eq_true→A4,false_eq_true→LR,or_eq_true→LV,false_or→MC,or_eq_false_iff→NE
open Nat renaming eq_of_beq_eq_true→A5,le_refl→A7,beq→A8,lt_of_lt_of_le→LA,lt_or_ge→Me,lt_succ_self→Mf,lt_trichotomy→Mh,le_of_lt→Mk,zero_le→Mr,le_of_eq→OC
open Array renaming getElem?_eq_some_iff→Lw,getElem?_toList→LO,getD_eq_getD_getElem?→Md,replicate→Nd
set_option linter.unusedVariables false
set_option linter.unusedSimpArgs false
/-
 A region's run, told step by step.
-/
namespace Go.Rx
open Go.Vm
theorem uW {α : Type} {o:Option α} {R:Type} {no r:R} {K : α→R} (h:onO o no K=r):(o=none∧no=r)∨∃ x,o=some x∧K x=r:=by
 cases o with
 | none=>exact .inl ⟨rfl,h⟩
 | some x=>exact .inr ⟨x,rfl,h⟩
def upd (σ : Nat→RV) (dst:Option Nat) (v:RV):Nat→RV:=fun t=>if dst=some t then v else σ t
section
variable (P:Program) (GL:List Nat) (call:Call1) (all:List Oper)
noncomputable def rcX (un:List Nat) (k:RK) (ev:Ev) (s:RS) (ns:Notes):Option (RV×RS):=match un with
 | []=>rc P call k ev s
 | a :: r=>rcU P call (a :: r) k ev s ns
inductive RunS (o:Oper) (pe:PE) (σ : Nat→RV) (s:RS) (ns:Notes):RV→RS→Notes→Prop
 | m {x:Operand} (h:rk P o=.m x):RunS o pe σ s ns (opS GL σ x) s ns
 | v {f:Ev→Option RV} {v:RV} (h:rk P o=.v f) (h1:f (opS GL σ)=some v):RunS o pe σ s ns v s ns
 | r {x:Operand} {f:Option RO→Ev→Option RV} {v:RV} (h:rk P o=.r x f) (h1:f (blk s.H.get (opS GL σ x)) (opS GL σ)=some v):RunS o pe σ s ns v s (rq pe.tk ⟨pe.i,(opS GL σ x).asBlk,none⟩ ns)
 | b {f:Ev→Option PR} {ob:RO} {v:RV} {s':RS} (h:rk P o=.b f) (h1:f (opS GL σ)=some (.new ob v)) (h2:th s ob=some s'):RunS o pe σ s ns (v.at s.nx) s' (rq pe.tk ⟨pe.i,none,some s.nx⟩ ns)
 | c {v:RV} {s':RS} (h:isC (rk P o)=true) (h1:rcX P call pe.un (rk P o) (opS GL σ) s ns=some (v,s')):RunS o pe σ s ns v s' ns
inductive StepS (o:Oper) (pe:PE) (σ : Nat→RV) (s:RS) (ns:Notes):RV→RS→Notes→Prop
 | run {v:RV} {s':RS} {ns':Notes} (hg:o.guard=none∨∃ j want d,o.guard=some (j,want)∧dz all j=some d∧σ d=.one (.bool want)) (h:RunS P GL call o pe σ s ns v s' ns'):StepS o pe σ s ns v s' ns'
 | skip {j d:Nat} {want:Bool} (hg:o.guard=some (j,want)) (hd:dz all j=some d) (h : σ d=.one (.bool (!want))∨σ d=.tup []):StepS o pe σ s ns rundef s ns
structure Rec where
 pe:PE
 o:Oper
 σ : Nat→RV
 s:RS
 ns:Notes
 v:RV
 s':RS
inductive Trace:(Nat→RV)→RS→Notes→Plan→List Rec→(Nat→RV)→RS→Prop
 | nil {σ : Nat→RV} {s:RS} {ns:Notes}:Trace σ s ns [] [] σ s
 | cons {σ : Nat→RV} {s:RS} {ns:Notes} {pe:PE} {pl:Plan} {o:Oper} {v:RV} {s1:RS} {ns1:Notes} {recs:List Rec} {σ':Nat→RV} {s':RS} (ho:all[pe.i]?=some o) (h:StepS P GL call all o pe σ s ns v s1 ns1)
   (t:Trace (upd σ o.dst v) s1 ns1 pl recs σ' s'):Trace σ s ns (pe :: pl) (⟨pe,o,σ,s,ns,v,s1⟩ :: recs) σ' s'
end
section
variable {P:Program} {GL:List Nat} {call:Call1} {all:List Oper} {msk:Nat}
theorem iT {R:Type} (v:RV) (K:RV→R):uN v K=K v:=by cases v <;> rfl
theorem D0 (e:cE) (l:Lc) (d:Nat) (v:RV) (hk:iE msk d=false):egt msk e (.cons d v l)=upd (egt msk e l) (some d) v:=by
 funext t
 unfold egt upd
 show cond (iE msk t) (gOr (e.get t)) (cond (A8 d t) v (I0 l t))=_
 by_cases h:d=t
 ·subst h; simp [hk]
 ·have:A8 d t=false:=by cases hb:A8 d t with | true=>exact absurd (A5 hb) h | false=>rfl
  simp [this,h]
theorem GS {e e':cE} {l:Lc} {d:Nat} {v:RV} (h:e.put d v=some e') (hk:iE msk d=true):egt msk e' l=upd (egt msk e l) (some d) v:=by
 funext t
 unfold egt upd
 rw [Tr.get_put h t]
 by_cases ht:d=t
 ·subst ht; simp [hk,gOr]
 ·simp [ht]
theorem o7 {dst:Option Nat} {v:RV} {e:cE} {l:Lc} {K:cE→Lc→Out} {e':cE} {s':RS} (h:(jj msk dst).run v e l K=.go e' s'):∃ e1 l1,egt msk e1 l1=upd (egt msk e l) dst v∧K e1 l1=.go e' s':=by
 cases dst with
 | none=>exact ⟨e,l,by funext t; simp [upd],h⟩
 | some d =>
  unfold jj at h
  dsimp only at h
  cases hk:iE msk d with
  | true =>
   rw [hk] at h
   simp only [cond_true] at h
   rw [iT,Tr.putK_eq] at h
   split at h
   ·rename_i u hu
    exact ⟨u,l,GS (show e.put d v=some u from hu) hk,h⟩
   ·cases h
  | false =>
   rw [hk] at h
   simp only [cond_false] at h
   rw [iT] at h
   exact ⟨e,.cons d v l,D0 e l d v hk,h⟩
theorem ui {o:Oper} {pe:PE} {e:cE} {l:Lc} {s:RS} {ns:Notes} {K:K1} {e':cE} {s':RS} (h:(kH P GL msk (rk P o) pe o.dst).run call e l s ns K=.go e' s') :
  ∃ v s1 ns1 e1 l1,RunS P GL call o pe (egt msk e l) s ns v s1 ns1∧egt msk e1 l1=upd (egt msk e l) o.dst v∧K e1 l1 s1 ns1=.go e' s':=by
 have hev:(rev GL msk e l:Ev)=opS GL (egt msk e l):=by funext x; exact uM GL msk e l x
 have cc:isC (rk P o)=true→(mkW P GL msk (rk P o) pe o.dst).run call e l s ns K=.go e' s' →
   ∃ v s1 ns1 e1 l1,RunS P GL call o pe (egt msk e l) s ns v s1 ns1∧egt msk e1 l1=upd (egt msk e l) o.dst v∧K e1 l1 s1 ns1=.go e' s':=by
  intro hc h
  have key:AM msk o.dst (rcX P call pe.un (rk P o) (opS GL (egt msk e l)) s ns) e l ns K=.go e' s':=by
   unfold mkW at h
   unfold rcX
   split at h
   ·rename_i hun; rw [hun]; rw [← hev]; exact h
   ·rename_i x r hun; rw [hun]; rw [← hev]; exact h
  unfold AM at key
  split at key
  ·rename_i v s1 hr
   obtain ⟨e1,l1,h1,h2⟩:=o7 key
   exact ⟨v,s1,ns,e1,l1,.c hc hr,h1,h2⟩
  ·cases key
 generalize hk:rk P o=k at h cc
 cases k with
 | m x =>
  obtain ⟨e1,l1,h1,h2⟩:=o7 h
  rw [uM] at h1
  exact ⟨_,s,ns,e1,l1,.m hk,h1,h2⟩
 | v f =>
  change xY msk o.dst (f (rev GL msk e l)) e l s ns K=.go e' s' at h
  unfold xY at h
  cases hf:f (rev GL msk e l) with
  | none=>rw [hf] at h; cases h
  | some v =>
   rw [hf] at h
   obtain ⟨e1,l1,h1,h2⟩:=o7 h
   exact ⟨v,s,ns,e1,l1,.v hk (by rw [← hev]; exact hf),h1,h2⟩
 | r x f =>
  change xY msk o.dst (f (blk s.H.get (rev GL msk e l x)) (rev GL msk e l)) e l s (rq pe.tk ⟨pe.i,(rev GL msk e l x).asBlk,none⟩ ns) K=.go e' s' at h
  unfold xY at h
  cases hf:f (blk s.H.get (rev GL msk e l x)) (rev GL msk e l) with
  | none=>rw [hf] at h; cases h
  | some v =>
   rw [hf] at h
   obtain ⟨e1,l1,h1,h2⟩:=o7 h
   rw [uM] at h2
   exact ⟨v,s,_,e1,l1,.r hk (by rw [← hev]; exact hf),h1,h2⟩
 | b f =>
  change Cr msk pe o.dst (f (rev GL msk e l)) e l s ns K=.go e' s' at h
  unfold Cr at h
  split at h
  ·rename_i ob v hf
   rw [eX] at h
   unfold wv at h
   cases hfr:s.H.get s.nx with
   | some _=>rw [hfr] at h; cases h
   | none =>
    rw [hfr] at h
    simp only at h
    rw [Tr.putK_eq] at h
    split at h
    ·rename_i H hH
     obtain ⟨e1,l1,h1,h2⟩:=o7 h
     refine ⟨v.at s.nx,_,_,e1,l1,.b hk (by rw [← hev]; exact hf) ?_,h1,h2⟩
     unfold th wv
     rw [eX,hfr]
     simp only
     rw [Tr.putK_eq,hH]
    ·cases h
  ·cases h
 | _=>exact cc rfl h
theorem u9 {g:Option (Nat×Bool)} {d:Nat} {want:Bool} (h:lR all g=some (some (d,want))):∃ j,g=some (j,want)∧dz all j=some d:=by
 unfold lR at h
 split at h
 ·cases h
 ·split at h
  ·rename_i d' hd; cases h; exact ⟨_,rfl,hd⟩
  ·cases h
theorem vX {g:Option (Nat×Bool)} (h:lR all g=some none):g=none:=by
 unfold lR at h
 split at h
 ·rfl
 ·split at h <;> cases h
theorem IR {o:Oper} {pe:PE} {g:Option (Nat×Bool)} (hg:lR all o.guard=some g) {e:cE} {l:Lc} {s:RS} {ns:Notes} {K:K1} {e':cE} {s':RS}
  (h:(AZ msk g o.dst (kH P GL msk (rk P o) pe o.dst)).run call e l s ns K=.go e' s') :
  ∃ v s1 ns1 e1 l1,StepS P GL call all o pe (egt msk e l) s ns v s1 ns1∧egt msk e1 l1=upd (egt msk e l) o.dst v∧K e1 l1 s1 ns1=.go e' s':=by
 cases g with
 | none =>
  obtain ⟨v,s1,ns1,e1,l1,h1,h2,h3⟩:=ui h
  exact ⟨v,s1,ns1,e1,l1,.run (.inl (vX hg)) h1,h2,h3⟩
 | some p =>
  obtain ⟨d,want⟩:=p
  obtain ⟨j,hj,hd⟩:=u9 hg
  change jJ (egt msk e l d) want ((kH P GL msk (rk P o) pe o.dst).run call e l s ns K) ((jj msk o.dst).run rundef e l fun e' l'=>K e' l' s ns)=.go e' s' at h
  unfold jJ at h
  have go:(kH P GL msk (rk P o) pe o.dst).run call e l s ns K=.go e' s'→egt msk e l d=.one (.bool want) →
    ∃ v s1 ns1 e1 l1,StepS P GL call all o pe (egt msk e l) s ns v s1 ns1∧egt msk e1 l1=upd (egt msk e l) o.dst v∧K e1 l1 s1 ns1=.go e' s':=by
   intro h hb
   obtain ⟨v,s1,ns1,e1,l1,h1,h2,h3⟩:=ui h
   exact ⟨v,s1,ns1,e1,l1,.run (.inr ⟨j,want,d,hj,hd,hb⟩) h1,h2,h3⟩
  have no:((jj msk o.dst).run rundef e l fun e' l'=>K e' l' s ns)=.go e' s'→(egt msk e l d=.one (.bool (!want))∨egt msk e l d=.tup []) →
    ∃ v s1 ns1 e1 l1,StepS P GL call all o pe (egt msk e l) s ns v s1 ns1∧egt msk e1 l1=upd (egt msk e l) o.dst v∧K e1 l1 s1 ns1=.go e' s':=by
   intro h hb
   obtain ⟨e1,l1,h1,h2⟩:=o7 h
   exact ⟨rundef,s,ns,e1,l1,.skip hj hd hb,h1,h2⟩
  rcases uW h with ⟨h1,h2⟩ | ⟨b,h1,h2⟩
  ·unfold zS at h2
   split at h2
   ·rename_i hv; exact no h2 (.inr hv)
   ·cases h2
  ·have hb:=iC h1
   cases b <;> cases want
   ·exact go h2 hb
   ·exact no h2 (.inl hb)
   ·exact no h2 (.inl hb)
   ·exact go h2 hb
theorem xA:∀ (pl:Plan) {e:cE} {l:Lc} {s:RS} {ns:Notes} {e':cE} {s':RS},(eU P GL msk all pl).run call e l s ns=.go e' s' →
  ∃ recs σ',Trace P GL call all (egt msk e l) s ns pl recs σ' s'∧∃ l',σ'=egt msk e' l'
 | [],e,l,s,ns,e',s',h=>by
  cases h
  exact ⟨[],_,.nil,l,rfl⟩
 | pe :: pl,e,l,s,ns,e',s',h=>by
  change (C9 P GL msk all pe (eU P GL msk all pl)).run call e l s ns=.go e' s' at h
  unfold C9 at h
  split at h
  ·rename_i o ho
   split at h
   ·rename_i g hg
    obtain ⟨v,s1,ns1,e1,l1,h1,h2,h3⟩:=IR hg h
    obtain ⟨recs,σ',h4,h5⟩:=xA pl h3
    rw [h2] at h4
    exact ⟨_,σ',.cons ho h1 h4,h5⟩
   ·cases h
  ·cases h
theorem vC {v:RV} {want:Bool} {run skip r:Out} (h:jJ v want run skip=r):r=.no∨run=r∨skip=r:=by
 unfold jJ at h
 rcases uW h with ⟨_,h2⟩ | ⟨b,_,h2⟩
 ·unfold zS at h2
  split at h2
  ·exact .inr (.inr h2)
  ·exact .inl h2.symm
 ·cases b <;> cases want
  ·exact .inr (.inl h2)
  ·exact .inr (.inr h2)
  ·exact .inr (.inr h2)
  ·exact .inr (.inl h2)
theorem uq:∀ (pl:Plan) (e:cE) (l:Lc) (s:RS) (ns:Notes),(eU P GL msk all pl).run call e l s ns=.no∨∃ e' s',(eU P GL msk all pl).run call e l s ns=.go e' s'
 | [],e,l,s,ns=>.inr ⟨e,s,rfl⟩
 | pe :: pl,e,l,s,ns=>by
  have ih:=uq pl
  have put:∀ {dst:Option Nat} {v:RV} {e:cE} {l:Lc} {s:RS} {ns:Notes},((jj msk dst).run v e l fun e' l'=>(eU P GL msk all pl).run call e' l' s ns)=.no∨∃ e' s',((jj msk dst).run v e l fun e' l'=>(eU P GL msk all pl).run call e' l' s ns)=.go e' s':=by
   intro dst v e l s ns
   cases dst with
   | none=>exact ih e l s ns
   | some d =>
    unfold jj
    dsimp only
    cases iE msk d with
    | true =>
     simp only [cond_true]
     rw [iT,Tr.putK_eq]
     split
     ·exact ih _ l s ns
     ·exact .inl rfl
    | false =>
     simp only [cond_false]
     rw [iT]
     exact ih e _ s ns
  have cc:∀ {dst:Option Nat} {pr:Option (RV×RS)},AM msk dst pr e l ns (fun e' l' s' ns'=>(eU P GL msk all pl).run call e' l' s' ns')=.no∨∃ e' s',AM msk dst pr e l ns (fun e' l' s' ns'=>(eU P GL msk all pl).run call e' l' s' ns')=.go e' s':=by
   intro dst pr
   unfold AM
   split
   ·exact put
   ·exact .inl rfl
  have vv:∀ {dst:Option Nat} {pr:Option RV} {ns:Notes},xY msk dst pr e l s ns (fun e' l' s' ns'=>(eU P GL msk all pl).run call e' l' s' ns')=.no∨∃ e' s',xY msk dst pr e l s ns (fun e' l' s' ns'=>(eU P GL msk all pl).run call e' l' s' ns')=.go e' s':=by
   intro dst pr ns
   cases pr with
   | none=>exact .inl rfl
   | some v=>exact put
  have step:∀ (k:RK) (dst:Option Nat),(kH P GL msk k pe dst).run call e l s ns ((eU P GL msk all pl).run call)=.no∨∃ e' s',(kH P GL msk k pe dst).run call e l s ns ((eU P GL msk all pl).run call)=.go e' s':=by
   intro k dst
   have ww:(mkW P GL msk k pe dst).run call e l s ns ((eU P GL msk all pl).run call)=.no∨∃ e' s',(mkW P GL msk k pe dst).run call e l s ns ((eU P GL msk all pl).run call)=.go e' s':=by
    unfold mkW
    split
    ·exact cc
    ·exact cc
   cases k with
   | m x=>exact put
   | v f=>exact vv
   | r x f=>exact vv
   | b f =>
    change Cr msk pe dst _ e l s ns _=.no∨∃ e' s',Cr msk pe dst _ e l s ns _=.go e' s'
    unfold Cr
    split
    ·rw [eX]
     unfold wv
     cases s.H.get s.nx with
     | some _=>exact .inl rfl
     | none =>
      simp only
      rw [Tr.putK_eq]
      split
      ·exact put
      ·exact .inl rfl
    ·exact .inl rfl
   | _=>exact ww
  change (C9 P GL msk all pe (eU P GL msk all pl)).run call e l s ns=.no∨∃ e' s',(C9 P GL msk all pe (eU P GL msk all pl)).run call e l s ns=.go e' s'
  unfold C9
  split
  ·rename_i o ho
   split
   ·rename_i g hg
    cases g with
    | none=>exact step _ _
    | some p =>
     obtain ⟨d,want⟩:=p
     rcases vC (v:=egt msk e l d) (want:=want) (run:=(kH P GL msk (rk P o) pe o.dst).run call e l s ns ((eU P GL msk all pl).run call)) (skip:=(jj msk o.dst).run rundef e l fun e' l'=>(eU P GL msk all pl).run call e' l' s ns) rfl with h | h | h
     ·exact .inl h
     ·change jJ _ _ _ _=.no∨∃ e' s',jJ _ _ _ _=.go e' s'
      rw [← h]; exact step _ _
     ·change jJ _ _ _ _=.no∨∃ e' s',jJ _ _ _ _=.go e' s'
      rw [← h]; exact put
   ·exact .inl rfl
  ·exact .inl rfl
end
end Go.Rx

/-
 Regions in order; blocks put aside.
-/
namespace Go.Rx
open Go.Vm
section
variable {P:Program} {GL:List Nat} {w0:World} {call:Call1}
structure RSim (GL:List Nat) (w0:World) (N:Nat) (a:Act) (w:World) (ι : Io) (σ : Nat→RV) (s:RS):Prop where
 inv:RInv GL w0 w ι s.H.get
 top:∀ b,s.nx≤b→ι b=none
 defers:a.defers=[]
 size:N≤a.tmps.size
 env:∀ t,RelV ι (a.tmps.getD t undef) (σ t)
theorem wE {a:Act} {d:Nat} {v:Value} (h:a.tmps.getD d undef=v) (hne:v≠undef):a.tmps[d]?=some v:=by
 rw [Md] at h
 cases hg:a.tmps[d]? with
 | none=>rw [hg] at h; exact absurd h.symm hne
 | some u=>rw [hg] at h; simp at h; rw [h]
theorem qc {ops:Array Oper} {j d:Nat} (h:dz ops.toList j=some d):(ops[j]?).bind (·.dst)=some d:=by
 unfold dz at h
 rw [LO] at h
 split at h
 ·rename_i o ho; simp [ho,h]
 ·cases h
theorem sU {ι : Io} {ops:Array Oper} {o:Oper} {a:Act} {σ : Nat→RV} (hg:o.guard=none∨∃ j want d,o.guard=some (j,want)∧dz ops.toList j=some d∧σ d=.one (.bool want))
  (he:∀ j want d,o.guard=some (j,want)→dz ops.toList j=some d→RelV ι (a.tmps.getD d undef) (σ d)):Region.wanted o (yielded ops a.tmps)=true:=by
 rcases hg with hg | ⟨j,want,d,h1,h2,h3⟩
 ·simp [Region.wanted,hg]
 ·have hv:=he j want d h1 h2
  rw [h3] at hv
  have hv:=wE (rel_bool hv) (by simp [undef])
  simp [Region.wanted,h1,yielded,qc h2,hv]
theorem om {ι : Io} {ops:Array Oper} {o:Oper} {a:Act} {σ : Nat→RV} {j d:Nat} {want:Bool} (h1:o.guard=some (j,want)) (h2:dz ops.toList j=some d) (h3 : σ d=.one (.bool (!want))∨σ d=.tup [])
  (hv:RelV ι (a.tmps.getD d undef) (σ d)):Region.wanted o (yielded ops a.tmps)=false:=by
 rcases h3 with h3 | h3
 ·rw [h3] at hv
  have hv:=wE (rel_bool hv) (by simp [undef])
  simp [Region.wanted,h1,yielded,qc h2,hv]
 ·rw [h3] at hv
  obtain ⟨us,hu,hr⟩:=hv
  cases hr
  have hv:a.tmps.getD d undef=undef:=hu
  rw [Md] at hv
  simp only [Region.wanted,h1,yielded,qc h2,Option.bind_some]
  cases hg:a.tmps[d]? with
  | none=>simp
  | some v=>rw [hg] at hv; simp at hv; subst hv; simp [undef]
theorem mE {ι : Io}:RelV ι undef rundef:=Dd
theorem HG {o:Oper} {pe:PE} {σ : Nat→RV} {s s1:RS} {ns ns1:Notes} {v:RV} (h:RunS P GL call o pe σ s ns v s1 ns1) (hc:isC (rk P o)=false) {ι : Io} {a:Act} {w w0:World} (hS:∀ x∈o.op.operands,RelV ι (a.eval x) (opS GL σ x))
  (hl:∀ x f,rk P o=.r x f→nS w0 w ι (opS GL σ x) (blk s.H.get (opS GL σ x))) :
  (s1=s∧∃ u,(execOp a.eval o).run P w=.ok (.value u) w∧RelV ι u v) ∨
  (∃ ob vb,th s ob=some s1∧v=vb.at s.nx∧yY P ι a o ob vb∧ns1=rq pe.tk ⟨pe.i,none,some s.nx⟩ ns∧xB (rk P o)=true):=by
 cases h with
 | m hk =>
  obtain ⟨u,h1,h2⟩:=KJ hk hS w
  exact .inl ⟨rfl,u,h1,h2⟩
 | v hk h1 =>
  obtain ⟨u,h1,h2⟩:=KG hk h1 hS w
  exact .inl ⟨rfl,u,h1,h2⟩
 | r hk h1 =>
  obtain ⟨u,h1,h2⟩:=KF hk h1 hS (hl _ _ hk)
  exact .inl ⟨rfl,u,h1,h2⟩
 | b hk h1 h2=>exact .inr ⟨_,_,h2,rfl,Kx hk h1 hS,rfl,by rw [hk]; rfl⟩
 | c hk _=>rw [hc] at hk; cases hk
theorem wt {ι : Io} {w w0:World} {h:Hp} (hi:∀ b o,h b=some o→RBlk w0 w ι b o) (x:RV):nS w0 w ι x (blk h x):=by
 intro o' ho'
 unfold blk at ho'
 rcases uW ho' with ⟨_,h2⟩ | ⟨b,h1,h2⟩
 ·cases h2
 ·exact ⟨b,h1,hi b o' h2⟩
theorem E0 (hC:jW P GL call) {N:Nat} {a:Act} {w:World} {ι : Io} {σ : Nat→RV} {s:RS} (hs:RSim GL w0 N a w ι σ s) {ops:Array Oper} {Q:Exit→Act→World→Prop} {i:Nat} {o:Oper} (ho:ops[i]?=some o) {pe:PE} (hun:pe.un=[]) {ns ns1:Notes} {v:RV} {s1:RS}
  (h:StepS P GL call ops.toList o pe σ s ns v s1 ns1) (hd:∀ d,o.dst=some d→d < N) {K:Act→World→Prop} (hK:∀ a' w' ι',Go1 GL w0 s.nx w ι s.H.get s1.nx w' ι' s1.H.get→RSim GL w0 N a' w' ι' (upd σ o.dst v) s1→K a' w'):wpOp P ops Q i K a w:=by
 have hd':∀ d,o.dst=some d→d < a.tmps.size:=fun d hq=>LA (hd d hq) hs.size
 have hS:∀ x∈o.op.operands,RelV ι (a.eval x) (opS GL σ x):=fun x _=>uV hs.inv.glob fun t _=>hs.env t
 have fin:∀ u w' ι',Go1 GL w0 s.nx w ι s.H.get s1.nx w' ι' s1.H.get→RelV ι' u v→K (a.put o.dst u) w':=by
  intro u w' ι' g hu
  refine hK _ _ _ g ⟨g.inv,g.top,?_,?_,?_⟩
  ·cases hq:o.dst <;> exact hs.defers
  ·cases hq:o.dst with
   | none=>exact hs.size
   | some d=>simpa [Act.put] using hs.size
  ·intro t
   rw [kL a o.dst u hd']
   unfold upd
   split
   ·exact hu
   ·exact (hs.env t).mono g.le
 unfold wpOp
 rw [ho]
 simp only
 cases h with
 | skip hg hsl hv =>
  rw [om hg hsl hv (hs.env _)]
  simp only [LR,if_false]
  exact fin undef w ι (Go1.refl hs.inv hs.top) mE
 | run hg hr =>
  rw [sU (ι:=ι) hg fun j want d _ _=>hs.env d]
  simp only [if_true]
  refine .inl ?_
  cases hc:isC (rk P o) with
  | false =>
   rcases HG hr hc hS (w0:=w0) (w:=w) (fun x f _=>wt hs.inv.blk _) with ⟨rfl,u,h1,h2⟩ | ⟨ob,vb,h1,rfl,h2,_⟩
   ·exact Does.value (R:=fun u w'=>∃ ι',Go1 GL w0 s1.nx w ι s1.H.get s1.nx w' ι' s1.H.get∧RelV ι' u v) h1 ⟨ι,Go1.refl hs.inv hs.top,h2⟩ K Q fun u w' ⟨ι',h3,h4⟩=>fin u w' ι' h3 h4
   ·obtain ⟨u,w',L,r1,r2,r3,r4,r5⟩:=h2 w
    obtain ⟨e1,e2⟩:=dW h1
    obtain ⟨q1,q2⟩:=r5 w0 s.nx hs.inv.kept.size (hs.top s.nx (A7 _))
    refine Does.value (R:=fun u w'=>∃ ι',Go1 GL w0 s.nx w ι s.H.get s1.nx w' ι' s1.H.get∧RelV ι' u (vb.at s.nx)) r1 ⟨_,?_,q2⟩ K Q fun u w' ⟨ι',h3,h4⟩=>fin u w' ι' h3 h4
    rw [e1,e2]
    exact Go1.new hs.inv hs.top r2 (OC r3.symm) r4 q1
  | true =>
   cases hr with
   | m hk=>rw [hk] at hc; cases hc
   | v hk _=>rw [hk] at hc; cases hc
   | r hk _=>rw [hk] at hc; cases hc
   | b hk _ _=>rw [hk] at hc; cases hc
   | c _ h1 =>
    unfold rcX at h1
    rw [hun] at h1
    exact JX hC h1 hS w hs.inv hs.top K Q fun u w' ⟨ι',h3,h4⟩=>fin u w' ι' h3 h4
theorem IE (hC:jW P GL call) {N:Nat} {ops:Array Oper} {Q:Exit→Act→World→Prop} (hd:∀ o∈ops.toList,∀ d,o.dst=some d→d < N) {σ σ':Nat→RV} {s s':RS} {ns:Notes} {pl:Plan} {recs:List Rec} (h:Trace P GL call ops.toList σ s ns pl recs σ' s')
  (hun:∀ pe∈pl,pe.un=[]):∀ {a:Act} {w:World} {ι : Io},RSim GL w0 N a w ι σ s→(∀ a' w' ι',Go1 GL w0 s.nx w ι s.H.get s'.nx w' ι' s'.H.get→RSim GL w0 N a' w' ι' σ' s'→Q .normal a' w')→wpOps P ops Q (pl.map (·.i)) a w:=by
 induction h with
 | nil=>intro a w ι hs hQ; exact hQ a w ι (Go1.refl hs.inv hs.top) hs
 | cons ho hst t ih =>
  intro a w ι hs hQ
  simp only [List.map_cons]
  rw [wpOps_cons]
  have ho':=ho
  rw [LO] at ho'
  refine E0 hC hs ho' (hun _ (LL ..)) hst (hd _ (B2 ho)) fun a' w' ι' g hs'=>?_
  exact ih (fun pe hpe=>hun pe (Ll _ hpe)) hs' fun a2 w2 ι2 g2 hs2=>hQ a2 w2 ι2 (g.trans g2) hs2
theorem pG:∀ (l:List Oper) (k:Nat),(iy k l).map (·.i)=List.range' k l.length∧∀ pe∈iy k l,pe.un=[]
 | [],k=>⟨rfl,by simp [iy]⟩
 | o :: l,k=>by
  obtain ⟨h1,h2⟩:=pG l (k+1)
  refine ⟨?_,?_⟩
  ·show k :: (iy (k+1) l).map (·.i)=_
   rw [h1]; rfl
  ·intro pe hpe
   change pe∈⟨k,false,[]⟩ :: iy (k+1) l at hpe
   rcases B3.1 hpe with rfl | hpe
   ·rfl
   ·exact h2 pe hpe
noncomputable def gn (un:List Nat) (ns:Notes):List Nat:=ns.flatMap fun n=>cond (inL un n.i) (n.rd.toList++n.nw.toList) []
noncomputable def kF (un:List Nat) (ns:Notes):List Nat:=ns.flatMap fun n=>cond (inL un n.i) n.nw.toList []
structure AsideOK (s s1:RS) (ids nws:List Nat):Prop where
 nx:s1.nx=s.nx
 weak:∀ b o',s1.H.get b=some o'→o'=.dead∨∃ o,s.H.get b=some o∧(o'=o∨∃ t n,o=.cells t n∧o'=.ro t n)
 low:∀ b∈ids,∀ o',s1.H.get b=some o'→kq o'=false
 gone:∀ b∈nws,s1.H.get b=some .dead
theorem w6 {s s1 s2:RS} {ids nws:List Nat} (h:AsideOK s s1 ids nws) {b:Option Nat} {made:Bool} (h2:pI b made (some s1)=some s2):AsideOK s s2 (b.toList++ids) (cond made b.toList []++nws):=by
 cases b with
 | none =>
  cases h2
  cases made <;> simpa using h
 | some b =>
  unfold pI at h2
  have put:∀ {o:RO},iJ s1 b o=some s2→kq o=false→(o=.dead∨∃ t n,s1.H.get b=some (.cells t n)∧o=.ro t n)→(made=true→o=.dead)→(b∈nws→o=.dead) →
    AsideOK s s2 (b :: ids) (cond made [b] []++nws):=by
   intro o hset ho hw hm hg
   obtain ⟨e1,e2⟩:=dP hset
   refine ⟨e2.trans h.nx,?_,?_,?_⟩
   ·intro b' o' hb'
    rw [e1] at hb'
    unfold Hp.set at hb'
    split at hb'
    ·rename_i e; subst e; cases hb'
     rcases hw with hw | ⟨t,n,h3,h4⟩
     ·exact .inl hw
     ·rcases h.weak b' _ h3 with h5 | ⟨o1,h5,h6 | ⟨t',n',h6,h7⟩⟩
      ·cases h5
      ·exact .inr ⟨o1,h5,.inr ⟨t,n,h6.symm,h4⟩⟩
      ·cases h7
    ·exact h.weak b' o' hb'
   ·intro b' hb' o' ho'
    rw [e1] at ho'
    unfold Hp.set at ho'
    split at ho'
    ·cases ho'; exact ho
    ·rename_i e
     rcases B3.1 hb' with h3 | h3
     ·exact absurd h3 e
     ·exact h.low b' h3 o' ho'
   ·intro b' hb'
    rw [e1]
    unfold Hp.set
    split
    ·rename_i e
     subst e
     congr 1
     rcases B1.1 hb' with h3 | h3
     ·cases made with
      | false=>cases h3
      | true=>exact hm rfl
     ·exact hg h3
    ·rename_i e
     rcases B1.1 hb' with h3 | h3
     ·cases made with
      | false=>cases h3
      | true=>simp at h3; exact absurd h3 e
     ·exact h.gone b' h3
  cases made with
  | true=>exact put (show iJ s1 b .dead=some s2 from h2) rfl (.inl rfl) (fun _=>rfl) (fun _=>rfl)
  | false =>
   change (match s1.H.get b with | some (.cells t m)=>iJ s1 b (.ro t m) | some (.map _)=>iJ s1 b .dead | _=>some s1)=some s2 at h2
   split at h2
   ·rename_i t m hb
    exact put h2 rfl (.inr ⟨t,m,hb,rfl⟩) (fun h=>by cases h) (fun hb'=>by have:=h.gone b hb'; rw [hb] at this; cases this)
   ·exact put h2 rfl (.inl rfl) (fun h=>by cases h) (fun _=>rfl)
   ·rename_i hn1 hn2
    cases h2
    refine ⟨h.nx,h.weak,?_,h.gone⟩
    intro b' hb' o' ho'
    rcases B3.1 hb' with h3 | h3
    ·subst h3
     cases o' with
     | cells t m=>exact absurd ho' (hn1 t m)
     | map es=>exact absurd ho' (hn2 es)
     | _=>rfl
    ·exact h.low b' h3 o' ho'
theorem kR {un:List Nat} {s:RS}:∀ {ns:Notes} {s1:RS},gl un s ns=some s1→AsideOK s s1 (gn un ns) (kF un ns)
 | [],s1,h=>by cases h; exact ⟨rfl,fun b o' h=>.inr ⟨o',h,.inl rfl⟩,(fun b hb=>by cases hb),(fun b hb=>by cases hb)⟩
 | n :: r,s1,h=>by
  unfold gl at h
  cases hin:inL un n.i with
  | false =>
   rw [hin] at h
   have:=kR (ns:=r) h
   simpa [gn,kF,hin] using this
  | true =>
   rw [hin] at h
   change pI n.nw true (pI n.rd false (gl un s r))=some s1 at h
   cases h1:gl un s r with
   | none=>rw [h1] at h; cases hrd:n.rd <;> rw [hrd] at h <;> (cases hnw:n.nw <;> rw [hnw] at h <;> cases h)
   | some q =>
    rw [h1] at h
    have i1:=kR h1
    cases h2:pI n.rd false (some q) with
    | none=>rw [h2] at h; cases hnw:n.nw <;> rw [hnw] at h <;> cases h
    | some q2 =>
     rw [h2] at h
     have i2:=w6 (made:=false) i1 h2
     have i3:=w6 (made:=true) i2 h
     refine ⟨i3.nx,i3.weak,fun b hb=>i3.low b ?_,fun b hb=>i3.gone b ?_⟩
     ·simp only [gn,MM,hin,cond_true,B1] at hb ⊢
      rcases hb with (hb | hb) | hb
      ·exact .inr (.inl hb)
      ·exact .inl hb
      ·exact .inr (.inr hb)
     ·simpa [kF,hin] using hb
def AU (s0 s2 s3:RS) (ids:List Nat):Prop:=s3.nx=s2.nx∧(∀ b∈ids,(s0.H.get b).isSome=true→s3.H.get b=s0.H.get b)∧∀ b,(b∉ids∨s0.H.get b=none)→s3.H.get b=s2.H.get b
theorem uy {s0 s2 q q':RS} {b:Option Nat} {ids:List Nat} (h:lg b s0 (some q)=some q') (hq:AU s0 s2 q ids):AU s0 s2 q' (b.toList++ids):=by
 cases b with
 | none=>cases h; exact hq
 | some b =>
  obtain ⟨h1,h2,h3⟩:=hq
  change (match s0.H.get b with | some o=>iJ q b o | none=>some q)=some q' at h
  split at h
  ·rename_i o ho
   obtain ⟨e1,e2⟩:=dP h
   refine ⟨e2.trans h1,?_,?_⟩
   ·intro b' hb' hs
    rw [e1]
    unfold Hp.set
    by_cases e:b'=b
    ·subst e; rw [if_pos rfl,ho]
    ·rw [if_neg e]
     rcases B3.1 hb' with h4 | h4
     ·exact absurd h4 e
     ·exact h2 b' h4 hs
   ·intro b' hb'
    rw [e1]
    unfold Hp.set
    by_cases e:b'=b
    ·subst e
     rcases hb' with hb' | hb'
     ·exact absurd (by simp) hb'
     ·rw [ho] at hb'; cases hb'
    ·rw [if_neg e]
     exact h3 b' (hb'.imp (fun h5 h6=>h5 (Ll _ h6)) id)
  ·rename_i ho
   cases h
   refine ⟨h1,?_,?_⟩
   ·intro b' hb' hs
    rcases B3.1 hb' with h4 | h4
    ·subst h4; rw [ho] at hs; cases hs
    ·exact h2 b' h4 hs
   ·intro b' hb'
    exact h3 b' (hb'.imp (fun h5 h6=>h5 (Ll _ h6)) id)
theorem sT {un:List Nat} {s0 s2:RS}:∀ {ns:Notes} {s3:RS},fZ un s0 s2 ns=some s3→AU s0 s2 s3 (gn un ns)
 | [],s3,h=>by cases h; exact ⟨rfl,(fun b hb=>by cases hb),fun b _=>rfl⟩
 | n :: r,s3,h=>by
  unfold fZ at h
  cases hin:inL un n.i with
  | false =>
   rw [hin] at h
   have:=sT (ns:=r) h
   simpa [gn,hin] using this
  | true =>
   rw [hin] at h
   change lg n.nw s0 (lg n.rd s0 (fZ un s0 s2 r))=some s3 at h
   cases h1:fZ un s0 s2 r with
   | none=>rw [h1] at h; cases hrd:n.rd <;> rw [hrd] at h <;> (cases hnw:n.nw <;> rw [hnw] at h <;> cases h)
   | some q =>
    rw [h1] at h
    cases h2:lg n.rd s0 (some q) with
    | none=>rw [h2] at h; cases hnw:n.nw <;> rw [hnw] at h <;> cases h
    | some q2 =>
     rw [h2] at h
     obtain ⟨i1,i2,i3⟩:=uy h (uy h2 (sT h1))
     have hm:∀ b,(b∈n.nw.toList++(n.rd.toList++gn un r))↔b∈gn un (n :: r):=by
      intro b
      simp only [gn,MM,hin,cond_true,B1]
      constructor
      ·intro h
       rcases h with h | h | h
       ·exact Or.inl (Or.inr h)
       ·exact Or.inl (Or.inl h)
       ·exact Or.inr h
      ·intro h
       rcases h with (h | h) | h
       ·exact Or.inr (Or.inl h)
       ·exact Or.inl h
       ·exact Or.inr (Or.inr h)
     exact ⟨i1,fun b hb=>i2 b ((hm b).2 hb),fun b hb=>i3 b (hb.imp (fun h5 h6=>h5 ((hm b).1 h6)) id)⟩
theorem Fj {un:List Nat} {k:RK} {ev:Ev} {s s':RS} {ns:Notes} {v:RV} (h:rcU P call un k ev s ns=some (v,s')):∃ s1 s2,gl un s ns=some s1∧rc P call k ev s1=some (v,s2)∧fZ un s s2 ns=some s':=by
 unfold rcU at h
 split at h
 ·rename_i s1 h1
  unfold Ho at h
  split at h
  ·rename_i v' s2 h2
   split at h
   ·rename_i s3 h3
    cases h
    exact ⟨s1,s2,h1,h2,h3⟩
   ·cases h
  ·cases h
 ·cases h
end
end Go.Rx

/-
 Regions in no fixed order: what is looked over beforehand.
-/
namespace Go.Rx
open Go.Vm
inductive Bef (ops:Array Oper):Nat→Nat→Prop
 | one {i:Nat} {o:Oper} {e:Edge} (ho:ops[i]?=some o) (he:e∈o.after.toList) (hb:Region.binds .any e=true):Bef ops i e.on
 | more {i j:Nat} {o:Oper} {e:Edge} (ho:ops[i]?=some o) (he:e∈o.after.toList) (hb:Region.binds .any e=true) (h:Bef ops e.on j):Bef ops i j
noncomputable section
section
variable (P:Program) (ops:Array Oper)
def sF:List (Nat×Nat)→Nat→Nat
 | [],_=>0
 | p :: r,i=>cond (A8 p.1 i) p.2 (sF r i)
def jz (tab:List (Nat×Nat)):List Edge→Nat
 | []=>0
 | e :: r=>cond (Region.binds .any e) ((2 ^ e.on ||| sF tab e.on) ||| jz tab r) (jz tab r)
def HA (o o':Oper):Bool:=match o.dst,o'.dst with
 | some d,some d'=>!(A8 d d')
 | _,_=>true
def uH (m:Nat) (pe:PE) (o:Oper) (q:PE) (o':Oper):Bool :=
 !(A8 q.i pe.i) && HA o o' && (bit m q.i || (!isC (rk P o') && Oper.apart ops o' o && (!isC (rk P o) || !xB (rk P o') || (q.tk && inL pe.un q.i))))
def Eq (pre:List (PE×Oper)) (e:Edge):Bool:=!Region.binds .any e || pre.any fun p=>A8 p.1.i e.on
def qu:Plan→List (PE×Oper)→List (Nat×Nat)→Bool
 | [],_,_=>true
 | pe :: r,pre,tab=>match ops[pe.i]? with
  | none=>false
  | some o=>(o.after.toList.all (Eq pre) && pre.all fun p=>uH P ops (jz tab o.after.toList) pe o p.1 p.2) && qu r ((pe,o) :: pre) ((pe.i,jz tab o.after.toList) :: tab)
def z6 (pl:Plan):Bool:=qu P ops pl [] [] && (Le ops.size).all fun i=>pl.any fun pe=>A8 pe.i i
end
end
section
variable {P:Program} {ops:Array Oper}
def BA (ops:Array Oper) (tab:List (Nat×Nat)):Prop:=∀ i j,bit (sF tab i) j=true→Bef ops i j
theorem Ff {a b j:Nat} (h:bit (a ||| b) j=true):bit a j=true∨bit b j=true:=by
 rw [lM,Nat.testBit_or,LV] at h
 exact h.imp lM.2 lM.2
theorem GD {n j:Nat} (h:bit (2 ^ n) j=true):n=j:=by
 rw [lM,Nat.testBit_two_pow] at h
 simpa using h
theorem xg {j:Nat} (h:bit 0 j=true):False:=by
 rw [lM,Nat.zero_testBit] at h
 cases h
theorem lK {tab:List (Nat×Nat)} (ht:BA ops tab) {i:Nat} {o:Oper} (ho:ops[i]?=some o) {j:Nat}:∀ {l:List Edge},(∀ e∈l,e∈o.after.toList)→bit (jz tab l) j=true→Bef ops i j
 | [],_,h=>(xg h).elim
 | e :: r,hl,h=>by
  unfold jz at h
  cases hb:Region.binds .any e with
  | false=>rw [hb] at h; exact lK ht ho (fun x hx=>hl x (Ll _ hx)) h
  | true =>
   rw [hb] at h
   rcases Ff (show bit ((2 ^ e.on ||| sF tab e.on) ||| jz tab r) j=true from h) with h | h
   ·rcases Ff h with h | h
    ·rw [← GD h]; exact .one ho (hl e (LL ..)) hb
    ·exact .more ho (hl e (LL ..)) hb (ht _ _ h)
   ·exact lK ht ho (fun x hx=>hl x (Ll _ hx)) h
def uS (P:Program) (ops:Array Oper) (pe:PE) (o:Oper) (q:PE) (o':Oper):Prop :=
 q.i≠pe.i∧(∀ d,o.dst=some d→o'.dst≠some d)∧(Bef ops pe.i q.i∨(isC (rk P o')=false∧Oper.apart ops o' o=true∧(isC (rk P o)=true→xB (rk P o')=true→q.tk=true∧inL pe.un q.i=true)))
theorem zL {tab:List (Nat×Nat)} (ht:BA ops tab) {pe q:PE} {o o':Oper} (ho:ops[pe.i]?=some o) (h:uH P ops (jz tab o.after.toList) pe o q o'=true):uS P ops pe o q o':=by
 unfold uH at h
 simp only [A4,LV] at h
 obtain ⟨⟨h1,h2⟩,h3⟩:=h
 refine ⟨?_,?_,?_⟩
 ·intro e
  rw [e,Nat.beq_refl] at h1
  cases h1
 ·intro d hd hd'
  unfold HA at h2
  rw [hd,hd'] at h2
  simp at h2
 ·rcases h3 with h3 | ⟨⟨h3,h4⟩,h5⟩
  ·exact .inl (lK ht ho (fun e he=>he) h3)
  ·refine .inr ⟨by simpa using h3,h4,fun hc hn=>?_⟩
   rcases h5 with (h5 | h5) | h5
   ·rw [hc] at h5; cases h5
   ·rw [hn] at h5; cases h5
   ·exact h5
structure PlanOK (P:Program) (ops:Array Oper) (pl:Plan):Prop where
 op:∀ (t:Nat) (pe:PE),pl[t]?=some pe→∃ o,ops[pe.i]?=some o
 sur:∀ i,i < ops.size→∃ (t:Nat) (pe:PE),pl[t]?=some pe∧pe.i=i
 pred:∀ (t:Nat) (pe:PE) (o:Oper) (e:Edge),pl[t]?=some pe→ops[pe.i]?=some o→e∈o.after.toList→Region.binds .any e=true→∃ (t':Nat) (q:PE),t' < t∧pl[t']?=some q∧q.i=e.on
 pair:∀ (t' t:Nat) (q pe:PE) (o' o:Oper),t' < t→pl[t']?=some q→pl[t]?=some pe→ops[q.i]?=some o'→ops[pe.i]?=some o→uS P ops pe o q o'
theorem se:∀ {pl:Plan} {pre:List (PE×Oper)} {tab:List (Nat×Nat)},qu P ops pl pre tab=true→BA ops tab →
  ∀ (t:Nat) (pe:PE),pl[t]?=some pe→∃ o,ops[pe.i]?=some o∧(∀ e∈o.after.toList,Region.binds .any e=true→(∃ p∈pre,p.1.i=e.on)∨∃ (t':Nat) (q:PE),t' < t∧pl[t']?=some q∧q.i=e.on) ∧
   (∀ p∈pre,uS P ops pe o p.1 p.2)∧∀ (t':Nat) (q:PE) (o':Oper),t' < t→pl[t']?=some q→ops[q.i]?=some o'→uS P ops pe o q o'
 | [],pre,tab,_,_,t,pe,h=>by simp at h
 | x :: r,pre,tab,h,ht,t,pe,hpe=>by
  unfold qu at h
  split at h
  ·cases h
  ·rename_i o ho
   simp only [A4] at h
   obtain ⟨⟨h1,h2⟩,h3⟩:=h
   rw [Lg] at h1 h2
   cases t with
   | zero =>
    simp at hpe
    subst hpe
    refine ⟨o,ho,fun e he hb=>?_,fun p hp=>zL ht ho (h2 p hp),fun t' q o' ht'=>absurd ht' (Nat.not_lt_zero _)⟩
    have:=h1 e he
    unfold Eq at this
    rw [hb] at this
    simp only [Bool.not_true,MC,L9] at this
    obtain ⟨p,hp,hq⟩:=this
    exact .inl ⟨p,hp,A5 hq⟩
   | succ t =>
    have htab:BA ops ((x.i,jz tab o.after.toList) :: tab):=by
     intro i j hb
     unfold sF at hb
     cases hi:A8 x.i i with
     | true =>
      rw [hi] at hb
      rw [← A5 hi]
      exact lK ht ho (fun e he=>he) hb
     | false=>rw [hi] at hb; exact ht i j hb
    obtain ⟨o2,k1,k2,k3,k4⟩:=se h3 htab t pe (by simpa using hpe)
    refine ⟨o2,k1,fun e he hb=>?_,fun p hp=>k3 p (Ll _ hp),fun t' q o' ht' hq ho'=>?_⟩
    ·rcases k2 e he hb with ⟨p,hp,hpi⟩ | ⟨t',q,ht',hq,hqi⟩
     ·rcases B3.1 hp with rfl | hp
      ·exact .inr ⟨0,x,Nat.succ_pos _,rfl,hpi⟩
      ·exact .inl ⟨p,hp,hpi⟩
     ·exact .inr ⟨t'+1,q,by omega,by simpa using hq,hqi⟩
    ·cases t' with
     | zero =>
      simp at hq
      subst hq
      rw [ho] at ho'
      cases ho'
      exact k3 (x,o) (LL ..)
     | succ t'=>exact k4 t' q o' (by omega) (by simpa using hq) ho'
theorem CM {pl:Plan} (h:z6 P ops pl=true):PlanOK P ops pl:=by
 unfold z6 at h
 simp only [A4] at h
 obtain ⟨h1,h2⟩:=h
 have key:=se h1 (fun i j hb=>(xg hb).elim)
 refine ⟨fun t pe hpe=>let ⟨o,k1,_⟩:=key t pe hpe; ⟨o,k1⟩,?_,?_,?_⟩
 ·intro i hi
  rw [Lg] at h2
  have:=h2 i (Ma.2 hi)
  rw [L9] at this
  obtain ⟨pe,h3,h4⟩:=this
  obtain ⟨t,h5⟩:=List.mem_iff_getElem?.1 h3
  exact ⟨t,pe,h5,A5 h4⟩
 ·intro t pe o e hpe ho he hb
  obtain ⟨o',k1,k2,_⟩:=key t pe hpe
  rw [ho] at k1
  cases k1
  rcases k2 e he hb with ⟨p,hp,_⟩ | h
  ·cases hp
  ·exact h
 ·intro t' t q pe o' o ht hq hpe ho' ho
  obtain ⟨o2,k1,_,_,k4⟩:=key t pe hpe
  rw [ho] at k1
  cases k1
  exact k4 t' q o' ht hq ho'
end
structure Path (P:Program) (GL:List Nat) (call:Call1) (ops:Array Oper) (pl:Plan) where
 Sg:Nat→Nat→RV
 St:Nat→RS
 Ns:Nat→Notes
 V:Nat→RV
 step:∀ (t:Nat) (pe:PE) (o:Oper),pl[t]?=some pe→ops[pe.i]?=some o→StepS P GL call ops.toList o pe (Sg t) (St t) (Ns t) (V t) (St (t+1)) (Ns (t+1))∧Sg (t+1)=upd (Sg t) o.dst (V t)
section
variable {P:Program} {GL:List Nat} {call:Call1} {ops:Array Oper}
theorem vP {σ σ':Nat→RV} {s s':RS} {ns:Notes} {pl:Plan} {recs:List Rec} (h:Trace P GL call ops.toList σ s ns pl recs σ' s') :
  ∃ π : Path P GL call ops pl,π.Sg 0=σ∧π.St 0=s∧π.Sg pl.length=σ'∧π.St pl.length=s'∧π.Ns 0=ns:=by
 induction h with
 | @nil σ s ns=>exact ⟨⟨fun _=>σ,fun _=>s,fun _=>ns,fun _=>.unk,fun t pe o h=>by simp at h⟩,rfl,rfl,rfl,rfl,rfl⟩
 | @cons σ s ns pe pl o v s1 ns1 recs σ' s' ho hst t ih =>
  obtain ⟨π,h1,h2,h3,h4,h5⟩:=ih
  refine ⟨⟨fun t=>Nat.casesOn t σ π.Sg,fun t=>Nat.casesOn t s π.St,fun t=>Nat.casesOn t ns π.Ns,fun t=>Nat.casesOn t v π.V,?_⟩,rfl,rfl,h3,h4,rfl⟩
  intro t pe' o' hpe ho'
  cases t with
  | zero =>
   simp at hpe
   subst hpe
   rw [LO] at ho
   rw [ho] at ho'
   cases ho'
   refine ⟨?_,?_⟩
   ·show StepS P GL call ops.toList o pe σ s ns v (π.St 0) (π.Ns 0)
    rw [h2,h5]; exact hst
   ·show π.Sg 0=_
    rw [h1]; rfl
  | succ t=>exact π.step t pe' o' (by simpa using hpe) ho'
theorem CF {s s':RS} {ob:RO} (h:th s ob=some s'):s.H.get s.nx=none:=by
 unfold th at h
 rw [eX] at h
 exact (tu h).1
variable {pl:Plan} (π : Path P GL call ops pl)
theorem Path.first {t:Nat} {pe:PE} {o:Oper} (hpe:pl[t]?=some pe) (ho:ops[pe.i]?=some o) (hc:isC (rk P o)=false) :
  (π.St (t+1)=π.St t)∨∃ ob,(π.St t).H.get (π.St t).nx=none∧(π.St (t+1)).H.get=Hp.set (π.St t).H.get (π.St t).nx ob∧(π.St (t+1)).nx=(π.St t).nx+1∧xB (rk P o)=true∧(pe.tk=true→⟨pe.i,none,some (π.St t).nx⟩∈π.Ns (t+1)):=by
 have h:=(π.step t pe o hpe ho).1
 generalize π.St (t+1)=s1 at h ⊢
 generalize π.Ns (t+1)=ns1 at h ⊢
 generalize π.V t=v at h
 cases h with
 | skip=>exact .inl rfl
 | run hg hr =>
  cases hr with
  | m _=>exact .inl rfl
  | v _ _=>exact .inl rfl
  | r _ _=>exact .inl rfl
  | b hk h1 h2 =>
   obtain ⟨e1,e2⟩:=dW h2
   refine .inr ⟨_,CF h2,e1,e2,by rw [hk]; rfl,fun ht=>?_⟩
   unfold rq
   rw [ht]
   exact LL ..
  | c hk _=>rw [hc] at hk; cases hk
theorem Path.notes {t:Nat} {pe:PE} {o:Oper} (hpe:pl[t]?=some pe) (ho:ops[pe.i]?=some o):∀ n∈π.Ns t,n∈π.Ns (t+1):=by
 have h:=(π.step t pe o hpe ho).1
 generalize π.St (t+1)=s1 at h
 generalize π.Ns (t+1)=ns1 at h ⊢
 generalize π.V t=v at h
 intro n hn
 cases h with
 | skip=>exact hn
 | run hg hr =>
  cases hr with
  | m _=>exact hn
  | v _ _=>exact hn
  | r _ _=>unfold rq; cases pe.tk <;> simp [hn]
  | b _ _ _=>unfold rq; cases pe.tk <;> simp [hn]
  | c _ _=>exact hn
theorem Path.notes_le (hp:PlanOK P ops pl) {t t':Nat} (hle:t≤t') (hl:t'≤pl.length):∀ n∈π.Ns t,n∈π.Ns t':=by
 induction t' with
 | zero =>
  have:t=0:=by omega
  subst this
  exact fun n h=>h
 | succ t' ih =>
  rcases Me t (t'+1) with h | h
  ·intro n hn
   have hpe:pl[t']?=some pl[t']:=A2 (by omega)
   obtain ⟨o,ho⟩:=hp.op _ _ hpe
   exact π.notes hpe ho n (ih (by omega) (by omega) n hn)
  ·have:t=t'+1:=by omega
   subst this; exact fun n h=>h
theorem Gz {un:List Nat} {ns:Notes} {n:Note} (hn:n∈ns) (hu:inL un n.i=true) {b:Nat} (hb:n.rd=some b∨n.nw=some b):b∈gn un ns:=by
 unfold gn
 rw [MT]
 refine ⟨n,hn,?_⟩
 rw [hu]
 simp only [cond_true,B1]
 rcases hb with hb | hb
 ·left; rw [hb]; simp
 ·right; rw [hb]; simp
theorem Dn {un:List Nat} {ns:Notes} {n:Note} (hn:n∈ns) (hu:inL un n.i=true) {b:Nat} (hb:n.nw=some b):b∈kF un ns:=by
 unfold kF
 rw [MT]
 refine ⟨n,hn,?_⟩
 rw [hu]
 simp [hb]
theorem Path.second {t:Nat} {pe:PE} {o:Oper} (hpe:pl[t]?=some pe) (ho:ops[pe.i]?=some o) (hc:isC (rk P o)=true) :
  (π.St (t+1)=π.St t∧π.V t=rundef∧∃ j want d,o.guard=some (j,want)∧dz ops.toList j=some d∧(π.Sg t d=.one (.bool (!want))∨π.Sg t d=.tup [])) ∨
  ((o.guard=none∨∃ j want d,o.guard=some (j,want)∧dz ops.toList j=some d∧π.Sg t d=.one (.bool want)) ∧
   ∃ s1 s2,AsideOK (π.St t) s1 (gn pe.un (π.Ns t)) (kF pe.un (π.Ns t))∧rc P call (rk P o) (opS GL (π.Sg t)) s1=some (π.V t,s2)∧AU (π.St t) s2 (π.St (t+1)) (gn pe.un (π.Ns t))):=by
 have h:=(π.step t pe o hpe ho).1
 generalize π.St (t+1)=s1 at h ⊢
 generalize π.Ns (t+1)=ns1 at h
 generalize π.V t=v at h ⊢
 cases h with
 | skip hg hd hv=>exact .inl ⟨rfl,rfl,_,_,_,hg,hd,hv⟩
 | run hg hr =>
  refine .inr ⟨hg,?_⟩
  cases hr with
  | m hk=>rw [hk] at hc; cases hc
  | v hk _=>rw [hk] at hc; cases hc
  | r hk _=>rw [hk] at hc; cases hc
  | b hk _ _=>rw [hk] at hc; cases hc
  | c _ h1 =>
   unfold rcX at h1
   split at h1
   ·rename_i hun
    rw [hun]
    have hids:∀ ns,gn [] ns=[]:=by intro ns; unfold gn; induction ns with | nil=>rfl | cons n r ih=>simp [inL]
    have hnws:∀ ns,kF [] ns=[]:=by intro ns; unfold kF; induction ns with | nil=>rfl | cons n r ih=>simp [inL]
    rw [hids,hnws]
    exact ⟨π.St t,s1,⟨rfl,fun b o' h=>.inr ⟨o',h,.inl rfl⟩,(fun b hb=>by cases hb),(fun b hb=>by cases hb)⟩,h1,rfl,(fun b hb=>by cases hb),fun b _=>rfl⟩
   ·rename_i x r hun
    rw [hun]
    obtain ⟨q1,q2,h2,h3,h4⟩:=Fj h1
    exact ⟨q1,q2,kR h2,h3,sT h4⟩
theorem Path.stable (hp:PlanOK P ops pl) {t T b:Nat} {ob:RO} (hle:t≤T) (hT:T≤pl.length) (hb:(π.St t).H.get b=some ob)
  (hC:∀ (q:Nat) (pe:PE) (o:Oper),t≤q→q < T→pl[q]?=some pe→ops[pe.i]?=some o→isC (rk P o)=true→b∈gn pe.un (π.Ns q)):(π.St T).H.get b=some ob:=by
 induction T with
 | zero =>
  have:t=0:=by omega
  subst this
  exact hb
 | succ T ih =>
  rcases Me t (T+1) with h | h
  ·have ih:=ih (by omega) (by omega) fun q pe o h1 h2=>hC q pe o h1 (by omega)
   have hpe:pl[T]?=some pl[T]:=A2 (by omega)
   obtain ⟨o,ho⟩:=hp.op _ _ hpe
   cases hc:isC (rk P o) with
   | false =>
    rcases π.first hpe ho hc with e | ⟨ob',e1,e2,_⟩
    ·rw [e]; exact ih
    ·rw [e2]
     unfold Hp.set
     rw [if_neg ?_]; exact ih
     intro e
     rw [e,e1] at ih
     cases ih
   | true =>
    have hm:=hC T _ o (by omega) (Mf _) hpe ho hc
    rcases π.second hpe ho hc with ⟨e,_⟩ | ⟨_,s1,s2,_,_,g1,g2,g3⟩
    ·rw [e]; exact ih
    ·rw [g2 b hm (by rw [ih]; rfl)]; exact ih
  ·have:t=T+1:=by omega
   subst this; exact hb
theorem Path.sg_none (hp:PlanOK P ops pl) {t d:Nat} (ht:t≤pl.length) (h:∀ (q:Nat) (pe:PE) (o:Oper),q < t→pl[q]?=some pe→ops[pe.i]?=some o→o.dst≠some d) : π.Sg t d=π.Sg 0 d:=by
 induction t with
 | zero=>rfl
 | succ t ih =>
  have hpe:pl[t]?=some pl[t]:=A2 (by omega)
  obtain ⟨o,ho⟩:=hp.op _ _ hpe
  rw [(π.step t _ o hpe ho).2]
  unfold upd
  rw [if_neg (h t _ o (Mf _) hpe ho)]
  exact ih (by omega) fun q pe o hq=>h q pe o (by omega)
theorem Path.sg_some (hp:PlanOK P ops pl) {t d q:Nat} (ht:t≤pl.length) {pe:PE} {o:Oper} (hq:q < t) (hpe:pl[q]?=some pe) (ho:ops[pe.i]?=some o) (hd:o.dst=some d) : π.Sg t d=π.V q:=by
 induction t with
 | zero=>omega
 | succ t ih =>
  have hpt:pl[t]?=some pl[t]:=A2 (by omega)
  obtain ⟨o2,ho2⟩:=hp.op _ _ hpt
  rw [(π.step t _ o2 hpt ho2).2]
  unfold upd
  rcases Me q t with h | h
  ·have hne:=(hp.pair q t pe _ o o2 h hpe hpt ho ho2).2.1
   rw [if_neg (fun e=>hne d e hd)]
   exact ih (by omega) h
  ·have:q=t:=by omega
   subst this
   rw [hpe] at hpt
   cases hpt
   rw [ho] at ho2
   cases ho2
   rw [if_pos hd]
end
end Go.Rx

/-
 Regions in no fixed order.
-/
namespace Go.Rx
open Go.Vm
section
variable {P:Program} {GL:List Nat} {call:Call1} {ops:Array Oper} {pl:Plan} (π : Path P GL call ops pl) (L:Nat→Bool)
def gv (T b:Nat):Prop:=∃ (t:Nat) (pe:PE) (o:Oper),t < T∧pl[t]?=some pe∧ops[pe.i]?=some o∧isC (rk P o)=false∧L pe.i=false∧b=(π.St t).nx∧(π.St (t+1)).nx=(π.St t).nx+1
open Classical in
noncomputable def HS (T:Nat):Hp:=fun b=>if gv π L T b then none else (π.St T).H.get b
theorem eG {T b:Nat} (h:gv π L T b):HS π L T b=none:=by unfold HS; rw [if_pos h]
theorem dx {T b:Nat} (h:¬ gv π L T b):HS π L T b=(π.St T).H.get b:=by unfold HS; rw [if_neg h]
structure Good (w0:World) (N:Nat) (w1:World) (ι1:Io) (a:Act) (w:World) (ι : Io) (T:Nat):Prop where
 tle:T≤pl.length
 atC:∀ (pe:PE) (o:Oper),pl[T]?=some pe→ops[pe.i]?=some o→isC (rk P o)=true
 done:∀ (t:Nat) (pe:PE) (o:Oper),t < T→pl[t]?=some pe→ops[pe.i]?=some o→isC (rk P o)=true→L pe.i=true
 rest:∀ (t:Nat) (pe:PE),T≤t→pl[t]?=some pe→L pe.i=false
 slotV:∀ (t:Nat) (pe:PE) (o:Oper) (d:Nat),pl[t]?=some pe→ops[pe.i]?=some o→L pe.i=true→o.dst=some d→RelV ι (a.tmps.getD d undef) (π.V t)
 slot0:∀ d,(∀ (t:Nat) (pe:PE) (o:Oper),pl[t]?=some pe→ops[pe.i]?=some o→L pe.i=true→o.dst≠some d)→RelV ι (a.tmps.getD d undef) (π.Sg 0 d)
 mem:Go1 GL w0 (π.St 0).nx w1 ι1 (π.St 0).H.get (π.St T).nx w ι (HS π L T)
 pnd:∀ b,gv π L T b→ι b=none
 nxs:∀ t,t < T→(π.St t).nx≤(π.St (t+1)).nx
 defers:a.defers=[]
 size:N≤a.tmps.size
def Clo (ops:Array Oper) (L:Nat→Bool):Prop:=∀ i j,L i=true→Bef ops i j→L j=true
variable {π L}
theorem mu {T:Nat} (h:∀ t,t < T→(π.St t).nx≤(π.St (t+1)).nx) {t t':Nat} (h1:t≤t') (h2:t'≤T):(π.St t).nx≤(π.St t').nx:=by
 induction t' with
 | zero =>
  have:t=0:=by omega
  subst this
  exact A7 _
 | succ t' ih =>
  rcases Me t (t'+1) with hlt | hge
  ·exact Nat.le_trans (ih (by omega) (by omega)) (h t' (by omega))
  ·have:t=t'+1:=by omega
   subst this
   exact A7 _
theorem yG (hp:PlanOK P ops pl):∀ (n T:Nat),T+n=pl.length→∃ T',T≤T'∧T'≤pl.length∧(∀ (t:Nat) (pe:PE) (o:Oper),T≤t→t < T'→pl[t]?=some pe→ops[pe.i]?=some o→isC (rk P o)=false) ∧
  ∀ (pe:PE) (o:Oper),pl[T']?=some pe→ops[pe.i]?=some o→isC (rk P o)=true
 | 0,T,h=>⟨T,A7 _,by omega,fun t pe o h1 h2=>by omega,fun pe o hpe=>by
   have:=(A3.1 hpe).1
   omega⟩
 | n+1,T,h=>by
  have hpe:pl[T]?=some pl[T]:=A2 (by omega)
  obtain ⟨o,ho⟩:=hp.op _ _ hpe
  cases hc:isC (rk P o) with
  | true =>
   refine ⟨T,A7 _,by omega,fun t pe o h1 h2=>by omega,fun pe o' hpe' ho'=>?_⟩
   rw [hpe] at hpe'
   cases hpe'
   rw [ho] at ho'
   cases ho'
   exact hc
  | false =>
   obtain ⟨T',h1,h2,h3,h4⟩:=yG hp n (T+1) (by omega)
   refine ⟨T',by omega,h2,fun t pe o' g1 g2 g3 g4=>?_,h4⟩
   rcases Me T t with hlt | hge
   ·exact h3 t pe o' hlt g2 g3 g4
   ·have:t=T:=by omega
    subst this
    rw [hpe] at g3
    cases g3
    rw [ho] at g4
    cases g4
    exact hc
theorem BU (hp:PlanOK P ops pl) {T T':Nat} (hle:T≤T') (hT:T'≤pl.length) (hc:∀ (t:Nat) (pe:PE) (o:Oper),T≤t→t < T'→pl[t]?=some pe→ops[pe.i]?=some o→isC (rk P o)=false)
  (hL:∀ (t:Nat) (pe:PE),T≤t→pl[t]?=some pe→L pe.i=false):HS π L T'=HS π L T:=by
 induction T' with
 | zero =>
  have:T=0:=by omega
  subst this
  rfl
 | succ T' ih =>
  rcases Me T (T'+1) with h | h
  ·rw [← ih (by omega) (by omega) fun t pe o h1 h2=>hc t pe o h1 (by omega)]
   have hpe:pl[T']?=some pl[T']:=A2 (by omega)
   obtain ⟨o,ho⟩:=hp.op _ _ hpe
   have hcc:=hc T' _ o (by omega) (Mf _) hpe ho
   have hLL:=hL T' _ (by omega) hpe
   funext b
   have mono:gv π L T' b→gv π L (T'+1) b:=fun ⟨t,pe,o,h1,h2⟩=>⟨t,pe,o,by omega,h2⟩
   have split:gv π L (T'+1) b→gv π L T' b∨(b=(π.St T').nx∧(π.St (T'+1)).nx=(π.St T').nx+1):=by
    rintro ⟨t,pe,o',h1,h2,h3,h4,h5,h6,h7⟩
    rcases Me t T' with hlt | hge
    ·exact .inl ⟨t,pe,o',hlt,h2,h3,h4,h5,h6,h7⟩
    ·have:t=T':=by omega
     subst this
     exact .inr ⟨h6,h7⟩
   by_cases hpd:gv π L T' b
   ·rw [eG π L hpd,eG π L (mono hpd)]
   ·rw [dx π L hpd]
    rcases π.first hpe ho hcc with e | ⟨ob,e1,e2,e3,_⟩
    ·rw [dx π L (fun hq=>by
      rcases split hq with hq | ⟨_,hq⟩
      ·exact hpd hq
      ·rw [e] at hq; omega),e]
    ·by_cases hb:b=(π.St T').nx
     ·rw [eG π L ⟨T',_,o,Mf _,hpe,ho,hcc,hLL,hb,e3⟩,hb,e1]
     ·rw [dx π L (fun hq=>by
       rcases split hq with hq | ⟨hq,_⟩
       ·exact hpd hq
       ·exact hb hq),e2]
      unfold Hp.set
      rw [if_neg hb]
  ·have:T=T'+1:=by omega
   subst this
   rfl
section
variable {w0:World} {N:Nat} {w1:World} {ι1:Io} {a:Act} {w:World} {ι : Io} {T:Nat}
theorem mt {o:Oper} {j d:Nat} {want:Bool} (h1:o.guard=some (j,want)) (h2:dz ops.toList j=some d):d∈o.looksAt ops:=by
 unfold Oper.looksAt
 rw [h1]
 simp [qc h2]
theorem qZ {o:Oper} {d:Nat} (h:Operand.tmp d∈o.op.operands):d∈o.looksAt ops:=by
 unfold Oper.looksAt
 rw [B1]
 left
 rw [List.mem_filterMap]
 exact ⟨.tmp d,by simpa using h,rfl⟩
theorem Good.seen (hg:Good π L w0 N w1 ι1 a w ι T) (hp:PlanOK P ops pl) (hcl:Clo ops L) {t:Nat} {pe:PE} {o:Oper} (hpe:pl[t]?=some pe) (ho:ops[pe.i]?=some o) (hn:L pe.i=false) (hpr:∀ j,Bef ops pe.i j→L j=true) {d:Nat} (hd:d∈o.looksAt ops) :
  RelV ι (a.tmps.getD d undef) (π.Sg t d):=by
 have hlt:t < pl.length:=(A3.1 hpe).1
 by_cases hw:∃ (q:Nat) (pq:PE) (oq:Oper),pl[q]?=some pq∧ops[pq.i]?=some oq∧oq.dst=some d
 ·obtain ⟨q,pq,oq,hq,hoq,hdq⟩:=hw
  -- nobody else writes it
  have uniq:∀ (q':Nat) (pq':PE) (oq':Oper),pl[q']?=some pq'→ops[pq'.i]?=some oq'→oq'.dst=some d→q'=q:=by
   intro q' pq' oq' h1 h2 h3
   rcases Mh q' q with h | h | h
   ·exact absurd h3 ((hp.pair q' q pq' pq oq' oq h h1 hq h2 hoq).2.1 d hdq)
   ·exact h
   ·exact absurd hdq ((hp.pair q q' pq pq' oq oq' h hq h1 hoq h2).2.1 d h3)
  have zero:L pq.i=false→t≤q→RelV ι (a.tmps.getD d undef) (π.Sg t d):=by
   intro hLq hle
   rw [π.sg_none hp (Mk hlt) fun q' pe' o' h1 h2 h3 h4=>by
    have:=uniq q' pe' o' h2 h3 h4
    omega]
   refine hg.slot0 d fun t' pe' o' h1 h2 h3 h4=>?_
   have:=uniq t' pe' o' h1 h2 h4
   subst this
   rw [hq] at h1
   cases h1
   rw [hLq] at h3
   cases h3
  rcases Mh q t with h | h | h
  ·rcases (hp.pair q t pq pe oq o h hq hpe hoq ho).2.2 with hb | ⟨_,hap,_⟩
   ·rw [π.sg_some hp (Mk hlt) h hq hoq hdq]
    exact hg.slotV q pq oq d hq hoq (hpr _ hb) hdq
   ·exact absurd hd ((Oper.apart_spec hap).1 d hdq)
  ·subst h
   rw [hpe] at hq
   cases hq
   exact zero hn (A7 _)
  ·rcases (hp.pair t q pe pq o oq h hpe hq ho hoq).2.2 with hb | ⟨_,hap,_⟩
   ·refine zero ?_ (Mk h)
    cases hLq:L pq.i with
    | false=>rfl
    | true =>
     have:=hcl _ _ hLq hb
     rw [hn] at this
     cases this
   ·exact absurd hd ((Oper.apart_spec hap).2.2 d hdq)
 ·rw [π.sg_none hp (Mk hlt) fun q pe' o' _ h2 h3 h4=>hw ⟨q,pe',o',h2,h3,h4⟩]
  exact hg.slot0 d fun t' pe' o' h1 h2 _ h4=>hw ⟨t',pe',o',h1,h2,h4⟩
theorem Good.put_aside (hg:Good π L w0 N w1 ι1 a w ι T) (hp:PlanOK P ops pl) (hcl:Clo ops L) {t:Nat} {pe:PE} {o:Oper} (hpe:pl[t]?=some pe) (ho:ops[pe.i]?=some o) (hn:L pe.i=false) (hc:isC (rk P o)=false) (hno:xB (rk P o)=true)
  {b t0:Nat} (ht0:t≤t0) (hnote:pe.tk=true→∃ n∈π.Ns (t+1),n.i=pe.i∧(n.rd=some b∨n.nw=some b)) {ob:RO} (hb:(π.St t0).H.get b=some ob) (h0T:t0≤T):(π.St T).H.get b=some ob:=by
 refine π.stable hp h0T hg.tle hb fun q pq oq h1 h2 hq hoq hcq=>?_
 have hne:t≠q:=by
  intro e
  subst e
  rw [hpe] at hq
  cases hq
  rw [ho] at hoq
  cases hoq
  rw [hc] at hcq
  cases hcq
 have hlt:t < q:=by omega
 have hLq:=hg.done q pq oq h2 hq hoq hcq
 rcases (hp.pair t q pe pq o oq hlt hpe hq ho hoq).2.2 with hbf | ⟨_,_,h3⟩
 ·have:=hcl _ _ hLq hbf
  rw [hn] at this
  cases this
 ·obtain ⟨htk,hin⟩:=h3 hcq hno
  obtain ⟨n,hn1,hn2,hn3⟩:=hnote htk
  have hqlt:=(A3.1 hq).1
  have:=π.notes_le hp (t:=t+1) (t':=q) hlt (Mk hqlt) n hn1
  exact Gz this (by rw [hn2]; exact hin) hn3
theorem GI {u:Value} {v:RV} {b:Nat} (h:RelV ι u v) (hb:v.asBlk=some b):∃ L,ι b=some L:=by
 cases v with
 | one c =>
  cases c <;> first | (cases hb; done) | skip
  ·cases hb; obtain ⟨L,h1,_⟩:=eE h; exact ⟨L,h1⟩
  ·cases hb; obtain ⟨L,h1,_⟩:=v7 h; exact ⟨L,h1⟩
 | _=>cases hb
theorem nj (o:Option Tmp) (u:Value) (h:a.defers=[]):(a.put o u).defers=[]:=by cases o <;> exact h
theorem qG (o:Option Tmp) (u:Value) (h:N≤a.tmps.size):N≤(a.put o u).tmps.size:=by cases o <;> simpa [Act.put] using h
theorem Good.slots (hg:Good π L w0 N w1 ι1 a w ι T) (hp:PlanOK P ops pl) {t:Nat} {pe:PE} {o:Oper} (hpe:pl[t]?=some pe) (ho:ops[pe.i]?=some o) (hd:∀ d,o.dst=some d→d < N) {ι':Io} (hle : ι.le ι') {u:Value} (hu:RelV ι' u (π.V t)) :
  (∀ (t':Nat) (pe':PE) (o':Oper) (d:Nat),pl[t']?=some pe'→ops[pe'.i]?=some o'→bg L pe.i pe'.i=true→o'.dst=some d→RelV ι' ((a.put o.dst u).tmps.getD d undef) (π.V t')) ∧
  ∀ d,(∀ (t':Nat) (pe':PE) (o':Oper),pl[t']?=some pe'→ops[pe'.i]?=some o'→bg L pe.i pe'.i=true→o'.dst≠some d)→RelV ι' ((a.put o.dst u).tmps.getD d undef) (π.Sg 0 d):=by
 have hd':∀ d,o.dst=some d→d < a.tmps.size:=fun d hq=>LA (hd d hq) hg.size
 have same:∀ (t':Nat) (pe':PE),pl[t']?=some pe'→pe'.i=pe.i→t'=t:=by
  intro t' pe' h1 h2
  obtain ⟨o',ho'⟩:=hp.op _ _ h1
  rcases Mh t' t with h | h | h
  ·exact absurd h2 (hp.pair t' t pe' pe o' o h h1 hpe ho' ho).1
  ·exact h
  ·exact absurd h2.symm (hp.pair t t' pe pe' o o' h hpe h1 ho ho').1
 refine ⟨fun t' pe' o' d h1 h2 h3 h4=>?_,fun d h=>?_⟩
 ·rw [kL a o.dst u hd']
  by_cases e:t'=t
  ·subst e
   rw [hpe] at h1
   cases h1
   rw [ho] at h2
   cases h2
   rw [if_pos h4]
   exact hu
  ·have hne:o.dst≠some d:=by
    intro h5
    rcases Me t' t with h | h
    ·exact (hp.pair t' t pe' pe o' o h h1 hpe h2 ho).2.1 d h5 h4
    ·exact (hp.pair t t' pe pe' o o' (by omega) hpe h1 ho h2).2.1 d h4 h5
   rw [if_neg hne]
   have hL:L pe'.i=true:=by
    unfold bg at h3
    simp only [LV,beq_iff_eq] at h3
    rcases h3 with h3 | h3
    ·exact h3
    ·exact absurd (same t' pe' h1 h3) e
   exact (hg.slotV t' pe' o' d h1 h2 hL h4).mono hle
 ·rw [kL a o.dst u hd',if_neg (h t pe o hpe ho (by simp [bg]))]
  exact (hg.slot0 d fun t' pe' o' h1 h2 h3=>h t' pe' o' h1 h2 (by simp [bg,h3])).mono hle
theorem oB (hp:PlanOK P ops pl) {t T':Nat} {pe:PE} (hpe:pl[t]?=some pe) (ht:t < T') (h:∀ (t:Nat) (pe:PE),T'≤t→pl[t]?=some pe→L pe.i=false):∀ (t':Nat) (pe':PE),T'≤t'→pl[t']?=some pe'→bg L pe.i pe'.i=false:=by
 intro t' pe' h1 h2
 obtain ⟨o,ho⟩:=hp.op _ _ hpe
 obtain ⟨o',ho'⟩:=hp.op _ _ h2
 have hne:=(hp.pair t t' pe pe' o o' (by omega) hpe h2 ho ho').1
 simp [bg,h t' pe' h1 h2,Ne.symm hne]
theorem Good.stepP (hg:Good π L w0 N w1 ι1 a w ι T) (hp:PlanOK P ops pl) (hcl:Clo ops L) {t:Nat} {pe:PE} {o:Oper} (hpe:pl[t]?=some pe) (ho:ops[pe.i]?=some o) (hn:L pe.i=false) (hpr:∀ j,Bef ops pe.i j→L j=true) (hc:isC (rk P o)=false) (hlt:t < T)
  (hd:∀ d,o.dst=some d→d < N) {Q:Exit→Act→World→Prop} {K:Act→World→Prop} (hK:∀ a' w' ι',Good π (bg L pe.i) w0 N w1 ι1 a' w' ι' T→K a' w'):wpOp P ops Q pe.i K a w:=by
 have hseen:∀ d,d∈o.looksAt ops→RelV ι (a.tmps.getD d undef) (π.Sg t d):=fun d hd=>hg.seen hp hcl hpe ho hn hpr hd
 have hS:∀ x∈o.op.operands,RelV ι (a.eval x) (opS GL (π.Sg t) x):=fun x hx=>uV hg.mem.inv.glob fun d e=>hseen d (qZ (by rw [← e]; exact hx))
 have hguard:∀ j want d,o.guard=some (j,want)→dz ops.toList j=some d→RelV ι (a.tmps.getD d undef) (π.Sg t d):=fun j want d h1 h2=>hseen d (mt h1 h2)
 have hstep:=(π.step t pe o hpe ho).1
 -- nothing is made
 have fin0:∀ u,π.St (t+1)=π.St t→RelV ι u (π.V t)→K (a.put o.dst u) w:=by
  intro u he hu
  obtain ⟨s1,s2⟩:=hg.slots hp hpe ho hd (Io.le.refl ι) hu
  have hpend:∀ b,gv π (bg L pe.i) T b↔gv π L T b:=by
   intro b
   constructor
   ·rintro ⟨q,pq,oq,h1,h2,h3,h4,h5,h6,h7⟩
    refine ⟨q,pq,oq,h1,h2,h3,h4,?_,h6,h7⟩
    unfold bg at h5
    simp only [NE] at h5
    exact h5.1
   ·rintro ⟨q,pq,oq,h1,h2,h3,h4,h5,h6,h7⟩
    refine ⟨q,pq,oq,h1,h2,h3,h4,?_,h6,h7⟩
    unfold bg
    rw [h5,MC,beq_eq_false_iff_ne]
    intro e
    have:q=t:=by
     rcases Mh q t with h | h | h
     ·exact absurd e (hp.pair q t pq pe oq o h h2 hpe h3 ho).1
     ·exact h
     ·exact absurd e.symm (hp.pair t q pe pq o oq h hpe h2 ho h3).1
    subst this
    rw [he] at h7
    omega
  have hHS:HS π (bg L pe.i) T=HS π L T:=by
   funext b
   by_cases hb:gv π L T b
   ·rw [eG _ _ hb,eG _ _ ((hpend b).2 hb)]
   ·rw [dx _ _ hb,dx _ _ (fun h=>hb ((hpend b).1 h))]
  exact hK _ _ ι ⟨hg.tle,hg.atC,fun q pq oq h1 h2 h3 h4=>by simp [bg,hg.done q pq oq h1 h2 h3 h4],oB hp hpe hlt hg.rest,s1,s2,by rw [hHS]; exact hg.mem,fun b hb=>hg.pnd b ((hpend b).1 hb),hg.nxs,nj _ _ hg.defers,qG _ _ hg.size⟩
 unfold wpOp
 rw [ho]
 simp only
 generalize hv : π.V t=v at hstep
 generalize hs1 : π.St (t+1)=s1 at hstep
 generalize hns1 : π.Ns (t+1)=ns1 at hstep
 cases hstep with
 | skip hgu hsl hva =>
  rw [om hgu hsl hva (hguard _ _ _ hgu hsl)]
  simp only [LR,if_false]
  exact fin0 undef hs1 (by rw [hv]; exact mE)
 | run hgu hr =>
  rw [sU (ι:=ι) hgu hguard]
  simp only [if_true]
  refine .inl ?_
  have hlooks:∀ x f,rk P o=.r x f→nS w0 w ι (opS GL (π.Sg t) x) (blk (π.St t).H.get (opS GL (π.Sg t) x)):=by
   intro x f hk o' ho'
   unfold blk at ho'
   rcases uW ho' with ⟨_,h2⟩ | ⟨b,h1,h2⟩
   ·cases h2
   ·refine ⟨b,h1,?_⟩
    obtain ⟨Lc,hLc⟩:=GI (hS x (Jr hk)) h1
    have hnp:¬ gv π L T b:=fun h=>by have:=hg.pnd b h; rw [hLc] at this; cases this
    have hst:=hg.put_aside hp hcl hpe ho hn hc (by rw [hk]; rfl) (b:=b) (t0:=t) (A7 _) (fun htk=>by
     cases hr with
     | r hk' h1' =>
      rw [hk] at hk'
      simp only [RK.r.injEq] at hk'
      obtain ⟨hx,_⟩:=hk'
      subst hx
      refine ⟨⟨pe.i,(opS GL (π.Sg t) x).asBlk,none⟩,?_,rfl,.inl h1⟩
      rw [hns1]
      unfold rq
      rw [htk]
      exact LL ..
     | m hk'=>rw [hk] at hk'; cases hk'
     | v hk' _=>rw [hk] at hk'; cases hk'
     | b hk' _ _=>rw [hk] at hk'; cases hk'
     | c hk' _=>rw [hk] at hk'; cases hk') h2 (Mk hlt)
    exact hg.mem.inv.blk b o' (by rw [dx π L hnp]; exact hst)
  rcases HG hr hc hS (w0:=w0) (w:=w) hlooks with ⟨he,u,h1,h2⟩ | ⟨ob,vb,h1,h2,h3,h4,h5⟩
  ·exact Does.value (R:=fun u w'=>w'=w∧RelV ι u v) h1 ⟨rfl,h2⟩ K Q fun u w' ⟨e,h3⟩=>by
    subst e
    exact fin0 u (hs1.trans he) (by rw [hv]; exact h3)
  ·-- a block is made
   obtain ⟨u,w',Lc,r1,r2,r3,r4,r5⟩:=h3 w
   obtain ⟨e1,e2⟩:=dW h1
   have hnx:(π.St (t+1)).nx=(π.St t).nx+1:=by rw [hs1]; exact e2
   have hpd:gv π L T (π.St t).nx:=⟨t,pe,o,hlt,hpe,ho,hc,hn,rfl,hnx⟩
   have hnone:=hg.pnd _ hpd
   obtain ⟨q1,q2⟩:=r5 w0 (π.St t).nx hg.mem.inv.kept.size hnone
   have hle : ι.le (ι.set (π.St t).nx Lc):=Io.set_le hnone
   have hst:(π.St T).H.get (π.St t).nx=some ob:=hg.put_aside hp hcl hpe ho hn hc h5 (b:=(π.St t).nx) (t0:=t+1) (Nat.le_succ _) (fun htk=>by
    refine ⟨⟨pe.i,none,some (π.St t).nx⟩,?_,rfl,.inr rfl⟩
    rw [hns1,h4]
    unfold rq
    rw [htk]
    exact LL ..) (by rw [hs1,e1]; simp [Hp.set]) hlt
   refine Does.value (R:=fun u' w''=>u'=u∧w''=w') r1 ⟨rfl,rfl⟩ K Q ?_
   rintro u' w'' ⟨rfl,rfl⟩
   obtain ⟨s1',s2'⟩:=hg.slots hp hpe ho hd hle (u:=u') (by rw [hv,h2]; exact q2)
   have hnxlt:(π.St t).nx < (π.St T).nx:=by
    have:=mu hg.nxs (t:=t+1) (t':=T) hlt (A7 _)
    omega
   have hpend:∀ b,gv π (bg L pe.i) T b↔(gv π L T b∧b≠(π.St t).nx):=by
    intro b
    constructor
    ·rintro ⟨q,pq,oq,h1,h2,h3,h4,h5,h6,h7⟩
     unfold bg at h5
     simp only [NE,beq_eq_false_iff_ne] at h5
     refine ⟨⟨q,pq,oq,h1,h2,h3,h4,h5.1,h6,h7⟩,?_⟩
     have hqt:q≠t:=by
      intro e
      have hq2:pl[t]?=some pq:=by rw [← e]; exact h2
      rw [hpe] at hq2
      cases hq2
      exact h5.2 rfl
     rcases Me q t with h | h
     ·have:=mu hg.nxs (t:=q+1) (t':=t) h (Mk hlt)
      omega
     ·have:=mu hg.nxs (t:=t+1) (t':=q) (by omega) (Mk h1)
      omega
    ·rintro ⟨⟨q,pq,oq,h1,h2,h3,h4,h5,h6,h7⟩,hne⟩
     refine ⟨q,pq,oq,h1,h2,h3,h4,?_,h6,h7⟩
     unfold bg
     rw [h5,MC,beq_eq_false_iff_ne]
     intro e
     have:q=t:=by
      rcases Mh q t with h | h | h
      ·exact absurd e (hp.pair q t pq pe oq o h h2 hpe h3 ho).1
      ·exact h
      ·exact absurd e.symm (hp.pair t q pe pq o oq h hpe h2 ho h3).1
     subst this
     exact hne h6
   have hHS:HS π (bg L pe.i) T=Hp.set (HS π L T) (π.St t).nx ob:=by
    funext b
    unfold Hp.set
    by_cases hb:b=(π.St t).nx
    ·rw [if_pos hb,dx _ _ (fun h=>((hpend b).1 h).2 hb),hb,hst]
    ·rw [if_neg hb]
     by_cases hb':gv π L T b
     ·rw [eG _ _ hb',eG _ _ ((hpend b).2 ⟨hb',hb⟩)]
     ·rw [dx _ _ hb',dx _ _ (fun h=>hb' ((hpend b).1 h).1)]
   refine hK _ _ (ι.set (π.St t).nx Lc) ⟨hg.tle,hg.atC,fun q pq oq h1 h2 h3 h4=>by simp [bg,hg.done q pq oq h1 h2 h3 h4],oB hp hpe hlt hg.rest,s1',s2',?_,?_,hg.nxs,nj _ _ hg.defers,qG _ _ hg.size⟩
   ·rw [hHS]
    exact Go1.add hg.mem (mu hg.nxs (Mr _) (Mk hlt)) hnxlt hnone r2 (OC r3.symm) r4 q1
   ·intro b hb
    obtain ⟨h1,h2⟩:=(hpend b).1 hb
    simp only [Io.set,h2,if_false]
    exact hg.pnd b h1
theorem Good.stepC (hg:Good π L w0 N w1 ι1 a w ι T) (hC:jW P GL call) (hp:PlanOK P ops pl) (hcl:Clo ops L) {pe:PE} {o:Oper} (hpe:pl[T]?=some pe) (ho:ops[pe.i]?=some o) (hpr:∀ j,Bef ops pe.i j→L j=true)
  (hd:∀ d,o.dst=some d→d < N) {Q:Exit→Act→World→Prop} {K:Act→World→Prop} (hK:∀ a' w' ι' T',Good π (bg L pe.i) w0 N w1 ι1 a' w' ι' T'→K a' w'):wpOp P ops Q pe.i K a w:=by
 have hn:=hg.rest T pe (A7 _) hpe
 have hc:=hg.atC pe o hpe ho
 have hTlt:T < pl.length:=(A3.1 hpe).1
 have hseen:∀ d,d∈o.looksAt ops→RelV ι (a.tmps.getD d undef) (π.Sg T d):=fun d hd=>hg.seen hp hcl hpe ho hn hpr hd
 have hS:∀ x∈o.op.operands,RelV ι (a.eval x) (opS GL (π.Sg T) x):=fun x hx=>uV hg.mem.inv.glob fun d e=>hseen d (qZ (by rw [← e]; exact hx))
 have hguard:∀ j want d,o.guard=some (j,want)→dz ops.toList j=some d→RelV ι (a.tmps.getD d undef) (π.Sg T d):=fun j want d h1 h2=>hseen d (mt h1 h2)
 obtain ⟨T',t1,t2,t3,t4⟩:=yG hp (pl.length - (T+1)) (T+1) (by omega)
 have hrest:=oB hp hpe (Mf T) (T':=T+1) fun t pe' h1 h2=>hg.rest t pe' (by omega) h2
 -- what is made,and not made here
 have hpend:∀ b,gv π (bg L pe.i) (T+1) b↔gv π L T b:=by
  intro b
  constructor
  ·rintro ⟨q,pq,oq,h1,h2,h3,h4,h5,h6,h7⟩
   have hq:q < T:=by
    rcases Me q T with h | h
    ·exact h
    ·have:q=T:=by omega
     subst this
     rw [hpe] at h2
     cases h2
     rw [ho] at h3
     cases h3
     rw [hc] at h4
     cases h4
   unfold bg at h5
   simp only [NE] at h5
   exact ⟨q,pq,oq,hq,h2,h3,h4,h5.1,h6,h7⟩
  ·rintro ⟨q,pq,oq,h1,h2,h3,h4,h5,h6,h7⟩
   refine ⟨q,pq,oq,by omega,h2,h3,h4,?_,h6,h7⟩
   have:=(hp.pair q T pq pe oq o h1 h2 hpe h3 ho).1
   simp [bg,h5,this]
 have fin:∀ u w' ι',RelV ι' u (π.V T)→Go1 GL w0 (π.St T).nx w ι (HS π L T) (π.St (T+1)).nx w' ι' (HS π (bg L pe.i) (T+1))→K (a.put o.dst u) w':=by
  intro u w' ι' hu g
  obtain ⟨s1,s2⟩:=hg.slots hp hpe ho hd g.le hu
  have hnxs:∀ t,t < T'→(π.St t).nx≤(π.St (t+1)).nx:=by
   intro t ht
   rcases Mh t T with h | h | h
   ·exact hg.nxs t h
   ·subst h; exact g.up
   ·have hpt:pl[t]?=some pl[t]:=A2 (by omega)
    obtain ⟨ot,hot⟩:=hp.op _ _ hpt
    rcases π.first hpt hot (t3 t _ ot h ht hpt hot) with e | ⟨_,_,_,e,_⟩
    ·rw [e]; exact A7 _
    ·omega
  have hHS:HS π (bg L pe.i) T'=HS π (bg L pe.i) (T+1):=BU hp t1 t2 t3 hrest
  refine hK _ _ ι' T' ⟨t2,t4,?_,fun t pe' h1 h2=>hrest t pe' (by omega) h2,s1,s2,?_,?_,hnxs,nj _ _ hg.defers,qG _ _ hg.size⟩
  ·intro q pq oq h1 h2 h3 h4
   rcases Mh q T with h | h | h
   ·simp [bg,hg.done q pq oq h h2 h3 h4]
   ·subst h
    rw [hpe] at h2
    cases h2
    simp [bg]
   ·rw [t3 q pq oq h h1 h2 h3] at h4
    cases h4
  ·rw [hHS]
   exact (hg.mem.then g (mu hg.nxs (Mr _) (A7 _))).more (mu hnxs t1 (A7 _))
  ·rintro b ⟨q,pq,oq,h1,h2,h3,h4,h5,h6,h7⟩
   rcases Mh q T with h | h | h
   ·have hb:gv π L T b:=(hpend b).1 ⟨q,pq,oq,by omega,h2,h3,h4,h5,h6,h7⟩
    have hlt:b < (π.St T).nx:=by
     have:=mu hg.nxs (t:=q+1) (t':=T) h (A7 _)
     omega
    rw [g.low b hlt]
    exact hg.pnd b hb
   ·subst h
    rw [hpe] at h2
    cases h2
    rw [ho] at h3
    cases h3
    rw [hc] at h4
    cases h4
   ·refine g.top b ?_
    have:=mu hnxs (t:=T+1) (t':=q) h (Mk h1)
    omega
 unfold wpOp
 rw [ho]
 simp only
 rcases π.second hpe ho hc with ⟨e1,e2,j,want,d,e3,e4,e5⟩ | ⟨e1,s1,s2,h1,h2,h3⟩
 ·rw [om e3 e4 e5 (hguard _ _ _ e3 e4)]
  simp only [LR,if_false]
  refine fin undef w ι (by rw [e2]; exact mE) ?_
  have hHS:HS π (bg L pe.i) (T+1)=HS π L T:=by
   funext b
   by_cases hb:gv π L T b
   ·rw [eG _ _ hb,eG _ _ ((hpend b).2 hb)]
   ·rw [dx _ _ hb,dx _ _ (fun h=>hb ((hpend b).1 h)),e1]
  rw [hHS,e1]
  exact Go1.refl hg.mem.inv hg.mem.top
 ·rw [sU (ι:=ι) e1 hguard]
  simp only [if_true]
  refine .inl ?_
  have hW:Weak (HS π L T) s1.H.get:=by
   intro b o' hb
   by_cases hpd:gv π L T b
   ·obtain ⟨q,pq,oq,k1,k2,k3,k4,k5,k6,k7⟩:=hpd
    left
    -- it was put pI
    have hno:∃ n∈π.Ns T,inL pe.un n.i=true∧n.nw=some b:=by
     rcases π.first k2 k3 k4 with e | ⟨ob,f1,f2,f3,f4,f5⟩
     ·rw [e] at k7; omega
     ·rcases (hp.pair q T pq pe oq o k1 k2 hpe k3 ho).2.2 with hbf | ⟨_,_,h6⟩
      ·have:=hpr _ hbf
       rw [k5] at this
       cases this
      ·obtain ⟨g1,g2⟩:=h6 hc f4
       refine ⟨_,π.notes_le hp (t:=q+1) (t':=T) k1 (Mk hTlt) _ (f5 g1),g2,by rw [k6]⟩
    obtain ⟨n,n1,n2,n3⟩:=hno
    have:=h1.gone b (Dn n1 n2 n3)
    rw [hb] at this
    cases this
    rfl
   ·rw [dx _ _ hpd]
    exact h1.weak b o' hb
  have hinv:=hg.mem.inv.weak hW
  have htop:∀ b,s1.nx≤b→ι b=none:=fun b hb=>hg.mem.top b (by rw [← h1.nx]; exact hb)
  refine JX (ev:=opS GL (π.Sg T)) hC h2 hS w hinv htop K Q ?_
  rintro u w' ⟨ι',g,hu⟩
  refine fin u w' ι' hu ?_
  have hnx2:(π.St (T+1)).nx=s2.nx:=h3.1
  rw [hnx2]
  have g':Go1 GL w0 (π.St T).nx w ι s1.H.get s2.nx w' ι' s2.H.get:=by rw [← h1.nx]; exact g
  classical
  refine Go1.back (wk:=fun b=>decide (gv π L T b∨(b∈gn pe.un (π.Ns T)∧(HS π L T b).isSome=true))) hg.mem.inv hW g' ?_ ?_ ?_
  ·intro b hb
   have hb:=of_decide_eq_true hb
   by_cases hpd:gv π L T b
   ·rw [eG _ _ hpd,eG _ _ ((hpend b).2 hpd)]
   ·rcases hb with hb | ⟨hb,hs⟩
    ·exact absurd hb hpd
    ·rw [dx _ _ hpd] at hs ⊢
     rw [dx _ _ (fun h=>hpd ((hpend b).1 h))]
     exact h3.2.1 b hb hs
  ·intro b hb
   have hb:=of_decide_eq_false hb
   simp only [not_or,not_and] at hb
   obtain ⟨hpd,hb⟩:=hb
   rw [dx _ _ (fun h=>hpd ((hpend b).1 h))]
   refine h3.2.2 b ?_
   by_cases hi:b∈gn pe.un (π.Ns T)
   ·right
    have:=hb hi
    rw [dx _ _ hpd] at this
    cases hq:(π.St T).H.get b with
    | none=>rfl
    | some _=>rw [hq] at this; exact absurd rfl this
   ·exact .inl hi
  ·intro b o' hb hbo
   have hb:=of_decide_eq_true hb
   rcases hb with hpd | ⟨hb,_⟩
   ·rcases hW b o' hbo with rfl | ⟨o2,h4,_⟩
    ·rfl
    ·rw [eG _ _ hpd] at h4; cases h4
   ·exact h1.low b hb o' hbo
end
end
end Go.Rx

/-
 Regions in no fixed order: all of it.
-/
namespace Go.Rx
open Go.Vm
section
variable {P:Program} {GL:List Nat} {call:Call1} {w0:World} {N:Nat}
theorem Go1.draw {w:World} {n:Nat} {ι : Io} {h:Hp} (hi:RInv GL w0 w ι h) (ht:∀ b,n≤b→ι b=none):Go1 GL w0 n w ι h n { w with drawn:=w.drawn+1 } ι h:=by
 refine ⟨⟨⟨hi.kept.os,hi.kept.tape,hi.kept.output,hi.kept.size,hi.kept.block⟩,fun b o hb=>(hi.blk b o hb).mono (Io.le.refl ι) fun _ _=>rfl,hi.inj,hi.lt,hi.glob⟩,Io.le.refl ι,fun _ _=>rfl,A7 _,ht,A7 _,fun _ _ _=>rfl,fun b o L hb ho hL=>.inr ⟨b,o,L,hb,ho,.inr rfl,id,hL,rfl⟩⟩
theorem uQ (hm:P.follows .mixedOrders=true) (hC:jW P GL call) {ops:Array Oper} {pl:Plan} (hp:PlanOK P ops pl) (hd:∀ o∈ops.toList,∀ d,o.dst=some d→d < N) {σ σ':Nat→RV} {s s':RS} {ns:Notes} {recs:List Rec} (htr:Trace P GL call ops.toList σ s ns pl recs σ' s')
  {a:Act} {w:World} {ι : Io} (hs:RSim GL w0 N a w ι σ s) {id:Nat} {Q:Exit→Act→World→Prop} (hQ:∀ a' w' ι',Go1 GL w0 s.nx w ι s.H.get s'.nx w' ι' s'.H.get→RSim GL w0 N a' w' ι' σ' s'→Q .normal a' w'):(Code.region id ops true).wp P Q a w:=by
 refine wp_region_any hm ?_
 obtain ⟨π,p1,p2,p3,p4,_⟩:=vP htr
 have g0:=Go1.draw hs.inv hs.top
 have hd':∀ {i:Nat} {o:Oper},ops[i]?=some o→∀ d,o.dst=some d→d < N:=fun ho=>hd _ (by rw [← LO] at ho; exact B2 ho)
 let SS:Array Bool→Nat→Bool:=fun l j=>l.getD j false
 have set_S:∀ (l:Array Bool) (i:Nat),i < l.size→SS (l.setIfInBounds i true)=bg (SS l) i:=by
  intro l i hi
  funext j
  show (l.setIfInBounds i true).getD j false=(l.getD j false || j == i)
  by_cases e:j=i
  ·subst e; simp [hi]
  ·rw [getD_set_ne false (Ne.symm e)]; simp [e]
 have last:∀ {L:Nat→Bool} {a':Act} {w':World} {ι':Io} {T:Nat},(∀ i,i < ops.size→L i=true)→Good π L w0 N { w with drawn:=w.drawn+1 } ι a' w' ι' T→Q .normal a' w':=by
  intro L a' w' ι' T hall hg
  have hT:T=pl.length:=by
   rcases Me T pl.length with h | h
   ·have hpe:pl[T]?=some pl[T]:=A2 h
    obtain ⟨o,ho⟩:=hp.op _ _ hpe
    have h1:=hg.rest T _ (A7 _) hpe
    have h2:=hall _ (Lw.1 ho).1
    rw [h1] at h2
    cases h2
   ·have:=hg.tle; omega
  subst hT
  have hL:∀ {t:Nat} {pe:PE},pl[t]?=some pe→L pe.i=true:=by
   intro t pe hpe
   obtain ⟨o,ho⟩:=hp.op _ _ hpe
   exact hall _ (Lw.1 ho).1
  have hnp:∀ b,¬ gv π L pl.length b:=by
   rintro b ⟨t,pe,o,h1,h2,h3,h4,h5,_⟩
   rw [hL h2] at h5
   cases h5
  have hHS:HS π L pl.length=s'.H.get:=by
   funext b
   rw [dx _ _ (hnp b),p4]
  have hmem:=hg.mem
  rw [hHS,p2,p4] at hmem
  refine hQ a' w' ι' (g0.trans hmem) ⟨hmem.inv,hmem.top,hg.defers,hg.size,fun d=>?_⟩
  rw [← p3]
  by_cases hw:∃ (q:Nat) (pq:PE) (oq:Oper),pl[q]?=some pq∧ops[pq.i]?=some oq∧oq.dst=some d
  ·obtain ⟨q,pq,oq,h1,h2,h3⟩:=hw
   rw [π.sg_some hp (A7 _) (A3.1 h1).1 h1 h2 h3]
   exact hg.slotV q pq oq d h1 h2 (hL h1) h3
  ·rw [π.sg_none hp (A7 _) fun q pe' o' _ h2 h3 h4=>hw ⟨q,pe',o',h2,h3,h4⟩]
   exact hg.slot0 d fun t' pe' o' h1 h2 _ h4=>hw ⟨t',pe',o',h1,h2,h4⟩
 have key:∀ (fuel:Nat) (listed:Array Bool) (a':Act) (w':World) (ι':Io) (T:Nat),listed.size=ops.size→ops.size≤fuel+(Le ops.size).countP (SS listed) →
   Clo ops (SS listed)→Good π (SS listed) w0 N { w with drawn:=w.drawn+1 } ι a' w' ι' T→wpAny P .any ops Q fuel listed a' w':=by
  intro fuel
  induction fuel with
  | zero =>
   intro listed a' w' ι' T hsz hcnt hcl hg
   have hall:∀ i,i < ops.size→SS listed i=true:=by
    have h1:(Le ops.size).countP (SS listed)=(Le ops.size).length:=by
     have:=List.countP_le_length (p:=SS listed) (l:=Le ops.size)
     simp only [List.length_range] at this ⊢
     omega
    rw [List.countP_eq_length] at h1
    exact fun i hi=>h1 i (Ma.2 hi)
   refine ⟨?_,last hall hg⟩
   unfold Region.ready
   rw [List.filter_eq_nil_iff]
   intro i hi
   have hi:=Ma.1 hi
   have h1:listed.getD i false=true:=hall i hi
   have:listed.getD i true=true:=by
    have hlt:i < listed.size:=by omega
    simpa [hlt] using h1
   rw [this]; simp
  | succ fuel ih =>
   intro listed a' w' ι' T hsz hcnt hcl hg
   refine ⟨fun hr=>last ?_ hg,fun i hi=>?_⟩
   ·-- nothing is ready: all is done
    have hall:∀ (t:Nat) (pe:PE),pl[t]?=some pe→SS listed pe.i=true:=by
     intro t
     induction t using Nat.strongRecOn with
     | ind t ih2 =>
      intro pe hpe
      obtain ⟨o,ho⟩:=hp.op _ _ hpe
      have hlt:=(Lw.1 ho).1
      cases hh:SS listed pe.i with
      | true=>rfl
      | false =>
       have:pe.i∈Region.ready .any ops listed:=by
        rw [mem_ready]
        have hh:listed.getD pe.i false=false:=hh
        have hlt:pe.i < listed.size:=by omega
        refine ⟨by simpa [hlt] using hh,o,ho,fun e he hb=>?_⟩
        obtain ⟨t',q,h1,h2,h3⟩:=hp.pred t pe o e hpe ho (by simpa using he) hb
        have:=ih2 t' h1 q h2
        rw [h3] at this
        exact this
       rw [hr] at this
       cases this
    intro i hi
    obtain ⟨t,pe,h1,h2⟩:=hp.sur i hi
    rw [← h2]
    exact hall t pe h1
   ·obtain ⟨h1,o,ho1,h2⟩:=mem_ready.1 hi
    have hlt:i < ops.size:=(Lw.1 ho1).1
    have hlt':i < listed.size:=by omega
    have hn:SS listed i=false:=by
     show listed.getD i false=false
     simpa [hlt'] using h1
    obtain ⟨t,pe,hpe,hpi⟩:=hp.sur i hlt
    subst hpi
    have hpr:∀ j,Bef ops pe.i j→SS listed j=true:=by
     intro j hj
     cases hj with
     | one ho he hb =>
      rw [ho1] at ho
      cases ho
      exact h2 _ (by simpa using he) hb
     | more ho he hb h3 =>
      rw [ho1] at ho
      cases ho
      exact hcl _ _ (h2 _ (by simpa using he) hb) h3
    have hcl':Clo ops (bg (SS listed) pe.i):=by
     intro x y hx hxy
     unfold bg at hx ⊢
     simp only [LV,beq_iff_eq] at hx ⊢
     rcases hx with hx | hx
     ·exact .inl (hcl x y hx hxy)
     ·subst hx; exact .inl (hpr y hxy)
    have next:∀ a2 w2 ι2 T2,Good π (bg (SS listed) pe.i) w0 N { w with drawn:=w.drawn+1 } ι a2 w2 ι2 T2→wpAny P .any ops Q fuel (listed.setIfInBounds pe.i true) a2 w2:=by
     intro a2 w2 ι2 T2 hg2
     refine ih (listed.setIfInBounds pe.i true) a2 w2 ι2 T2 (by simp [hsz]) ?_ ?_ ?_
     ·rw [set_S listed pe.i hlt',l7 hn hlt]; omega
     ·rw [set_S listed pe.i hlt']; exact hcl'
     ·rw [set_S listed pe.i hlt']; exact hg2
    -- where it stands
    have hTt:t=T∨t < T:=by
     rcases Mh t T with h | h | h
     ·exact .inr h
     ·exact .inl h
     ·have htl:=(A3.1 hpe).1
      have hpT:pl[T]?=some pl[T]:=A2 (by omega)
      obtain ⟨oT,hoT⟩:=hp.op _ _ hpT
      have hcT:=hg.atC _ oT hpT hoT
      rcases (hp.pair T t _ pe oT o h hpT hpe hoT ho1).2.2 with hbf | ⟨hc,_⟩
      ·have h3:=hpr _ hbf
       rw [hg.rest T _ (A7 _) hpT] at h3
       cases h3
      ·rw [hcT] at hc; cases hc
    rcases hTt with rfl | hlT
    ·exact hg.stepC hC hp hcl hpe ho1 hpr (hd' ho1) next
    ·cases hc:isC (rk P o) with
     | true =>
      have:=hg.done t pe o hlT hpe ho1 hc
      rw [hn] at this
      cases this
     | false=>exact hg.stepP hp hcl hpe ho1 hn hpr hc hlT (hd' ho1) fun a2 w2 ι2 h3=>next a2 w2 ι2 T h3
 have hS0:SS (Nd ops.size false)=fun _=>false:=by
  funext j
  show (Nd ops.size false).getD j false=false
  simp [Array.getElem?_replicate]
  split <;> rfl
 obtain ⟨T0,t1,t2,t3,t4⟩:=yG hp pl.length 0 (by omega)
 have hnxs:∀ t,t < T0→(π.St t).nx≤(π.St (t+1)).nx:=by
  intro t ht
  have hpt:pl[t]?=some pl[t]:=A2 (by omega)
  obtain ⟨ot,hot⟩:=hp.op _ _ hpt
  rcases π.first hpt hot (t3 t _ ot (Mr _) ht hpt hot) with e | ⟨_,_,_,e,_⟩
  ·rw [e]; exact A7 _
  ·omega
 refine key ops.size _ a { w with drawn:=w.drawn+1 } ι T0 (by simp) (by omega) ?_ ?_
 ·rw [hS0]; intro i j hi; cases hi
 ·rw [hS0]
  have hHS:HS π (fun _=>false) T0=s.H.get:=by
   rw [BU hp (Mr _) t2 t3 (fun _ _ _ _=>rfl)]
   funext b
   rw [dx _ _ (by rintro ⟨t,pe,o,h1,_⟩; omega),p2]
  refine ⟨t2,t4,?_,fun _ _ _ _=>rfl,?_,?_,?_,?_,hnxs,hs.defers,hs.size⟩
  ·intro t pe o h1 h2 h3 h4
   rw [t3 t pe o (Mr _) h1 h2 h3] at h4
   cases h4
  ·intro t pe o d _ _ h; cases h
  ·intro d _; rw [p1]; exact hs.env d
  ·rw [hHS,p2]
   refine (Go1.refl g0.inv hs.top).more ?_
   have:=mu hnxs (t:=0) (t':=T0) (Mr _) (A7 _)
   rw [p2] at this
   exact this
  ·rintro b ⟨t,pe,o,h1,h2,h3,h4,h5,h6,h7⟩
   refine hs.top b ?_
   have:=mu hnxs (t:=0) (t':=t) (Mr _) (Mk h1)
   rw [p2] at this
   omega
end
end Go.Rx

