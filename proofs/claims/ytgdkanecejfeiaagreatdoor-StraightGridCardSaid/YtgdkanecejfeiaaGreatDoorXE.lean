/-
 Rows of operations, in every order that the machine may take.
-/
import Derived.Test.YtgdkanecejfeiaaGreatDoorXD
import Derived.Test.YtgdkanecejfeiaaGreatDoorVmD
open List renaming getElem?_eq_getElem→gr,getElem?_eq_some_iff→A2,mem_of_getElem?→A5,mem_append→B3,mem_cons→B7,range→LX,all_eq_true→LZ,mem_cons_of_mem→Me,mem_cons_self→Mv,any_eq_true→ME,mem_range→M2,flatMap_cons→ND,mem_flatMap→PO
open Bool renaming and_eq_true→A3,or_eq_true→Mt,false_eq_true→MB,false_or→NB,or_eq_false_iff→N5
open Nat renaming eq_of_beq_eq_true→A4,le_refl→A7,beq→B1,lt_of_lt_of_le→Ml,zero_le→MJ,le_of_lt→MQ,lt_or_ge→MX,lt_succ_self→MY,lt_trichotomy→M0,le_of_eq→Pv
open Array renaming getElem?_eq_some_iff→Mi,getElem?_toList→My,getD_eq_getD_getElem?→MW,replicate→N7
set_option linter.unusedVariables false
set_option linter.unusedSimpArgs false
/-
 A region's run, told step by step.
-/
namespace Go.Rx
open Go.Vm
theorem wa {α : Type} {o:Option α} {R:Type} {no r:R} {K : α→R} (h:onO o no K=r):(o=none∧no=r)∨∃ x,o=some x∧K x=r:=by
 cases o with
 | none=>exact .inl ⟨rfl,h⟩
 | some x=>exact .inr ⟨x,rfl,h⟩
def upd (σ : Nat→RV) (dst:Option Nat) (v:RV):Nat→RV:=fun t=>if dst=some t then v else σ t
section
variable (P:Program) (GL:List Nat) (call:Call1) (all:List Oper)
noncomputable def rcX (un:List Nat) (k:RK) (ev:Ev) (s:RS) (ns:Notes):Option (RV×RS):=match un with
 | []=>rc P call k ev s
 | a :: r=>rcU P call (a :: r) k ev s ns
inductive RunS (o:Oper) (pe:PE) (σ : Nat→RV) (s:RS) (ns:Notes):RV→RS→Notes→Prop
 | m {x:Operand} (h:rk P o=.m x):RunS o pe σ s ns (opS GL σ x) s ns
 | v {f:Ev→Option RV} {v:RV} (h:rk P o=.v f) (h1:f (opS GL σ)=some v):RunS o pe σ s ns v s ns
 | r {x:Operand} {f:Option RO→Ev→Option RV} {v:RV} (h:rk P o=.r x f) (h1:f (blk s.H.get (opS GL σ x)) (opS GL σ)=some v):RunS o pe σ s ns v s (sk pe.tk ⟨pe.i,(opS GL σ x).asBlk,none⟩ ns)
 | b {f:Ev→Option PR} {ob:RO} {v:RV} {s':RS} (h:rk P o=.b f) (h1:f (opS GL σ)=some (.new ob v)) (h2:s6 s ob=some s'):RunS o pe σ s ns (v.at s.nx) s' (sk pe.tk ⟨pe.i,none,some s.nx⟩ ns)
 | c {v:RV} {s':RS} (h:isC (rk P o)=true) (h1:rcX P call pe.un (rk P o) (opS GL σ) s ns=some (v,s')):RunS o pe σ s ns v s' ns
inductive StepS (o:Oper) (pe:PE) (σ : Nat→RV) (s:RS) (ns:Notes):RV→RS→Notes→Prop
 | run {v:RV} {s':RS} {ns':Notes} (hg:o.guard=none∨∃ j want d,o.guard=some (j,want)∧dd all j=some d∧σ d=.one (.bool want)) (h:RunS P GL call o pe σ s ns v s' ns'):StepS o pe σ s ns v s' ns'
 | skip {j d:Nat} {want:Bool} (hg:o.guard=some (j,want)) (hd:dd all j=some d) (h : σ d=.one (.bool (!want))∨σ d=.tup []):StepS o pe σ s ns rundef s ns
structure Rec where
 pe:PE
 o:Oper
 σ : Nat→RV
 s:RS
 ns:Notes
 v:RV
 s':RS
inductive Trace:(Nat→RV)→RS→Notes→Plan→List Rec→(Nat→RV)→RS→Prop
 | nil {σ : Nat→RV} {s:RS} {ns:Notes}:Trace σ s ns [] [] σ s
 | cons {σ : Nat→RV} {s:RS} {ns:Notes} {pe:PE} {pl:Plan} {o:Oper} {v:RV} {s1:RS} {ns1:Notes} {recs:List Rec} {σ':Nat→RV} {s':RS} (ho:all[pe.i]?=some o) (h:StepS P GL call all o pe σ s ns v s1 ns1)
   (t:Trace (upd σ o.dst v) s1 ns1 pl recs σ' s'):Trace σ s ns (pe :: pl) (⟨pe,o,σ,s,ns,v,s1⟩ :: recs) σ' s'
end
section
variable {P:Program} {GL:List Nat} {call:Call1} {all:List Oper} {msk:Nat}
theorem iW {R:Type} (v:RV) (K:RV→R):wb v K=K v:=by cases v <;> rfl
theorem F7 (e:cm) (l:Lc) (d:Nat) (v:RV) (hk:gX msk d=false):egt msk e (.cons d v l)=upd (egt msk e l) (some d) v:=by
 funext t
 unfold egt upd
 show cond (gX msk t) (gOr (e.get t)) (cond (B1 d t) v (II l t))=_
 by_cases h:d=t
 ·subst h; simp [hk]
 ·have:B1 d t=false:=by cases hb:B1 d t with | true=>exact absurd (A4 hb) h | false=>rfl
  simp [this,h]
theorem Hh {e e':cm} {l:Lc} {d:Nat} {v:RV} (h:e.put d v=some e') (hk:gX msk d=true):egt msk e' l=upd (egt msk e l) (some d) v:=by
 funext t
 unfold egt upd
 rw [Tr.get_put h t]
 by_cases ht:d=t
 ·subst ht; simp [hk,gOr]
 ·simp [ht]
theorem nO {dst:Option Nat} {v:RV} {e:cm} {l:Lc} {K:cm→Lc→Out} {e':cm} {s':RS} (h:(iG msk dst).run v e l K=.go e' s'):∃ e1 l1,egt msk e1 l1=upd (egt msk e l) dst v∧K e1 l1=.go e' s':=by
 cases dst with
 | none=>exact ⟨e,l,by funext t; simp [upd],h⟩
 | some d =>
  unfold iG at h
  dsimp only at h
  cases hk:gX msk d with
  | true =>
   rw [hk] at h
   simp only [cond_true] at h
   rw [iW,Tr.putK_eq] at h
   split at h
   ·rename_i u hu
    exact ⟨u,l,Hh (show e.put d v=some u from hu) hk,h⟩
   ·cases h
  | false =>
   rw [hk] at h
   simp only [cond_false] at h
   rw [iW] at h
   exact ⟨e,.cons d v l,F7 e l d v hk,h⟩
theorem tN {o:Oper} {pe:PE} {e:cm} {l:Lc} {s:RS} {ns:Notes} {K:K1} {e':cm} {s':RS} (h:(kv P GL msk (rk P o) pe o.dst).run call e l s ns K=.go e' s') :
  ∃ v s1 ns1 e1 l1,RunS P GL call o pe (egt msk e l) s ns v s1 ns1∧egt msk e1 l1=upd (egt msk e l) o.dst v∧K e1 l1 s1 ns1=.go e' s':=by
 have hev:(rev GL msk e l:Ev)=opS GL (egt msk e l):=by funext x; exact ve GL msk e l x
 have cc:isC (rk P o)=true→(mkW P GL msk (rk P o) pe o.dst).run call e l s ns K=.go e' s' →
   ∃ v s1 ns1 e1 l1,RunS P GL call o pe (egt msk e l) s ns v s1 ns1∧egt msk e1 l1=upd (egt msk e l) o.dst v∧K e1 l1 s1 ns1=.go e' s':=by
  intro hc h
  have key:Ap msk o.dst (rcX P call pe.un (rk P o) (opS GL (egt msk e l)) s ns) e l ns K=.go e' s':=by
   unfold mkW at h
   unfold rcX
   split at h
   ·rename_i hun; rw [hun]; rw [← hev]; exact h
   ·rename_i x r hun; rw [hun]; rw [← hev]; exact h
  unfold Ap at key
  split at key
  ·rename_i v s1 hr
   obtain ⟨e1,l1,h1,h2⟩:=nO key
   exact ⟨v,s1,ns,e1,l1,.c hc hr,h1,h2⟩
  ·cases key
 generalize hk:rk P o=k at h cc
 cases k with
 | m x =>
  obtain ⟨e1,l1,h1,h2⟩:=nO h
  rw [ve] at h1
  exact ⟨_,s,ns,e1,l1,.m hk,h1,h2⟩
 | v f =>
  change wx msk o.dst (f (rev GL msk e l)) e l s ns K=.go e' s' at h
  unfold wx at h
  cases hf:f (rev GL msk e l) with
  | none=>rw [hf] at h; cases h
  | some v =>
   rw [hf] at h
   obtain ⟨e1,l1,h1,h2⟩:=nO h
   exact ⟨v,s,ns,e1,l1,.v hk (by rw [← hev]; exact hf),h1,h2⟩
 | r x f =>
  change wx msk o.dst (f (blk s.H.get (rev GL msk e l x)) (rev GL msk e l)) e l s (sk pe.tk ⟨pe.i,(rev GL msk e l x).asBlk,none⟩ ns) K=.go e' s' at h
  unfold wx at h
  cases hf:f (blk s.H.get (rev GL msk e l x)) (rev GL msk e l) with
  | none=>rw [hf] at h; cases h
  | some v =>
   rw [hf] at h
   obtain ⟨e1,l1,h1,h2⟩:=nO h
   rw [ve] at h2
   exact ⟨v,s,_,e1,l1,.r hk (by rw [← hev]; exact hf),h1,h2⟩
 | b f =>
  change CV msk pe o.dst (f (rev GL msk e l)) e l s ns K=.go e' s' at h
  unfold CV at h
  split at h
  ·rename_i ob v hf
   rw [eu] at h
   unfold wC at h
   cases hfr:s.H.get s.nx with
   | some _=>rw [hfr] at h; cases h
   | none =>
    rw [hfr] at h
    simp only at h
    rw [Tr.putK_eq] at h
    split at h
    ·rename_i H hH
     obtain ⟨e1,l1,h1,h2⟩:=nO h
     refine ⟨v.at s.nx,_,_,e1,l1,.b hk (by rw [← hev]; exact hf) ?_,h1,h2⟩
     unfold s6 wC
     rw [eu,hfr]
     simp only
     rw [Tr.putK_eq,hH]
    ·cases h
  ·cases h
 | _=>exact cc rfl h
theorem vZ {g:Option (Nat×Bool)} {d:Nat} {want:Bool} (h:lm all g=some (some (d,want))):∃ j,g=some (j,want)∧dd all j=some d:=by
 unfold lm at h
 split at h
 ·cases h
 ·split at h
  ·rename_i d' hd; cases h; exact ⟨_,rfl,hd⟩
  ·cases h
theorem uS {g:Option (Nat×Bool)} (h:lm all g=some none):g=none:=by
 unfold lm at h
 split at h
 ·rfl
 ·split at h <;> cases h
theorem I9 {o:Oper} {pe:PE} {g:Option (Nat×Bool)} (hg:lm all o.guard=some g) {e:cm} {l:Lc} {s:RS} {ns:Notes} {K:K1} {e':cm} {s':RS}
  (h:(Bb msk g o.dst (kv P GL msk (rk P o) pe o.dst)).run call e l s ns K=.go e' s') :
  ∃ v s1 ns1 e1 l1,StepS P GL call all o pe (egt msk e l) s ns v s1 ns1∧egt msk e1 l1=upd (egt msk e l) o.dst v∧K e1 l1 s1 ns1=.go e' s':=by
 cases g with
 | none =>
  obtain ⟨v,s1,ns1,e1,l1,h1,h2,h3⟩:=tN h
  exact ⟨v,s1,ns1,e1,l1,.run (.inl (uS hg)) h1,h2,h3⟩
 | some p =>
  obtain ⟨d,want⟩:=p
  obtain ⟨j,hj,hd⟩:=vZ hg
  change iY (egt msk e l d) want ((kv P GL msk (rk P o) pe o.dst).run call e l s ns K) ((iG msk o.dst).run rundef e l fun e' l'=>K e' l' s ns)=.go e' s' at h
  unfold iY at h
  have go:(kv P GL msk (rk P o) pe o.dst).run call e l s ns K=.go e' s'→egt msk e l d=.one (.bool want) →
    ∃ v s1 ns1 e1 l1,StepS P GL call all o pe (egt msk e l) s ns v s1 ns1∧egt msk e1 l1=upd (egt msk e l) o.dst v∧K e1 l1 s1 ns1=.go e' s':=by
   intro h hb
   obtain ⟨v,s1,ns1,e1,l1,h1,h2,h3⟩:=tN h
   exact ⟨v,s1,ns1,e1,l1,.run (.inr ⟨j,want,d,hj,hd,hb⟩) h1,h2,h3⟩
  have no:((iG msk o.dst).run rundef e l fun e' l'=>K e' l' s ns)=.go e' s'→(egt msk e l d=.one (.bool (!want))∨egt msk e l d=.tup []) →
    ∃ v s1 ns1 e1 l1,StepS P GL call all o pe (egt msk e l) s ns v s1 ns1∧egt msk e1 l1=upd (egt msk e l) o.dst v∧K e1 l1 s1 ns1=.go e' s':=by
   intro h hb
   obtain ⟨e1,l1,h1,h2⟩:=nO h
   exact ⟨rundef,s,ns,e1,l1,.skip hj hd hb,h1,h2⟩
  rcases wa h with ⟨h1,h2⟩ | ⟨b,h1,h2⟩
  ·unfold AD at h2
   split at h2
   ·rename_i hv; exact no h2 (.inr hv)
   ·cases h2
  ·have hb:=g7 h1
   cases b <;> cases want
   ·exact go h2 hb
   ·exact no h2 (.inl hb)
   ·exact no h2 (.inl hb)
   ·exact go h2 hb
theorem wO:∀ (pl:Plan) {e:cm} {l:Lc} {s:RS} {ns:Notes} {e':cm} {s':RS},(er P GL msk all pl).run call e l s ns=.go e' s' →
  ∃ recs σ',Trace P GL call all (egt msk e l) s ns pl recs σ' s'∧∃ l',σ'=egt msk e' l'
 | [],e,l,s,ns,e',s',h=>by
  cases h
  exact ⟨[],_,.nil,l,rfl⟩
 | pe :: pl,e,l,s,ns,e',s',h=>by
  change (DF P GL msk all pe (er P GL msk all pl)).run call e l s ns=.go e' s' at h
  unfold DF at h
  split at h
  ·rename_i o ho
   split at h
   ·rename_i g hg
    obtain ⟨v,s1,ns1,e1,l1,h1,h2,h3⟩:=I9 hg h
    obtain ⟨recs,σ',h4,h5⟩:=wO pl h3
    rw [h2] at h4
    exact ⟨_,σ',.cons ho h1 h4,h5⟩
   ·cases h
  ·cases h
theorem vQ {v:RV} {want:Bool} {run skip r:Out} (h:iY v want run skip=r):r=.no∨run=r∨skip=r:=by
 unfold iY at h
 rcases wa h with ⟨_,h2⟩ | ⟨b,_,h2⟩
 ·unfold AD at h2
  split at h2
  ·exact .inr (.inr h2)
  ·exact .inl h2.symm
 ·cases b <;> cases want
  ·exact .inr (.inl h2)
  ·exact .inr (.inr h2)
  ·exact .inr (.inr h2)
  ·exact .inr (.inl h2)
theorem uk:∀ (pl:Plan) (e:cm) (l:Lc) (s:RS) (ns:Notes),(er P GL msk all pl).run call e l s ns=.no∨∃ e' s',(er P GL msk all pl).run call e l s ns=.go e' s'
 | [],e,l,s,ns=>.inr ⟨e,s,rfl⟩
 | pe :: pl,e,l,s,ns=>by
  have ih:=uk pl
  have put:∀ {dst:Option Nat} {v:RV} {e:cm} {l:Lc} {s:RS} {ns:Notes},((iG msk dst).run v e l fun e' l'=>(er P GL msk all pl).run call e' l' s ns)=.no∨∃ e' s',((iG msk dst).run v e l fun e' l'=>(er P GL msk all pl).run call e' l' s ns)=.go e' s':=by
   intro dst v e l s ns
   cases dst with
   | none=>exact ih e l s ns
   | some d =>
    unfold iG
    dsimp only
    cases gX msk d with
    | true =>
     simp only [cond_true]
     rw [iW,Tr.putK_eq]
     split
     ·exact ih _ l s ns
     ·exact .inl rfl
    | false =>
     simp only [cond_false]
     rw [iW]
     exact ih e _ s ns
  have cc:∀ {dst:Option Nat} {pr:Option (RV×RS)},Ap msk dst pr e l ns (fun e' l' s' ns'=>(er P GL msk all pl).run call e' l' s' ns')=.no∨∃ e' s',Ap msk dst pr e l ns (fun e' l' s' ns'=>(er P GL msk all pl).run call e' l' s' ns')=.go e' s':=by
   intro dst pr
   unfold Ap
   split
   ·exact put
   ·exact .inl rfl
  have vv:∀ {dst:Option Nat} {pr:Option RV} {ns:Notes},wx msk dst pr e l s ns (fun e' l' s' ns'=>(er P GL msk all pl).run call e' l' s' ns')=.no∨∃ e' s',wx msk dst pr e l s ns (fun e' l' s' ns'=>(er P GL msk all pl).run call e' l' s' ns')=.go e' s':=by
   intro dst pr ns
   cases pr with
   | none=>exact .inl rfl
   | some v=>exact put
  have step:∀ (k:RK) (dst:Option Nat),(kv P GL msk k pe dst).run call e l s ns ((er P GL msk all pl).run call)=.no∨∃ e' s',(kv P GL msk k pe dst).run call e l s ns ((er P GL msk all pl).run call)=.go e' s':=by
   intro k dst
   have ww:(mkW P GL msk k pe dst).run call e l s ns ((er P GL msk all pl).run call)=.no∨∃ e' s',(mkW P GL msk k pe dst).run call e l s ns ((er P GL msk all pl).run call)=.go e' s':=by
    unfold mkW
    split
    ·exact cc
    ·exact cc
   cases k with
   | m x=>exact put
   | v f=>exact vv
   | r x f=>exact vv
   | b f =>
    change CV msk pe dst _ e l s ns _=.no∨∃ e' s',CV msk pe dst _ e l s ns _=.go e' s'
    unfold CV
    split
    ·rw [eu]
     unfold wC
     cases s.H.get s.nx with
     | some _=>exact .inl rfl
     | none =>
      simp only
      rw [Tr.putK_eq]
      split
      ·exact put
      ·exact .inl rfl
    ·exact .inl rfl
   | _=>exact ww
  change (DF P GL msk all pe (er P GL msk all pl)).run call e l s ns=.no∨∃ e' s',(DF P GL msk all pe (er P GL msk all pl)).run call e l s ns=.go e' s'
  unfold DF
  split
  ·rename_i o ho
   split
   ·rename_i g hg
    cases g with
    | none=>exact step _ _
    | some p =>
     obtain ⟨d,want⟩:=p
     rcases vQ (v:=egt msk e l d) (want:=want) (run:=(kv P GL msk (rk P o) pe o.dst).run call e l s ns ((er P GL msk all pl).run call)) (skip:=(iG msk o.dst).run rundef e l fun e' l'=>(er P GL msk all pl).run call e' l' s ns) rfl with h | h | h
     ·exact .inl h
     ·change iY _ _ _ _=.no∨∃ e' s',iY _ _ _ _=.go e' s'
      rw [← h]; exact step _ _
     ·change iY _ _ _ _=.no∨∃ e' s',iY _ _ _ _=.go e' s'
      rw [← h]; exact put
   ·exact .inl rfl
  ·exact .inl rfl
end
end Go.Rx

/-
 Regions in order; blocks put aside.
-/
namespace Go.Rx
open Go.Vm
section
variable {P:Program} {GL:List Nat} {w0:World} {call:Call1}
structure RSim (GL:List Nat) (w0:World) (N:Nat) (a:Act) (w:World) (ι : Io) (σ : Nat→RV) (s:RS):Prop where
 inv:RInv GL w0 w ι s.H.get
 top:∀ b,s.nx≤b→ι b=none
 defers:a.defers=[]
 size:N≤a.tmps.size
 env:∀ t,RelV ι (a.tmps.getD t undef) (σ t)
theorem xU {a:Act} {d:Nat} {v:Value} (h:a.tmps.getD d undef=v) (hne:v≠undef):a.tmps[d]?=some v:=by
 rw [MW] at h
 cases hg:a.tmps[d]? with
 | none=>rw [hg] at h; exact absurd h.symm hne
 | some u=>rw [hg] at h; simp at h; rw [h]
theorem pX {ops:Array Oper} {j d:Nat} (h:dd ops.toList j=some d):(ops[j]?).bind (·.dst)=some d:=by
 unfold dd at h
 rw [My] at h
 split at h
 ·rename_i o ho; simp [ho,h]
 ·cases h
theorem qi {ι : Io} {ops:Array Oper} {o:Oper} {a:Act} {σ : Nat→RV} (hg:o.guard=none∨∃ j want d,o.guard=some (j,want)∧dd ops.toList j=some d∧σ d=.one (.bool want))
  (he:∀ j want d,o.guard=some (j,want)→dd ops.toList j=some d→RelV ι (a.tmps.getD d undef) (σ d)):Region.wanted o (yielded ops a.tmps)=true:=by
 rcases hg with hg | ⟨j,want,d,h1,h2,h3⟩
 ·simp [Region.wanted,hg]
 ·have hv:=he j want d h1 h2
  rw [h3] at hv
  have hv:=xU (rel_bool hv) (by simp [undef])
  simp [Region.wanted,h1,yielded,pX h2,hv]
theorem nY {ι : Io} {ops:Array Oper} {o:Oper} {a:Act} {σ : Nat→RV} {j d:Nat} {want:Bool} (h1:o.guard=some (j,want)) (h2:dd ops.toList j=some d) (h3 : σ d=.one (.bool (!want))∨σ d=.tup [])
  (hv:RelV ι (a.tmps.getD d undef) (σ d)):Region.wanted o (yielded ops a.tmps)=false:=by
 rcases h3 with h3 | h3
 ·rw [h3] at hv
  have hv:=xU (rel_bool hv) (by simp [undef])
  simp [Region.wanted,h1,yielded,pX h2,hv]
 ·rw [h3] at hv
  obtain ⟨us,hu,hr⟩:=hv
  cases hr
  have hv:a.tmps.getD d undef=undef:=hu
  rw [MW] at hv
  simp only [Region.wanted,h1,yielded,pX h2,Option.bind_some]
  cases hg:a.tmps[d]? with
  | none=>simp
  | some v=>rw [hg] at hv; simp at hv; subst hv; simp [undef]
theorem me {ι : Io}:RelV ι undef rundef:=Dq
theorem Iu {o:Oper} {pe:PE} {σ : Nat→RV} {s s1:RS} {ns ns1:Notes} {v:RV} (h:RunS P GL call o pe σ s ns v s1 ns1) (hc:isC (rk P o)=false) {ι : Io} {a:Act} {w w0:World} (hS:∀ x∈o.op.operands,RelV ι (a.eval x) (opS GL σ x))
  (hl:∀ x f,rk P o=.r x f→mO w0 w ι (opS GL σ x) (blk s.H.get (opS GL σ x))) :
  (s1=s∧∃ u,(execOp a.eval o).run P w=.ok (.value u) w∧RelV ι u v) ∨
  (∃ ob vb,s6 s ob=some s1∧v=vb.at s.nx∧AK P ι a o ob vb∧ns1=sk pe.tk ⟨pe.i,none,some s.nx⟩ ns∧xu (rk P o)=true):=by
 cases h with
 | m hk =>
  obtain ⟨u,h1,h2⟩:=KV hk hS w
  exact .inl ⟨rfl,u,h1,h2⟩
 | v hk h1 =>
  obtain ⟨u,h1,h2⟩:=K3 hk h1 hS w
  exact .inl ⟨rfl,u,h1,h2⟩
 | r hk h1 =>
  obtain ⟨u,h1,h2⟩:=LG hk h1 hS (hl _ _ hk)
  exact .inl ⟨rfl,u,h1,h2⟩
 | b hk h1 h2=>exact .inr ⟨_,_,h2,rfl,Lm hk h1 hS,rfl,by rw [hk]; rfl⟩
 | c hk _=>rw [hc] at hk; cases hk
theorem yh {ι : Io} {w w0:World} {h:Hp} (hi:∀ b o,h b=some o→RBlk w0 w ι b o) (x:RV):mO w0 w ι x (blk h x):=by
 intro o' ho'
 unfold blk at ho'
 rcases wa ho' with ⟨_,h2⟩ | ⟨b,h1,h2⟩
 ·cases h2
 ·exact ⟨b,h1,hi b o' h2⟩
theorem Gj (hC:jo P GL call) {N:Nat} {a:Act} {w:World} {ι : Io} {σ : Nat→RV} {s:RS} (hs:RSim GL w0 N a w ι σ s) {ops:Array Oper} {Q:Exit→Act→World→Prop} {i:Nat} {o:Oper} (ho:ops[i]?=some o) {pe:PE} (hun:pe.un=[]) {ns ns1:Notes} {v:RV} {s1:RS}
  (h:StepS P GL call ops.toList o pe σ s ns v s1 ns1) (hd:∀ d,o.dst=some d→d < N) {K:Act→World→Prop} (hK:∀ a' w' ι',Go1 GL w0 s.nx w ι s.H.get s1.nx w' ι' s1.H.get→RSim GL w0 N a' w' ι' (upd σ o.dst v) s1→K a' w'):wpOp P ops Q i K a w:=by
 have hd':∀ d,o.dst=some d→d < a.tmps.size:=fun d hq=>Ml (hd d hq) hs.size
 have hS:∀ x∈o.op.operands,RelV ι (a.eval x) (opS GL σ x):=fun x _=>u9 hs.inv.glob fun t _=>hs.env t
 have fin:∀ u w' ι',Go1 GL w0 s.nx w ι s.H.get s1.nx w' ι' s1.H.get→RelV ι' u v→K (a.put o.dst u) w':=by
  intro u w' ι' g hu
  refine hK _ _ _ g ⟨g.inv,g.top,?_,?_,?_⟩
  ·cases hq:o.dst <;> exact hs.defers
  ·cases hq:o.dst with
   | none=>exact hs.size
   | some d=>simpa [Act.put] using hs.size
  ·intro t
   rw [kg a o.dst u hd']
   unfold upd
   split
   ·exact hu
   ·exact (hs.env t).mono g.le
 unfold wpOp
 rw [ho]
 simp only
 cases h with
 | skip hg hsl hv =>
  rw [nY hg hsl hv (hs.env _)]
  simp only [MB,if_false]
  exact fin undef w ι (Go1.refl hs.inv hs.top) me
 | run hg hr =>
  rw [qi (ι:=ι) hg fun j want d _ _=>hs.env d]
  simp only [if_true]
  refine .inl ?_
  cases hc:isC (rk P o) with
  | false =>
   rcases Iu hr hc hS (w0:=w0) (w:=w) (fun x f _=>yh hs.inv.blk _) with ⟨rfl,u,h1,h2⟩ | ⟨ob,vb,h1,rfl,h2,_⟩
   ·exact Does.value (R:=fun u w'=>∃ ι',Go1 GL w0 s1.nx w ι s1.H.get s1.nx w' ι' s1.H.get∧RelV ι' u v) h1 ⟨ι,Go1.refl hs.inv hs.top,h2⟩ K Q fun u w' ⟨ι',h3,h4⟩=>fin u w' ι' h3 h4
   ·obtain ⟨u,w',L,r1,r2,r3,r4,r5⟩:=h2 w
    obtain ⟨e1,e2⟩:=dy h1
    obtain ⟨q1,q2⟩:=r5 w0 s.nx hs.inv.kept.size (hs.top s.nx (A7 _))
    refine Does.value (R:=fun u w'=>∃ ι',Go1 GL w0 s.nx w ι s.H.get s1.nx w' ι' s1.H.get∧RelV ι' u (vb.at s.nx)) r1 ⟨_,?_,q2⟩ K Q fun u w' ⟨ι',h3,h4⟩=>fin u w' ι' h3 h4
    rw [e1,e2]
    exact Go1.new hs.inv hs.top r2 (Pv r3.symm) r4 q1
  | true =>
   cases hr with
   | m hk=>rw [hk] at hc; cases hc
   | v hk _=>rw [hk] at hc; cases hc
   | r hk _=>rw [hk] at hc; cases hc
   | b hk _ _=>rw [hk] at hc; cases hc
   | c _ h1 =>
    unfold rcX at h1
    rw [hun] at h1
    exact Kv hC h1 hS w hs.inv hs.top K Q fun u w' ⟨ι',h3,h4⟩=>fin u w' ι' h3 h4
theorem Jf (hC:jo P GL call) {N:Nat} {ops:Array Oper} {Q:Exit→Act→World→Prop} (hd:∀ o∈ops.toList,∀ d,o.dst=some d→d < N) {σ σ':Nat→RV} {s s':RS} {ns:Notes} {pl:Plan} {recs:List Rec} (h:Trace P GL call ops.toList σ s ns pl recs σ' s')
  (hun:∀ pe∈pl,pe.un=[]):∀ {a:Act} {w:World} {ι : Io},RSim GL w0 N a w ι σ s→(∀ a' w' ι',Go1 GL w0 s.nx w ι s.H.get s'.nx w' ι' s'.H.get→RSim GL w0 N a' w' ι' σ' s'→Q .normal a' w')→wpOps P ops Q (pl.map (·.i)) a w:=by
 induction h with
 | nil=>intro a w ι hs hQ; exact hQ a w ι (Go1.refl hs.inv hs.top) hs
 | cons ho hst t ih =>
  intro a w ι hs hQ
  simp only [List.map_cons]
  rw [wpOps_cons]
  have ho':=ho
  rw [My] at ho'
  refine Gj hC hs ho' (hun _ (Mv ..)) hst (hd _ (A5 ho)) fun a' w' ι' g hs'=>?_
  exact ih (fun pe hpe=>hun pe (Me _ hpe)) hs' fun a2 w2 ι2 g2 hs2=>hQ a2 w2 ι2 (g.trans g2) hs2
theorem o8:∀ (l:List Oper) (k:Nat),(g9 k l).map (·.i)=List.range' k l.length∧∀ pe∈g9 k l,pe.un=[]
 | [],k=>⟨rfl,by simp [g9]⟩
 | o :: l,k=>by
  obtain ⟨h1,h2⟩:=o8 l (k+1)
  refine ⟨?_,?_⟩
  ·show k :: (g9 (k+1) l).map (·.i)=_
   rw [h1]; rfl
  ·intro pe hpe
   change pe∈⟨k,false,[]⟩ :: g9 (k+1) l at hpe
   rcases B7.1 hpe with rfl | hpe
   ·rfl
   ·exact h2 pe hpe
noncomputable def fJ (un:List Nat) (ns:Notes):List Nat:=ns.flatMap fun n=>cond (inL un n.i) (n.rd.toList++n.nw.toList) []
noncomputable def kH (un:List Nat) (ns:Notes):List Nat:=ns.flatMap fun n=>cond (inL un n.i) n.nw.toList []
structure AsideOK (s s1:RS) (ids nws:List Nat):Prop where
 nx:s1.nx=s.nx
 weak:∀ b o',s1.H.get b=some o'→o'=.dead∨∃ o,s.H.get b=some o∧(o'=o∨∃ t n,o=.cells t n∧o'=.ro t n)
 low:∀ b∈ids,∀ o',s1.H.get b=some o'→jM o'=false
 gone:∀ b∈nws,s1.H.get b=some .dead
theorem wc {s s1 s2:RS} {ids nws:List Nat} (h:AsideOK s s1 ids nws) {b:Option Nat} {made:Bool} (h2:pa b made (some s1)=some s2):AsideOK s s2 (b.toList++ids) (cond made b.toList []++nws):=by
 cases b with
 | none =>
  cases h2
  cases made <;> simpa using h
 | some b =>
  unfold pa at h2
  have put:∀ {o:RO},hZ s1 b o=some s2→jM o=false→(o=.dead∨∃ t n,s1.H.get b=some (.cells t n)∧o=.ro t n)→(made=true→o=.dead)→(b∈nws→o=.dead) →
    AsideOK s s2 (b :: ids) (cond made [b] []++nws):=by
   intro o hset ho hw hm hg
   obtain ⟨e1,e2⟩:=dz hset
   refine ⟨e2.trans h.nx,?_,?_,?_⟩
   ·intro b' o' hb'
    rw [e1] at hb'
    unfold Hp.set at hb'
    split at hb'
    ·rename_i e; subst e; cases hb'
     rcases hw with hw | ⟨t,n,h3,h4⟩
     ·exact .inl hw
     ·rcases h.weak b' _ h3 with h5 | ⟨o1,h5,h6 | ⟨t',n',h6,h7⟩⟩
      ·cases h5
      ·exact .inr ⟨o1,h5,.inr ⟨t,n,h6.symm,h4⟩⟩
      ·cases h7
    ·exact h.weak b' o' hb'
   ·intro b' hb' o' ho'
    rw [e1] at ho'
    unfold Hp.set at ho'
    split at ho'
    ·cases ho'; exact ho
    ·rename_i e
     rcases B7.1 hb' with h3 | h3
     ·exact absurd h3 e
     ·exact h.low b' h3 o' ho'
   ·intro b' hb'
    rw [e1]
    unfold Hp.set
    split
    ·rename_i e
     subst e
     congr 1
     rcases B3.1 hb' with h3 | h3
     ·cases made with
      | false=>cases h3
      | true=>exact hm rfl
     ·exact hg h3
    ·rename_i e
     rcases B3.1 hb' with h3 | h3
     ·cases made with
      | false=>cases h3
      | true=>simp at h3; exact absurd h3 e
     ·exact h.gone b' h3
  cases made with
  | true=>exact put (show hZ s1 b .dead=some s2 from h2) rfl (.inl rfl) (fun _=>rfl) (fun _=>rfl)
  | false =>
   change (match s1.H.get b with | some (.cells t m)=>hZ s1 b (.ro t m) | some (.map _)=>hZ s1 b .dead | _=>some s1)=some s2 at h2
   split at h2
   ·rename_i t m hb
    exact put h2 rfl (.inr ⟨t,m,hb,rfl⟩) (fun h=>by cases h) (fun hb'=>by have:=h.gone b hb'; rw [hb] at this; cases this)
   ·exact put h2 rfl (.inl rfl) (fun h=>by cases h) (fun _=>rfl)
   ·rename_i hn1 hn2
    cases h2
    refine ⟨h.nx,h.weak,?_,h.gone⟩
    intro b' hb' o' ho'
    rcases B7.1 hb' with h3 | h3
    ·subst h3
     cases o' with
     | cells t m=>exact absurd ho' (hn1 t m)
     | map es=>exact absurd ho' (hn2 es)
     | _=>rfl
    ·exact h.low b' h3 o' ho'
theorem jZ {un:List Nat} {s:RS}:∀ {ns:Notes} {s1:RS},fI un s ns=some s1→AsideOK s s1 (fJ un ns) (kH un ns)
 | [],s1,h=>by cases h; exact ⟨rfl,fun b o' h=>.inr ⟨o',h,.inl rfl⟩,(fun b hb=>by cases hb),(fun b hb=>by cases hb)⟩
 | n :: r,s1,h=>by
  unfold fI at h
  cases hin:inL un n.i with
  | false =>
   rw [hin] at h
   have:=jZ (ns:=r) h
   simpa [fJ,kH,hin] using this
  | true =>
   rw [hin] at h
   change pa n.nw true (pa n.rd false (fI un s r))=some s1 at h
   cases h1:fI un s r with
   | none=>rw [h1] at h; cases hrd:n.rd <;> rw [hrd] at h <;> (cases hnw:n.nw <;> rw [hnw] at h <;> cases h)
   | some q =>
    rw [h1] at h
    have i1:=jZ h1
    cases h2:pa n.rd false (some q) with
    | none=>rw [h2] at h; cases hnw:n.nw <;> rw [hnw] at h <;> cases h
    | some q2 =>
     rw [h2] at h
     have i2:=wc (made:=false) i1 h2
     have i3:=wc (made:=true) i2 h
     refine ⟨i3.nx,i3.weak,fun b hb=>i3.low b ?_,fun b hb=>i3.gone b ?_⟩
     ·simp only [fJ,ND,hin,cond_true,B3] at hb ⊢
      rcases hb with (hb | hb) | hb
      ·exact .inr (.inl hb)
      ·exact .inl hb
      ·exact .inr (.inr hb)
     ·simpa [kH,hin] using hb
def Bg (s0 s2 s3:RS) (ids:List Nat):Prop:=s3.nx=s2.nx∧(∀ b∈ids,(s0.H.get b).isSome=true→s3.H.get b=s0.H.get b)∧∀ b,(b∉ids∨s0.H.get b=none)→s3.H.get b=s2.H.get b
theorem tG {s0 s2 q q':RS} {b:Option Nat} {ids:List Nat} (h:kM b s0 (some q)=some q') (hq:Bg s0 s2 q ids):Bg s0 s2 q' (b.toList++ids):=by
 cases b with
 | none=>cases h; exact hq
 | some b =>
  obtain ⟨h1,h2,h3⟩:=hq
  change (match s0.H.get b with | some o=>hZ q b o | none=>some q)=some q' at h
  split at h
  ·rename_i o ho
   obtain ⟨e1,e2⟩:=dz h
   refine ⟨e2.trans h1,?_,?_⟩
   ·intro b' hb' hs
    rw [e1]
    unfold Hp.set
    by_cases e:b'=b
    ·subst e; rw [if_pos rfl,ho]
    ·rw [if_neg e]
     rcases B7.1 hb' with h4 | h4
     ·exact absurd h4 e
     ·exact h2 b' h4 hs
   ·intro b' hb'
    rw [e1]
    unfold Hp.set
    by_cases e:b'=b
    ·subst e
     rcases hb' with hb' | hb'
     ·exact absurd (by simp) hb'
     ·rw [ho] at hb'; cases hb'
    ·rw [if_neg e]
     exact h3 b' (hb'.imp (fun h5 h6=>h5 (Me _ h6)) id)
  ·rename_i ho
   cases h
   refine ⟨h1,?_,?_⟩
   ·intro b' hb' hs
    rcases B7.1 hb' with h4 | h4
    ·subst h4; rw [ho] at hs; cases hs
    ·exact h2 b' h4 hs
   ·intro b' hb'
    exact h3 b' (hb'.imp (fun h5 h6=>h5 (Me _ h6)) id)
theorem rX {un:List Nat} {s0 s2:RS}:∀ {ns:Notes} {s3:RS},fA un s0 s2 ns=some s3→Bg s0 s2 s3 (fJ un ns)
 | [],s3,h=>by cases h; exact ⟨rfl,(fun b hb=>by cases hb),fun b _=>rfl⟩
 | n :: r,s3,h=>by
  unfold fA at h
  cases hin:inL un n.i with
  | false =>
   rw [hin] at h
   have:=rX (ns:=r) h
   simpa [fJ,hin] using this
  | true =>
   rw [hin] at h
   change kM n.nw s0 (kM n.rd s0 (fA un s0 s2 r))=some s3 at h
   cases h1:fA un s0 s2 r with
   | none=>rw [h1] at h; cases hrd:n.rd <;> rw [hrd] at h <;> (cases hnw:n.nw <;> rw [hnw] at h <;> cases h)
   | some q =>
    rw [h1] at h
    cases h2:kM n.rd s0 (some q) with
    | none=>rw [h2] at h; cases hnw:n.nw <;> rw [hnw] at h <;> cases h
    | some q2 =>
     rw [h2] at h
     obtain ⟨i1,i2,i3⟩:=tG h (tG h2 (rX h1))
     have hm:∀ b,(b∈n.nw.toList++(n.rd.toList++fJ un r))↔b∈fJ un (n :: r):=by
      intro b
      simp only [fJ,ND,hin,cond_true,B3]
      constructor
      ·intro h
       rcases h with h | h | h
       ·exact Or.inl (Or.inr h)
       ·exact Or.inl (Or.inl h)
       ·exact Or.inr h
      ·intro h
       rcases h with (h | h) | h
       ·exact Or.inr (Or.inl h)
       ·exact Or.inl h
       ·exact Or.inr (Or.inr h)
     exact ⟨i1,fun b hb=>i2 b ((hm b).2 hb),fun b hb=>i3 b (hb.imp (fun h5 h6=>h5 ((hm b).1 h6)) id)⟩
theorem FC {un:List Nat} {k:RK} {ev:Ev} {s s':RS} {ns:Notes} {v:RV} (h:rcU P call un k ev s ns=some (v,s')):∃ s1 s2,fI un s ns=some s1∧rc P call k ev s1=some (v,s2)∧fA un s s2 ns=some s':=by
 unfold rcU at h
 split at h
 ·rename_i s1 h1
  unfold Ic at h
  split at h
  ·rename_i v' s2 h2
   split at h
   ·rename_i s3 h3
    cases h
    exact ⟨s1,s2,h1,h2,h3⟩
   ·cases h
  ·cases h
 ·cases h
end
end Go.Rx

/-
 Regions in no fixed order: what is looked over beforehand.
-/
namespace Go.Rx
open Go.Vm
inductive Bef (ops:Array Oper):Nat→Nat→Prop
 | one {i:Nat} {o:Oper} {e:Edge} (ho:ops[i]?=some o) (he:e∈o.after.toList) (hb:Region.binds .any e=true):Bef ops i e.on
 | more {i j:Nat} {o:Oper} {e:Edge} (ho:ops[i]?=some o) (he:e∈o.after.toList) (hb:Region.binds .any e=true) (h:Bef ops e.on j):Bef ops i j
noncomputable section
section
variable (P:Program) (ops:Array Oper)
def rM:List (Nat×Nat)→Nat→Nat
 | [],_=>0
 | p :: r,i=>cond (B1 p.1 i) p.2 (rM r i)
def ji (tab:List (Nat×Nat)):List Edge→Nat
 | []=>0
 | e :: r=>cond (Region.binds .any e) ((2 ^ e.on ||| rM tab e.on) ||| ji tab r) (ji tab r)
def Ik (o o':Oper):Bool:=match o.dst,o'.dst with
 | some d,some d'=>!(B1 d d')
 | _,_=>true
def v8 (m:Nat) (pe:PE) (o:Oper) (q:PE) (o':Oper):Bool :=
 !(B1 q.i pe.i) && Ik o o' && (bit m q.i || (!isC (rk P o') && Oper.apart ops o' o && (!isC (rk P o) || !xu (rk P o') || (q.tk && inL pe.un q.i))))
def FF (pre:List (PE×Oper)) (e:Edge):Bool:=!Region.binds .any e || pre.any fun p=>B1 p.1.i e.on
def p9:Plan→List (PE×Oper)→List (Nat×Nat)→Bool
 | [],_,_=>true
 | pe :: r,pre,tab=>match ops[pe.i]? with
  | none=>false
  | some o=>(o.after.toList.all (FF pre) && pre.all fun p=>v8 P ops (ji tab o.after.toList) pe o p.1 p.2) && p9 r ((pe,o) :: pre) ((pe.i,ji tab o.after.toList) :: tab)
def A0 (pl:Plan):Bool:=p9 P ops pl [] [] && (LX ops.size).all fun i=>pl.any fun pe=>B1 pe.i i
end
end
section
variable {P:Program} {ops:Array Oper}
def BH (ops:Array Oper) (tab:List (Nat×Nat)):Prop:=∀ i j,bit (rM tab i) j=true→Bef ops i j
theorem EV {a b j:Nat} (h:bit (a ||| b) j=true):bit a j=true∨bit b j=true:=by
 rw [lC,Nat.testBit_or,Mt] at h
 exact h.imp lC.2 lC.2
theorem HO {n j:Nat} (h:bit (2 ^ n) j=true):n=j:=by
 rw [lC,Nat.testBit_two_pow] at h
 simpa using h
theorem xL {j:Nat} (h:bit 0 j=true):False:=by
 rw [lC,Nat.zero_testBit] at h
 cases h
theorem lw {tab:List (Nat×Nat)} (ht:BH ops tab) {i:Nat} {o:Oper} (ho:ops[i]?=some o) {j:Nat}:∀ {l:List Edge},(∀ e∈l,e∈o.after.toList)→bit (ji tab l) j=true→Bef ops i j
 | [],_,h=>(xL h).elim
 | e :: r,hl,h=>by
  unfold ji at h
  cases hb:Region.binds .any e with
  | false=>rw [hb] at h; exact lw ht ho (fun x hx=>hl x (Me _ hx)) h
  | true =>
   rw [hb] at h
   rcases EV (show bit ((2 ^ e.on ||| rM tab e.on) ||| ji tab r) j=true from h) with h | h
   ·rcases EV h with h | h
    ·rw [← HO h]; exact .one ho (hl e (Mv ..)) hb
    ·exact .more ho (hl e (Mv ..)) hb (ht _ _ h)
   ·exact lw ht ho (fun x hx=>hl x (Me _ hx)) h
def vw (P:Program) (ops:Array Oper) (pe:PE) (o:Oper) (q:PE) (o':Oper):Prop :=
 q.i≠pe.i∧(∀ d,o.dst=some d→o'.dst≠some d)∧(Bef ops pe.i q.i∨(isC (rk P o')=false∧Oper.apart ops o' o=true∧(isC (rk P o)=true→xu (rk P o')=true→q.tk=true∧inL pe.un q.i=true)))
theorem Ab {tab:List (Nat×Nat)} (ht:BH ops tab) {pe q:PE} {o o':Oper} (ho:ops[pe.i]?=some o) (h:v8 P ops (ji tab o.after.toList) pe o q o'=true):vw P ops pe o q o':=by
 unfold v8 at h
 simp only [A3,Mt] at h
 obtain ⟨⟨h1,h2⟩,h3⟩:=h
 refine ⟨?_,?_,?_⟩
 ·intro e
  rw [e,Nat.beq_refl] at h1
  cases h1
 ·intro d hd hd'
  unfold Ik at h2
  rw [hd,hd'] at h2
  simp at h2
 ·rcases h3 with h3 | ⟨⟨h3,h4⟩,h5⟩
  ·exact .inl (lw ht ho (fun e he=>he) h3)
  ·refine .inr ⟨by simpa using h3,h4,fun hc hn=>?_⟩
   rcases h5 with (h5 | h5) | h5
   ·rw [hc] at h5; cases h5
   ·rw [hn] at h5; cases h5
   ·exact h5
structure PlanOK (P:Program) (ops:Array Oper) (pl:Plan):Prop where
 op:∀ (t:Nat) (pe:PE),pl[t]?=some pe→∃ o,ops[pe.i]?=some o
 sur:∀ i,i < ops.size→∃ (t:Nat) (pe:PE),pl[t]?=some pe∧pe.i=i
 pred:∀ (t:Nat) (pe:PE) (o:Oper) (e:Edge),pl[t]?=some pe→ops[pe.i]?=some o→e∈o.after.toList→Region.binds .any e=true→∃ (t':Nat) (q:PE),t' < t∧pl[t']?=some q∧q.i=e.on
 pair:∀ (t' t:Nat) (q pe:PE) (o' o:Oper),t' < t→pl[t']?=some q→pl[t]?=some pe→ops[q.i]?=some o'→ops[pe.i]?=some o→vw P ops pe o q o'
theorem rR:∀ {pl:Plan} {pre:List (PE×Oper)} {tab:List (Nat×Nat)},p9 P ops pl pre tab=true→BH ops tab →
  ∀ (t:Nat) (pe:PE),pl[t]?=some pe→∃ o,ops[pe.i]?=some o∧(∀ e∈o.after.toList,Region.binds .any e=true→(∃ p∈pre,p.1.i=e.on)∨∃ (t':Nat) (q:PE),t' < t∧pl[t']?=some q∧q.i=e.on) ∧
   (∀ p∈pre,vw P ops pe o p.1 p.2)∧∀ (t':Nat) (q:PE) (o':Oper),t' < t→pl[t']?=some q→ops[q.i]?=some o'→vw P ops pe o q o'
 | [],pre,tab,_,_,t,pe,h=>by simp at h
 | x :: r,pre,tab,h,ht,t,pe,hpe=>by
  unfold p9 at h
  split at h
  ·cases h
  ·rename_i o ho
   simp only [A3] at h
   obtain ⟨⟨h1,h2⟩,h3⟩:=h
   rw [LZ] at h1 h2
   cases t with
   | zero =>
    simp at hpe
    subst hpe
    refine ⟨o,ho,fun e he hb=>?_,fun p hp=>Ab ht ho (h2 p hp),fun t' q o' ht'=>absurd ht' (Nat.not_lt_zero _)⟩
    have:=h1 e he
    unfold FF at this
    rw [hb] at this
    simp only [Bool.not_true,NB,ME] at this
    obtain ⟨p,hp,hq⟩:=this
    exact .inl ⟨p,hp,A4 hq⟩
   | succ t =>
    have htab:BH ops ((x.i,ji tab o.after.toList) :: tab):=by
     intro i j hb
     unfold rM at hb
     cases hi:B1 x.i i with
     | true =>
      rw [hi] at hb
      rw [← A4 hi]
      exact lw ht ho (fun e he=>he) hb
     | false=>rw [hi] at hb; exact ht i j hb
    obtain ⟨o2,k1,k2,k3,k4⟩:=rR h3 htab t pe (by simpa using hpe)
    refine ⟨o2,k1,fun e he hb=>?_,fun p hp=>k3 p (Me _ hp),fun t' q o' ht' hq ho'=>?_⟩
    ·rcases k2 e he hb with ⟨p,hp,hpi⟩ | ⟨t',q,ht',hq,hqi⟩
     ·rcases B7.1 hp with rfl | hp
      ·exact .inr ⟨0,x,Nat.succ_pos _,rfl,hpi⟩
      ·exact .inl ⟨p,hp,hpi⟩
     ·exact .inr ⟨t'+1,q,by omega,by simpa using hq,hqi⟩
    ·cases t' with
     | zero =>
      simp at hq
      subst hq
      rw [ho] at ho'
      cases ho'
      exact k3 (x,o) (Mv ..)
     | succ t'=>exact k4 t' q o' (by omega) (by simpa using hq) ho'
theorem Dl {pl:Plan} (h:A0 P ops pl=true):PlanOK P ops pl:=by
 unfold A0 at h
 simp only [A3] at h
 obtain ⟨h1,h2⟩:=h
 have key:=rR h1 (fun i j hb=>(xL hb).elim)
 refine ⟨fun t pe hpe=>let ⟨o,k1,_⟩:=key t pe hpe; ⟨o,k1⟩,?_,?_,?_⟩
 ·intro i hi
  rw [LZ] at h2
  have:=h2 i (M2.2 hi)
  rw [ME] at this
  obtain ⟨pe,h3,h4⟩:=this
  obtain ⟨t,h5⟩:=List.mem_iff_getElem?.1 h3
  exact ⟨t,pe,h5,A4 h4⟩
 ·intro t pe o e hpe ho he hb
  obtain ⟨o',k1,k2,_⟩:=key t pe hpe
  rw [ho] at k1
  cases k1
  rcases k2 e he hb with ⟨p,hp,_⟩ | h
  ·cases hp
  ·exact h
 ·intro t' t q pe o' o ht hq hpe ho' ho
  obtain ⟨o2,k1,_,_,k4⟩:=key t pe hpe
  rw [ho] at k1
  cases k1
  exact k4 t' q o' ht hq ho'
end
structure Path (P:Program) (GL:List Nat) (call:Call1) (ops:Array Oper) (pl:Plan) where
 Sg:Nat→Nat→RV
 St:Nat→RS
 Ns:Nat→Notes
 V:Nat→RV
 step:∀ (t:Nat) (pe:PE) (o:Oper),pl[t]?=some pe→ops[pe.i]?=some o→StepS P GL call ops.toList o pe (Sg t) (St t) (Ns t) (V t) (St (t+1)) (Ns (t+1))∧Sg (t+1)=upd (Sg t) o.dst (V t)
section
variable {P:Program} {GL:List Nat} {call:Call1} {ops:Array Oper}
theorem va {σ σ':Nat→RV} {s s':RS} {ns:Notes} {pl:Plan} {recs:List Rec} (h:Trace P GL call ops.toList σ s ns pl recs σ' s') :
  ∃ π : Path P GL call ops pl,π.Sg 0=σ∧π.St 0=s∧π.Sg pl.length=σ'∧π.St pl.length=s'∧π.Ns 0=ns:=by
 induction h with
 | @nil σ s ns=>exact ⟨⟨fun _=>σ,fun _=>s,fun _=>ns,fun _=>.unk,fun t pe o h=>by simp at h⟩,rfl,rfl,rfl,rfl,rfl⟩
 | @cons σ s ns pe pl o v s1 ns1 recs σ' s' ho hst t ih =>
  obtain ⟨π,h1,h2,h3,h4,h5⟩:=ih
  refine ⟨⟨fun t=>Nat.casesOn t σ π.Sg,fun t=>Nat.casesOn t s π.St,fun t=>Nat.casesOn t ns π.Ns,fun t=>Nat.casesOn t v π.V,?_⟩,rfl,rfl,h3,h4,rfl⟩
  intro t pe' o' hpe ho'
  cases t with
  | zero =>
   simp at hpe
   subst hpe
   rw [My] at ho
   rw [ho] at ho'
   cases ho'
   refine ⟨?_,?_⟩
   ·show StepS P GL call ops.toList o pe σ s ns v (π.St 0) (π.Ns 0)
    rw [h2,h5]; exact hst
   ·show π.Sg 0=_
    rw [h1]; rfl
  | succ t=>exact π.step t pe' o' (by simpa using hpe) ho'
theorem C0 {s s':RS} {ob:RO} (h:s6 s ob=some s'):s.H.get s.nx=none:=by
 unfold s6 at h
 rw [eu] at h
 exact (uv h).1
variable {pl:Plan} (π : Path P GL call ops pl)
theorem Path.first {t:Nat} {pe:PE} {o:Oper} (hpe:pl[t]?=some pe) (ho:ops[pe.i]?=some o) (hc:isC (rk P o)=false) :
  (π.St (t+1)=π.St t)∨∃ ob,(π.St t).H.get (π.St t).nx=none∧(π.St (t+1)).H.get=Hp.set (π.St t).H.get (π.St t).nx ob∧(π.St (t+1)).nx=(π.St t).nx+1∧xu (rk P o)=true∧(pe.tk=true→⟨pe.i,none,some (π.St t).nx⟩∈π.Ns (t+1)):=by
 have h:=(π.step t pe o hpe ho).1
 generalize π.St (t+1)=s1 at h ⊢
 generalize π.Ns (t+1)=ns1 at h ⊢
 generalize π.V t=v at h
 cases h with
 | skip=>exact .inl rfl
 | run hg hr =>
  cases hr with
  | m _=>exact .inl rfl
  | v _ _=>exact .inl rfl
  | r _ _=>exact .inl rfl
  | b hk h1 h2 =>
   obtain ⟨e1,e2⟩:=dy h2
   refine .inr ⟨_,C0 h2,e1,e2,by rw [hk]; rfl,fun ht=>?_⟩
   unfold sk
   rw [ht]
   exact Mv ..
  | c hk _=>rw [hc] at hk; cases hk
theorem Path.notes {t:Nat} {pe:PE} {o:Oper} (hpe:pl[t]?=some pe) (ho:ops[pe.i]?=some o):∀ n∈π.Ns t,n∈π.Ns (t+1):=by
 have h:=(π.step t pe o hpe ho).1
 generalize π.St (t+1)=s1 at h
 generalize π.Ns (t+1)=ns1 at h ⊢
 generalize π.V t=v at h
 intro n hn
 cases h with
 | skip=>exact hn
 | run hg hr =>
  cases hr with
  | m _=>exact hn
  | v _ _=>exact hn
  | r _ _=>unfold sk; cases pe.tk <;> simp [hn]
  | b _ _ _=>unfold sk; cases pe.tk <;> simp [hn]
  | c _ _=>exact hn
theorem Path.notes_le (hp:PlanOK P ops pl) {t t':Nat} (hle:t≤t') (hl:t'≤pl.length):∀ n∈π.Ns t,n∈π.Ns t':=by
 induction t' with
 | zero =>
  have:t=0:=by omega
  subst this
  exact fun n h=>h
 | succ t' ih =>
  rcases MX t (t'+1) with h | h
  ·intro n hn
   have hpe:pl[t']?=some pl[t']:=gr (by omega)
   obtain ⟨o,ho⟩:=hp.op _ _ hpe
   exact π.notes hpe ho n (ih (by omega) (by omega) n hn)
  ·have:t=t'+1:=by omega
   subst this; exact fun n h=>h
theorem GI {un:List Nat} {ns:Notes} {n:Note} (hn:n∈ns) (hu:inL un n.i=true) {b:Nat} (hb:n.rd=some b∨n.nw=some b):b∈fJ un ns:=by
 unfold fJ
 rw [PO]
 refine ⟨n,hn,?_⟩
 rw [hu]
 simp only [cond_true,B3]
 rcases hb with hb | hb
 ·left; rw [hb]; simp
 ·right; rw [hb]; simp
theorem Fl {un:List Nat} {ns:Notes} {n:Note} (hn:n∈ns) (hu:inL un n.i=true) {b:Nat} (hb:n.nw=some b):b∈kH un ns:=by
 unfold kH
 rw [PO]
 refine ⟨n,hn,?_⟩
 rw [hu]
 simp [hb]
theorem Path.second {t:Nat} {pe:PE} {o:Oper} (hpe:pl[t]?=some pe) (ho:ops[pe.i]?=some o) (hc:isC (rk P o)=true) :
  (π.St (t+1)=π.St t∧π.V t=rundef∧∃ j want d,o.guard=some (j,want)∧dd ops.toList j=some d∧(π.Sg t d=.one (.bool (!want))∨π.Sg t d=.tup [])) ∨
  ((o.guard=none∨∃ j want d,o.guard=some (j,want)∧dd ops.toList j=some d∧π.Sg t d=.one (.bool want)) ∧
   ∃ s1 s2,AsideOK (π.St t) s1 (fJ pe.un (π.Ns t)) (kH pe.un (π.Ns t))∧rc P call (rk P o) (opS GL (π.Sg t)) s1=some (π.V t,s2)∧Bg (π.St t) s2 (π.St (t+1)) (fJ pe.un (π.Ns t))):=by
 have h:=(π.step t pe o hpe ho).1
 generalize π.St (t+1)=s1 at h ⊢
 generalize π.Ns (t+1)=ns1 at h
 generalize π.V t=v at h ⊢
 cases h with
 | skip hg hd hv=>exact .inl ⟨rfl,rfl,_,_,_,hg,hd,hv⟩
 | run hg hr =>
  refine .inr ⟨hg,?_⟩
  cases hr with
  | m hk=>rw [hk] at hc; cases hc
  | v hk _=>rw [hk] at hc; cases hc
  | r hk _=>rw [hk] at hc; cases hc
  | b hk _ _=>rw [hk] at hc; cases hc
  | c _ h1 =>
   unfold rcX at h1
   split at h1
   ·rename_i hun
    rw [hun]
    have hids:∀ ns,fJ [] ns=[]:=by intro ns; unfold fJ; induction ns with | nil=>rfl | cons n r ih=>simp [inL]
    have hnws:∀ ns,kH [] ns=[]:=by intro ns; unfold kH; induction ns with | nil=>rfl | cons n r ih=>simp [inL]
    rw [hids,hnws]
    exact ⟨π.St t,s1,⟨rfl,fun b o' h=>.inr ⟨o',h,.inl rfl⟩,(fun b hb=>by cases hb),(fun b hb=>by cases hb)⟩,h1,rfl,(fun b hb=>by cases hb),fun b _=>rfl⟩
   ·rename_i x r hun
    rw [hun]
    obtain ⟨q1,q2,h2,h3,h4⟩:=FC h1
    exact ⟨q1,q2,jZ h2,h3,rX h4⟩
theorem Path.stable (hp:PlanOK P ops pl) {t T b:Nat} {ob:RO} (hle:t≤T) (hT:T≤pl.length) (hb:(π.St t).H.get b=some ob)
  (hC:∀ (q:Nat) (pe:PE) (o:Oper),t≤q→q < T→pl[q]?=some pe→ops[pe.i]?=some o→isC (rk P o)=true→b∈fJ pe.un (π.Ns q)):(π.St T).H.get b=some ob:=by
 induction T with
 | zero =>
  have:t=0:=by omega
  subst this
  exact hb
 | succ T ih =>
  rcases MX t (T+1) with h | h
  ·have ih:=ih (by omega) (by omega) fun q pe o h1 h2=>hC q pe o h1 (by omega)
   have hpe:pl[T]?=some pl[T]:=gr (by omega)
   obtain ⟨o,ho⟩:=hp.op _ _ hpe
   cases hc:isC (rk P o) with
   | false =>
    rcases π.first hpe ho hc with e | ⟨ob',e1,e2,_⟩
    ·rw [e]; exact ih
    ·rw [e2]
     unfold Hp.set
     rw [if_neg ?_]; exact ih
     intro e
     rw [e,e1] at ih
     cases ih
   | true =>
    have hm:=hC T _ o (by omega) (MY _) hpe ho hc
    rcases π.second hpe ho hc with ⟨e,_⟩ | ⟨_,s1,s2,_,_,g1,g2,g3⟩
    ·rw [e]; exact ih
    ·rw [g2 b hm (by rw [ih]; rfl)]; exact ih
  ·have:t=T+1:=by omega
   subst this; exact hb
theorem Path.sg_none (hp:PlanOK P ops pl) {t d:Nat} (ht:t≤pl.length) (h:∀ (q:Nat) (pe:PE) (o:Oper),q < t→pl[q]?=some pe→ops[pe.i]?=some o→o.dst≠some d) : π.Sg t d=π.Sg 0 d:=by
 induction t with
 | zero=>rfl
 | succ t ih =>
  have hpe:pl[t]?=some pl[t]:=gr (by omega)
  obtain ⟨o,ho⟩:=hp.op _ _ hpe
  rw [(π.step t _ o hpe ho).2]
  unfold upd
  rw [if_neg (h t _ o (MY _) hpe ho)]
  exact ih (by omega) fun q pe o hq=>h q pe o (by omega)
theorem Path.sg_some (hp:PlanOK P ops pl) {t d q:Nat} (ht:t≤pl.length) {pe:PE} {o:Oper} (hq:q < t) (hpe:pl[q]?=some pe) (ho:ops[pe.i]?=some o) (hd:o.dst=some d) : π.Sg t d=π.V q:=by
 induction t with
 | zero=>omega
 | succ t ih =>
  have hpt:pl[t]?=some pl[t]:=gr (by omega)
  obtain ⟨o2,ho2⟩:=hp.op _ _ hpt
  rw [(π.step t _ o2 hpt ho2).2]
  unfold upd
  rcases MX q t with h | h
  ·have hne:=(hp.pair q t pe _ o o2 h hpe hpt ho ho2).2.1
   rw [if_neg (fun e=>hne d e hd)]
   exact ih (by omega) h
  ·have:q=t:=by omega
   subst this
   rw [hpe] at hpt
   cases hpt
   rw [ho] at ho2
   cases ho2
   rw [if_pos hd]
end
end Go.Rx

/-
 Regions in no fixed order.
-/
namespace Go.Rx
open Go.Vm
section
variable {P:Program} {GL:List Nat} {call:Call1} {ops:Array Oper} {pl:Plan} (π : Path P GL call ops pl) (L:Nat→Bool)
def fQ (T b:Nat):Prop:=∃ (t:Nat) (pe:PE) (o:Oper),t < T∧pl[t]?=some pe∧ops[pe.i]?=some o∧isC (rk P o)=false∧L pe.i=false∧b=(π.St t).nx∧(π.St (t+1)).nx=(π.St t).nx+1
open Classical in
noncomputable def HS (T:Nat):Hp:=fun b=>if fQ π L T b then none else (π.St T).H.get b
theorem d9 {T b:Nat} (h:fQ π L T b):HS π L T b=none:=by unfold HS; rw [if_pos h]
theorem c9 {T b:Nat} (h:¬ fQ π L T b):HS π L T b=(π.St T).H.get b:=by unfold HS; rw [if_neg h]
structure Good (w0:World) (N:Nat) (w1:World) (ι1:Io) (a:Act) (w:World) (ι : Io) (T:Nat):Prop where
 tle:T≤pl.length
 atC:∀ (pe:PE) (o:Oper),pl[T]?=some pe→ops[pe.i]?=some o→isC (rk P o)=true
 done:∀ (t:Nat) (pe:PE) (o:Oper),t < T→pl[t]?=some pe→ops[pe.i]?=some o→isC (rk P o)=true→L pe.i=true
 rest:∀ (t:Nat) (pe:PE),T≤t→pl[t]?=some pe→L pe.i=false
 slotV:∀ (t:Nat) (pe:PE) (o:Oper) (d:Nat),pl[t]?=some pe→ops[pe.i]?=some o→L pe.i=true→o.dst=some d→RelV ι (a.tmps.getD d undef) (π.V t)
 slot0:∀ d,(∀ (t:Nat) (pe:PE) (o:Oper),pl[t]?=some pe→ops[pe.i]?=some o→L pe.i=true→o.dst≠some d)→RelV ι (a.tmps.getD d undef) (π.Sg 0 d)
 mem:Go1 GL w0 (π.St 0).nx w1 ι1 (π.St 0).H.get (π.St T).nx w ι (HS π L T)
 pnd:∀ b,fQ π L T b→ι b=none
 nxs:∀ t,t < T→(π.St t).nx≤(π.St (t+1)).nx
 defers:a.defers=[]
 size:N≤a.tmps.size
def Clo (ops:Array Oper) (L:Nat→Bool):Prop:=∀ i j,L i=true→Bef ops i j→L j=true
variable {π L}
theorem lQ {T:Nat} (h:∀ t,t < T→(π.St t).nx≤(π.St (t+1)).nx) {t t':Nat} (h1:t≤t') (h2:t'≤T):(π.St t).nx≤(π.St t').nx:=by
 induction t' with
 | zero =>
  have:t=0:=by omega
  subst this
  exact A7 _
 | succ t' ih =>
  rcases MX t (t'+1) with hlt | hge
  ·exact Nat.le_trans (ih (by omega) (by omega)) (h t' (by omega))
  ·have:t=t'+1:=by omega
   subst this
   exact A7 _
theorem yV (hp:PlanOK P ops pl):∀ (n T:Nat),T+n=pl.length→∃ T',T≤T'∧T'≤pl.length∧(∀ (t:Nat) (pe:PE) (o:Oper),T≤t→t < T'→pl[t]?=some pe→ops[pe.i]?=some o→isC (rk P o)=false) ∧
  ∀ (pe:PE) (o:Oper),pl[T']?=some pe→ops[pe.i]?=some o→isC (rk P o)=true
 | 0,T,h=>⟨T,A7 _,by omega,fun t pe o h1 h2=>by omega,fun pe o hpe=>by
   have:=(A2.1 hpe).1
   omega⟩
 | n+1,T,h=>by
  have hpe:pl[T]?=some pl[T]:=gr (by omega)
  obtain ⟨o,ho⟩:=hp.op _ _ hpe
  cases hc:isC (rk P o) with
  | true =>
   refine ⟨T,A7 _,by omega,fun t pe o h1 h2=>by omega,fun pe o' hpe' ho'=>?_⟩
   rw [hpe] at hpe'
   cases hpe'
   rw [ho] at ho'
   cases ho'
   exact hc
  | false =>
   obtain ⟨T',h1,h2,h3,h4⟩:=yV hp n (T+1) (by omega)
   refine ⟨T',by omega,h2,fun t pe o' g1 g2 g3 g4=>?_,h4⟩
   rcases MX T t with hlt | hge
   ·exact h3 t pe o' hlt g2 g3 g4
   ·have:t=T:=by omega
    subst this
    rw [hpe] at g3
    cases g3
    rw [ho] at g4
    cases g4
    exact hc
theorem Ch (hp:PlanOK P ops pl) {T T':Nat} (hle:T≤T') (hT:T'≤pl.length) (hc:∀ (t:Nat) (pe:PE) (o:Oper),T≤t→t < T'→pl[t]?=some pe→ops[pe.i]?=some o→isC (rk P o)=false)
  (hL:∀ (t:Nat) (pe:PE),T≤t→pl[t]?=some pe→L pe.i=false):HS π L T'=HS π L T:=by
 induction T' with
 | zero =>
  have:T=0:=by omega
  subst this
  rfl
 | succ T' ih =>
  rcases MX T (T'+1) with h | h
  ·rw [← ih (by omega) (by omega) fun t pe o h1 h2=>hc t pe o h1 (by omega)]
   have hpe:pl[T']?=some pl[T']:=gr (by omega)
   obtain ⟨o,ho⟩:=hp.op _ _ hpe
   have hcc:=hc T' _ o (by omega) (MY _) hpe ho
   have hLL:=hL T' _ (by omega) hpe
   funext b
   have mono:fQ π L T' b→fQ π L (T'+1) b:=fun ⟨t,pe,o,h1,h2⟩=>⟨t,pe,o,by omega,h2⟩
   have split:fQ π L (T'+1) b→fQ π L T' b∨(b=(π.St T').nx∧(π.St (T'+1)).nx=(π.St T').nx+1):=by
    rintro ⟨t,pe,o',h1,h2,h3,h4,h5,h6,h7⟩
    rcases MX t T' with hlt | hge
    ·exact .inl ⟨t,pe,o',hlt,h2,h3,h4,h5,h6,h7⟩
    ·have:t=T':=by omega
     subst this
     exact .inr ⟨h6,h7⟩
   by_cases hpd:fQ π L T' b
   ·rw [d9 π L hpd,d9 π L (mono hpd)]
   ·rw [c9 π L hpd]
    rcases π.first hpe ho hcc with e | ⟨ob,e1,e2,e3,_⟩
    ·rw [c9 π L (fun hq=>by
      rcases split hq with hq | ⟨_,hq⟩
      ·exact hpd hq
      ·rw [e] at hq; omega),e]
    ·by_cases hb:b=(π.St T').nx
     ·rw [d9 π L ⟨T',_,o,MY _,hpe,ho,hcc,hLL,hb,e3⟩,hb,e1]
     ·rw [c9 π L (fun hq=>by
       rcases split hq with hq | ⟨hq,_⟩
       ·exact hpd hq
       ·exact hb hq),e2]
      unfold Hp.set
      rw [if_neg hb]
  ·have:T=T'+1:=by omega
   subst this
   rfl
section
variable {w0:World} {N:Nat} {w1:World} {ι1:Io} {a:Act} {w:World} {ι : Io} {T:Nat}
theorem lS {o:Oper} {j d:Nat} {want:Bool} (h1:o.guard=some (j,want)) (h2:dd ops.toList j=some d):d∈o.looksAt ops:=by
 unfold Oper.looksAt
 rw [h1]
 simp [pX h2]
theorem rB {o:Oper} {d:Nat} (h:Operand.tmp d∈o.op.operands):d∈o.looksAt ops:=by
 unfold Oper.looksAt
 rw [B3]
 left
 rw [List.mem_filterMap]
 exact ⟨.tmp d,by simpa using h,rfl⟩
theorem Good.seen (hg:Good π L w0 N w1 ι1 a w ι T) (hp:PlanOK P ops pl) (hcl:Clo ops L) {t:Nat} {pe:PE} {o:Oper} (hpe:pl[t]?=some pe) (ho:ops[pe.i]?=some o) (hn:L pe.i=false) (hpr:∀ j,Bef ops pe.i j→L j=true) {d:Nat} (hd:d∈o.looksAt ops) :
  RelV ι (a.tmps.getD d undef) (π.Sg t d):=by
 have hlt:t < pl.length:=(A2.1 hpe).1
 by_cases hw:∃ (q:Nat) (pq:PE) (oq:Oper),pl[q]?=some pq∧ops[pq.i]?=some oq∧oq.dst=some d
 ·obtain ⟨q,pq,oq,hq,hoq,hdq⟩:=hw
  -- nobody else writes it
  have uniq:∀ (q':Nat) (pq':PE) (oq':Oper),pl[q']?=some pq'→ops[pq'.i]?=some oq'→oq'.dst=some d→q'=q:=by
   intro q' pq' oq' h1 h2 h3
   rcases M0 q' q with h | h | h
   ·exact absurd h3 ((hp.pair q' q pq' pq oq' oq h h1 hq h2 hoq).2.1 d hdq)
   ·exact h
   ·exact absurd hdq ((hp.pair q q' pq pq' oq oq' h hq h1 hoq h2).2.1 d h3)
  have zero:L pq.i=false→t≤q→RelV ι (a.tmps.getD d undef) (π.Sg t d):=by
   intro hLq hle
   rw [π.sg_none hp (MQ hlt) fun q' pe' o' h1 h2 h3 h4=>by
    have:=uniq q' pe' o' h2 h3 h4
    omega]
   refine hg.slot0 d fun t' pe' o' h1 h2 h3 h4=>?_
   have:=uniq t' pe' o' h1 h2 h4
   subst this
   rw [hq] at h1
   cases h1
   rw [hLq] at h3
   cases h3
  rcases M0 q t with h | h | h
  ·rcases (hp.pair q t pq pe oq o h hq hpe hoq ho).2.2 with hb | ⟨_,hap,_⟩
   ·rw [π.sg_some hp (MQ hlt) h hq hoq hdq]
    exact hg.slotV q pq oq d hq hoq (hpr _ hb) hdq
   ·exact absurd hd ((Oper.apart_spec hap).1 d hdq)
  ·subst h
   rw [hpe] at hq
   cases hq
   exact zero hn (A7 _)
  ·rcases (hp.pair t q pe pq o oq h hpe hq ho hoq).2.2 with hb | ⟨_,hap,_⟩
   ·refine zero ?_ (MQ h)
    cases hLq:L pq.i with
    | false=>rfl
    | true =>
     have:=hcl _ _ hLq hb
     rw [hn] at this
     cases this
   ·exact absurd hd ((Oper.apart_spec hap).2.2 d hdq)
 ·rw [π.sg_none hp (MQ hlt) fun q pe' o' _ h2 h3 h4=>hw ⟨q,pe',o',h2,h3,h4⟩]
  exact hg.slot0 d fun t' pe' o' h1 h2 _ h4=>hw ⟨t',pe',o',h1,h2,h4⟩
theorem Good.put_aside (hg:Good π L w0 N w1 ι1 a w ι T) (hp:PlanOK P ops pl) (hcl:Clo ops L) {t:Nat} {pe:PE} {o:Oper} (hpe:pl[t]?=some pe) (ho:ops[pe.i]?=some o) (hn:L pe.i=false) (hc:isC (rk P o)=false) (hno:xu (rk P o)=true)
  {b t0:Nat} (ht0:t≤t0) (hnote:pe.tk=true→∃ n∈π.Ns (t+1),n.i=pe.i∧(n.rd=some b∨n.nw=some b)) {ob:RO} (hb:(π.St t0).H.get b=some ob) (h0T:t0≤T):(π.St T).H.get b=some ob:=by
 refine π.stable hp h0T hg.tle hb fun q pq oq h1 h2 hq hoq hcq=>?_
 have hne:t≠q:=by
  intro e
  subst e
  rw [hpe] at hq
  cases hq
  rw [ho] at hoq
  cases hoq
  rw [hc] at hcq
  cases hcq
 have hlt:t < q:=by omega
 have hLq:=hg.done q pq oq h2 hq hoq hcq
 rcases (hp.pair t q pe pq o oq hlt hpe hq ho hoq).2.2 with hbf | ⟨_,_,h3⟩
 ·have:=hcl _ _ hLq hbf
  rw [hn] at this
  cases this
 ·obtain ⟨htk,hin⟩:=h3 hcq hno
  obtain ⟨n,hn1,hn2,hn3⟩:=hnote htk
  have hqlt:=(A2.1 hq).1
  have:=π.notes_le hp (t:=t+1) (t':=q) hlt (MQ hqlt) n hn1
  exact GI this (by rw [hn2]; exact hin) hn3
theorem G7 {u:Value} {v:RV} {b:Nat} (h:RelV ι u v) (hb:v.asBlk=some b):∃ L,ι b=some L:=by
 cases v with
 | one c =>
  cases c <;> first | (cases hb; done) | skip
  ·cases hb; obtain ⟨L,h1,_⟩:=dZ h; exact ⟨L,h1⟩
  ·cases hb; obtain ⟨L,h1,_⟩:=uK h; exact ⟨L,h1⟩
 | _=>cases hb
theorem mq (o:Option Tmp) (u:Value) (h:a.defers=[]):(a.put o u).defers=[]:=by cases o <;> exact h
theorem qJ (o:Option Tmp) (u:Value) (h:N≤a.tmps.size):N≤(a.put o u).tmps.size:=by cases o <;> simpa [Act.put] using h
theorem Good.slots (hg:Good π L w0 N w1 ι1 a w ι T) (hp:PlanOK P ops pl) {t:Nat} {pe:PE} {o:Oper} (hpe:pl[t]?=some pe) (ho:ops[pe.i]?=some o) (hd:∀ d,o.dst=some d→d < N) {ι':Io} (hle : ι.le ι') {u:Value} (hu:RelV ι' u (π.V t)) :
  (∀ (t':Nat) (pe':PE) (o':Oper) (d:Nat),pl[t']?=some pe'→ops[pe'.i]?=some o'→aW L pe.i pe'.i=true→o'.dst=some d→RelV ι' ((a.put o.dst u).tmps.getD d undef) (π.V t')) ∧
  ∀ d,(∀ (t':Nat) (pe':PE) (o':Oper),pl[t']?=some pe'→ops[pe'.i]?=some o'→aW L pe.i pe'.i=true→o'.dst≠some d)→RelV ι' ((a.put o.dst u).tmps.getD d undef) (π.Sg 0 d):=by
 have hd':∀ d,o.dst=some d→d < a.tmps.size:=fun d hq=>Ml (hd d hq) hg.size
 have same:∀ (t':Nat) (pe':PE),pl[t']?=some pe'→pe'.i=pe.i→t'=t:=by
  intro t' pe' h1 h2
  obtain ⟨o',ho'⟩:=hp.op _ _ h1
  rcases M0 t' t with h | h | h
  ·exact absurd h2 (hp.pair t' t pe' pe o' o h h1 hpe ho' ho).1
  ·exact h
  ·exact absurd h2.symm (hp.pair t t' pe pe' o o' h hpe h1 ho ho').1
 refine ⟨fun t' pe' o' d h1 h2 h3 h4=>?_,fun d h=>?_⟩
 ·rw [kg a o.dst u hd']
  by_cases e:t'=t
  ·subst e
   rw [hpe] at h1
   cases h1
   rw [ho] at h2
   cases h2
   rw [if_pos h4]
   exact hu
  ·have hne:o.dst≠some d:=by
    intro h5
    rcases MX t' t with h | h
    ·exact (hp.pair t' t pe' pe o' o h h1 hpe h2 ho).2.1 d h5 h4
    ·exact (hp.pair t t' pe pe' o o' (by omega) hpe h1 ho h2).2.1 d h4 h5
   rw [if_neg hne]
   have hL:L pe'.i=true:=by
    unfold aW at h3
    simp only [Mt,beq_iff_eq] at h3
    rcases h3 with h3 | h3
    ·exact h3
    ·exact absurd (same t' pe' h1 h3) e
   exact (hg.slotV t' pe' o' d h1 h2 hL h4).mono hle
 ·rw [kg a o.dst u hd',if_neg (h t pe o hpe ho (by simp [aW]))]
  exact (hg.slot0 d fun t' pe' o' h1 h2 h3=>h t' pe' o' h1 h2 (by simp [aW,h3])).mono hle
theorem nM (hp:PlanOK P ops pl) {t T':Nat} {pe:PE} (hpe:pl[t]?=some pe) (ht:t < T') (h:∀ (t:Nat) (pe:PE),T'≤t→pl[t]?=some pe→L pe.i=false):∀ (t':Nat) (pe':PE),T'≤t'→pl[t']?=some pe'→aW L pe.i pe'.i=false:=by
 intro t' pe' h1 h2
 obtain ⟨o,ho⟩:=hp.op _ _ hpe
 obtain ⟨o',ho'⟩:=hp.op _ _ h2
 have hne:=(hp.pair t t' pe pe' o o' (by omega) hpe h2 ho ho').1
 simp [aW,h t' pe' h1 h2,Ne.symm hne]
theorem Good.stepP (hg:Good π L w0 N w1 ι1 a w ι T) (hp:PlanOK P ops pl) (hcl:Clo ops L) {t:Nat} {pe:PE} {o:Oper} (hpe:pl[t]?=some pe) (ho:ops[pe.i]?=some o) (hn:L pe.i=false) (hpr:∀ j,Bef ops pe.i j→L j=true) (hc:isC (rk P o)=false) (hlt:t < T)
  (hd:∀ d,o.dst=some d→d < N) {Q:Exit→Act→World→Prop} {K:Act→World→Prop} (hK:∀ a' w' ι',Good π (aW L pe.i) w0 N w1 ι1 a' w' ι' T→K a' w'):wpOp P ops Q pe.i K a w:=by
 have hseen:∀ d,d∈o.looksAt ops→RelV ι (a.tmps.getD d undef) (π.Sg t d):=fun d hd=>hg.seen hp hcl hpe ho hn hpr hd
 have hS:∀ x∈o.op.operands,RelV ι (a.eval x) (opS GL (π.Sg t) x):=fun x hx=>u9 hg.mem.inv.glob fun d e=>hseen d (rB (by rw [← e]; exact hx))
 have hguard:∀ j want d,o.guard=some (j,want)→dd ops.toList j=some d→RelV ι (a.tmps.getD d undef) (π.Sg t d):=fun j want d h1 h2=>hseen d (lS h1 h2)
 have hstep:=(π.step t pe o hpe ho).1
 -- nothing is made
 have fin0:∀ u,π.St (t+1)=π.St t→RelV ι u (π.V t)→K (a.put o.dst u) w:=by
  intro u he hu
  obtain ⟨s1,s2⟩:=hg.slots hp hpe ho hd (Io.le.refl ι) hu
  have hpend:∀ b,fQ π (aW L pe.i) T b↔fQ π L T b:=by
   intro b
   constructor
   ·rintro ⟨q,pq,oq,h1,h2,h3,h4,h5,h6,h7⟩
    refine ⟨q,pq,oq,h1,h2,h3,h4,?_,h6,h7⟩
    unfold aW at h5
    simp only [N5] at h5
    exact h5.1
   ·rintro ⟨q,pq,oq,h1,h2,h3,h4,h5,h6,h7⟩
    refine ⟨q,pq,oq,h1,h2,h3,h4,?_,h6,h7⟩
    unfold aW
    rw [h5,NB,beq_eq_false_iff_ne]
    intro e
    have:q=t:=by
     rcases M0 q t with h | h | h
     ·exact absurd e (hp.pair q t pq pe oq o h h2 hpe h3 ho).1
     ·exact h
     ·exact absurd e.symm (hp.pair t q pe pq o oq h hpe h2 ho h3).1
    subst this
    rw [he] at h7
    omega
  have hHS:HS π (aW L pe.i) T=HS π L T:=by
   funext b
   by_cases hb:fQ π L T b
   ·rw [d9 _ _ hb,d9 _ _ ((hpend b).2 hb)]
   ·rw [c9 _ _ hb,c9 _ _ (fun h=>hb ((hpend b).1 h))]
  exact hK _ _ ι ⟨hg.tle,hg.atC,fun q pq oq h1 h2 h3 h4=>by simp [aW,hg.done q pq oq h1 h2 h3 h4],nM hp hpe hlt hg.rest,s1,s2,by rw [hHS]; exact hg.mem,fun b hb=>hg.pnd b ((hpend b).1 hb),hg.nxs,mq _ _ hg.defers,qJ _ _ hg.size⟩
 unfold wpOp
 rw [ho]
 simp only
 generalize hv : π.V t=v at hstep
 generalize hs1 : π.St (t+1)=s1 at hstep
 generalize hns1 : π.Ns (t+1)=ns1 at hstep
 cases hstep with
 | skip hgu hsl hva =>
  rw [nY hgu hsl hva (hguard _ _ _ hgu hsl)]
  simp only [MB,if_false]
  exact fin0 undef hs1 (by rw [hv]; exact me)
 | run hgu hr =>
  rw [qi (ι:=ι) hgu hguard]
  simp only [if_true]
  refine .inl ?_
  have hlooks:∀ x f,rk P o=.r x f→mO w0 w ι (opS GL (π.Sg t) x) (blk (π.St t).H.get (opS GL (π.Sg t) x)):=by
   intro x f hk o' ho'
   unfold blk at ho'
   rcases wa ho' with ⟨_,h2⟩ | ⟨b,h1,h2⟩
   ·cases h2
   ·refine ⟨b,h1,?_⟩
    obtain ⟨Lc,hLc⟩:=G7 (hS x (J9 hk)) h1
    have hnp:¬ fQ π L T b:=fun h=>by have:=hg.pnd b h; rw [hLc] at this; cases this
    have hst:=hg.put_aside hp hcl hpe ho hn hc (by rw [hk]; rfl) (b:=b) (t0:=t) (A7 _) (fun htk=>by
     cases hr with
     | r hk' h1' =>
      rw [hk] at hk'
      simp only [RK.r.injEq] at hk'
      obtain ⟨hx,_⟩:=hk'
      subst hx
      refine ⟨⟨pe.i,(opS GL (π.Sg t) x).asBlk,none⟩,?_,rfl,.inl h1⟩
      rw [hns1]
      unfold sk
      rw [htk]
      exact Mv ..
     | m hk'=>rw [hk] at hk'; cases hk'
     | v hk' _=>rw [hk] at hk'; cases hk'
     | b hk' _ _=>rw [hk] at hk'; cases hk'
     | c hk' _=>rw [hk] at hk'; cases hk') h2 (MQ hlt)
    exact hg.mem.inv.blk b o' (by rw [c9 π L hnp]; exact hst)
  rcases Iu hr hc hS (w0:=w0) (w:=w) hlooks with ⟨he,u,h1,h2⟩ | ⟨ob,vb,h1,h2,h3,h4,h5⟩
  ·exact Does.value (R:=fun u w'=>w'=w∧RelV ι u v) h1 ⟨rfl,h2⟩ K Q fun u w' ⟨e,h3⟩=>by
    subst e
    exact fin0 u (hs1.trans he) (by rw [hv]; exact h3)
  ·-- a block is made
   obtain ⟨u,w',Lc,r1,r2,r3,r4,r5⟩:=h3 w
   obtain ⟨e1,e2⟩:=dy h1
   have hnx:(π.St (t+1)).nx=(π.St t).nx+1:=by rw [hs1]; exact e2
   have hpd:fQ π L T (π.St t).nx:=⟨t,pe,o,hlt,hpe,ho,hc,hn,rfl,hnx⟩
   have hnone:=hg.pnd _ hpd
   obtain ⟨q1,q2⟩:=r5 w0 (π.St t).nx hg.mem.inv.kept.size hnone
   have hle : ι.le (ι.set (π.St t).nx Lc):=Io.set_le hnone
   have hst:(π.St T).H.get (π.St t).nx=some ob:=hg.put_aside hp hcl hpe ho hn hc h5 (b:=(π.St t).nx) (t0:=t+1) (Nat.le_succ _) (fun htk=>by
    refine ⟨⟨pe.i,none,some (π.St t).nx⟩,?_,rfl,.inr rfl⟩
    rw [hns1,h4]
    unfold sk
    rw [htk]
    exact Mv ..) (by rw [hs1,e1]; simp [Hp.set]) hlt
   refine Does.value (R:=fun u' w''=>u'=u∧w''=w') r1 ⟨rfl,rfl⟩ K Q ?_
   rintro u' w'' ⟨rfl,rfl⟩
   obtain ⟨s1',s2'⟩:=hg.slots hp hpe ho hd hle (u:=u') (by rw [hv,h2]; exact q2)
   have hnxlt:(π.St t).nx < (π.St T).nx:=by
    have:=lQ hg.nxs (t:=t+1) (t':=T) hlt (A7 _)
    omega
   have hpend:∀ b,fQ π (aW L pe.i) T b↔(fQ π L T b∧b≠(π.St t).nx):=by
    intro b
    constructor
    ·rintro ⟨q,pq,oq,h1,h2,h3,h4,h5,h6,h7⟩
     unfold aW at h5
     simp only [N5,beq_eq_false_iff_ne] at h5
     refine ⟨⟨q,pq,oq,h1,h2,h3,h4,h5.1,h6,h7⟩,?_⟩
     have hqt:q≠t:=by
      intro e
      have hq2:pl[t]?=some pq:=by rw [← e]; exact h2
      rw [hpe] at hq2
      cases hq2
      exact h5.2 rfl
     rcases MX q t with h | h
     ·have:=lQ hg.nxs (t:=q+1) (t':=t) h (MQ hlt)
      omega
     ·have:=lQ hg.nxs (t:=t+1) (t':=q) (by omega) (MQ h1)
      omega
    ·rintro ⟨⟨q,pq,oq,h1,h2,h3,h4,h5,h6,h7⟩,hne⟩
     refine ⟨q,pq,oq,h1,h2,h3,h4,?_,h6,h7⟩
     unfold aW
     rw [h5,NB,beq_eq_false_iff_ne]
     intro e
     have:q=t:=by
      rcases M0 q t with h | h | h
      ·exact absurd e (hp.pair q t pq pe oq o h h2 hpe h3 ho).1
      ·exact h
      ·exact absurd e.symm (hp.pair t q pe pq o oq h hpe h2 ho h3).1
     subst this
     exact hne h6
   have hHS:HS π (aW L pe.i) T=Hp.set (HS π L T) (π.St t).nx ob:=by
    funext b
    unfold Hp.set
    by_cases hb:b=(π.St t).nx
    ·rw [if_pos hb,c9 _ _ (fun h=>((hpend b).1 h).2 hb),hb,hst]
    ·rw [if_neg hb]
     by_cases hb':fQ π L T b
     ·rw [d9 _ _ hb',d9 _ _ ((hpend b).2 ⟨hb',hb⟩)]
     ·rw [c9 _ _ hb',c9 _ _ (fun h=>hb' ((hpend b).1 h).1)]
   refine hK _ _ (ι.set (π.St t).nx Lc) ⟨hg.tle,hg.atC,fun q pq oq h1 h2 h3 h4=>by simp [aW,hg.done q pq oq h1 h2 h3 h4],nM hp hpe hlt hg.rest,s1',s2',?_,?_,hg.nxs,mq _ _ hg.defers,qJ _ _ hg.size⟩
   ·rw [hHS]
    exact Go1.add hg.mem (lQ hg.nxs (MJ _) (MQ hlt)) hnxlt hnone r2 (Pv r3.symm) r4 q1
   ·intro b hb
    obtain ⟨h1,h2⟩:=(hpend b).1 hb
    simp only [Io.set,h2,if_false]
    exact hg.pnd b h1
theorem Good.stepC (hg:Good π L w0 N w1 ι1 a w ι T) (hC:jo P GL call) (hp:PlanOK P ops pl) (hcl:Clo ops L) {pe:PE} {o:Oper} (hpe:pl[T]?=some pe) (ho:ops[pe.i]?=some o) (hpr:∀ j,Bef ops pe.i j→L j=true)
  (hd:∀ d,o.dst=some d→d < N) {Q:Exit→Act→World→Prop} {K:Act→World→Prop} (hK:∀ a' w' ι' T',Good π (aW L pe.i) w0 N w1 ι1 a' w' ι' T'→K a' w'):wpOp P ops Q pe.i K a w:=by
 have hn:=hg.rest T pe (A7 _) hpe
 have hc:=hg.atC pe o hpe ho
 have hTlt:T < pl.length:=(A2.1 hpe).1
 have hseen:∀ d,d∈o.looksAt ops→RelV ι (a.tmps.getD d undef) (π.Sg T d):=fun d hd=>hg.seen hp hcl hpe ho hn hpr hd
 have hS:∀ x∈o.op.operands,RelV ι (a.eval x) (opS GL (π.Sg T) x):=fun x hx=>u9 hg.mem.inv.glob fun d e=>hseen d (rB (by rw [← e]; exact hx))
 have hguard:∀ j want d,o.guard=some (j,want)→dd ops.toList j=some d→RelV ι (a.tmps.getD d undef) (π.Sg T d):=fun j want d h1 h2=>hseen d (lS h1 h2)
 obtain ⟨T',t1,t2,t3,t4⟩:=yV hp (pl.length - (T+1)) (T+1) (by omega)
 have hrest:=nM hp hpe (MY T) (T':=T+1) fun t pe' h1 h2=>hg.rest t pe' (by omega) h2
 -- what is made,and not made here
 have hpend:∀ b,fQ π (aW L pe.i) (T+1) b↔fQ π L T b:=by
  intro b
  constructor
  ·rintro ⟨q,pq,oq,h1,h2,h3,h4,h5,h6,h7⟩
   have hq:q < T:=by
    rcases MX q T with h | h
    ·exact h
    ·have:q=T:=by omega
     subst this
     rw [hpe] at h2
     cases h2
     rw [ho] at h3
     cases h3
     rw [hc] at h4
     cases h4
   unfold aW at h5
   simp only [N5] at h5
   exact ⟨q,pq,oq,hq,h2,h3,h4,h5.1,h6,h7⟩
  ·rintro ⟨q,pq,oq,h1,h2,h3,h4,h5,h6,h7⟩
   refine ⟨q,pq,oq,by omega,h2,h3,h4,?_,h6,h7⟩
   have:=(hp.pair q T pq pe oq o h1 h2 hpe h3 ho).1
   simp [aW,h5,this]
 have fin:∀ u w' ι',RelV ι' u (π.V T)→Go1 GL w0 (π.St T).nx w ι (HS π L T) (π.St (T+1)).nx w' ι' (HS π (aW L pe.i) (T+1))→K (a.put o.dst u) w':=by
  intro u w' ι' hu g
  obtain ⟨s1,s2⟩:=hg.slots hp hpe ho hd g.le hu
  have hnxs:∀ t,t < T'→(π.St t).nx≤(π.St (t+1)).nx:=by
   intro t ht
   rcases M0 t T with h | h | h
   ·exact hg.nxs t h
   ·subst h; exact g.up
   ·have hpt:pl[t]?=some pl[t]:=gr (by omega)
    obtain ⟨ot,hot⟩:=hp.op _ _ hpt
    rcases π.first hpt hot (t3 t _ ot h ht hpt hot) with e | ⟨_,_,_,e,_⟩
    ·rw [e]; exact A7 _
    ·omega
  have hHS:HS π (aW L pe.i) T'=HS π (aW L pe.i) (T+1):=Ch hp t1 t2 t3 hrest
  refine hK _ _ ι' T' ⟨t2,t4,?_,fun t pe' h1 h2=>hrest t pe' (by omega) h2,s1,s2,?_,?_,hnxs,mq _ _ hg.defers,qJ _ _ hg.size⟩
  ·intro q pq oq h1 h2 h3 h4
   rcases M0 q T with h | h | h
   ·simp [aW,hg.done q pq oq h h2 h3 h4]
   ·subst h
    rw [hpe] at h2
    cases h2
    simp [aW]
   ·rw [t3 q pq oq h h1 h2 h3] at h4
    cases h4
  ·rw [hHS]
   exact (hg.mem.then g (lQ hg.nxs (MJ _) (A7 _))).more (lQ hnxs t1 (A7 _))
  ·rintro b ⟨q,pq,oq,h1,h2,h3,h4,h5,h6,h7⟩
   rcases M0 q T with h | h | h
   ·have hb:fQ π L T b:=(hpend b).1 ⟨q,pq,oq,by omega,h2,h3,h4,h5,h6,h7⟩
    have hlt:b < (π.St T).nx:=by
     have:=lQ hg.nxs (t:=q+1) (t':=T) h (A7 _)
     omega
    rw [g.low b hlt]
    exact hg.pnd b hb
   ·subst h
    rw [hpe] at h2
    cases h2
    rw [ho] at h3
    cases h3
    rw [hc] at h4
    cases h4
   ·refine g.top b ?_
    have:=lQ hnxs (t:=T+1) (t':=q) h (MQ h1)
    omega
 unfold wpOp
 rw [ho]
 simp only
 rcases π.second hpe ho hc with ⟨e1,e2,j,want,d,e3,e4,e5⟩ | ⟨e1,s1,s2,h1,h2,h3⟩
 ·rw [nY e3 e4 e5 (hguard _ _ _ e3 e4)]
  simp only [MB,if_false]
  refine fin undef w ι (by rw [e2]; exact me) ?_
  have hHS:HS π (aW L pe.i) (T+1)=HS π L T:=by
   funext b
   by_cases hb:fQ π L T b
   ·rw [d9 _ _ hb,d9 _ _ ((hpend b).2 hb)]
   ·rw [c9 _ _ hb,c9 _ _ (fun h=>hb ((hpend b).1 h)),e1]
  rw [hHS,e1]
  exact Go1.refl hg.mem.inv hg.mem.top
 ·rw [qi (ι:=ι) e1 hguard]
  simp only [if_true]
  refine .inl ?_
  have hW:Weak (HS π L T) s1.H.get:=by
   intro b o' hb
   by_cases hpd:fQ π L T b
   ·obtain ⟨q,pq,oq,k1,k2,k3,k4,k5,k6,k7⟩:=hpd
    left
    -- it was put pa
    have hno:∃ n∈π.Ns T,inL pe.un n.i=true∧n.nw=some b:=by
     rcases π.first k2 k3 k4 with e | ⟨ob,f1,f2,f3,f4,f5⟩
     ·rw [e] at k7; omega
     ·rcases (hp.pair q T pq pe oq o k1 k2 hpe k3 ho).2.2 with hbf | ⟨_,_,h6⟩
      ·have:=hpr _ hbf
       rw [k5] at this
       cases this
      ·obtain ⟨g1,g2⟩:=h6 hc f4
       refine ⟨_,π.notes_le hp (t:=q+1) (t':=T) k1 (MQ hTlt) _ (f5 g1),g2,by rw [k6]⟩
    obtain ⟨n,n1,n2,n3⟩:=hno
    have:=h1.gone b (Fl n1 n2 n3)
    rw [hb] at this
    cases this
    rfl
   ·rw [c9 _ _ hpd]
    exact h1.weak b o' hb
  have hinv:=hg.mem.inv.weak hW
  have htop:∀ b,s1.nx≤b→ι b=none:=fun b hb=>hg.mem.top b (by rw [← h1.nx]; exact hb)
  refine Kv (ev:=opS GL (π.Sg T)) hC h2 hS w hinv htop K Q ?_
  rintro u w' ⟨ι',g,hu⟩
  refine fin u w' ι' hu ?_
  have hnx2:(π.St (T+1)).nx=s2.nx:=h3.1
  rw [hnx2]
  have g':Go1 GL w0 (π.St T).nx w ι s1.H.get s2.nx w' ι' s2.H.get:=by rw [← h1.nx]; exact g
  classical
  refine Go1.back (wk:=fun b=>decide (fQ π L T b∨(b∈fJ pe.un (π.Ns T)∧(HS π L T b).isSome=true))) hg.mem.inv hW g' ?_ ?_ ?_
  ·intro b hb
   have hb:=of_decide_eq_true hb
   by_cases hpd:fQ π L T b
   ·rw [d9 _ _ hpd,d9 _ _ ((hpend b).2 hpd)]
   ·rcases hb with hb | ⟨hb,hs⟩
    ·exact absurd hb hpd
    ·rw [c9 _ _ hpd] at hs ⊢
     rw [c9 _ _ (fun h=>hpd ((hpend b).1 h))]
     exact h3.2.1 b hb hs
  ·intro b hb
   have hb:=of_decide_eq_false hb
   simp only [not_or,not_and] at hb
   obtain ⟨hpd,hb⟩:=hb
   rw [c9 _ _ (fun h=>hpd ((hpend b).1 h))]
   refine h3.2.2 b ?_
   by_cases hi:b∈fJ pe.un (π.Ns T)
   ·right
    have:=hb hi
    rw [c9 _ _ hpd] at this
    cases hq:(π.St T).H.get b with
    | none=>rfl
    | some _=>rw [hq] at this; exact absurd rfl this
   ·exact .inl hi
  ·intro b o' hb hbo
   have hb:=of_decide_eq_true hb
   rcases hb with hpd | ⟨hb,_⟩
   ·rcases hW b o' hbo with rfl | ⟨o2,h4,_⟩
    ·rfl
    ·rw [d9 _ _ hpd] at h4; cases h4
   ·exact h1.low b hb o' hbo
end
end
end Go.Rx

/-
 Regions in no fixed order: all of it.
-/
namespace Go.Rx
open Go.Vm
section
variable {P:Program} {GL:List Nat} {call:Call1} {w0:World} {N:Nat}
theorem Go1.draw {w:World} {n:Nat} {ι : Io} {h:Hp} (hi:RInv GL w0 w ι h) (ht:∀ b,n≤b→ι b=none):Go1 GL w0 n w ι h n { w with drawn:=w.drawn+1 } ι h:=by
 refine ⟨⟨⟨hi.kept.os,hi.kept.tape,hi.kept.output,hi.kept.size,hi.kept.block⟩,fun b o hb=>(hi.blk b o hb).mono (Io.le.refl ι) fun _ _=>rfl,hi.inj,hi.lt,hi.glob⟩,Io.le.refl ι,fun _ _=>rfl,A7 _,ht,A7 _,fun _ _ _=>rfl,fun b o L hb ho hL=>.inr ⟨b,o,L,hb,ho,.inr rfl,id,hL,rfl⟩⟩
theorem vL (hm:P.follows .mixedOrders=true) (hC:jo P GL call) {ops:Array Oper} {pl:Plan} (hp:PlanOK P ops pl) (hd:∀ o∈ops.toList,∀ d,o.dst=some d→d < N) {σ σ':Nat→RV} {s s':RS} {ns:Notes} {recs:List Rec} (htr:Trace P GL call ops.toList σ s ns pl recs σ' s')
  {a:Act} {w:World} {ι : Io} (hs:RSim GL w0 N a w ι σ s) {id:Nat} {Q:Exit→Act→World→Prop} (hQ:∀ a' w' ι',Go1 GL w0 s.nx w ι s.H.get s'.nx w' ι' s'.H.get→RSim GL w0 N a' w' ι' σ' s'→Q .normal a' w'):(Code.region id ops true).wp P Q a w:=by
 refine wp_region_any hm ?_
 obtain ⟨π,p1,p2,p3,p4,_⟩:=va htr
 have g0:=Go1.draw hs.inv hs.top
 have hd':∀ {i:Nat} {o:Oper},ops[i]?=some o→∀ d,o.dst=some d→d < N:=fun ho=>hd _ (by rw [← My] at ho; exact A5 ho)
 let SS:Array Bool→Nat→Bool:=fun l j=>l.getD j false
 have set_S:∀ (l:Array Bool) (i:Nat),i < l.size→SS (l.setIfInBounds i true)=aW (SS l) i:=by
  intro l i hi
  funext j
  show (l.setIfInBounds i true).getD j false=(l.getD j false || j == i)
  by_cases e:j=i
  ·subst e; simp [hi]
  ·rw [getD_set_ne false (Ne.symm e)]; simp [e]
 have last:∀ {L:Nat→Bool} {a':Act} {w':World} {ι':Io} {T:Nat},(∀ i,i < ops.size→L i=true)→Good π L w0 N { w with drawn:=w.drawn+1 } ι a' w' ι' T→Q .normal a' w':=by
  intro L a' w' ι' T hall hg
  have hT:T=pl.length:=by
   rcases MX T pl.length with h | h
   ·have hpe:pl[T]?=some pl[T]:=gr h
    obtain ⟨o,ho⟩:=hp.op _ _ hpe
    have h1:=hg.rest T _ (A7 _) hpe
    have h2:=hall _ (Mi.1 ho).1
    rw [h1] at h2
    cases h2
   ·have:=hg.tle; omega
  subst hT
  have hL:∀ {t:Nat} {pe:PE},pl[t]?=some pe→L pe.i=true:=by
   intro t pe hpe
   obtain ⟨o,ho⟩:=hp.op _ _ hpe
   exact hall _ (Mi.1 ho).1
  have hnp:∀ b,¬ fQ π L pl.length b:=by
   rintro b ⟨t,pe,o,h1,h2,h3,h4,h5,_⟩
   rw [hL h2] at h5
   cases h5
  have hHS:HS π L pl.length=s'.H.get:=by
   funext b
   rw [c9 _ _ (hnp b),p4]
  have hmem:=hg.mem
  rw [hHS,p2,p4] at hmem
  refine hQ a' w' ι' (g0.trans hmem) ⟨hmem.inv,hmem.top,hg.defers,hg.size,fun d=>?_⟩
  rw [← p3]
  by_cases hw:∃ (q:Nat) (pq:PE) (oq:Oper),pl[q]?=some pq∧ops[pq.i]?=some oq∧oq.dst=some d
  ·obtain ⟨q,pq,oq,h1,h2,h3⟩:=hw
   rw [π.sg_some hp (A7 _) (A2.1 h1).1 h1 h2 h3]
   exact hg.slotV q pq oq d h1 h2 (hL h1) h3
  ·rw [π.sg_none hp (A7 _) fun q pe' o' _ h2 h3 h4=>hw ⟨q,pe',o',h2,h3,h4⟩]
   exact hg.slot0 d fun t' pe' o' h1 h2 _ h4=>hw ⟨t',pe',o',h1,h2,h4⟩
 have key:∀ (fuel:Nat) (listed:Array Bool) (a':Act) (w':World) (ι':Io) (T:Nat),listed.size=ops.size→ops.size≤fuel+(LX ops.size).countP (SS listed) →
   Clo ops (SS listed)→Good π (SS listed) w0 N { w with drawn:=w.drawn+1 } ι a' w' ι' T→wpAny P .any ops Q fuel listed a' w':=by
  intro fuel
  induction fuel with
  | zero =>
   intro listed a' w' ι' T hsz hcnt hcl hg
   have hall:∀ i,i < ops.size→SS listed i=true:=by
    have h1:(LX ops.size).countP (SS listed)=(LX ops.size).length:=by
     have:=List.countP_le_length (p:=SS listed) (l:=LX ops.size)
     simp only [List.length_range] at this ⊢
     omega
    rw [List.countP_eq_length] at h1
    exact fun i hi=>h1 i (M2.2 hi)
   refine ⟨?_,last hall hg⟩
   unfold Region.ready
   rw [List.filter_eq_nil_iff]
   intro i hi
   have hi:=M2.1 hi
   have h1:listed.getD i false=true:=hall i hi
   have:listed.getD i true=true:=by
    have hlt:i < listed.size:=by omega
    simpa [hlt] using h1
   rw [this]; simp
  | succ fuel ih =>
   intro listed a' w' ι' T hsz hcnt hcl hg
   refine ⟨fun hr=>last ?_ hg,fun i hi=>?_⟩
   ·-- nothing is ready: all is done
    have hall:∀ (t:Nat) (pe:PE),pl[t]?=some pe→SS listed pe.i=true:=by
     intro t
     induction t using Nat.strongRecOn with
     | ind t ih2 =>
      intro pe hpe
      obtain ⟨o,ho⟩:=hp.op _ _ hpe
      have hlt:=(Mi.1 ho).1
      cases hh:SS listed pe.i with
      | true=>rfl
      | false =>
       have:pe.i∈Region.ready .any ops listed:=by
        rw [mem_ready]
        have hh:listed.getD pe.i false=false:=hh
        have hlt:pe.i < listed.size:=by omega
        refine ⟨by simpa [hlt] using hh,o,ho,fun e he hb=>?_⟩
        obtain ⟨t',q,h1,h2,h3⟩:=hp.pred t pe o e hpe ho (by simpa using he) hb
        have:=ih2 t' h1 q h2
        rw [h3] at this
        exact this
       rw [hr] at this
       cases this
    intro i hi
    obtain ⟨t,pe,h1,h2⟩:=hp.sur i hi
    rw [← h2]
    exact hall t pe h1
   ·obtain ⟨h1,o,ho1,h2⟩:=mem_ready.1 hi
    have hlt:i < ops.size:=(Mi.1 ho1).1
    have hlt':i < listed.size:=by omega
    have hn:SS listed i=false:=by
     show listed.getD i false=false
     simpa [hlt'] using h1
    obtain ⟨t,pe,hpe,hpi⟩:=hp.sur i hlt
    subst hpi
    have hpr:∀ j,Bef ops pe.i j→SS listed j=true:=by
     intro j hj
     cases hj with
     | one ho he hb =>
      rw [ho1] at ho
      cases ho
      exact h2 _ (by simpa using he) hb
     | more ho he hb h3 =>
      rw [ho1] at ho
      cases ho
      exact hcl _ _ (h2 _ (by simpa using he) hb) h3
    have hcl':Clo ops (aW (SS listed) pe.i):=by
     intro x y hx hxy
     unfold aW at hx ⊢
     simp only [Mt,beq_iff_eq] at hx ⊢
     rcases hx with hx | hx
     ·exact .inl (hcl x y hx hxy)
     ·subst hx; exact .inl (hpr y hxy)
    have next:∀ a2 w2 ι2 T2,Good π (aW (SS listed) pe.i) w0 N { w with drawn:=w.drawn+1 } ι a2 w2 ι2 T2→wpAny P .any ops Q fuel (listed.setIfInBounds pe.i true) a2 w2:=by
     intro a2 w2 ι2 T2 hg2
     refine ih (listed.setIfInBounds pe.i true) a2 w2 ι2 T2 (by simp [hsz]) ?_ ?_ ?_
     ·rw [set_S listed pe.i hlt',lg hn hlt]; omega
     ·rw [set_S listed pe.i hlt']; exact hcl'
     ·rw [set_S listed pe.i hlt']; exact hg2
    -- where it stands
    have hTt:t=T∨t < T:=by
     rcases M0 t T with h | h | h
     ·exact .inr h
     ·exact .inl h
     ·have htl:=(A2.1 hpe).1
      have hpT:pl[T]?=some pl[T]:=gr (by omega)
      obtain ⟨oT,hoT⟩:=hp.op _ _ hpT
      have hcT:=hg.atC _ oT hpT hoT
      rcases (hp.pair T t _ pe oT o h hpT hpe hoT ho1).2.2 with hbf | ⟨hc,_⟩
      ·have h3:=hpr _ hbf
       rw [hg.rest T _ (A7 _) hpT] at h3
       cases h3
      ·rw [hcT] at hc; cases hc
    rcases hTt with rfl | hlT
    ·exact hg.stepC hC hp hcl hpe ho1 hpr (hd' ho1) next
    ·cases hc:isC (rk P o) with
     | true =>
      have:=hg.done t pe o hlT hpe ho1 hc
      rw [hn] at this
      cases this
     | false=>exact hg.stepP hp hcl hpe ho1 hn hpr hc hlT (hd' ho1) fun a2 w2 ι2 h3=>next a2 w2 ι2 T h3
 have hS0:SS (N7 ops.size false)=fun _=>false:=by
  funext j
  show (N7 ops.size false).getD j false=false
  simp [Array.getElem?_replicate]
  split <;> rfl
 obtain ⟨T0,t1,t2,t3,t4⟩:=yV hp pl.length 0 (by omega)
 have hnxs:∀ t,t < T0→(π.St t).nx≤(π.St (t+1)).nx:=by
  intro t ht
  have hpt:pl[t]?=some pl[t]:=gr (by omega)
  obtain ⟨ot,hot⟩:=hp.op _ _ hpt
  rcases π.first hpt hot (t3 t _ ot (MJ _) ht hpt hot) with e | ⟨_,_,_,e,_⟩
  ·rw [e]; exact A7 _
  ·omega
 refine key ops.size _ a { w with drawn:=w.drawn+1 } ι T0 (by simp) (by omega) ?_ ?_
 ·rw [hS0]; intro i j hi; cases hi
 ·rw [hS0]
  have hHS:HS π (fun _=>false) T0=s.H.get:=by
   rw [Ch hp (MJ _) t2 t3 (fun _ _ _ _=>rfl)]
   funext b
   rw [c9 _ _ (by rintro ⟨t,pe,o,h1,_⟩; omega),p2]
  refine ⟨t2,t4,?_,fun _ _ _ _=>rfl,?_,?_,?_,?_,hnxs,hs.defers,hs.size⟩
  ·intro t pe o h1 h2 h3 h4
   rw [t3 t pe o (MJ _) h1 h2 h3] at h4
   cases h4
  ·intro t pe o d _ _ h; cases h
  ·intro d _; rw [p1]; exact hs.env d
  ·rw [hHS,p2]
   refine (Go1.refl g0.inv hs.top).more ?_
   have:=lQ hnxs (t:=0) (t':=T0) (MJ _) (A7 _)
   rw [p2] at this
   exact this
  ·rintro b ⟨t,pe,o,h1,h2,h3,h4,h5,h6,h7⟩
   refine hs.top b ?_
   have:=lQ hnxs (t:=0) (t':=t) (MJ _) (MQ h1)
   rw [p2] at this
   omega
end
end Go.Rx

