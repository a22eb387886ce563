/-
 Rows of operations, in every order that the machine may take; the least of a map.
-/
import Derived.Test.YtbedeedclaafjaaGreatDoorXD
import Derived.Test.YtbedeedclaafjaaGreatDoorVmC
import Derived.Maps.RangeRun
set_option linter.unusedVariables false
set_option linter.unusedSimpArgs false
/-
 A region's run, told step by step.
-/
namespace Go.Rx
open Go.Vm
theorem tx {α : Type} {o : Option α} {R : Type} {no r : R} {K : α→R} (h : onO o no K=r) : (o=none∧no=r)∨∃ x,o=some x∧K x=r:=by
 cases o with
 | none=>exact .inl ⟨rfl,h⟩
 | some x=>exact .inr ⟨x,rfl,h⟩
def upd (σ : Nat→RV) (dst : Option Nat) (v : RV) : Nat→RV:=fun t=>if dst=some t then v else σ t
section
variable (P : Program) (GL : List Nat) (call : Call1) (all : List Oper)
noncomputable def rcX (un : List Nat) (k : RK) (ev : Ev) (s : RS) (ns : Notes) : Option (RV×RS):=match un with
 | []=>rc P call k ev s
 | a :: r=>rcU P call (a :: r) k ev s ns
inductive RunS (o : Oper) (pe : PE) (σ : Nat→RV) (s : RS) (ns : Notes) : RV→RS→Notes→Prop
 | m {x : Operand} (h : rk P o=.m x) : RunS o pe σ s ns (opS GL σ x) s ns
 | v {f : Ev→Option RV} {v : RV} (h : rk P o=.v f) (h1 : f (opS GL σ)=some v) : RunS o pe σ s ns v s ns
 | r {x : Operand} {f : Option RO→Ev→Option RV} {v : RV} (h : rk P o=.r x f) (h1 : f (blk s.H.get (opS GL σ x)) (opS GL σ)=some v) : RunS o pe σ s ns v s (pd pe.tk ⟨pe.i,(opS GL σ x).asBlk,none⟩ ns)
 | b {f : Ev→Option PR} {ob : RO} {v : RV} {s' : RS} (h : rk P o=.b f) (h1 : f (opS GL σ)=some (.new ob v)) (h2 : tl s ob=some s') : RunS o pe σ s ns (v.at s.nx) s' (pd pe.tk ⟨pe.i,none,some s.nx⟩ ns)
 | c {v : RV} {s' : RS} (h : isC (rk P o)=true) (h1 : rcX P call pe.un (rk P o) (opS GL σ) s ns=some (v,s')) : RunS o pe σ s ns v s' ns
inductive StepS (o : Oper) (pe : PE) (σ : Nat→RV) (s : RS) (ns : Notes) : RV→RS→Notes→Prop
 | run {v : RV} {s' : RS} {ns' : Notes} (hg : o.guard=none∨∃ j want d,o.guard=some (j,want)∧cN all j=some d∧σ d=.one (.bool want)) (h : RunS P GL call o pe σ s ns v s' ns') : StepS o pe σ s ns v s' ns'
 | skip {j d : Nat} {want : Bool} (hg : o.guard=some (j,want)) (hd : cN all j=some d) (h : σ d=.one (.bool (!want))∨σ d=.tup []) : StepS o pe σ s ns rundef s ns
structure Rec where
 pe : PE
 o : Oper
 σ : Nat→RV
 s : RS
 ns : Notes
 v : RV
 s' : RS
inductive Trace : (Nat→RV)→RS→Notes→Plan→List Rec→(Nat→RV)→RS→Prop
 | nil {σ : Nat→RV} {s : RS} {ns : Notes} : Trace σ s ns [] [] σ s
 | cons {σ : Nat→RV} {s : RS} {ns : Notes} {pe : PE} {pl : Plan} {o : Oper} {v : RV} {s1 : RS} {ns1 : Notes} {recs : List Rec} {σ' : Nat→RV} {s' : RS} (ho : all[pe.i]?=some o) (h : StepS P GL call all o pe σ s ns v s1 ns1)
   (t : Trace (upd σ o.dst v) s1 ns1 pl recs σ' s') : Trace σ s ns (pe :: pl) (⟨pe,o,σ,s,ns,v,s1⟩ :: recs) σ' s'
end
section
variable {P : Program} {GL : List Nat} {call : Call1} {all : List Oper} {msk : Nat}
theorem gx {R : Type} (v : RV) (K : RV→R) : sU v K=K v:=by cases v <;> rfl
theorem Du (e : REnv) (l : Lc) (d : Nat) (v : RV) (hk : cP msk d=false) : egt msk e (.cons d v l)=upd (egt msk e l) (some d) v:=by
 funext t
 unfold egt upd
 show cond (cP msk t) (gOr (e.get t)) (cond (Nat.beq d t) v (FM l t))=_
 by_cases h : d=t
 ·subst h; simp [hk]
 ·have : Nat.beq d t=false:=by cases hb : Nat.beq d t with | true=>exact absurd (Nat.eq_of_beq_eq_true hb) h | false=>rfl
  simp [this,h]
theorem xS {e e' : REnv} {l : Lc} {d : Nat} {v : RV} (h : e.put d v=some e') (hk : cP msk d=true) : egt msk e' l=upd (egt msk e l) (some d) v:=by
 funext t
 unfold egt upd
 rw [Tr.get_put h t]
 by_cases ht : d=t
 ·subst ht; simp [hk,gOr]
 ·simp [ht]
theorem mZ {dst : Option Nat} {v : RV} {e : REnv} {l : Lc} {K : REnv→Lc→Out} {e' : REnv} {s' : RS} (h : (gz msk dst).run v e l K=.go e' s') : ∃ e1 l1,egt msk e1 l1=upd (egt msk e l) dst v∧K e1 l1=.go e' s':=by
 cases dst with
 | none=>exact ⟨e,l,by funext t; simp [upd],h⟩
 | some d =>
  unfold gz at h
  dsimp only at h
  cases hk : cP msk d with
  | true =>
   rw [hk] at h
   simp only [cond_true] at h
   rw [gx,Tr.putK_eq] at h
   split at h
   ·rename_i u hu
    exact ⟨u,l,xS (show e.put d v=some u from hu) hk,h⟩
   ·cases h
  | false =>
   rw [hk] at h
   simp only [cond_false] at h
   rw [gx] at h
   exact ⟨e,.cons d v l,Du e l d v hk,h⟩
theorem qS {o : Oper} {pe : PE} {e : REnv} {l : Lc} {s : RS} {ns : Notes} {K : K1} {e' : REnv} {s' : RS} (h : (jf P GL msk (rk P o) pe o.dst).run call e l s ns K=.go e' s') :
  ∃ v s1 ns1 e1 l1,RunS P GL call o pe (egt msk e l) s ns v s1 ns1∧egt msk e1 l1=upd (egt msk e l) o.dst v∧K e1 l1 s1 ns1=.go e' s':=by
 have hev : (rev GL msk e l : Ev)=opS GL (egt msk e l):=by funext x; exact sC GL msk e l x
 have cc : isC (rk P o)=true→(mkW P GL msk (rk P o) pe o.dst).run call e l s ns K=.go e' s' →
   ∃ v s1 ns1 e1 l1,RunS P GL call o pe (egt msk e l) s ns v s1 ns1∧egt msk e1 l1=upd (egt msk e l) o.dst v∧K e1 l1 s1 ns1=.go e' s':=by
  intro hc h
  have key : xC msk o.dst (rcX P call pe.un (rk P o) (opS GL (egt msk e l)) s ns) e l ns K=.go e' s':=by
   unfold mkW at h
   unfold rcX
   split at h
   ·rename_i hun; rw [hun]; rw [← hev]; exact h
   ·rename_i x r hun; rw [hun]; rw [← hev]; exact h
  unfold xC at key
  split at key
  ·rename_i v s1 hr
   obtain ⟨e1,l1,h1,h2⟩:=mZ key
   exact ⟨v,s1,ns,e1,l1,.c hc hr,h1,h2⟩
  ·cases key
 generalize hk : rk P o=k at h cc
 cases k with
 | m x =>
  obtain ⟨e1,l1,h1,h2⟩:=mZ h
  rw [sC] at h1
  exact ⟨_,s,ns,e1,l1,.m hk,h1,h2⟩
 | v f =>
  change vD msk o.dst (f (rev GL msk e l)) e l s ns K=.go e' s' at h
  unfold vD at h
  cases hf : f (rev GL msk e l) with
  | none=>rw [hf] at h; cases h
  | some v =>
   rw [hf] at h
   obtain ⟨e1,l1,h1,h2⟩:=mZ h
   exact ⟨v,s,ns,e1,l1,.v hk (by rw [← hev]; exact hf),h1,h2⟩
 | r x f =>
  change vD msk o.dst (f (blk s.H.get (rev GL msk e l x)) (rev GL msk e l)) e l s (pd pe.tk ⟨pe.i,(rev GL msk e l x).asBlk,none⟩ ns) K=.go e' s' at h
  unfold vD at h
  cases hf : f (blk s.H.get (rev GL msk e l x)) (rev GL msk e l) with
  | none=>rw [hf] at h; cases h
  | some v =>
   rw [hf] at h
   obtain ⟨e1,l1,h1,h2⟩:=mZ h
   rw [sC] at h2
   exact ⟨v,s,_,e1,l1,.r hk (by rw [← hev]; exact hf),h1,h2⟩
 | b f =>
  change zP msk pe o.dst (f (rev GL msk e l)) e l s ns K=.go e' s' at h
  unfold zP at h
  split at h
  ·rename_i ob v hf
   rw [dB] at h
   unfold vj at h
   cases hfr : s.H.get s.nx with
   | some _=>rw [hfr] at h; cases h
   | none =>
    rw [hfr] at h
    simp only at h
    rw [Tr.putK_eq] at h
    split at h
    ·rename_i H hH
     obtain ⟨e1,l1,h1,h2⟩:=mZ h
     refine ⟨v.at s.nx,_,_,e1,l1,.b hk (by rw [← hev]; exact hf) ?_,h1,h2⟩
     unfold tl vj
     rw [dB,hfr]
     simp only
     rw [Tr.putK_eq,hH]
    ·cases h
  ·cases h
 | _=>exact cc rfl h
theorem sB {g : Option (Nat×Bool)} {d : Nat} {want : Bool} (h : jF all g=some (some (d,want))) : ∃ j,g=some (j,want)∧cN all j=some d:=by
 unfold jF at h
 split at h
 ·cases h
 ·split at h
  ·rename_i d' hd; cases h; exact ⟨_,rfl,hd⟩
  ·cases h
theorem tf {g : Option (Nat×Bool)} (h : jF all g=some none) : g=none:=by
 unfold jF at h
 split at h
 ·rfl
 ·split at h <;> cases h
theorem Gm {o : Oper} {pe : PE} {g : Option (Nat×Bool)} (hg : jF all o.guard=some g) {e : REnv} {l : Lc} {s : RS} {ns : Notes} {K : K1} {e' : REnv} {s' : RS}
  (h : (yP msk g o.dst (jf P GL msk (rk P o) pe o.dst)).run call e l s ns K=.go e' s') :
  ∃ v s1 ns1 e1 l1,StepS P GL call all o pe (egt msk e l) s ns v s1 ns1∧egt msk e1 l1=upd (egt msk e l) o.dst v∧K e1 l1 s1 ns1=.go e' s':=by
 cases g with
 | none =>
  obtain ⟨v,s1,ns1,e1,l1,h1,h2,h3⟩:=qS h
  exact ⟨v,s1,ns1,e1,l1,.run (.inl (tf hg)) h1,h2,h3⟩
 | some p =>
  obtain ⟨d,want⟩:=p
  obtain ⟨j,hj,hd⟩:=sB hg
  change iy (egt msk e l d) want ((jf P GL msk (rk P o) pe o.dst).run call e l s ns K) ((gz msk o.dst).run rundef e l fun e' l'=>K e' l' s ns)=.go e' s' at h
  unfold iy at h
  have go : (jf P GL msk (rk P o) pe o.dst).run call e l s ns K=.go e' s'→egt msk e l d=.one (.bool want) →
    ∃ v s1 ns1 e1 l1,StepS P GL call all o pe (egt msk e l) s ns v s1 ns1∧egt msk e1 l1=upd (egt msk e l) o.dst v∧K e1 l1 s1 ns1=.go e' s':=by
   intro h hb
   obtain ⟨v,s1,ns1,e1,l1,h1,h2,h3⟩:=qS h
   exact ⟨v,s1,ns1,e1,l1,.run (.inr ⟨j,want,d,hj,hd,hb⟩) h1,h2,h3⟩
  have no : ((gz msk o.dst).run rundef e l fun e' l'=>K e' l' s ns)=.go e' s'→(egt msk e l d=.one (.bool (!want))∨egt msk e l d=.tup []) →
    ∃ v s1 ns1 e1 l1,StepS P GL call all o pe (egt msk e l) s ns v s1 ns1∧egt msk e1 l1=upd (egt msk e l) o.dst v∧K e1 l1 s1 ns1=.go e' s':=by
   intro h hb
   obtain ⟨e1,l1,h1,h2⟩:=mZ h
   exact ⟨rundef,s,ns,e1,l1,.skip hj hd hb,h1,h2⟩
  rcases tx h with ⟨h1,h2⟩ | ⟨b,h1,h2⟩
  ·unfold xh at h2
   split at h2
   ·rename_i hv; exact no h2 (.inr hv)
   ·cases h2
  ·have hb:=fW h1
   cases b <;> cases want
   ·exact go h2 hb
   ·exact no h2 (.inl hb)
   ·exact no h2 (.inl hb)
   ·exact go h2 hb
theorem tZ : ∀ (pl : Plan) {e : REnv} {l : Lc} {s : RS} {ns : Notes} {e' : REnv} {s' : RS},(dy P GL msk all pl).run call e l s ns=.go e' s' →
  ∃ recs σ',Trace P GL call all (egt msk e l) s ns pl recs σ' s'∧∃ l',σ'=egt msk e' l'
 | [],e,l,s,ns,e',s',h=>by
  cases h
  exact ⟨[],_,.nil,l,rfl⟩
 | pe :: pl,e,l,s,ns,e',s',h=>by
  change (zE P GL msk all pe (dy P GL msk all pl)).run call e l s ns=.go e' s' at h
  unfold zE at h
  split at h
  ·rename_i o ho
   split at h
   ·rename_i g hg
    obtain ⟨v,s1,ns1,e1,l1,h1,h2,h3⟩:=Gm hg h
    obtain ⟨recs,σ',h4,h5⟩:=tZ pl h3
    rw [h2] at h4
    exact ⟨_,σ',.cons ho h1 h4,h5⟩
   ·cases h
  ·cases h
theorem sd {v : RV} {want : Bool} {run skip r : Out} (h : iy v want run skip=r) : r=.no∨run=r∨skip=r:=by
 unfold iy at h
 rcases tx h with ⟨_,h2⟩ | ⟨b,_,h2⟩
 ·unfold xh at h2
  split at h2
  ·exact .inr (.inr h2)
  ·exact .inl h2.symm
 ·cases b <;> cases want
  ·exact .inr (.inl h2)
  ·exact .inr (.inr h2)
  ·exact .inr (.inr h2)
  ·exact .inr (.inl h2)
theorem rj : ∀ (pl : Plan) (e : REnv) (l : Lc) (s : RS) (ns : Notes),(dy P GL msk all pl).run call e l s ns=.no∨∃ e' s',(dy P GL msk all pl).run call e l s ns=.go e' s'
 | [],e,l,s,ns=>.inr ⟨e,s,rfl⟩
 | pe :: pl,e,l,s,ns=>by
  have ih:=rj pl
  have put : ∀ {dst : Option Nat} {v : RV} {e : REnv} {l : Lc} {s : RS} {ns : Notes},((gz msk dst).run v e l fun e' l'=>(dy P GL msk all pl).run call e' l' s ns)=.no∨∃ e' s',((gz msk dst).run v e l fun e' l'=>(dy P GL msk all pl).run call e' l' s ns)=.go e' s':=by
   intro dst v e l s ns
   cases dst with
   | none=>exact ih e l s ns
   | some d =>
    unfold gz
    dsimp only
    cases cP msk d with
    | true =>
     simp only [cond_true]
     rw [gx,Tr.putK_eq]
     split
     ·exact ih _ l s ns
     ·exact .inl rfl
    | false =>
     simp only [cond_false]
     rw [gx]
     exact ih e _ s ns
  have cc : ∀ {dst : Option Nat} {pr : Option (RV×RS)},xC msk dst pr e l ns (fun e' l' s' ns'=>(dy P GL msk all pl).run call e' l' s' ns')=.no∨∃ e' s',xC msk dst pr e l ns (fun e' l' s' ns'=>(dy P GL msk all pl).run call e' l' s' ns')=.go e' s':=by
   intro dst pr
   unfold xC
   split
   ·exact put
   ·exact .inl rfl
  have vv : ∀ {dst : Option Nat} {pr : Option RV} {ns : Notes},vD msk dst pr e l s ns (fun e' l' s' ns'=>(dy P GL msk all pl).run call e' l' s' ns')=.no∨∃ e' s',vD msk dst pr e l s ns (fun e' l' s' ns'=>(dy P GL msk all pl).run call e' l' s' ns')=.go e' s':=by
   intro dst pr ns
   cases pr with
   | none=>exact .inl rfl
   | some v=>exact put
  have step : ∀ (k : RK) (dst : Option Nat),(jf P GL msk k pe dst).run call e l s ns ((dy P GL msk all pl).run call)=.no∨∃ e' s',(jf P GL msk k pe dst).run call e l s ns ((dy P GL msk all pl).run call)=.go e' s':=by
   intro k dst
   have ww : (mkW P GL msk k pe dst).run call e l s ns ((dy P GL msk all pl).run call)=.no∨∃ e' s',(mkW P GL msk k pe dst).run call e l s ns ((dy P GL msk all pl).run call)=.go e' s':=by
    unfold mkW
    split
    ·exact cc
    ·exact cc
   cases k with
   | m x=>exact put
   | v f=>exact vv
   | r x f=>exact vv
   | b f =>
    change zP msk pe dst _ e l s ns _=.no∨∃ e' s',zP msk pe dst _ e l s ns _=.go e' s'
    unfold zP
    split
    ·rw [dB]
     unfold vj
     cases s.H.get s.nx with
     | some _=>exact .inl rfl
     | none =>
      simp only
      rw [Tr.putK_eq]
      split
      ·exact put
      ·exact .inl rfl
    ·exact .inl rfl
   | _=>exact ww
  change (zE P GL msk all pe (dy P GL msk all pl)).run call e l s ns=.no∨∃ e' s',(zE P GL msk all pe (dy P GL msk all pl)).run call e l s ns=.go e' s'
  unfold zE
  split
  ·rename_i o ho
   split
   ·rename_i g hg
    cases g with
    | none=>exact step _ _
    | some p =>
     obtain ⟨d,want⟩:=p
     rcases sd (v:=egt msk e l d) (want:=want) (run:=(jf P GL msk (rk P o) pe o.dst).run call e l s ns ((dy P GL msk all pl).run call)) (skip:=(gz msk o.dst).run rundef e l fun e' l'=>(dy P GL msk all pl).run call e' l' s ns) rfl with h | h | h
     ·exact .inl h
     ·change iy _ _ _ _=.no∨∃ e' s',iy _ _ _ _=.go e' s'
      rw [← h]; exact step _ _
     ·change iy _ _ _ _=.no∨∃ e' s',iy _ _ _ _=.go e' s'
      rw [← h]; exact put
   ·exact .inl rfl
  ·exact .inl rfl
end
end Go.Rx

/-
 Regions in order; blocks put aside.
-/
namespace Go.Rx
open Go.Vm
section
variable {P : Program} {GL : List Nat} {w0 : World} {call : Call1}
structure RSim (GL : List Nat) (w0 : World) (N : Nat) (a : Act) (w : World) (ι : Io) (σ : Nat→RV) (s : RS) : Prop where
 inv : RInv GL w0 w ι s.H.get
 top : ∀ b,s.nx≤b→ι b=none
 defers : a.defers=[]
 size : N≤a.tmps.size
 env : ∀ t,RelV ι (a.tmps.getD t undef) (σ t)
theorem pa {a : Act} {d : Nat} {v : Value} (h : a.tmps.getD d undef=v) (hne : v≠undef) : a.tmps[d]?=some v:=by
 rw [Array.getD_eq_getD_getElem?] at h
 cases hg : a.tmps[d]? with
 | none=>rw [hg] at h; exact absurd h.symm hne
 | some u=>rw [hg] at h; simp at h; rw [h]
theorem n7 {ops : Array Oper} {j d : Nat} (h : cN ops.toList j=some d) : (ops[j]?).bind (·.dst)=some d:=by
 unfold cN at h
 rw [Array.getElem?_toList] at h
 split at h
 ·rename_i o ho; simp [ho,h]
 ·cases h
theorem oY {ι : Io} {ops : Array Oper} {o : Oper} {a : Act} {σ : Nat→RV} (hg : o.guard=none∨∃ j want d,o.guard=some (j,want)∧cN ops.toList j=some d∧σ d=.one (.bool want))
  (he : ∀ j want d,o.guard=some (j,want)→cN ops.toList j=some d→RelV ι (a.tmps.getD d undef) (σ d)) : Region.wanted o (yielded ops a.tmps)=true:=by
 rcases hg with hg | ⟨j,want,d,h1,h2,h3⟩
 ·simp [Region.wanted,hg]
 ·have hv:=he j want d h1 h2
  rw [h3] at hv
  have hv:=pa (rel_bool hv) (by simp [undef])
  simp [Region.wanted,h1,yielded,n7 h2,hv]
theorem mC {ι : Io} {ops : Array Oper} {o : Oper} {a : Act} {σ : Nat→RV} {j d : Nat} {want : Bool} (h1 : o.guard=some (j,want)) (h2 : cN ops.toList j=some d) (h3 : σ d=.one (.bool (!want))∨σ d=.tup [])
  (hv : RelV ι (a.tmps.getD d undef) (σ d)) : Region.wanted o (yielded ops a.tmps)=false:=by
 rcases h3 with h3 | h3
 ·rw [h3] at hv
  have hv:=pa (rel_bool hv) (by simp [undef])
  simp [Region.wanted,h1,yielded,n7 h2,hv]
 ·rw [h3] at hv
  obtain ⟨us,hu,hr⟩:=hv
  cases hr
  have hv : a.tmps.getD d undef=undef:=hu
  rw [Array.getD_eq_getD_getElem?] at hv
  simp only [Region.wanted,h1,yielded,n7 h2,Option.bind_some]
  cases hg : a.tmps[d]? with
  | none=>simp
  | some v=>rw [hg] at hv; simp at hv; subst hv; simp [undef]
theorem kX {ι : Io} : RelV ι undef rundef:=fc
theorem Fo {o : Oper} {pe : PE} {σ : Nat→RV} {s s1 : RS} {ns ns1 : Notes} {v : RV} (h : RunS P GL call o pe σ s ns v s1 ns1) (hc : isC (rk P o)=false) {ι : Io} {a : Act} {w w0 : World} (hS : ∀ x∈o.op.operands,RelV ι (a.eval x) (opS GL σ x))
  (hl : ∀ x f,rk P o=.r x f→lI w0 w ι (opS GL σ x) (blk s.H.get (opS GL σ x))) :
  (s1=s∧∃ u,(execOp a.eval o).run P w=.ok (.value u) w∧RelV ι u v) ∨
  (∃ ob vb,tl s ob=some s1∧v=vb.at s.nx∧th P ι a o ob vb∧ns1=pd pe.tk ⟨pe.i,none,some s.nx⟩ ns∧uq (rk P o)=true):=by
 cases h with
 | m hk =>
  obtain ⟨u,h1,h2⟩:=Iz hk hS w
  exact .inl ⟨rfl,u,h1,h2⟩
 | v hk h1 =>
  obtain ⟨u,h1,h2⟩:=HV hk h1 hS w
  exact .inl ⟨rfl,u,h1,h2⟩
 | r hk h1 =>
  obtain ⟨u,h1,h2⟩:=Is hk h1 hS (hl _ _ hk)
  exact .inl ⟨rfl,u,h1,h2⟩
 | b hk h1 h2=>exact .inr ⟨_,_,h2,rfl,It hk h1 hS,rfl,by rw [hk]; rfl⟩
 | c hk _=>rw [hc] at hk; cases hk
theorem uv {ι : Io} {w w0 : World} {h : Hp} (hi : ∀ b o,h b=some o→RBlk w0 w ι b o) (x : RV) : lI w0 w ι x (blk h x):=by
 intro o' ho'
 unfold blk at ho'
 rcases tx ho' with ⟨_,h2⟩ | ⟨b,h1,h2⟩
 ·cases h2
 ·exact ⟨b,h1,hi b o' h2⟩
theorem Ch (hC : ic P GL call) {N : Nat} {a : Act} {w : World} {ι : Io} {σ : Nat→RV} {s : RS} (hs : RSim GL w0 N a w ι σ s) {ops : Array Oper} {Q : Exit→Act→World→Prop} {i : Nat} {o : Oper} (ho : ops[i]?=some o) {pe : PE} (hun : pe.un=[]) {ns ns1 : Notes} {v : RV} {s1 : RS}
  (h : StepS P GL call ops.toList o pe σ s ns v s1 ns1) (hd : ∀ d,o.dst=some d→d < N) {K : Act→World→Prop} (hK : ∀ a' w' ι',Go1 GL w0 s.nx w ι s.H.get s1.nx w' ι' s1.H.get→RSim GL w0 N a' w' ι' (upd σ o.dst v) s1→K a' w') : wpOp P ops Q i K a w:=by
 have hd' : ∀ d,o.dst=some d→d < a.tmps.size:=fun d hq=>Nat.lt_of_lt_of_le (hd d hq) hs.size
 have hS : ∀ x∈o.op.operands,RelV ι (a.eval x) (opS GL σ x):=fun x _=>tm hs.inv.glob fun t _=>hs.env t
 have fin : ∀ u w' ι',Go1 GL w0 s.nx w ι s.H.get s1.nx w' ι' s1.H.get→RelV ι' u v→K (a.put o.dst u) w':=by
  intro u w' ι' g hu
  refine hK _ _ _ g ⟨g.inv,g.top,?_,?_,?_⟩
  ·cases hq : o.dst <;> exact hs.defers
  ·cases hq : o.dst with
   | none=>exact hs.size
   | some d=>simpa [Act.put] using hs.size
  ·intro t
   rw [i6 a o.dst u hd']
   unfold upd
   split
   ·exact hu
   ·exact (hs.env t).mono g.le
 unfold wpOp
 rw [ho]
 simp only
 cases h with
 | skip hg hsl hv =>
  rw [mC hg hsl hv (hs.env _)]
  simp only [Bool.false_eq_true,if_false]
  exact fin undef w ι (Go1.refl hs.inv hs.top) kX
 | run hg hr =>
  rw [oY (ι:=ι) hg fun j want d _ _=>hs.env d]
  simp only [if_true]
  refine .inl ?_
  cases hc : isC (rk P o) with
  | false =>
   rcases Fo hr hc hS (w0:=w0) (w:=w) (fun x f _=>uv hs.inv.blk _) with ⟨rfl,u,h1,h2⟩ | ⟨ob,vb,h1,rfl,h2,_⟩
   ·exact Does.value (R:=fun u w'=>∃ ι',Go1 GL w0 s1.nx w ι s1.H.get s1.nx w' ι' s1.H.get∧RelV ι' u v) h1 ⟨ι,Go1.refl hs.inv hs.top,h2⟩ K Q fun u w' ⟨ι',h3,h4⟩=>fin u w' ι' h3 h4
   ·obtain ⟨u,w',L,r1,r2,r3,r4,r5⟩:=h2 w
    obtain ⟨e1,e2⟩:=dC h1
    obtain ⟨q1,q2⟩:=r5 w0 s.nx hs.inv.kept.size (hs.top s.nx (Nat.le_refl _))
    refine Does.value (R:=fun u w'=>∃ ι',Go1 GL w0 s.nx w ι s.H.get s1.nx w' ι' s1.H.get∧RelV ι' u (vb.at s.nx)) r1 ⟨_,?_,q2⟩ K Q fun u w' ⟨ι',h3,h4⟩=>fin u w' ι' h3 h4
    rw [e1,e2]
    exact Go1.new hs.inv hs.top r2 (Nat.le_of_eq r3.symm) r4 q1
  | true =>
   cases hr with
   | m hk=>rw [hk] at hc; cases hc
   | v hk _=>rw [hk] at hc; cases hc
   | r hk _=>rw [hk] at hc; cases hc
   | b hk _ _=>rw [hk] at hc; cases hc
   | c _ h1 =>
    unfold rcX at h1
    rw [hun] at h1
    exact Gw hC h1 hS w hs.inv hs.top K Q fun u w' ⟨ι',h3,h4⟩=>fin u w' ι' h3 h4
theorem FO (hC : ic P GL call) {N : Nat} {ops : Array Oper} {Q : Exit→Act→World→Prop} (hd : ∀ o∈ops.toList,∀ d,o.dst=some d→d < N) {σ σ' : Nat→RV} {s s' : RS} {ns : Notes} {pl : Plan} {recs : List Rec} (h : Trace P GL call ops.toList σ s ns pl recs σ' s')
  (hun : ∀ pe∈pl,pe.un=[]) : ∀ {a : Act} {w : World} {ι : Io},RSim GL w0 N a w ι σ s→(∀ a' w' ι',Go1 GL w0 s.nx w ι s.H.get s'.nx w' ι' s'.H.get→RSim GL w0 N a' w' ι' σ' s'→Q .normal a' w')→wpOps P ops Q (pl.map (·.i)) a w:=by
 induction h with
 | nil=>intro a w ι hs hQ; exact hQ a w ι (Go1.refl hs.inv hs.top) hs
 | cons ho hst t ih =>
  intro a w ι hs hQ
  simp only [List.map_cons]
  rw [wpOps_cons]
  have ho':=ho
  rw [Array.getElem?_toList] at ho'
  refine Ch hC hs ho' (hun _ (List.mem_cons_self ..)) hst (hd _ (List.mem_of_getElem? ho)) fun a' w' ι' g hs'=>?_
  exact ih (fun pe hpe=>hun pe (List.mem_cons_of_mem _ hpe)) hs' fun a2 w2 ι2 g2 hs2=>hQ a2 w2 ι2 (g.trans g2) hs2
theorem nq : ∀ (l : List Oper) (k : Nat),(fQ k l).map (·.i)=List.range' k l.length∧∀ pe∈fQ k l,pe.un=[]
 | [],k=>⟨rfl,by simp [fQ]⟩
 | o :: l,k=>by
  obtain ⟨h1,h2⟩:=nq l (k+1)
  refine ⟨?_,?_⟩
  ·show k :: (fQ (k+1) l).map (·.i)=_
   rw [h1]; rfl
  ·intro pe hpe
   change pe∈⟨k,false,[]⟩ :: fQ (k+1) l at hpe
   rcases List.mem_cons.1 hpe with rfl | hpe
   ·rfl
   ·exact h2 pe hpe
noncomputable def eI (un : List Nat) (ns : Notes) : List Nat:=ns.flatMap fun n=>cond (inL un n.i) (n.rd.toList++n.nw.toList) []
noncomputable def jk (un : List Nat) (ns : Notes) : List Nat:=ns.flatMap fun n=>cond (inL un n.i) n.nw.toList []
structure AsideOK (s s1 : RS) (ids nws : List Nat) : Prop where
 nx : s1.nx=s.nx
 weak : ∀ b o',s1.H.get b=some o'→o'=.dead∨∃ o,s.H.get b=some o∧(o'=o∨∃ t n,o=.cells t n∧o'=.ro t n)
 low : ∀ b∈ids,∀ o',s1.H.get b=some o'→j9 o'=false
 gone : ∀ b∈nws,s1.H.get b=some .dead
theorem t7 {s s1 s2 : RS} {ids nws : List Nat} (h : AsideOK s s1 ids nws) {b : Option Nat} {made : Bool} (h2 : nI b made (some s1)=some s2) : AsideOK s s2 (b.toList++ids) (cond made b.toList []++nws):=by
 cases b with
 | none =>
  cases h2
  cases made <;> simpa using h
 | some b =>
  unfold nI at h2
  have put : ∀ {o : RO},gp s1 b o=some s2→j9 o=false→(o=.dead∨∃ t n,s1.H.get b=some (.cells t n)∧o=.ro t n)→(made=true→o=.dead)→(b∈nws→o=.dead) →
    AsideOK s s2 (b :: ids) (cond made [b] []++nws):=by
   intro o hset ho hw hm hg
   obtain ⟨e1,e2⟩:=fb hset
   refine ⟨e2.trans h.nx,?_,?_,?_⟩
   ·intro b' o' hb'
    rw [e1] at hb'
    unfold Hp.set at hb'
    split at hb'
    ·rename_i e; subst e; cases hb'
     rcases hw with hw | ⟨t,n,h3,h4⟩
     ·exact .inl hw
     ·rcases h.weak b' _ h3 with h5 | ⟨o1,h5,h6 | ⟨t',n',h6,h7⟩⟩
      ·cases h5
      ·exact .inr ⟨o1,h5,.inr ⟨t,n,h6.symm,h4⟩⟩
      ·cases h7
    ·exact h.weak b' o' hb'
   ·intro b' hb' o' ho'
    rw [e1] at ho'
    unfold Hp.set at ho'
    split at ho'
    ·cases ho'; exact ho
    ·rename_i e
     rcases List.mem_cons.1 hb' with h3 | h3
     ·exact absurd h3 e
     ·exact h.low b' h3 o' ho'
   ·intro b' hb'
    rw [e1]
    unfold Hp.set
    split
    ·rename_i e
     subst e
     congr 1
     rcases List.mem_append.1 hb' with h3 | h3
     ·cases made with
      | false=>cases h3
      | true=>exact hm rfl
     ·exact hg h3
    ·rename_i e
     rcases List.mem_append.1 hb' with h3 | h3
     ·cases made with
      | false=>cases h3
      | true=>simp at h3; exact absurd h3 e
     ·exact h.gone b' h3
  cases made with
  | true=>exact put (show gp s1 b .dead=some s2 from h2) rfl (.inl rfl) (fun _=>rfl) (fun _=>rfl)
  | false =>
   change (match s1.H.get b with | some (.cells t m)=>gp s1 b (.ro t m) | some (.map _)=>gp s1 b .dead | _=>some s1)=some s2 at h2
   split at h2
   ·rename_i t m hb
    exact put h2 rfl (.inr ⟨t,m,hb,rfl⟩) (fun h=>by cases h) (fun hb'=>by have:=h.gone b hb'; rw [hb] at this; cases this)
   ·exact put h2 rfl (.inl rfl) (fun h=>by cases h) (fun _=>rfl)
   ·rename_i hn1 hn2
    cases h2
    refine ⟨h.nx,h.weak,?_,h.gone⟩
    intro b' hb' o' ho'
    rcases List.mem_cons.1 hb' with h3 | h3
    ·subst h3
     cases o' with
     | cells t m=>exact absurd ho' (hn1 t m)
     | map es=>exact absurd ho' (hn2 es)
     | _=>rfl
    ·exact h.low b' h3 o' ho'
theorem iP {un : List Nat} {s : RS} : ∀ {ns : Notes} {s1 : RS},eG un s ns=some s1→AsideOK s s1 (eI un ns) (jk un ns)
 | [],s1,h=>by cases h; exact ⟨rfl,fun b o' h=>.inr ⟨o',h,.inl rfl⟩,(fun b hb=>by cases hb),(fun b hb=>by cases hb)⟩
 | n :: r,s1,h=>by
  unfold eG at h
  cases hin : inL un n.i with
  | false =>
   rw [hin] at h
   have:=iP (ns:=r) h
   simpa [eI,jk,hin] using this
  | true =>
   rw [hin] at h
   change nI n.nw true (nI n.rd false (eG un s r))=some s1 at h
   cases h1 : eG un s r with
   | none=>rw [h1] at h; cases hrd : n.rd <;> rw [hrd] at h <;> (cases hnw : n.nw <;> rw [hnw] at h <;> cases h)
   | some q =>
    rw [h1] at h
    have i1:=iP h1
    cases h2 : nI n.rd false (some q) with
    | none=>rw [h2] at h; cases hnw : n.nw <;> rw [hnw] at h <;> cases h
    | some q2 =>
     rw [h2] at h
     have i2:=t7 (made:=false) i1 h2
     have i3:=t7 (made:=true) i2 h
     refine ⟨i3.nx,i3.weak,fun b hb=>i3.low b ?_,fun b hb=>i3.gone b ?_⟩
     ·simp only [eI,List.flatMap_cons,hin,cond_true,List.mem_append] at hb ⊢
      rcases hb with (hb | hb) | hb
      ·exact .inr (.inl hb)
      ·exact .inl hb
      ·exact .inr (.inr hb)
     ·simpa [jk,hin] using hb
def yB (s0 s2 s3 : RS) (ids : List Nat) : Prop:=s3.nx=s2.nx∧(∀ b∈ids,(s0.H.get b).isSome=true→s3.H.get b=s0.H.get b)∧∀ b,(b∉ids∨s0.H.get b=none)→s3.H.get b=s2.H.get b
theorem rq {s0 s2 q q' : RS} {b : Option Nat} {ids : List Nat} (h : je b s0 (some q)=some q') (hq : yB s0 s2 q ids) : yB s0 s2 q' (b.toList++ids):=by
 cases b with
 | none=>cases h; exact hq
 | some b =>
  obtain ⟨h1,h2,h3⟩:=hq
  change (match s0.H.get b with | some o=>gp q b o | none=>some q)=some q' at h
  split at h
  ·rename_i o ho
   obtain ⟨e1,e2⟩:=fb h
   refine ⟨e2.trans h1,?_,?_⟩
   ·intro b' hb' hs
    rw [e1]
    unfold Hp.set
    by_cases e : b'=b
    ·subst e; rw [if_pos rfl,ho]
    ·rw [if_neg e]
     rcases List.mem_cons.1 hb' with h4 | h4
     ·exact absurd h4 e
     ·exact h2 b' h4 hs
   ·intro b' hb'
    rw [e1]
    unfold Hp.set
    by_cases e : b'=b
    ·subst e
     rcases hb' with hb' | hb'
     ·exact absurd (by simp) hb'
     ·rw [ho] at hb'; cases hb'
    ·rw [if_neg e]
     exact h3 b' (hb'.imp (fun h5 h6=>h5 (List.mem_cons_of_mem _ h6)) id)
  ·rename_i ho
   cases h
   refine ⟨h1,?_,?_⟩
   ·intro b' hb' hs
    rcases List.mem_cons.1 hb' with h4 | h4
    ·subst h4; rw [ho] at hs; cases hs
    ·exact h2 b' h4 hs
   ·intro b' hb'
    exact h3 b' (hb'.imp (fun h5 h6=>h5 (List.mem_cons_of_mem _ h6)) id)
theorem pc {un : List Nat} {s0 s2 : RS} : ∀ {ns : Notes} {s3 : RS},eu un s0 s2 ns=some s3→yB s0 s2 s3 (eI un ns)
 | [],s3,h=>by cases h; exact ⟨rfl,(fun b hb=>by cases hb),fun b _=>rfl⟩
 | n :: r,s3,h=>by
  unfold eu at h
  cases hin : inL un n.i with
  | false =>
   rw [hin] at h
   have:=pc (ns:=r) h
   simpa [eI,hin] using this
  | true =>
   rw [hin] at h
   change je n.nw s0 (je n.rd s0 (eu un s0 s2 r))=some s3 at h
   cases h1 : eu un s0 s2 r with
   | none=>rw [h1] at h; cases hrd : n.rd <;> rw [hrd] at h <;> (cases hnw : n.nw <;> rw [hnw] at h <;> cases h)
   | some q =>
    rw [h1] at h
    cases h2 : je n.rd s0 (some q) with
    | none=>rw [h2] at h; cases hnw : n.nw <;> rw [hnw] at h <;> cases h
    | some q2 =>
     rw [h2] at h
     obtain ⟨i1,i2,i3⟩:=rq h (rq h2 (pc h1))
     have hm : ∀ b,(b∈n.nw.toList++(n.rd.toList++eI un r))↔b∈eI un (n :: r):=by
      intro b
      simp only [eI,List.flatMap_cons,hin,cond_true,List.mem_append]
      constructor
      ·intro h
       rcases h with h | h | h
       ·exact Or.inl (Or.inr h)
       ·exact Or.inl (Or.inl h)
       ·exact Or.inr h
      ·intro h
       rcases h with (h | h) | h
       ·exact Or.inr (Or.inl h)
       ·exact Or.inl h
       ·exact Or.inr (Or.inr h)
     exact ⟨i1,fun b hb=>i2 b ((hm b).2 hb),fun b hb=>i3 b (hb.imp (fun h5 h6=>h5 ((hm b).1 h6)) id)⟩
theorem AS {un : List Nat} {k : RK} {ev : Ev} {s s' : RS} {ns : Notes} {v : RV} (h : rcU P call un k ev s ns=some (v,s')) : ∃ s1 s2,eG un s ns=some s1∧rc P call k ev s1=some (v,s2)∧eu un s s2 ns=some s':=by
 unfold rcU at h
 split at h
 ·rename_i s1 h1
  unfold Fc at h
  split at h
  ·rename_i v' s2 h2
   split at h
   ·rename_i s3 h3
    cases h
    exact ⟨s1,s2,h1,h2,h3⟩
   ·cases h
  ·cases h
 ·cases h
end
end Go.Rx

/-
 Regions in no fixed order: what is looked over beforehand.
-/
namespace Go.Rx
open Go.Vm
inductive Bef (ops : Array Oper) : Nat→Nat→Prop
 | one {i : Nat} {o : Oper} {e : Edge} (ho : ops[i]?=some o) (he : e∈o.after.toList) (hb : Region.binds .any e=true) : Bef ops i e.on
 | more {i j : Nat} {o : Oper} {e : Edge} (ho : ops[i]?=some o) (he : e∈o.after.toList) (hb : Region.binds .any e=true) (h : Bef ops e.on j) : Bef ops i j
noncomputable section
section
variable (P : Program) (ops : Array Oper)
def pN : List (Nat×Nat)→Nat→Nat
 | [],_=>0
 | p :: r,i=>cond (Nat.beq p.1 i) p.2 (pN r i)
def iE (tab : List (Nat×Nat)) : List Edge→Nat
 | []=>0
 | e :: r=>cond (Region.binds .any e) ((2 ^ e.on ||| pN tab e.on) ||| iE tab r) (iE tab r)
def EU (o o' : Oper) : Bool:=match o.dst,o'.dst with
 | some d,some d'=>!(Nat.beq d d')
 | _,_=>true
def rW (m : Nat) (pe : PE) (o : Oper) (q : PE) (o' : Oper) : Bool :=
 !(Nat.beq q.i pe.i) && EU o o' && (bit m q.i || (!isC (rk P o') && Oper.apart ops o' o && (!isC (rk P o) || !uq (rk P o') || (q.tk && inL pe.un q.i))))
def BC (pre : List (PE×Oper)) (e : Edge) : Bool:=!Region.binds .any e || pre.any fun p=>Nat.beq p.1.i e.on
def nW : Plan→List (PE×Oper)→List (Nat×Nat)→Bool
 | [],_,_=>true
 | pe :: r,pre,tab=>match ops[pe.i]? with
  | none=>false
  | some o=>(o.after.toList.all (BC pre) && pre.all fun p=>rW P ops (iE tab o.after.toList) pe o p.1 p.2) && nW r ((pe,o) :: pre) ((pe.i,iE tab o.after.toList) :: tab)
def vV (pl : Plan) : Bool:=nW P ops pl [] [] && (List.range ops.size).all fun i=>pl.any fun pe=>Nat.beq pe.i i
end
end
section
variable {P : Program} {ops : Array Oper}
def xX (ops : Array Oper) (tab : List (Nat×Nat)) : Prop:=∀ i j,bit (pN tab i) j=true→Bef ops i j
theorem Co {a b j : Nat} (h : bit (a ||| b) j=true) : bit a j=true∨bit b j=true:=by
 rw [jW,Nat.testBit_or,Bool.or_eq_true] at h
 exact h.imp jW.2 jW.2
theorem Et {n j : Nat} (h : bit (2 ^ n) j=true) : n=j:=by
 rw [jW,Nat.testBit_two_pow] at h
 simpa using h
theorem t9 {j : Nat} (h : bit 0 j=true) : False:=by
 rw [jW,Nat.zero_testBit] at h
 cases h
theorem jY {tab : List (Nat×Nat)} (ht : xX ops tab) {i : Nat} {o : Oper} (ho : ops[i]?=some o) {j : Nat} : ∀ {l : List Edge},(∀ e∈l,e∈o.after.toList)→bit (iE tab l) j=true→Bef ops i j
 | [],_,h=>(t9 h).elim
 | e :: r,hl,h=>by
  unfold iE at h
  cases hb : Region.binds .any e with
  | false=>rw [hb] at h; exact jY ht ho (fun x hx=>hl x (List.mem_cons_of_mem _ hx)) h
  | true =>
   rw [hb] at h
   rcases Co (show bit ((2 ^ e.on ||| pN tab e.on) ||| iE tab r) j=true from h) with h | h
   ·rcases Co h with h | h
    ·rw [← Et h]; exact .one ho (hl e (List.mem_cons_self ..)) hb
    ·exact .more ho (hl e (List.mem_cons_self ..)) hb (ht _ _ h)
   ·exact jY ht ho (fun x hx=>hl x (List.mem_cons_of_mem _ hx)) h
def tq (P : Program) (ops : Array Oper) (pe : PE) (o : Oper) (q : PE) (o' : Oper) : Prop :=
 q.i≠pe.i∧(∀ d,o.dst=some d→o'.dst≠some d)∧(Bef ops pe.i q.i∨(isC (rk P o')=false∧Oper.apart ops o' o=true∧(isC (rk P o)=true→uq (rk P o')=true→q.tk=true∧inL pe.un q.i=true)))
theorem wY {tab : List (Nat×Nat)} (ht : xX ops tab) {pe q : PE} {o o' : Oper} (ho : ops[pe.i]?=some o) (h : rW P ops (iE tab o.after.toList) pe o q o'=true) : tq P ops pe o q o':=by
 unfold rW at h
 simp only [Bool.and_eq_true,Bool.or_eq_true] at h
 obtain ⟨⟨h1,h2⟩,h3⟩:=h
 refine ⟨?_,?_,?_⟩
 ·intro e
  rw [e,Nat.beq_refl] at h1
  cases h1
 ·intro d hd hd'
  unfold EU at h2
  rw [hd,hd'] at h2
  simp at h2
 ·rcases h3 with h3 | ⟨⟨h3,h4⟩,h5⟩
  ·exact .inl (jY ht ho (fun e he=>he) h3)
  ·refine .inr ⟨by simpa using h3,h4,fun hc hn=>?_⟩
   rcases h5 with (h5 | h5) | h5
   ·rw [hc] at h5; cases h5
   ·rw [hn] at h5; cases h5
   ·exact h5
structure PlanOK (P : Program) (ops : Array Oper) (pl : Plan) : Prop where
 op : ∀ (t : Nat) (pe : PE),pl[t]?=some pe→∃ o,ops[pe.i]?=some o
 sur : ∀ i,i < ops.size→∃ (t : Nat) (pe : PE),pl[t]?=some pe∧pe.i=i
 pred : ∀ (t : Nat) (pe : PE) (o : Oper) (e : Edge),pl[t]?=some pe→ops[pe.i]?=some o→e∈o.after.toList→Region.binds .any e=true→∃ (t' : Nat) (q : PE),t' < t∧pl[t']?=some q∧q.i=e.on
 pair : ∀ (t' t : Nat) (q pe : PE) (o' o : Oper),t' < t→pl[t']?=some q→pl[t]?=some pe→ops[q.i]?=some o'→ops[pe.i]?=some o→tq P ops pe o q o'
theorem qh : ∀ {pl : Plan} {pre : List (PE×Oper)} {tab : List (Nat×Nat)},nW P ops pl pre tab=true→xX ops tab →
  ∀ (t : Nat) (pe : PE),pl[t]?=some pe→∃ o,ops[pe.i]?=some o∧(∀ e∈o.after.toList,Region.binds .any e=true→(∃ p∈pre,p.1.i=e.on)∨∃ (t' : Nat) (q : PE),t' < t∧pl[t']?=some q∧q.i=e.on) ∧
   (∀ p∈pre,tq P ops pe o p.1 p.2)∧∀ (t' : Nat) (q : PE) (o' : Oper),t' < t→pl[t']?=some q→ops[q.i]?=some o'→tq P ops pe o q o'
 | [],pre,tab,_,_,t,pe,h=>by simp at h
 | x :: r,pre,tab,h,ht,t,pe,hpe=>by
  unfold nW at h
  split at h
  ·cases h
  ·rename_i o ho
   simp only [Bool.and_eq_true] at h
   obtain ⟨⟨h1,h2⟩,h3⟩:=h
   rw [List.all_eq_true] at h1 h2
   cases t with
   | zero =>
    simp at hpe
    subst hpe
    refine ⟨o,ho,fun e he hb=>?_,fun p hp=>wY ht ho (h2 p hp),fun t' q o' ht'=>absurd ht' (Nat.not_lt_zero _)⟩
    have:=h1 e he
    unfold BC at this
    rw [hb] at this
    simp only [Bool.not_true,Bool.false_or,List.any_eq_true] at this
    obtain ⟨p,hp,hq⟩:=this
    exact .inl ⟨p,hp,Nat.eq_of_beq_eq_true hq⟩
   | succ t =>
    have htab : xX ops ((x.i,iE tab o.after.toList) :: tab):=by
     intro i j hb
     unfold pN at hb
     cases hi : Nat.beq x.i i with
     | true =>
      rw [hi] at hb
      rw [← Nat.eq_of_beq_eq_true hi]
      exact jY ht ho (fun e he=>he) hb
     | false=>rw [hi] at hb; exact ht i j hb
    obtain ⟨o2,k1,k2,k3,k4⟩:=qh h3 htab t pe (by simpa using hpe)
    refine ⟨o2,k1,fun e he hb=>?_,fun p hp=>k3 p (List.mem_cons_of_mem _ hp),fun t' q o' ht' hq ho'=>?_⟩
    ·rcases k2 e he hb with ⟨p,hp,hpi⟩ | ⟨t',q,ht',hq,hqi⟩
     ·rcases List.mem_cons.1 hp with rfl | hp
      ·exact .inr ⟨0,x,Nat.succ_pos _,rfl,hpi⟩
      ·exact .inl ⟨p,hp,hpi⟩
     ·exact .inr ⟨t'+1,q,by omega,by simpa using hq,hqi⟩
    ·cases t' with
     | zero =>
      simp at hq
      subst hq
      rw [ho] at ho'
      cases ho'
      exact k3 (x,o) (List.mem_cons_self ..)
     | succ t'=>exact k4 t' q o' (by omega) (by simpa using hq) ho'
theorem zH {pl : Plan} (h : vV P ops pl=true) : PlanOK P ops pl:=by
 unfold vV at h
 simp only [Bool.and_eq_true] at h
 obtain ⟨h1,h2⟩:=h
 have key:=qh h1 (fun i j hb=>(t9 hb).elim)
 refine ⟨fun t pe hpe=>let ⟨o,k1,_⟩:=key t pe hpe; ⟨o,k1⟩,?_,?_,?_⟩
 ·intro i hi
  rw [List.all_eq_true] at h2
  have:=h2 i (List.mem_range.2 hi)
  rw [List.any_eq_true] at this
  obtain ⟨pe,h3,h4⟩:=this
  obtain ⟨t,h5⟩:=List.mem_iff_getElem?.1 h3
  exact ⟨t,pe,h5,Nat.eq_of_beq_eq_true h4⟩
 ·intro t pe o e hpe ho he hb
  obtain ⟨o',k1,k2,_⟩:=key t pe hpe
  rw [ho] at k1
  cases k1
  rcases k2 e he hb with ⟨p,hp,_⟩ | h
  ·cases hp
  ·exact h
 ·intro t' t q pe o' o ht hq hpe ho' ho
  obtain ⟨o2,k1,_,_,k4⟩:=key t pe hpe
  rw [ho] at k1
  cases k1
  exact k4 t' q o' ht hq ho'
end
structure Path (P : Program) (GL : List Nat) (call : Call1) (ops : Array Oper) (pl : Plan) where
 Sg : Nat→Nat→RV
 St : Nat→RS
 Ns : Nat→Notes
 V : Nat→RV
 step : ∀ (t : Nat) (pe : PE) (o : Oper),pl[t]?=some pe→ops[pe.i]?=some o→StepS P GL call ops.toList o pe (Sg t) (St t) (Ns t) (V t) (St (t+1)) (Ns (t+1))∧Sg (t+1)=upd (Sg t) o.dst (V t)
section
variable {P : Program} {GL : List Nat} {call : Call1} {ops : Array Oper}
theorem Ef {σ σ' : Nat→RV} {s s' : RS} {ns : Notes} {pl : Plan} {recs : List Rec} (h : Trace P GL call ops.toList σ s ns pl recs σ' s') :
  ∃ π : Path P GL call ops pl,π.Sg 0=σ∧π.St 0=s∧π.Sg pl.length=σ'∧π.St pl.length=s'∧π.Ns 0=ns:=by
 induction h with
 | @nil σ s ns=>exact ⟨⟨fun _=>σ,fun _=>s,fun _=>ns,fun _=>.unk,fun t pe o h=>by simp at h⟩,rfl,rfl,rfl,rfl,rfl⟩
 | @cons σ s ns pe pl o v s1 ns1 recs σ' s' ho hst t ih =>
  obtain ⟨π,h1,h2,h3,h4,h5⟩:=ih
  refine ⟨⟨fun t=>Nat.casesOn t σ π.Sg,fun t=>Nat.casesOn t s π.St,fun t=>Nat.casesOn t ns π.Ns,fun t=>Nat.casesOn t v π.V,?_⟩,rfl,rfl,h3,h4,rfl⟩
  intro t pe' o' hpe ho'
  cases t with
  | zero =>
   simp at hpe
   subst hpe
   rw [Array.getElem?_toList] at ho
   rw [ho] at ho'
   cases ho'
   refine ⟨?_,?_⟩
   ·show StepS P GL call ops.toList o pe σ s ns v (π.St 0) (π.Ns 0)
    rw [h2,h5]; exact hst
   ·show π.Sg 0=_
    rw [h1]; rfl
  | succ t=>exact π.step t pe' o' (by simpa using hpe) ho'
theorem Ay {s s' : RS} {ob : RO} (h : tl s ob=some s') : s.H.get s.nx=none:=by
 unfold tl at h
 rw [dB] at h
 exact (qW h).1
variable {pl : Plan} (π : Path P GL call ops pl)
theorem Path.first {t : Nat} {pe : PE} {o : Oper} (hpe : pl[t]?=some pe) (ho : ops[pe.i]?=some o) (hc : isC (rk P o)=false) :
  (π.St (t+1)=π.St t)∨∃ ob,(π.St t).H.get (π.St t).nx=none∧(π.St (t+1)).H.get=Hp.set (π.St t).H.get (π.St t).nx ob∧(π.St (t+1)).nx=(π.St t).nx+1∧uq (rk P o)=true∧(pe.tk=true→⟨pe.i,none,some (π.St t).nx⟩∈π.Ns (t+1)):=by
 have h:=(π.step t pe o hpe ho).1
 generalize π.St (t+1)=s1 at h ⊢
 generalize π.Ns (t+1)=ns1 at h ⊢
 generalize π.V t=v at h
 cases h with
 | skip=>exact .inl rfl
 | run hg hr =>
  cases hr with
  | m _=>exact .inl rfl
  | v _ _=>exact .inl rfl
  | r _ _=>exact .inl rfl
  | b hk h1 h2 =>
   obtain ⟨e1,e2⟩:=dC h2
   refine .inr ⟨_,Ay h2,e1,e2,by rw [hk]; rfl,fun ht=>?_⟩
   unfold pd
   rw [ht]
   exact List.mem_cons_self ..
  | c hk _=>rw [hc] at hk; cases hk
theorem Path.notes {t : Nat} {pe : PE} {o : Oper} (hpe : pl[t]?=some pe) (ho : ops[pe.i]?=some o) : ∀ n∈π.Ns t,n∈π.Ns (t+1):=by
 have h:=(π.step t pe o hpe ho).1
 generalize π.St (t+1)=s1 at h
 generalize π.Ns (t+1)=ns1 at h ⊢
 generalize π.V t=v at h
 intro n hn
 cases h with
 | skip=>exact hn
 | run hg hr =>
  cases hr with
  | m _=>exact hn
  | v _ _=>exact hn
  | r _ _=>unfold pd; cases pe.tk <;> simp [hn]
  | b _ _ _=>unfold pd; cases pe.tk <;> simp [hn]
  | c _ _=>exact hn
theorem Path.notes_le (hp : PlanOK P ops pl) {t t' : Nat} (hle : t≤t') (hl : t'≤pl.length) : ∀ n∈π.Ns t,n∈π.Ns t':=by
 induction t' with
 | zero =>
  have : t=0:=by omega
  subst this
  exact fun n h=>h
 | succ t' ih =>
  rcases Nat.lt_or_ge t (t'+1) with h | h
  ·intro n hn
   have hpe : pl[t']?=some pl[t']:=List.getElem?_eq_getElem (by omega)
   obtain ⟨o,ho⟩:=hp.op _ _ hpe
   exact π.notes hpe ho n (ih (by omega) (by omega) n hn)
  ·have : t=t'+1:=by omega
   subst this; exact fun n h=>h
theorem ED {un : List Nat} {ns : Notes} {n : Note} (hn : n∈ns) (hu : inL un n.i=true) {b : Nat} (hb : n.rd=some b∨n.nw=some b) : b∈eI un ns:=by
 unfold eI
 rw [List.mem_flatMap]
 refine ⟨n,hn,?_⟩
 rw [hu]
 simp only [cond_true,List.mem_append]
 rcases hb with hb | hb
 ·left; rw [hb]; simp
 ·right; rw [hb]; simp
theorem BO {un : List Nat} {ns : Notes} {n : Note} (hn : n∈ns) (hu : inL un n.i=true) {b : Nat} (hb : n.nw=some b) : b∈jk un ns:=by
 unfold jk
 rw [List.mem_flatMap]
 refine ⟨n,hn,?_⟩
 rw [hu]
 simp [hb]
theorem Path.second {t : Nat} {pe : PE} {o : Oper} (hpe : pl[t]?=some pe) (ho : ops[pe.i]?=some o) (hc : isC (rk P o)=true) :
  (π.St (t+1)=π.St t∧π.V t=rundef∧∃ j want d,o.guard=some (j,want)∧cN ops.toList j=some d∧(π.Sg t d=.one (.bool (!want))∨π.Sg t d=.tup [])) ∨
  ((o.guard=none∨∃ j want d,o.guard=some (j,want)∧cN ops.toList j=some d∧π.Sg t d=.one (.bool want)) ∧
   ∃ s1 s2,AsideOK (π.St t) s1 (eI pe.un (π.Ns t)) (jk pe.un (π.Ns t))∧rc P call (rk P o) (opS GL (π.Sg t)) s1=some (π.V t,s2)∧yB (π.St t) s2 (π.St (t+1)) (eI pe.un (π.Ns t))):=by
 have h:=(π.step t pe o hpe ho).1
 generalize π.St (t+1)=s1 at h ⊢
 generalize π.Ns (t+1)=ns1 at h
 generalize π.V t=v at h ⊢
 cases h with
 | skip hg hd hv=>exact .inl ⟨rfl,rfl,_,_,_,hg,hd,hv⟩
 | run hg hr =>
  refine .inr ⟨hg,?_⟩
  cases hr with
  | m hk=>rw [hk] at hc; cases hc
  | v hk _=>rw [hk] at hc; cases hc
  | r hk _=>rw [hk] at hc; cases hc
  | b hk _ _=>rw [hk] at hc; cases hc
  | c _ h1 =>
   unfold rcX at h1
   split at h1
   ·rename_i hun
    rw [hun]
    have hids : ∀ ns,eI [] ns=[]:=by intro ns; unfold eI; induction ns with | nil=>rfl | cons n r ih=>simp [inL]
    have hnws : ∀ ns,jk [] ns=[]:=by intro ns; unfold jk; induction ns with | nil=>rfl | cons n r ih=>simp [inL]
    rw [hids,hnws]
    exact ⟨π.St t,s1,⟨rfl,fun b o' h=>.inr ⟨o',h,.inl rfl⟩,(fun b hb=>by cases hb),(fun b hb=>by cases hb)⟩,h1,rfl,(fun b hb=>by cases hb),fun b _=>rfl⟩
   ·rename_i x r hun
    rw [hun]
    obtain ⟨q1,q2,h2,h3,h4⟩:=AS h1
    exact ⟨q1,q2,iP h2,h3,pc h4⟩
theorem Path.stable (hp : PlanOK P ops pl) {t T b : Nat} {ob : RO} (hle : t≤T) (hT : T≤pl.length) (hb : (π.St t).H.get b=some ob)
  (hC : ∀ (q : Nat) (pe : PE) (o : Oper),t≤q→q < T→pl[q]?=some pe→ops[pe.i]?=some o→isC (rk P o)=true→b∈eI pe.un (π.Ns q)) : (π.St T).H.get b=some ob:=by
 induction T with
 | zero =>
  have : t=0:=by omega
  subst this
  exact hb
 | succ T ih =>
  rcases Nat.lt_or_ge t (T+1) with h | h
  ·have ih:=ih (by omega) (by omega) fun q pe o h1 h2=>hC q pe o h1 (by omega)
   have hpe : pl[T]?=some pl[T]:=List.getElem?_eq_getElem (by omega)
   obtain ⟨o,ho⟩:=hp.op _ _ hpe
   cases hc : isC (rk P o) with
   | false =>
    rcases π.first hpe ho hc with e | ⟨ob',e1,e2,_⟩
    ·rw [e]; exact ih
    ·rw [e2]
     unfold Hp.set
     rw [if_neg ?_]; exact ih
     intro e
     rw [e,e1] at ih
     cases ih
   | true =>
    have hm:=hC T _ o (by omega) (Nat.lt_succ_self _) hpe ho hc
    rcases π.second hpe ho hc with ⟨e,_⟩ | ⟨_,s1,s2,_,_,g1,g2,g3⟩
    ·rw [e]; exact ih
    ·rw [g2 b hm (by rw [ih]; rfl)]; exact ih
  ·have : t=T+1:=by omega
   subst this; exact hb
theorem Path.sg_none (hp : PlanOK P ops pl) {t d : Nat} (ht : t≤pl.length) (h : ∀ (q : Nat) (pe : PE) (o : Oper),q < t→pl[q]?=some pe→ops[pe.i]?=some o→o.dst≠some d) : π.Sg t d=π.Sg 0 d:=by
 induction t with
 | zero=>rfl
 | succ t ih =>
  have hpe : pl[t]?=some pl[t]:=List.getElem?_eq_getElem (by omega)
  obtain ⟨o,ho⟩:=hp.op _ _ hpe
  rw [(π.step t _ o hpe ho).2]
  unfold upd
  rw [if_neg (h t _ o (Nat.lt_succ_self _) hpe ho)]
  exact ih (by omega) fun q pe o hq=>h q pe o (by omega)
theorem Path.sg_some (hp : PlanOK P ops pl) {t d q : Nat} (ht : t≤pl.length) {pe : PE} {o : Oper} (hq : q < t) (hpe : pl[q]?=some pe) (ho : ops[pe.i]?=some o) (hd : o.dst=some d) : π.Sg t d=π.V q:=by
 induction t with
 | zero=>omega
 | succ t ih =>
  have hpt : pl[t]?=some pl[t]:=List.getElem?_eq_getElem (by omega)
  obtain ⟨o2,ho2⟩:=hp.op _ _ hpt
  rw [(π.step t _ o2 hpt ho2).2]
  unfold upd
  rcases Nat.lt_or_ge q t with h | h
  ·have hne:=(hp.pair q t pe _ o o2 h hpe hpt ho ho2).2.1
   rw [if_neg (fun e=>hne d e hd)]
   exact ih (by omega) h
  ·have : q=t:=by omega
   subst this
   rw [hpe] at hpt
   cases hpt
   rw [ho] at ho2
   cases ho2
   rw [if_pos hd]
end
end Go.Rx

/-
 Regions in no fixed order.
-/
namespace Go.Rx
open Go.Vm
section
variable {P : Program} {GL : List Nat} {call : Call1} {ops : Array Oper} {pl : Plan} (π : Path P GL call ops pl) (L : Nat→Bool)
def eP (T b : Nat) : Prop:=∃ (t : Nat) (pe : PE) (o : Oper),t < T∧pl[t]?=some pe∧ops[pe.i]?=some o∧isC (rk P o)=false∧L pe.i=false∧b=(π.St t).nx∧(π.St (t+1)).nx=(π.St t).nx+1
open Classical in
noncomputable def HS (T : Nat) : Hp:=fun b=>if eP π L T b then none else (π.St T).H.get b
theorem dn {T b : Nat} (h : eP π L T b) : HS π L T b=none:=by unfold HS; rw [if_pos h]
theorem cK {T b : Nat} (h : ¬ eP π L T b) : HS π L T b=(π.St T).H.get b:=by unfold HS; rw [if_neg h]
structure Good (w0 : World) (N : Nat) (w1 : World) (ι1 : Io) (a : Act) (w : World) (ι : Io) (T : Nat) : Prop where
 tle : T≤pl.length
 atC : ∀ (pe : PE) (o : Oper),pl[T]?=some pe→ops[pe.i]?=some o→isC (rk P o)=true
 done : ∀ (t : Nat) (pe : PE) (o : Oper),t < T→pl[t]?=some pe→ops[pe.i]?=some o→isC (rk P o)=true→L pe.i=true
 rest : ∀ (t : Nat) (pe : PE),T≤t→pl[t]?=some pe→L pe.i=false
 slotV : ∀ (t : Nat) (pe : PE) (o : Oper) (d : Nat),pl[t]?=some pe→ops[pe.i]?=some o→L pe.i=true→o.dst=some d→RelV ι (a.tmps.getD d undef) (π.V t)
 slot0 : ∀ d,(∀ (t : Nat) (pe : PE) (o : Oper),pl[t]?=some pe→ops[pe.i]?=some o→L pe.i=true→o.dst≠some d)→RelV ι (a.tmps.getD d undef) (π.Sg 0 d)
 mem : Go1 GL w0 (π.St 0).nx w1 ι1 (π.St 0).H.get (π.St T).nx w ι (HS π L T)
 pnd : ∀ b,eP π L T b→ι b=none
 nxs : ∀ t,t < T→(π.St t).nx≤(π.St (t+1)).nx
 defers : a.defers=[]
 size : N≤a.tmps.size
def Clo (ops : Array Oper) (L : Nat→Bool) : Prop:=∀ i j,L i=true→Bef ops i j→L j=true
variable {π L}
theorem kB {T : Nat} (h : ∀ t,t < T→(π.St t).nx≤(π.St (t+1)).nx) {t t' : Nat} (h1 : t≤t') (h2 : t'≤T) : (π.St t).nx≤(π.St t').nx:=by
 induction t' with
 | zero =>
  have : t=0:=by omega
  subst this
  exact Nat.le_refl _
 | succ t' ih =>
  rcases Nat.lt_or_ge t (t'+1) with hlt | hge
  ·exact Nat.le_trans (ih (by omega) (by omega)) (h t' (by omega))
  ·have : t=t'+1:=by omega
   subst this
   exact Nat.le_refl _
theorem xv (hp : PlanOK P ops pl) : ∀ (n T : Nat),T+n=pl.length→∃ T',T≤T'∧T'≤pl.length∧(∀ (t : Nat) (pe : PE) (o : Oper),T≤t→t < T'→pl[t]?=some pe→ops[pe.i]?=some o→isC (rk P o)=false) ∧
  ∀ (pe : PE) (o : Oper),pl[T']?=some pe→ops[pe.i]?=some o→isC (rk P o)=true
 | 0,T,h=>⟨T,Nat.le_refl _,by omega,fun t pe o h1 h2=>by omega,fun pe o hpe=>by
   have:=(List.getElem?_eq_some_iff.1 hpe).1
   omega⟩
 | n+1,T,h=>by
  have hpe : pl[T]?=some pl[T]:=List.getElem?_eq_getElem (by omega)
  obtain ⟨o,ho⟩:=hp.op _ _ hpe
  cases hc : isC (rk P o) with
  | true =>
   refine ⟨T,Nat.le_refl _,by omega,fun t pe o h1 h2=>by omega,fun pe o' hpe' ho'=>?_⟩
   rw [hpe] at hpe'
   cases hpe'
   rw [ho] at ho'
   cases ho'
   exact hc
  | false =>
   obtain ⟨T',h1,h2,h3,h4⟩:=xv hp n (T+1) (by omega)
   refine ⟨T',by omega,h2,fun t pe o' g1 g2 g3 g4=>?_,h4⟩
   rcases Nat.lt_or_ge T t with hlt | hge
   ·exact h3 t pe o' hlt g2 g3 g4
   ·have : t=T:=by omega
    subst this
    rw [hpe] at g3
    cases g3
    rw [ho] at g4
    cases g4
    exact hc
theorem ye (hp : PlanOK P ops pl) {T T' : Nat} (hle : T≤T') (hT : T'≤pl.length) (hc : ∀ (t : Nat) (pe : PE) (o : Oper),T≤t→t < T'→pl[t]?=some pe→ops[pe.i]?=some o→isC (rk P o)=false)
  (hL : ∀ (t : Nat) (pe : PE),T≤t→pl[t]?=some pe→L pe.i=false) : HS π L T'=HS π L T:=by
 induction T' with
 | zero =>
  have : T=0:=by omega
  subst this
  rfl
 | succ T' ih =>
  rcases Nat.lt_or_ge T (T'+1) with h | h
  ·rw [← ih (by omega) (by omega) fun t pe o h1 h2=>hc t pe o h1 (by omega)]
   have hpe : pl[T']?=some pl[T']:=List.getElem?_eq_getElem (by omega)
   obtain ⟨o,ho⟩:=hp.op _ _ hpe
   have hcc:=hc T' _ o (by omega) (Nat.lt_succ_self _) hpe ho
   have hLL:=hL T' _ (by omega) hpe
   funext b
   have mono : eP π L T' b→eP π L (T'+1) b:=fun ⟨t,pe,o,h1,h2⟩=>⟨t,pe,o,by omega,h2⟩
   have split : eP π L (T'+1) b→eP π L T' b∨(b=(π.St T').nx∧(π.St (T'+1)).nx=(π.St T').nx+1):=by
    rintro ⟨t,pe,o',h1,h2,h3,h4,h5,h6,h7⟩
    rcases Nat.lt_or_ge t T' with hlt | hge
    ·exact .inl ⟨t,pe,o',hlt,h2,h3,h4,h5,h6,h7⟩
    ·have : t=T':=by omega
     subst this
     exact .inr ⟨h6,h7⟩
   by_cases hpd : eP π L T' b
   ·rw [dn π L hpd,dn π L (mono hpd)]
   ·rw [cK π L hpd]
    rcases π.first hpe ho hcc with e | ⟨ob,e1,e2,e3,_⟩
    ·rw [cK π L (fun hq=>by
      rcases split hq with hq | ⟨_,hq⟩
      ·exact hpd hq
      ·rw [e] at hq; omega),e]
    ·by_cases hb : b=(π.St T').nx
     ·rw [dn π L ⟨T',_,o,Nat.lt_succ_self _,hpe,ho,hcc,hLL,hb,e3⟩,hb,e1]
     ·rw [cK π L (fun hq=>by
       rcases split hq with hq | ⟨hq,_⟩
       ·exact hpd hq
       ·exact hb hq),e2]
      unfold Hp.set
      rw [if_neg hb]
  ·have : T=T'+1:=by omega
   subst this
   rfl
section
variable {w0 : World} {N : Nat} {w1 : World} {ι1 : Io} {a : Act} {w : World} {ι : Io} {T : Nat}
theorem kA {o : Oper} {j d : Nat} {want : Bool} (h1 : o.guard=some (j,want)) (h2 : cN ops.toList j=some d) : d∈o.looksAt ops:=by
 unfold Oper.looksAt
 rw [h1]
 simp [n7 h2]
theorem pp {o : Oper} {d : Nat} (h : Operand.tmp d∈o.op.operands) : d∈o.looksAt ops:=by
 unfold Oper.looksAt
 rw [List.mem_append]
 left
 rw [List.mem_filterMap]
 exact ⟨.tmp d,by simpa using h,rfl⟩
theorem Good.seen (hg : Good π L w0 N w1 ι1 a w ι T) (hp : PlanOK P ops pl) (hcl : Clo ops L) {t : Nat} {pe : PE} {o : Oper} (hpe : pl[t]?=some pe) (ho : ops[pe.i]?=some o) (hn : L pe.i=false) (hpr : ∀ j,Bef ops pe.i j→L j=true) {d : Nat} (hd : d∈o.looksAt ops) :
  RelV ι (a.tmps.getD d undef) (π.Sg t d):=by
 have hlt : t < pl.length:=(List.getElem?_eq_some_iff.1 hpe).1
 by_cases hw : ∃ (q : Nat) (pq : PE) (oq : Oper),pl[q]?=some pq∧ops[pq.i]?=some oq∧oq.dst=some d
 ·obtain ⟨q,pq,oq,hq,hoq,hdq⟩:=hw
  -- nobody else writes it
  have uniq : ∀ (q' : Nat) (pq' : PE) (oq' : Oper),pl[q']?=some pq'→ops[pq'.i]?=some oq'→oq'.dst=some d→q'=q:=by
   intro q' pq' oq' h1 h2 h3
   rcases Nat.lt_trichotomy q' q with h | h | h
   ·exact absurd h3 ((hp.pair q' q pq' pq oq' oq h h1 hq h2 hoq).2.1 d hdq)
   ·exact h
   ·exact absurd hdq ((hp.pair q q' pq pq' oq oq' h hq h1 hoq h2).2.1 d h3)
  have zero : L pq.i=false→t≤q→RelV ι (a.tmps.getD d undef) (π.Sg t d):=by
   intro hLq hle
   rw [π.sg_none hp (Nat.le_of_lt hlt) fun q' pe' o' h1 h2 h3 h4=>by
    have:=uniq q' pe' o' h2 h3 h4
    omega]
   refine hg.slot0 d fun t' pe' o' h1 h2 h3 h4=>?_
   have:=uniq t' pe' o' h1 h2 h4
   subst this
   rw [hq] at h1
   cases h1
   rw [hLq] at h3
   cases h3
  rcases Nat.lt_trichotomy q t with h | h | h
  ·rcases (hp.pair q t pq pe oq o h hq hpe hoq ho).2.2 with hb | ⟨_,hap,_⟩
   ·rw [π.sg_some hp (Nat.le_of_lt hlt) h hq hoq hdq]
    exact hg.slotV q pq oq d hq hoq (hpr _ hb) hdq
   ·exact absurd hd ((Oper.apart_spec hap).1 d hdq)
  ·subst h
   rw [hpe] at hq
   cases hq
   exact zero hn (Nat.le_refl _)
  ·rcases (hp.pair t q pe pq o oq h hpe hq ho hoq).2.2 with hb | ⟨_,hap,_⟩
   ·refine zero ?_ (Nat.le_of_lt h)
    cases hLq : L pq.i with
    | false=>rfl
    | true =>
     have:=hcl _ _ hLq hb
     rw [hn] at this
     cases this
   ·exact absurd hd ((Oper.apart_spec hap).2.2 d hdq)
 ·rw [π.sg_none hp (Nat.le_of_lt hlt) fun q pe' o' _ h2 h3 h4=>hw ⟨q,pe',o',h2,h3,h4⟩]
  exact hg.slot0 d fun t' pe' o' h1 h2 _ h4=>hw ⟨t',pe',o',h1,h2,h4⟩
theorem Good.put_aside (hg : Good π L w0 N w1 ι1 a w ι T) (hp : PlanOK P ops pl) (hcl : Clo ops L) {t : Nat} {pe : PE} {o : Oper} (hpe : pl[t]?=some pe) (ho : ops[pe.i]?=some o) (hn : L pe.i=false) (hc : isC (rk P o)=false) (hno : uq (rk P o)=true)
  {b t0 : Nat} (ht0 : t≤t0) (hnote : pe.tk=true→∃ n∈π.Ns (t+1),n.i=pe.i∧(n.rd=some b∨n.nw=some b)) {ob : RO} (hb : (π.St t0).H.get b=some ob) (h0T : t0≤T) : (π.St T).H.get b=some ob:=by
 refine π.stable hp h0T hg.tle hb fun q pq oq h1 h2 hq hoq hcq=>?_
 have hne : t≠q:=by
  intro e
  subst e
  rw [hpe] at hq
  cases hq
  rw [ho] at hoq
  cases hoq
  rw [hc] at hcq
  cases hcq
 have hlt : t < q:=by omega
 have hLq:=hg.done q pq oq h2 hq hoq hcq
 rcases (hp.pair t q pe pq o oq hlt hpe hq ho hoq).2.2 with hbf | ⟨_,_,h3⟩
 ·have:=hcl _ _ hLq hbf
  rw [hn] at this
  cases this
 ·obtain ⟨htk,hin⟩:=h3 hcq hno
  obtain ⟨n,hn1,hn2,hn3⟩:=hnote htk
  have hqlt:=(List.getElem?_eq_some_iff.1 hq).1
  have:=π.notes_le hp (t:=t+1) (t':=q) hlt (Nat.le_of_lt hqlt) n hn1
  exact ED this (by rw [hn2]; exact hin) hn3
theorem Ep {u : Value} {v : RV} {b : Nat} (h : RelV ι u v) (hb : v.asBlk=some b) : ∃ L,ι b=some L:=by
 cases v with
 | one c =>
  cases c <;> first | (cases hb; done) | skip
  ·cases hb; obtain ⟨L,h1,_⟩:=dm h; exact ⟨L,h1⟩
  ·cases hb; obtain ⟨L,h1,_⟩:=kK h; exact ⟨L,h1⟩
 | _=>cases hb
theorem kC (o : Option Tmp) (u : Value) (h : a.defers=[]) : (a.put o u).defers=[]:=by cases o <;> exact h
theorem ql (o : Option Tmp) (u : Value) (h : N≤a.tmps.size) : N≤(a.put o u).tmps.size:=by cases o <;> simpa [Act.put] using h
theorem Good.slots (hg : Good π L w0 N w1 ι1 a w ι T) (hp : PlanOK P ops pl) {t : Nat} {pe : PE} {o : Oper} (hpe : pl[t]?=some pe) (ho : ops[pe.i]?=some o) (hd : ∀ d,o.dst=some d→d < N) {ι' : Io} (hle : ι.le ι') {u : Value} (hu : RelV ι' u (π.V t)) :
  (∀ (t' : Nat) (pe' : PE) (o' : Oper) (d : Nat),pl[t']?=some pe'→ops[pe'.i]?=some o'→aP L pe.i pe'.i=true→o'.dst=some d→RelV ι' ((a.put o.dst u).tmps.getD d undef) (π.V t')) ∧
  ∀ d,(∀ (t' : Nat) (pe' : PE) (o' : Oper),pl[t']?=some pe'→ops[pe'.i]?=some o'→aP L pe.i pe'.i=true→o'.dst≠some d)→RelV ι' ((a.put o.dst u).tmps.getD d undef) (π.Sg 0 d):=by
 have hd' : ∀ d,o.dst=some d→d < a.tmps.size:=fun d hq=>Nat.lt_of_lt_of_le (hd d hq) hg.size
 have same : ∀ (t' : Nat) (pe' : PE),pl[t']?=some pe'→pe'.i=pe.i→t'=t:=by
  intro t' pe' h1 h2
  obtain ⟨o',ho'⟩:=hp.op _ _ h1
  rcases Nat.lt_trichotomy t' t with h | h | h
  ·exact absurd h2 (hp.pair t' t pe' pe o' o h h1 hpe ho' ho).1
  ·exact h
  ·exact absurd h2.symm (hp.pair t t' pe pe' o o' h hpe h1 ho ho').1
 refine ⟨fun t' pe' o' d h1 h2 h3 h4=>?_,fun d h=>?_⟩
 ·rw [i6 a o.dst u hd']
  by_cases e : t'=t
  ·subst e
   rw [hpe] at h1
   cases h1
   rw [ho] at h2
   cases h2
   rw [if_pos h4]
   exact hu
  ·have hne : o.dst≠some d:=by
    intro h5
    rcases Nat.lt_or_ge t' t with h | h
    ·exact (hp.pair t' t pe' pe o' o h h1 hpe h2 ho).2.1 d h5 h4
    ·exact (hp.pair t t' pe pe' o o' (by omega) hpe h1 ho h2).2.1 d h4 h5
   rw [if_neg hne]
   have hL : L pe'.i=true:=by
    unfold aP at h3
    simp only [Bool.or_eq_true,beq_iff_eq] at h3
    rcases h3 with h3 | h3
    ·exact h3
    ·exact absurd (same t' pe' h1 h3) e
   exact (hg.slotV t' pe' o' d h1 h2 hL h4).mono hle
 ·rw [i6 a o.dst u hd',if_neg (h t pe o hpe ho (by simp [aP]))]
  exact (hg.slot0 d fun t' pe' o' h1 h2 h3=>h t' pe' o' h1 h2 (by simp [aP,h3])).mono hle
theorem mD (hp : PlanOK P ops pl) {t T' : Nat} {pe : PE} (hpe : pl[t]?=some pe) (ht : t < T') (h : ∀ (t : Nat) (pe : PE),T'≤t→pl[t]?=some pe→L pe.i=false) : ∀ (t' : Nat) (pe' : PE),T'≤t'→pl[t']?=some pe'→aP L pe.i pe'.i=false:=by
 intro t' pe' h1 h2
 obtain ⟨o,ho⟩:=hp.op _ _ hpe
 obtain ⟨o',ho'⟩:=hp.op _ _ h2
 have hne:=(hp.pair t t' pe pe' o o' (by omega) hpe h2 ho ho').1
 simp [aP,h t' pe' h1 h2,Ne.symm hne]
theorem Good.stepP (hg : Good π L w0 N w1 ι1 a w ι T) (hp : PlanOK P ops pl) (hcl : Clo ops L) {t : Nat} {pe : PE} {o : Oper} (hpe : pl[t]?=some pe) (ho : ops[pe.i]?=some o) (hn : L pe.i=false) (hpr : ∀ j,Bef ops pe.i j→L j=true) (hc : isC (rk P o)=false) (hlt : t < T)
  (hd : ∀ d,o.dst=some d→d < N) {Q : Exit→Act→World→Prop} {K : Act→World→Prop} (hK : ∀ a' w' ι',Good π (aP L pe.i) w0 N w1 ι1 a' w' ι' T→K a' w') : wpOp P ops Q pe.i K a w:=by
 have hseen : ∀ d,d∈o.looksAt ops→RelV ι (a.tmps.getD d undef) (π.Sg t d):=fun d hd=>hg.seen hp hcl hpe ho hn hpr hd
 have hS : ∀ x∈o.op.operands,RelV ι (a.eval x) (opS GL (π.Sg t) x):=fun x hx=>tm hg.mem.inv.glob fun d e=>hseen d (pp (by rw [← e]; exact hx))
 have hguard : ∀ j want d,o.guard=some (j,want)→cN ops.toList j=some d→RelV ι (a.tmps.getD d undef) (π.Sg t d):=fun j want d h1 h2=>hseen d (kA h1 h2)
 have hstep:=(π.step t pe o hpe ho).1
 -- nothing is made
 have fin0 : ∀ u,π.St (t+1)=π.St t→RelV ι u (π.V t)→K (a.put o.dst u) w:=by
  intro u he hu
  obtain ⟨s1,s2⟩:=hg.slots hp hpe ho hd (Io.le.refl ι) hu
  have hpend : ∀ b,eP π (aP L pe.i) T b↔eP π L T b:=by
   intro b
   constructor
   ·rintro ⟨q,pq,oq,h1,h2,h3,h4,h5,h6,h7⟩
    refine ⟨q,pq,oq,h1,h2,h3,h4,?_,h6,h7⟩
    unfold aP at h5
    simp only [Bool.or_eq_false_iff] at h5
    exact h5.1
   ·rintro ⟨q,pq,oq,h1,h2,h3,h4,h5,h6,h7⟩
    refine ⟨q,pq,oq,h1,h2,h3,h4,?_,h6,h7⟩
    unfold aP
    rw [h5,Bool.false_or,beq_eq_false_iff_ne]
    intro e
    have : q=t:=by
     rcases Nat.lt_trichotomy q t with h | h | h
     ·exact absurd e (hp.pair q t pq pe oq o h h2 hpe h3 ho).1
     ·exact h
     ·exact absurd e.symm (hp.pair t q pe pq o oq h hpe h2 ho h3).1
    subst this
    rw [he] at h7
    omega
  have hHS : HS π (aP L pe.i) T=HS π L T:=by
   funext b
   by_cases hb : eP π L T b
   ·rw [dn _ _ hb,dn _ _ ((hpend b).2 hb)]
   ·rw [cK _ _ hb,cK _ _ (fun h=>hb ((hpend b).1 h))]
  exact hK _ _ ι ⟨hg.tle,hg.atC,fun q pq oq h1 h2 h3 h4=>by simp [aP,hg.done q pq oq h1 h2 h3 h4],mD hp hpe hlt hg.rest,s1,s2,by rw [hHS]; exact hg.mem,fun b hb=>hg.pnd b ((hpend b).1 hb),hg.nxs,kC _ _ hg.defers,ql _ _ hg.size⟩
 unfold wpOp
 rw [ho]
 simp only
 generalize hv : π.V t=v at hstep
 generalize hs1 : π.St (t+1)=s1 at hstep
 generalize hns1 : π.Ns (t+1)=ns1 at hstep
 cases hstep with
 | skip hgu hsl hva =>
  rw [mC hgu hsl hva (hguard _ _ _ hgu hsl)]
  simp only [Bool.false_eq_true,if_false]
  exact fin0 undef hs1 (by rw [hv]; exact kX)
 | run hgu hr =>
  rw [oY (ι:=ι) hgu hguard]
  simp only [if_true]
  refine .inl ?_
  have hlooks : ∀ x f,rk P o=.r x f→lI w0 w ι (opS GL (π.Sg t) x) (blk (π.St t).H.get (opS GL (π.Sg t) x)):=by
   intro x f hk o' ho'
   unfold blk at ho'
   rcases tx ho' with ⟨_,h2⟩ | ⟨b,h1,h2⟩
   ·cases h2
   ·refine ⟨b,h1,?_⟩
    obtain ⟨Lc,hLc⟩:=Ep (hS x (Hz hk)) h1
    have hnp : ¬ eP π L T b:=fun h=>by have:=hg.pnd b h; rw [hLc] at this; cases this
    have hst:=hg.put_aside hp hcl hpe ho hn hc (by rw [hk]; rfl) (b:=b) (t0:=t) (Nat.le_refl _) (fun htk=>by
     cases hr with
     | r hk' h1' =>
      rw [hk] at hk'
      simp only [RK.r.injEq] at hk'
      obtain ⟨hx,_⟩:=hk'
      subst hx
      refine ⟨⟨pe.i,(opS GL (π.Sg t) x).asBlk,none⟩,?_,rfl,.inl h1⟩
      rw [hns1]
      unfold pd
      rw [htk]
      exact List.mem_cons_self ..
     | m hk'=>rw [hk] at hk'; cases hk'
     | v hk' _=>rw [hk] at hk'; cases hk'
     | b hk' _ _=>rw [hk] at hk'; cases hk'
     | c hk' _=>rw [hk] at hk'; cases hk') h2 (Nat.le_of_lt hlt)
    exact hg.mem.inv.blk b o' (by rw [cK π L hnp]; exact hst)
  rcases Fo hr hc hS (w0:=w0) (w:=w) hlooks with ⟨he,u,h1,h2⟩ | ⟨ob,vb,h1,h2,h3,h4,h5⟩
  ·exact Does.value (R:=fun u w'=>w'=w∧RelV ι u v) h1 ⟨rfl,h2⟩ K Q fun u w' ⟨e,h3⟩=>by
    subst e
    exact fin0 u (hs1.trans he) (by rw [hv]; exact h3)
  ·-- a block is made
   obtain ⟨u,w',Lc,r1,r2,r3,r4,r5⟩:=h3 w
   obtain ⟨e1,e2⟩:=dC h1
   have hnx : (π.St (t+1)).nx=(π.St t).nx+1:=by rw [hs1]; exact e2
   have hpd : eP π L T (π.St t).nx:=⟨t,pe,o,hlt,hpe,ho,hc,hn,rfl,hnx⟩
   have hnone:=hg.pnd _ hpd
   obtain ⟨q1,q2⟩:=r5 w0 (π.St t).nx hg.mem.inv.kept.size hnone
   have hle : ι.le (ι.set (π.St t).nx Lc):=Io.set_le hnone
   have hst : (π.St T).H.get (π.St t).nx=some ob:=hg.put_aside hp hcl hpe ho hn hc h5 (b:=(π.St t).nx) (t0:=t+1) (Nat.le_succ _) (fun htk=>by
    refine ⟨⟨pe.i,none,some (π.St t).nx⟩,?_,rfl,.inr rfl⟩
    rw [hns1,h4]
    unfold pd
    rw [htk]
    exact List.mem_cons_self ..) (by rw [hs1,e1]; simp [Hp.set]) hlt
   refine Does.value (R:=fun u' w''=>u'=u∧w''=w') r1 ⟨rfl,rfl⟩ K Q ?_
   rintro u' w'' ⟨rfl,rfl⟩
   obtain ⟨s1',s2'⟩:=hg.slots hp hpe ho hd hle (u:=u') (by rw [hv,h2]; exact q2)
   have hnxlt : (π.St t).nx < (π.St T).nx:=by
    have:=kB hg.nxs (t:=t+1) (t':=T) hlt (Nat.le_refl _)
    omega
   have hpend : ∀ b,eP π (aP L pe.i) T b↔(eP π L T b∧b≠(π.St t).nx):=by
    intro b
    constructor
    ·rintro ⟨q,pq,oq,h1,h2,h3,h4,h5,h6,h7⟩
     unfold aP at h5
     simp only [Bool.or_eq_false_iff,beq_eq_false_iff_ne] at h5
     refine ⟨⟨q,pq,oq,h1,h2,h3,h4,h5.1,h6,h7⟩,?_⟩
     have hqt : q≠t:=by
      intro e
      have hq2 : pl[t]?=some pq:=by rw [← e]; exact h2
      rw [hpe] at hq2
      cases hq2
      exact h5.2 rfl
     rcases Nat.lt_or_ge q t with h | h
     ·have:=kB hg.nxs (t:=q+1) (t':=t) h (Nat.le_of_lt hlt)
      omega
     ·have:=kB hg.nxs (t:=t+1) (t':=q) (by omega) (Nat.le_of_lt h1)
      omega
    ·rintro ⟨⟨q,pq,oq,h1,h2,h3,h4,h5,h6,h7⟩,hne⟩
     refine ⟨q,pq,oq,h1,h2,h3,h4,?_,h6,h7⟩
     unfold aP
     rw [h5,Bool.false_or,beq_eq_false_iff_ne]
     intro e
     have : q=t:=by
      rcases Nat.lt_trichotomy q t with h | h | h
      ·exact absurd e (hp.pair q t pq pe oq o h h2 hpe h3 ho).1
      ·exact h
      ·exact absurd e.symm (hp.pair t q pe pq o oq h hpe h2 ho h3).1
     subst this
     exact hne h6
   have hHS : HS π (aP L pe.i) T=Hp.set (HS π L T) (π.St t).nx ob:=by
    funext b
    unfold Hp.set
    by_cases hb : b=(π.St t).nx
    ·rw [if_pos hb,cK _ _ (fun h=>((hpend b).1 h).2 hb),hb,hst]
    ·rw [if_neg hb]
     by_cases hb' : eP π L T b
     ·rw [dn _ _ hb',dn _ _ ((hpend b).2 ⟨hb',hb⟩)]
     ·rw [cK _ _ hb',cK _ _ (fun h=>hb' ((hpend b).1 h).1)]
   refine hK _ _ (ι.set (π.St t).nx Lc) ⟨hg.tle,hg.atC,fun q pq oq h1 h2 h3 h4=>by simp [aP,hg.done q pq oq h1 h2 h3 h4],mD hp hpe hlt hg.rest,s1',s2',?_,?_,hg.nxs,kC _ _ hg.defers,ql _ _ hg.size⟩
   ·rw [hHS]
    exact Go1.add hg.mem (kB hg.nxs (Nat.zero_le _) (Nat.le_of_lt hlt)) hnxlt hnone r2 (Nat.le_of_eq r3.symm) r4 q1
   ·intro b hb
    obtain ⟨h1,h2⟩:=(hpend b).1 hb
    simp only [Io.set,h2,if_false]
    exact hg.pnd b h1
theorem Good.stepC (hg : Good π L w0 N w1 ι1 a w ι T) (hC : ic P GL call) (hp : PlanOK P ops pl) (hcl : Clo ops L) {pe : PE} {o : Oper} (hpe : pl[T]?=some pe) (ho : ops[pe.i]?=some o) (hpr : ∀ j,Bef ops pe.i j→L j=true)
  (hd : ∀ d,o.dst=some d→d < N) {Q : Exit→Act→World→Prop} {K : Act→World→Prop} (hK : ∀ a' w' ι' T',Good π (aP L pe.i) w0 N w1 ι1 a' w' ι' T'→K a' w') : wpOp P ops Q pe.i K a w:=by
 have hn:=hg.rest T pe (Nat.le_refl _) hpe
 have hc:=hg.atC pe o hpe ho
 have hTlt : T < pl.length:=(List.getElem?_eq_some_iff.1 hpe).1
 have hseen : ∀ d,d∈o.looksAt ops→RelV ι (a.tmps.getD d undef) (π.Sg T d):=fun d hd=>hg.seen hp hcl hpe ho hn hpr hd
 have hS : ∀ x∈o.op.operands,RelV ι (a.eval x) (opS GL (π.Sg T) x):=fun x hx=>tm hg.mem.inv.glob fun d e=>hseen d (pp (by rw [← e]; exact hx))
 have hguard : ∀ j want d,o.guard=some (j,want)→cN ops.toList j=some d→RelV ι (a.tmps.getD d undef) (π.Sg T d):=fun j want d h1 h2=>hseen d (kA h1 h2)
 obtain ⟨T',t1,t2,t3,t4⟩:=xv hp (pl.length - (T+1)) (T+1) (by omega)
 have hrest:=mD hp hpe (Nat.lt_succ_self T) (T':=T+1) fun t pe' h1 h2=>hg.rest t pe' (by omega) h2
 -- what is made,and not made here
 have hpend : ∀ b,eP π (aP L pe.i) (T+1) b↔eP π L T b:=by
  intro b
  constructor
  ·rintro ⟨q,pq,oq,h1,h2,h3,h4,h5,h6,h7⟩
   have hq : q < T:=by
    rcases Nat.lt_or_ge q T with h | h
    ·exact h
    ·have : q=T:=by omega
     subst this
     rw [hpe] at h2
     cases h2
     rw [ho] at h3
     cases h3
     rw [hc] at h4
     cases h4
   unfold aP at h5
   simp only [Bool.or_eq_false_iff] at h5
   exact ⟨q,pq,oq,hq,h2,h3,h4,h5.1,h6,h7⟩
  ·rintro ⟨q,pq,oq,h1,h2,h3,h4,h5,h6,h7⟩
   refine ⟨q,pq,oq,by omega,h2,h3,h4,?_,h6,h7⟩
   have:=(hp.pair q T pq pe oq o h1 h2 hpe h3 ho).1
   simp [aP,h5,this]
 have fin : ∀ u w' ι',RelV ι' u (π.V T)→Go1 GL w0 (π.St T).nx w ι (HS π L T) (π.St (T+1)).nx w' ι' (HS π (aP L pe.i) (T+1))→K (a.put o.dst u) w':=by
  intro u w' ι' hu g
  obtain ⟨s1,s2⟩:=hg.slots hp hpe ho hd g.le hu
  have hnxs : ∀ t,t < T'→(π.St t).nx≤(π.St (t+1)).nx:=by
   intro t ht
   rcases Nat.lt_trichotomy t T with h | h | h
   ·exact hg.nxs t h
   ·subst h; exact g.up
   ·have hpt : pl[t]?=some pl[t]:=List.getElem?_eq_getElem (by omega)
    obtain ⟨ot,hot⟩:=hp.op _ _ hpt
    rcases π.first hpt hot (t3 t _ ot h ht hpt hot) with e | ⟨_,_,_,e,_⟩
    ·rw [e]; exact Nat.le_refl _
    ·omega
  have hHS : HS π (aP L pe.i) T'=HS π (aP L pe.i) (T+1):=ye hp t1 t2 t3 hrest
  refine hK _ _ ι' T' ⟨t2,t4,?_,fun t pe' h1 h2=>hrest t pe' (by omega) h2,s1,s2,?_,?_,hnxs,kC _ _ hg.defers,ql _ _ hg.size⟩
  ·intro q pq oq h1 h2 h3 h4
   rcases Nat.lt_trichotomy q T with h | h | h
   ·simp [aP,hg.done q pq oq h h2 h3 h4]
   ·subst h
    rw [hpe] at h2
    cases h2
    simp [aP]
   ·rw [t3 q pq oq h h1 h2 h3] at h4
    cases h4
  ·rw [hHS]
   exact (hg.mem.then g (kB hg.nxs (Nat.zero_le _) (Nat.le_refl _))).more (kB hnxs t1 (Nat.le_refl _))
  ·rintro b ⟨q,pq,oq,h1,h2,h3,h4,h5,h6,h7⟩
   rcases Nat.lt_trichotomy q T with h | h | h
   ·have hb : eP π L T b:=(hpend b).1 ⟨q,pq,oq,by omega,h2,h3,h4,h5,h6,h7⟩
    have hlt : b < (π.St T).nx:=by
     have:=kB hg.nxs (t:=q+1) (t':=T) h (Nat.le_refl _)
     omega
    rw [g.low b hlt]
    exact hg.pnd b hb
   ·subst h
    rw [hpe] at h2
    cases h2
    rw [ho] at h3
    cases h3
    rw [hc] at h4
    cases h4
   ·refine g.top b ?_
    have:=kB hnxs (t:=T+1) (t':=q) h (Nat.le_of_lt h1)
    omega
 unfold wpOp
 rw [ho]
 simp only
 rcases π.second hpe ho hc with ⟨e1,e2,j,want,d,e3,e4,e5⟩ | ⟨e1,s1,s2,h1,h2,h3⟩
 ·rw [mC e3 e4 e5 (hguard _ _ _ e3 e4)]
  simp only [Bool.false_eq_true,if_false]
  refine fin undef w ι (by rw [e2]; exact kX) ?_
  have hHS : HS π (aP L pe.i) (T+1)=HS π L T:=by
   funext b
   by_cases hb : eP π L T b
   ·rw [dn _ _ hb,dn _ _ ((hpend b).2 hb)]
   ·rw [cK _ _ hb,cK _ _ (fun h=>hb ((hpend b).1 h)),e1]
  rw [hHS,e1]
  exact Go1.refl hg.mem.inv hg.mem.top
 ·rw [oY (ι:=ι) e1 hguard]
  simp only [if_true]
  refine .inl ?_
  have hW : Weak (HS π L T) s1.H.get:=by
   intro b o' hb
   by_cases hpd : eP π L T b
   ·obtain ⟨q,pq,oq,k1,k2,k3,k4,k5,k6,k7⟩:=hpd
    left
    -- it was put nI
    have hno : ∃ n∈π.Ns T,inL pe.un n.i=true∧n.nw=some b:=by
     rcases π.first k2 k3 k4 with e | ⟨ob,f1,f2,f3,f4,f5⟩
     ·rw [e] at k7; omega
     ·rcases (hp.pair q T pq pe oq o k1 k2 hpe k3 ho).2.2 with hbf | ⟨_,_,h6⟩
      ·have:=hpr _ hbf
       rw [k5] at this
       cases this
      ·obtain ⟨g1,g2⟩:=h6 hc f4
       refine ⟨_,π.notes_le hp (t:=q+1) (t':=T) k1 (Nat.le_of_lt hTlt) _ (f5 g1),g2,by rw [k6]⟩
    obtain ⟨n,n1,n2,n3⟩:=hno
    have:=h1.gone b (BO n1 n2 n3)
    rw [hb] at this
    cases this
    rfl
   ·rw [cK _ _ hpd]
    exact h1.weak b o' hb
  have hinv:=hg.mem.inv.weak hW
  have htop : ∀ b,s1.nx≤b→ι b=none:=fun b hb=>hg.mem.top b (by rw [← h1.nx]; exact hb)
  refine Gw (ev:=opS GL (π.Sg T)) hC h2 hS w hinv htop K Q ?_
  rintro u w' ⟨ι',g,hu⟩
  refine fin u w' ι' hu ?_
  have hnx2 : (π.St (T+1)).nx=s2.nx:=h3.1
  rw [hnx2]
  have g' : Go1 GL w0 (π.St T).nx w ι s1.H.get s2.nx w' ι' s2.H.get:=by rw [← h1.nx]; exact g
  classical
  refine Go1.back (wk:=fun b=>decide (eP π L T b∨(b∈eI pe.un (π.Ns T)∧(HS π L T b).isSome=true))) hg.mem.inv hW g' ?_ ?_ ?_
  ·intro b hb
   have hb:=of_decide_eq_true hb
   by_cases hpd : eP π L T b
   ·rw [dn _ _ hpd,dn _ _ ((hpend b).2 hpd)]
   ·rcases hb with hb | ⟨hb,hs⟩
    ·exact absurd hb hpd
    ·rw [cK _ _ hpd] at hs ⊢
     rw [cK _ _ (fun h=>hpd ((hpend b).1 h))]
     exact h3.2.1 b hb hs
  ·intro b hb
   have hb:=of_decide_eq_false hb
   simp only [not_or,not_and] at hb
   obtain ⟨hpd,hb⟩:=hb
   rw [cK _ _ (fun h=>hpd ((hpend b).1 h))]
   refine h3.2.2 b ?_
   by_cases hi : b∈eI pe.un (π.Ns T)
   ·right
    have:=hb hi
    rw [cK _ _ hpd] at this
    cases hq : (π.St T).H.get b with
    | none=>rfl
    | some _=>rw [hq] at this; exact absurd rfl this
   ·exact .inl hi
  ·intro b o' hb hbo
   have hb:=of_decide_eq_true hb
   rcases hb with hpd | ⟨hb,_⟩
   ·rcases hW b o' hbo with rfl | ⟨o2,h4,_⟩
    ·rfl
    ·rw [dn _ _ hpd] at h4; cases h4
   ·exact h1.low b hb o' hbo
end
end
end Go.Rx

/-
 Regions in no fixed order: all of it.
-/
namespace Go.Rx
open Go.Vm
section
variable {P : Program} {GL : List Nat} {call : Call1} {w0 : World} {N : Nat}
theorem Go1.draw {w : World} {n : Nat} {ι : Io} {h : Hp} (hi : RInv GL w0 w ι h) (ht : ∀ b,n≤b→ι b=none) : Go1 GL w0 n w ι h n { w with drawn:=w.drawn+1 } ι h:=by
 refine ⟨⟨⟨hi.kept.os,hi.kept.tape,hi.kept.output,hi.kept.size,hi.kept.block⟩,fun b o hb=>(hi.blk b o hb).mono (Io.le.refl ι) fun _ _=>rfl,hi.inj,hi.lt,hi.glob⟩,Io.le.refl ι,fun _ _=>rfl,Nat.le_refl _,ht,Nat.le_refl _,fun _ _ _=>rfl,fun b o L hb ho hL=>.inr ⟨b,o,L,hb,ho,.inr rfl,id,hL,rfl⟩⟩
theorem s7 (hm : P.follows .mixedOrders=true) (hC : ic P GL call) {ops : Array Oper} {pl : Plan} (hp : PlanOK P ops pl) (hd : ∀ o∈ops.toList,∀ d,o.dst=some d→d < N) {σ σ' : Nat→RV} {s s' : RS} {ns : Notes} {recs : List Rec} (htr : Trace P GL call ops.toList σ s ns pl recs σ' s')
  {a : Act} {w : World} {ι : Io} (hs : RSim GL w0 N a w ι σ s) {id : Nat} {Q : Exit→Act→World→Prop} (hQ : ∀ a' w' ι',Go1 GL w0 s.nx w ι s.H.get s'.nx w' ι' s'.H.get→RSim GL w0 N a' w' ι' σ' s'→Q .normal a' w') : (Code.region id ops true).wp P Q a w:=by
 refine wp_region_any hm ?_
 obtain ⟨π,p1,p2,p3,p4,_⟩:=Ef htr
 have g0:=Go1.draw hs.inv hs.top
 have hd' : ∀ {i : Nat} {o : Oper},ops[i]?=some o→∀ d,o.dst=some d→d < N:=fun ho=>hd _ (by rw [← Array.getElem?_toList] at ho; exact List.mem_of_getElem? ho)
 let SS : Array Bool→Nat→Bool:=fun l j=>l.getD j false
 have set_S : ∀ (l : Array Bool) (i : Nat),i < l.size→SS (l.setIfInBounds i true)=aP (SS l) i:=by
  intro l i hi
  funext j
  show (l.setIfInBounds i true).getD j false=(l.getD j false || j == i)
  by_cases e : j=i
  ·subst e; simp [hi]
  ·rw [getD_set_ne false (Ne.symm e)]; simp [e]
 have last : ∀ {L : Nat→Bool} {a' : Act} {w' : World} {ι' : Io} {T : Nat},(∀ i,i < ops.size→L i=true)→Good π L w0 N { w with drawn:=w.drawn+1 } ι a' w' ι' T→Q .normal a' w':=by
  intro L a' w' ι' T hall hg
  have hT : T=pl.length:=by
   rcases Nat.lt_or_ge T pl.length with h | h
   ·have hpe : pl[T]?=some pl[T]:=List.getElem?_eq_getElem h
    obtain ⟨o,ho⟩:=hp.op _ _ hpe
    have h1:=hg.rest T _ (Nat.le_refl _) hpe
    have h2:=hall _ (Array.getElem?_eq_some_iff.1 ho).1
    rw [h1] at h2
    cases h2
   ·have:=hg.tle; omega
  subst hT
  have hL : ∀ {t : Nat} {pe : PE},pl[t]?=some pe→L pe.i=true:=by
   intro t pe hpe
   obtain ⟨o,ho⟩:=hp.op _ _ hpe
   exact hall _ (Array.getElem?_eq_some_iff.1 ho).1
  have hnp : ∀ b,¬ eP π L pl.length b:=by
   rintro b ⟨t,pe,o,h1,h2,h3,h4,h5,_⟩
   rw [hL h2] at h5
   cases h5
  have hHS : HS π L pl.length=s'.H.get:=by
   funext b
   rw [cK _ _ (hnp b),p4]
  have hmem:=hg.mem
  rw [hHS,p2,p4] at hmem
  refine hQ a' w' ι' (g0.trans hmem) ⟨hmem.inv,hmem.top,hg.defers,hg.size,fun d=>?_⟩
  rw [← p3]
  by_cases hw : ∃ (q : Nat) (pq : PE) (oq : Oper),pl[q]?=some pq∧ops[pq.i]?=some oq∧oq.dst=some d
  ·obtain ⟨q,pq,oq,h1,h2,h3⟩:=hw
   rw [π.sg_some hp (Nat.le_refl _) (List.getElem?_eq_some_iff.1 h1).1 h1 h2 h3]
   exact hg.slotV q pq oq d h1 h2 (hL h1) h3
  ·rw [π.sg_none hp (Nat.le_refl _) fun q pe' o' _ h2 h3 h4=>hw ⟨q,pe',o',h2,h3,h4⟩]
   exact hg.slot0 d fun t' pe' o' h1 h2 _ h4=>hw ⟨t',pe',o',h1,h2,h4⟩
 have key : ∀ (fuel : Nat) (listed : Array Bool) (a' : Act) (w' : World) (ι' : Io) (T : Nat),listed.size=ops.size→ops.size≤fuel+(List.range ops.size).countP (SS listed) →
   Clo ops (SS listed)→Good π (SS listed) w0 N { w with drawn:=w.drawn+1 } ι a' w' ι' T→wpAny P .any ops Q fuel listed a' w':=by
  intro fuel
  induction fuel with
  | zero =>
   intro listed a' w' ι' T hsz hcnt hcl hg
   have hall : ∀ i,i < ops.size→SS listed i=true:=by
    have h1 : (List.range ops.size).countP (SS listed)=(List.range ops.size).length:=by
     have:=List.countP_le_length (p:=SS listed) (l:=List.range ops.size)
     simp only [List.length_range] at this ⊢
     omega
    rw [List.countP_eq_length] at h1
    exact fun i hi=>h1 i (List.mem_range.2 hi)
   refine ⟨?_,last hall hg⟩
   unfold Region.ready
   rw [List.filter_eq_nil_iff]
   intro i hi
   have hi:=List.mem_range.1 hi
   have h1 : listed.getD i false=true:=hall i hi
   have : listed.getD i true=true:=by
    have hlt : i < listed.size:=by omega
    simpa [hlt] using h1
   rw [this]; simp
  | succ fuel ih =>
   intro listed a' w' ι' T hsz hcnt hcl hg
   refine ⟨fun hr=>last ?_ hg,fun i hi=>?_⟩
   ·-- nothing is ready: all is done
    have hall : ∀ (t : Nat) (pe : PE),pl[t]?=some pe→SS listed pe.i=true:=by
     intro t
     induction t using Nat.strongRecOn with
     | ind t ih2 =>
      intro pe hpe
      obtain ⟨o,ho⟩:=hp.op _ _ hpe
      have hlt:=(Array.getElem?_eq_some_iff.1 ho).1
      cases hh : SS listed pe.i with
      | true=>rfl
      | false =>
       have : pe.i∈Region.ready .any ops listed:=by
        rw [mem_ready]
        have hh : listed.getD pe.i false=false:=hh
        have hlt : pe.i < listed.size:=by omega
        refine ⟨by simpa [hlt] using hh,o,ho,fun e he hb=>?_⟩
        obtain ⟨t',q,h1,h2,h3⟩:=hp.pred t pe o e hpe ho (by simpa using he) hb
        have:=ih2 t' h1 q h2
        rw [h3] at this
        exact this
       rw [hr] at this
       cases this
    intro i hi
    obtain ⟨t,pe,h1,h2⟩:=hp.sur i hi
    rw [← h2]
    exact hall t pe h1
   ·obtain ⟨h1,o,ho1,h2⟩:=mem_ready.1 hi
    have hlt : i < ops.size:=(Array.getElem?_eq_some_iff.1 ho1).1
    have hlt' : i < listed.size:=by omega
    have hn : SS listed i=false:=by
     show listed.getD i false=false
     simpa [hlt'] using h1
    obtain ⟨t,pe,hpe,hpi⟩:=hp.sur i hlt
    subst hpi
    have hpr : ∀ j,Bef ops pe.i j→SS listed j=true:=by
     intro j hj
     cases hj with
     | one ho he hb =>
      rw [ho1] at ho
      cases ho
      exact h2 _ (by simpa using he) hb
     | more ho he hb h3 =>
      rw [ho1] at ho
      cases ho
      exact hcl _ _ (h2 _ (by simpa using he) hb) h3
    have hcl' : Clo ops (aP (SS listed) pe.i):=by
     intro x y hx hxy
     unfold aP at hx ⊢
     simp only [Bool.or_eq_true,beq_iff_eq] at hx ⊢
     rcases hx with hx | hx
     ·exact .inl (hcl x y hx hxy)
     ·subst hx; exact .inl (hpr y hxy)
    have next : ∀ a2 w2 ι2 T2,Good π (aP (SS listed) pe.i) w0 N { w with drawn:=w.drawn+1 } ι a2 w2 ι2 T2→wpAny P .any ops Q fuel (listed.setIfInBounds pe.i true) a2 w2:=by
     intro a2 w2 ι2 T2 hg2
     refine ih (listed.setIfInBounds pe.i true) a2 w2 ι2 T2 (by simp [hsz]) ?_ ?_ ?_
     ·rw [set_S listed pe.i hlt',tI hn hlt]; omega
     ·rw [set_S listed pe.i hlt']; exact hcl'
     ·rw [set_S listed pe.i hlt']; exact hg2
    -- where it stands
    have hTt : t=T∨t < T:=by
     rcases Nat.lt_trichotomy t T with h | h | h
     ·exact .inr h
     ·exact .inl h
     ·have htl:=(List.getElem?_eq_some_iff.1 hpe).1
      have hpT : pl[T]?=some pl[T]:=List.getElem?_eq_getElem (by omega)
      obtain ⟨oT,hoT⟩:=hp.op _ _ hpT
      have hcT:=hg.atC _ oT hpT hoT
      rcases (hp.pair T t _ pe oT o h hpT hpe hoT ho1).2.2 with hbf | ⟨hc,_⟩
      ·have h3:=hpr _ hbf
       rw [hg.rest T _ (Nat.le_refl _) hpT] at h3
       cases h3
      ·rw [hcT] at hc; cases hc
    rcases hTt with rfl | hlT
    ·exact hg.stepC hC hp hcl hpe ho1 hpr (hd' ho1) next
    ·cases hc : isC (rk P o) with
     | true =>
      have:=hg.done t pe o hlT hpe ho1 hc
      rw [hn] at this
      cases this
     | false=>exact hg.stepP hp hcl hpe ho1 hn hpr hc hlT (hd' ho1) fun a2 w2 ι2 h3=>next a2 w2 ι2 T h3
 have hS0 : SS (Array.replicate ops.size false)=fun _=>false:=by
  funext j
  show (Array.replicate ops.size false).getD j false=false
  simp [Array.getElem?_replicate]
  split <;> rfl
 obtain ⟨T0,t1,t2,t3,t4⟩:=xv hp pl.length 0 (by omega)
 have hnxs : ∀ t,t < T0→(π.St t).nx≤(π.St (t+1)).nx:=by
  intro t ht
  have hpt : pl[t]?=some pl[t]:=List.getElem?_eq_getElem (by omega)
  obtain ⟨ot,hot⟩:=hp.op _ _ hpt
  rcases π.first hpt hot (t3 t _ ot (Nat.zero_le _) ht hpt hot) with e | ⟨_,_,_,e,_⟩
  ·rw [e]; exact Nat.le_refl _
  ·omega
 refine key ops.size _ a { w with drawn:=w.drawn+1 } ι T0 (by simp) (by omega) ?_ ?_
 ·rw [hS0]; intro i j hi; cases hi
 ·rw [hS0]
  have hHS : HS π (fun _=>false) T0=s.H.get:=by
   rw [ye hp (Nat.zero_le _) t2 t3 (fun _ _ _ _=>rfl)]
   funext b
   rw [cK _ _ (by rintro ⟨t,pe,o,h1,_⟩; omega),p2]
  refine ⟨t2,t4,?_,fun _ _ _ _=>rfl,?_,?_,?_,?_,hnxs,hs.defers,hs.size⟩
  ·intro t pe o h1 h2 h3 h4
   rw [t3 t pe o (Nat.zero_le _) h1 h2 h3] at h4
   cases h4
  ·intro t pe o d _ _ h; cases h
  ·intro d _; rw [p1]; exact hs.env d
  ·rw [hHS,p2]
   refine (Go1.refl g0.inv hs.top).more ?_
   have:=kB hnxs (t:=0) (t':=T0) (Nat.zero_le _) (Nat.le_refl _)
   rw [p2] at this
   exact this
  ·rintro b ⟨t,pe,o,h1,h2,h3,h4,h5,h6,h7⟩
   refine hs.top b ?_
   have:=kB hnxs (t:=0) (t':=t) (Nat.zero_le _) (Nat.le_of_lt h1)
   rw [p2] at this
   omega
end
end Go.Rx

/-
 The least value of a map, by a loop over the map in whatever order.
-/
namespace Go.Rx
open Go.Vm
noncomputable section
def CK (P : Program) (t : TypeId) : Bool:=match P.underlying t with
 | some (.map _ _)=>true
 | _=>false
def c14 (P : Program) : List Oper→Bool
 | [⟨some 50,.move (.tmp 11),_,_,_,none⟩,⟨some 51,.range t (.tmp 50),_,_,_,none⟩]=>CK P t
 | _=>false
def c15 : List Oper→Bool
 | [⟨some 52,.next (.tmp 51) false,_,_,_,none⟩,⟨some 53,.extract (.tmp 52) 0,_,_,_,none⟩]=>true
 | _=>false
def c16 : List Oper→Bool
 | [⟨some 54,.entry (.tmp 51),_,_,_,none⟩,⟨some 55,.extract (.tmp 54) 1,_,_,_,none⟩,⟨some 16,.assign (.tmp 55),_,_,_,none⟩]=>true
 | _=>false
def c17 (P : Program) : List Oper→Bool
 | [⟨some 56,.move (.tmp 14),_,_,_,none⟩,⟨some 57,.unOp .not _ (.tmp 56),_,_,_,none⟩,⟨some 58,.move (.tmp 57),_,_,_,none⟩,
   ⟨some 59,.move (.tmp 16),_,_,_,some (2,false)⟩,⟨some 60,.move (.tmp 13),_,_,_,some (2,false)⟩,⟨some 61,.binOp .lss t (.tmp 59) (.tmp 60) _,_,_,_,some (2,false)⟩,
   ⟨some 62,.pick (.tmp 58) (.const (.bool true)) (.tmp 61),_,_,_,none⟩]=>kR P t
 | _=>false
def c18 : List Oper→Bool
 | [⟨some 63,.move (.tmp 16),_,_,_,none⟩,⟨some 13,.assign (.tmp 63),_,_,_,none⟩,⟨some 14,.assign (.const (.bool true)),_,_,_,none⟩]=>true
 | _=>false
def wO (P : Program) (N : Nat) : Code→Code→Bool
 | .region _ o14 false,.block k (.loop (.seq (.region _ o15 false) (.seq (.cond (.tmp 53) .skip (.exit k')) (.block _ (.seq (.region _ o16 false) (.seq (.region _ o17 false) (.cond (.tmp 62) (.region _ o18 false) .skip))))))) =>
  Nat.ble 64 N && (Nat.beq k k' && (c14 P o14.toList && (c15 o15.toList && (c16 o16.toList && (c17 P o17.toList && c18 o18.toList)))))
 | _,_=>false
end
def sP : List Nat:=13 :: 14 :: wh
section
variable {P : Program} {GL : List Nat} {w0 : World} {N : Nat} {msk : Nat}
theorem bt {a : Act} {d : Nat} {v : Value} (h : d < a.tmps.size) : (a.put (some d) v).tmps.getD d undef=v:=by simp [Act.put,h]
theorem aa {a : Act} {d t : Nat} {v : Value} (h : d≠t) : (a.put (some d) v).tmps.getD t undef=a.tmps.getD t undef:=by
 show (a.tmps.setIfInBounds d v).getD t undef=_
 rw [Array.getD_eq_getD_getElem?,Array.getD_eq_getD_getElem?,Array.getElem?_setIfInBounds_ne h]
theorem bF {a : Act} {d : Nat} {v : Value} : (a.put (some d) v).tmps.size=a.tmps.size:=by simp [Act.put]
structure MJ (N : Nat) (a0 a : Act) : Prop where
 defers : a.defers=[]
 size : N≤a.tmps.size
 old : ∀ t,t∉sP→a.tmps.getD t undef=a0.tmps.getD t undef
theorem MJ.put {a0 a : Act} (h : MJ N a0 a) {d : Nat} (hd : d∈sP) (v : Value) : MJ N a0 (a.put (some d) v) :=
 ⟨h.defers,by rw [bF]; exact h.size,fun t ht=>(aa (a:=a) (v:=v) (d:=d) (t:=t) (fun e=>ht (by rw [← e]; exact hd))).trans (h.old t ht)⟩
theorem bH {ops : Array Oper} {Q : Exit→Act→World→Prop} {i : Nat} {o : Oper} {v : Value} {a : Act} {w w' : World} {rest : List Nat} (d : Nat) (ho : ops[i]?=some o) (hd : o.dst=some d) (hw : Region.wanted o (yielded ops a.tmps)=true)
  (h : (execOp a.eval o).run P w=.ok (.value v) w') (K : wpOps P ops Q rest (a.put (some d) v) w') : wpOps P ops Q (i :: rest) a w:=by
 rw [← hd] at K
 rw [wpOps_cons]
 unfold wpOp
 rw [ho]
 simp only
 rw [if_pos hw]
 exact .inl (Does.value (R:=fun u w2=>u=v∧w2=w') h ⟨rfl,rfl⟩ _ _ (fun u w2 ⟨e1,e2⟩=>by subst e1 e2; exact K))
theorem sf {ops : Array Oper} {Q : Exit→Act→World→Prop} {i : Nat} {o : Oper} {a : Act} {w : World} {rest : List Nat} (d : Nat) (ho : ops[i]?=some o) (hd : o.dst=some d) (hw : Region.wanted o (yielded ops a.tmps)=false)
  (K : wpOps P ops Q rest (a.put (some d) undef) w) : wpOps P ops Q (i :: rest) a w:=by
 rw [← hd] at K
 rw [wpOps_cons]
 unfold wpOp
 rw [ho]
 simp only
 rw [if_neg (by rw [hw]; exact Bool.false_ne_true)]
 exact K
structure MW (W : World) (I B clock : Nat) (sn : Array Nat) (w : World) : Prop where
 os : w.os=W.os
 tape : w.tape=W.tape
 output : w.output=W.output
 size : W.heap.size≤w.heap.size
 old : ∀ b,b < W.heap.size→w.heap[b]?=W.heap[b]?
 it : ∃ c0,clock≤c0∧w.heap[I]?=some (.mapIter (some B) clock sn c0)
def Found (es : List MapEntry) (sn : Array Nat) (v : Int) : Bool→Prop
 | false=>∀ x∈es,sn.contains x.born=false
 | true=>(∃ x∈es,x.val=.int .i64 v)∧∀ x∈es,sn.contains x.born=true→∃ n,x.val=.int .i64 n∧v≤n
section
variable {W : World} {I B clock : Nat} {es : Array MapEntry} {a0 : Act}
theorem eD (a : Act) (t : Nat) : a.eval (.tmp t)=a.tmps.getD t undef:=rfl
theorem cy {a0 a : Act} (h : MJ N a0 a) {d : Nat} (hd : d∈sP) (h64 : 64≤N) : d < a.tmps.size:=by
 have:=h.size
 have : d < 64:=by
  revert d; decide
 omega
theorem MW.next {w : World} {sn : Array Nat} (h : MW W I B clock sn w) (hI : W.heap.size≤I) (hB : W.heap[B]?=some (.map es clock)) (hst : Stp es.toList clock) (ty : TypeId) :
  ((∀ x∈es.toList,sn.contains x.born=true)∧(Instr.next (.pointer (some ⟨I,0,none⟩)) false ty).run P w=.ok (.tuple #[.bool false]) w) ∨
  ∃ e∈es.toList,sn.contains e.born=false∧∃ w',(Instr.next (.pointer (some ⟨I,0,none⟩)) false ty).run P w=.ok (.tuple #[.bool true,e.key,e.val]) w'∧MW W I B clock (sn.push e.born) w' ∧
   (Instr.entry (.pointer (some ⟨I,0,none⟩))).run P w'=.ok (.tuple #[e.key,e.val]) w'∧(leftOf es (sn.push e.born)).size < (leftOf es sn).size:=by
 obtain ⟨c0,hc,hi⟩:=h.it
 have hBl : B < W.heap.size:=(Array.getElem?_eq_some_iff.1 hB).1
 have hb:=(h.old B hBl).trans hB
 rcases run_next_at (P:=P) w ty I B clock c0 sn es clock hi hb hst.2 hc with ⟨h0,hrun⟩ | ⟨e,he,w1,hal,hrun⟩
 ·exact .inl ⟨all_seen es sn h0,hrun⟩
 ·obtain ⟨hem,hes⟩:=mem_left he
  have hI' : I < w.heap.size:=(Array.getElem?_eq_some_iff.1 hi).1
  have hh : w1.heap=w.heap:=by rcases hal with rfl | rfl <;> rfl
  have e1 : w1.os=w.os∧w1.tape=w.tape∧w1.output=w.output:=by rcases hal with rfl | rfl <;> exact ⟨rfl,rfl,rfl⟩
  have hset : ∀ o : Go.Obj,(Go.ChangeMaps.setBlock w1 I o).heap=w.heap.setIfInBounds I o:=fun o=>by simp [Go.ChangeMaps.setBlock,hh]
  have hnd : (es.toList.map (·.born)).Nodup:=hst.1.imp (fun h=>Nat.ne_of_lt h)
  have hne : B≠I:=by omega
  refine .inr ⟨e,hem,hes,_,hrun,⟨e1.1.trans h.os,e1.2.1.trans h.tape,e1.2.2.trans h.output,?_,?_,clock,Nat.le_refl _,?_⟩,?_,left_shrinks es sn e he⟩
  ·rw [hset]; simpa using h.size
  ·intro b hbl
   rw [hset,Array.getElem?_setIfInBounds_ne (by omega)]
   exact h.old b hbl
  ·rw [hset]; simp [hI']
  ·refine run_entry_at _ I B clock sn es clock e ?_ ?_ hem hnd
   ·rw [hset]; simp [hI']
   ·rw [hset,Array.getElem?_setIfInBounds_ne hne.symm]; exact hb
theorem Found.step {sn : Array Nat} {v : Int} {f : Bool} {l : List MapEntry} (hnd : (l.map (·.born)).Nodup) (h : Found l sn v f) {e : MapEntry} (he : e∈l) {n : Int} (hn : e.val=.int .i64 n) :
  Found l (sn.push e.born) (if f=false∨n < v then n else v) true:=by
 have one : ∀ x∈l,(sn.push e.born).contains x.born=true→sn.contains x.born=true∨x=e:=by
  intro x hx hc
  rw [contains_push] at hc
  rcases Bool.or_eq_true_iff.1 hc with hc | hc
  ·exact .inl hc
  ·exact .inr (born_inj hnd hx he (beq_iff_eq.1 hc))
 cases f with
 | false =>
  simp only [true_or,if_true]
  refine ⟨⟨e,he,hn⟩,fun x hx hc=>?_⟩
  rcases one x hx hc with hc | rfl
  ·rw [h x hx] at hc; cases hc
  ·exact ⟨n,hn,Int.le_refl _⟩
 | true =>
  obtain ⟨h1,h2⟩:=h
  simp only [Bool.true_eq_false,false_or]
  split
  ·rename_i hlt
   refine ⟨⟨e,he,hn⟩,fun x hx hc=>?_⟩
   rcases one x hx hc with hc | rfl
   ·obtain ⟨k,k1,k2⟩:=h2 x hx hc; exact ⟨k,k1,by omega⟩
   ·exact ⟨n,hn,Int.le_refl _⟩
  ·rename_i hlt
   refine ⟨h1,fun x hx hc=>?_⟩
   rcases one x hx hc with hc | rfl
   ·exact h2 x hx hc
   ·exact ⟨n,hn,by omega⟩
theorem AH {ι : Io} : ∀ {l : Ents} {r : List MapEntry},RelM ι l r→(vN l=some none→r=[])∧∀ {n : Int},vN l=some (some n)→(∃ x∈r,x.val=.int .i64 n)∧∀ x∈r,∃ m,x.val=.int .i64 m∧n≤m:=by
 intro l r hr
 induction hr with
 | nil=>exact ⟨fun _=>rfl,fun h=>by cases h⟩
 | @cons e0 k g c us l es0 hk hv hr hg t ih =>
  have main : ∀ q,vN ((k,(g,c)) :: l)=some q→∃ n m,q=some n∧e0.val=.int .i64 m∧((vN l=some none∧n=m)∨∃ m',vN l=some (some m')∧n=cond (decide (m≤m')) m m'):=by
   intro q h
   unfold vN at h
   split at h
   ·rename_i e; cases e
   ·rename_i k' c' l' e
    cases e
    cases hr with
    | cons hc ht =>
    cases ht
    rename_i u
    have hu : ∀ m,CU c'=some m→u=.int .i64 m:=by
     intro m hm
     unfold CU at hm
     split at hm
     ·cases hm; cases hc; rfl
     ·cases hm; cases hc; rfl
     ·cases hm
    have hv' : e0.val=u:=hv
    split at h
    ·rename_i m h1 h2
     cases h
     exact ⟨m,m,rfl,hv'.trans (hu _ h1),.inl ⟨h2,rfl⟩⟩
    ·rename_i m m' h1 h2
     cases h
     exact ⟨_,m,rfl,hv'.trans (hu _ h1),.inr ⟨m',h2,rfl⟩⟩
    ·cases h
   ·cases h
  refine ⟨fun h=>?_,fun {n} h=>?_⟩
  ·obtain ⟨n,m,h1,_⟩:=main _ h
   cases h1
  ·obtain ⟨n',m,h1,h2,h3⟩:=main _ h
   cases h1
   rcases h3 with ⟨h3,rfl⟩ | ⟨m',h3,rfl⟩
   ·have:=ih.1 h3
    subst this
    refine ⟨⟨e0,List.mem_cons_self ..,h2⟩,fun x hx=>?_⟩
    rcases List.mem_cons.1 hx with rfl | hx
    ·exact ⟨_,h2,Int.le_refl _⟩
    ·cases hx
   ·obtain ⟨⟨x,hx,hxv⟩,hall⟩:=ih.2 h3
    by_cases hle : m≤m'
    ·rw [decide_eq_true hle,cond_true]
     refine ⟨⟨e0,List.mem_cons_self ..,h2⟩,fun y hy=>?_⟩
     rcases List.mem_cons.1 hy with rfl | hy
     ·exact ⟨_,h2,Int.le_refl _⟩
     ·obtain ⟨q,q1,q2⟩:=hall y hy; exact ⟨q,q1,by omega⟩
    ·rw [decide_eq_false hle,cond_false]
     refine ⟨⟨x,List.mem_cons_of_mem _ hx,hxv⟩,fun y hy=>?_⟩
     rcases List.mem_cons.1 hy with rfl | hy
     ·exact ⟨m,h2,by omega⟩
     ·exact hall y hy
theorem aN {o : Oper} {f : Nat→Option Bool} (h : o.guard=none) : Region.wanted o f=true:=by simp [Region.wanted,h]
section
variable {a : Act} {w : World} {o : Oper}
theorem mJ {x : Operand} {v : Value} (ho : o.op=.move x) (h : a.eval x=v) : (execOp a.eval o).run P w=.ok (.value v) w:=by simp [execOp,ho,h]
theorem pO {x : Operand} {v : Value} (ho : o.op=.assign x) (h : a.eval x=v) : (execOp a.eval o).run P w=.ok (.value v) w:=by simp [execOp,ho,h]
theorem Dn {c x y : Operand} {b : Bool} {v : Value} (ho : o.op=.pick c x y) (h : a.eval c=.bool b) (h2 : (if b then a.eval x else a.eval y)=v) : (execOp a.eval o).run P w=.ok (.value v) w:=by
 subst h2
 cases b <;> simp [execOp,ho,h,asBool]
theorem Hf {t : TypeId} {x : Operand} {b : Bool} (ho : o.op=.unOp .not t x) (h : a.eval x=.bool b) : (execOp a.eval o).run P w=.ok (.value (.bool (!b))) w:=by simp [execOp,ho,h,Op.unary]
theorem mq {x : Operand} {i : Nat} {vs : Array Value} {v : Value} (ho : o.op=.extract x i) (h : a.eval x=.tuple vs) (hv : vs[i]?=some v) : (execOp a.eval o).run P w=.ok (.value v) w:=by simp [execOp,ho,h,Instr.extract,hv]
theorem D7 {x : Operand} {u v : Value} (ho : o.op=.entry x) (h : a.eval x=u) (hr : (Instr.entry u).run P w=.ok v w) : (execOp a.eval o).run P w=.ok (.value v) w:=by simp [execOp,ho,h,hr]
theorem Ba {x : Operand} {u v : Value} {w' : World} {s : Bool} (ho : o.op=.next x s) (h : a.eval x=u) (hr : (Instr.next u s o.type).run P w=.ok v w') : (execOp a.eval o).run P w=.ok (.value v) w':=by simp [execOp,ho,h,hr]
theorem DH {t : TypeId} {x : Operand} {u v : Value} {w' : World} (ho : o.op=.range t x) (h : a.eval x=u) (hr : (Instr.range t u).run P w=.ok v w') : (execOp a.eval o).run P w=.ok (.value v) w':=by simp [execOp,ho,h,hr]
theorem Gu {t yt : TypeId} {x y : Operand} {m n : Int} (ho : o.op=.binOp .lss t x y yt) (h : a.eval x=.int .i64 m) (h2 : a.eval y=.int .i64 n) : (execOp a.eval o).run P w=.ok (.value (.bool (decide (m < n)))) w:=by
 simp [execOp,ho,h,h2,eqGuard,binOp,Op.intCmp]
end
theorem Gh {ops : Array Oper} {l : List Oper} (h : ops.toList=l) : ops=l.toArray:=by
 apply Array.ext'; simpa using h
structure MRd (P : Program) (N I : Nat) (es : Array MapEntry) (a0 : Act) (sn : Array Nat) (v : Int) (f : Bool) (a : Act) : Prop where
 mj : MJ N a0 a
 it : a.tmps.getD 51 undef=.pointer (some ⟨I,0,none⟩)
 hv : a.tmps.getD 13 undef=.int .i64 v
 hf : a.tmps.getD 14 undef=.bool f
 fd : Found es.toList sn v f
theorem fh {id : Nat} {ops : Array Oper} {l : List Oper} (h : ops.toList=l) {Q : Exit→Act→World→Prop} {a : Act} {w : World} (hw : wpOps P l.toArray Q (List.range l.length) a w) : (Code.region id ops false).wp P Q a w:=by
 rw [Gh h]
 refine wp_region ?_
 simpa using hw
theorem l14 {l : List Oper} (h : c14 P l=true) : ∃ t p1 q1 r1 p2 q2 r2 k e,l=[⟨some 50,.move (.tmp 11),p1,q1,r1,none⟩,⟨some 51,.range t (.tmp 50),p2,q2,r2,none⟩]∧P.underlying t=some (.map k e):=by
 unfold c14 at h
 split at h
 ·unfold CK at h
  split at h
  ·rename_i hu; exact ⟨_,_,_,_,_,_,_,_,_,rfl,hu⟩
  ·cases h
 ·cases h
theorem l15 {l : List Oper} (h : c15 l=true) : ∃ p1 q1 r1 p2 q2 r2,l=[⟨some 52,.next (.tmp 51) false,p1,q1,r1,none⟩,⟨some 53,.extract (.tmp 52) 0,p2,q2,r2,none⟩]:=by
 unfold c15 at h
 split at h
 ·exact ⟨_,_,_,_,_,_,rfl⟩
 ·cases h
theorem l16 {l : List Oper} (h : c16 l=true) : ∃ p1 q1 r1 p2 q2 r2 p3 q3 r3,l=[⟨some 54,.entry (.tmp 51),p1,q1,r1,none⟩,⟨some 55,.extract (.tmp 54) 1,p2,q2,r2,none⟩,⟨some 16,.assign (.tmp 55),p3,q3,r3,none⟩]:=by
 unfold c16 at h
 split at h
 ·exact ⟨_,_,_,_,_,_,_,_,_,rfl⟩
 ·cases h
theorem l17 {l : List Oper} (h : c17 P l=true) : ∃ t u yt p1 q1 r1 p2 q2 r2 p3 q3 r3 p4 q4 r4 p5 q5 r5 p6 q6 r6 p7 q7 r7,l=[⟨some 56,.move (.tmp 14),p1,q1,r1,none⟩,⟨some 57,.unOp .not u (.tmp 56),p2,q2,r2,none⟩,⟨some 58,.move (.tmp 57),p3,q3,r3,none⟩,
   ⟨some 59,.move (.tmp 16),p4,q4,r4,some (2,false)⟩,⟨some 60,.move (.tmp 13),p5,q5,r5,some (2,false)⟩,⟨some 61,.binOp .lss t (.tmp 59) (.tmp 60) yt,p6,q6,r6,some (2,false)⟩,
   ⟨some 62,.pick (.tmp 58) (.const (.bool true)) (.tmp 61),p7,q7,r7,none⟩]:=by
 unfold c17 at h
 split at h
 ·exact ⟨_,_,_,_,_,_,_,_,_,_,_,_,_,_,_,_,_,_,_,_,_,_,_,_,rfl⟩
 ·cases h
theorem l18 {l : List Oper} (h : c18 l=true) : ∃ p1 q1 r1 p2 q2 r2 p3 q3 r3,l=[⟨some 63,.move (.tmp 16),p1,q1,r1,none⟩,⟨some 13,.assign (.tmp 63),p2,q2,r2,none⟩,⟨some 14,.assign (.const (.bool true)),p3,q3,r3,none⟩]:=by
 unfold c18 at h
 split at h
 ·exact ⟨_,_,_,_,_,_,_,_,_,rfl⟩
 ·cases h
theorem Bv {o16 o17 o18 : Array Oper} {r16 r17 r18 k3 : Nat} (h16 : c16 o16.toList=true) (h17 : c17 P o17.toList=true) (h18 : c18 o18.toList=true) (h64 : 64≤N) {Q : Exit→Act→World→Prop} {a : Act} {w : World} {sn : Array Nat} {v : Int} {f : Bool}
  (hnd : (es.toList.map (·.born)).Nodup) {e : MapEntry} (he : e∈es.toList) {n : Int} (hn : e.val=.int .i64 n) (hr : MRd P N I es a0 sn v f a) (hent : (Instr.entry (.pointer (some ⟨I,0,none⟩))).run P w=.ok (.tuple #[e.key,e.val]) w)
  (hQ : ∀ a' v',MRd P N I es a0 (sn.push e.born) v' true a'→Q .normal a' w) :
  (Code.block k3 (.seq (.region r16 o16 false) (.seq (.region r17 o17 false) (.cond (.tmp 62) (.region r18 o18 false) .skip)))).wp P Q a w:=by
 obtain ⟨p1,q1,s1,p2,q2,s2,p3,q3,s3,e16⟩:=l16 h16
 obtain ⟨t,u,yt,g1,g2,g3,g4,g5,g6,g7,g8,g9,g10,g11,g12,g13,g14,g15,g16,g17,g18,g19,g20,g21,e17⟩:=l17 h17
 obtain ⟨y1,y2,y3,y4,y5,y6,y7,y8,y9,e18⟩:=l18 h18
 have m:=hr.mj
 have sz : ∀ d,d∈sP→d < a.tmps.size:=fun d hd=>cy m hd h64
 have z52:=sz 52 (by decide); have z53:=sz 53 (by decide); have z54:=sz 54 (by decide); have z55:=sz 55 (by decide); have z16:=sz 16 (by decide)
 have z56:=sz 56 (by decide); have z57:=sz 57 (by decide); have z58:=sz 58 (by decide); have z59:=sz 59 (by decide); have z60:=sz 60 (by decide); have z61:=sz 61 (by decide); have z62:=sz 62 (by decide); have z63:=sz 63 (by decide)
 have z13:=sz 13 (by decide); have z14:=sz 14 (by decide)
 refine wp_block (wp_seq (fh e16 ?_))
 change wpOps P _ _ [0,1,2] a w
 refine bH (w':=w) 54 rfl rfl (aN rfl) (v:=.tuple #[e.key,e.val]) (D7 rfl hr.it hent) ?_
 refine bH (w':=w) 55 rfl rfl (aN rfl) (v:=e.val) (mq rfl (bt z54) rfl) ?_
 refine bH (w':=w) 16 rfl rfl (aN rfl) (v:=e.val) (pO rfl (bt (by rw [bF]; exact z55))) ?_
 show Code.wp P _ _ (((a.put (some 54) (.tuple #[e.key,e.val])).put (some 55) e.val).put (some 16) e.val) w
 generalize ha1 : ((a.put (some 54) (.tuple #[e.key,e.val])).put (some 55) e.val).put (some 16) e.val=a1
 have m1 : MJ N a0 a1:=by rw [← ha1]; exact ((m.put (by decide) _).put (by decide) _).put (by decide) _
 have x1 : a1.tmps.getD 16 undef=.int .i64 n:=by rw [← ha1,bt (by simp only [bF]; exact z16),hn]
 have i1 : a1.tmps.getD 51 undef=.pointer (some ⟨I,0,none⟩):=by rw [← ha1,aa (by decide),aa (by decide),aa (by decide)]; exact hr.it
 have v1 : a1.tmps.getD 13 undef=.int .i64 v:=by rw [← ha1,aa (by decide),aa (by decide),aa (by decide)]; exact hr.hv
 have f1 : a1.tmps.getD 14 undef=.bool f:=by rw [← ha1,aa (by decide),aa (by decide),aa (by decide)]; exact hr.hf
 show Code.wp P _ _ a1 w
 have sz1 : ∀ d,d∈sP→d < a1.tmps.size:=fun d hd=>cy m1 hd h64
 refine wp_seq (fh e17 ?_)
 change wpOps P _ _ [0,1,2,3,4,5,6] a1 w
 refine bH (w':=w) 56 rfl rfl (aN rfl) (v:=.bool f) (mJ rfl f1) ?_
 refine bH (w':=w) 57 rfl rfl (aN rfl) (v:=.bool (!f)) (Hf rfl (bt (sz1 56 (by decide)))) ?_
 refine bH (w':=w) 58 rfl rfl (aN rfl) (v:=.bool (!f)) (mJ rfl (bt (by rw [bF]; exact sz1 57 (by decide)))) ?_
 generalize ha2 : ((a1.put (some 56) (.bool f)).put (some 57) (.bool (!f))).put (some 58) (.bool (!f))=a2
 have m2 : MJ N a0 a2:=by rw [← ha2]; exact ((m1.put (by decide) _).put (by decide) _).put (by decide) _
 have sz2 : ∀ d,d∈sP→d < a2.tmps.size:=fun d hd=>cy m2 hd h64
 have x2 : a2.tmps.getD 16 undef=.int .i64 n:=by rw [← ha2,aa (by decide),aa (by decide),aa (by decide)]; exact x1
 have i2 : a2.tmps.getD 51 undef=.pointer (some ⟨I,0,none⟩):=by rw [← ha2,aa (by decide),aa (by decide),aa (by decide)]; exact i1
 have v2 : a2.tmps.getD 13 undef=.int .i64 v:=by rw [← ha2,aa (by decide),aa (by decide),aa (by decide)]; exact v1
 have f2 : a2.tmps.getD 14 undef=.bool f:=by rw [← ha2,aa (by decide),aa (by decide),aa (by decide)]; exact f1
 have b2 : a2.tmps.getD 58 undef=.bool (!f):=by rw [← ha2,bt (by simp only [bF]; exact sz1 58 (by decide))]
 change wpOps P _ _ [3,4,5,6] a2 w
 -- the comparison
 have fin : ∀ (c : Bool) (a3 : Act),MJ N a0 a3→a3.tmps.getD 16 undef=.int .i64 n→a3.tmps.getD 51 undef=.pointer (some ⟨I,0,none⟩)→a3.tmps.getD 13 undef=.int .i64 v→a3.tmps.getD 14 undef=.bool f→a3.tmps.getD 62 undef=.bool c →
   c=decide (f=false∨n < v)→(Code.cond (.tmp 62) (.region r18 o18 false) .skip).wp P (Exit.inBlock k3 Q) a3 w:=by
  intro c a3 m3 x3 i3 v3 f3 c3 hc
  have hfd:=hr.fd.step hnd he hn
  refine wp_cond (t:=c) c3 ?_
  have sz3 : ∀ d,d∈sP→d < a3.tmps.size:=fun d hd=>cy m3 hd h64
  cases c with
  | false =>
   have hno : ¬ (f=false∨n < v):=of_decide_eq_false hc.symm
   rw [if_neg hno] at hfd
   have ft : f=true:=by cases f with | false=>exact absurd (.inl rfl) hno | true=>rfl
   refine wp_skip ?_
   exact hQ a3 v ⟨m3,i3,v3,by rw [f3,ft],hfd⟩
  | true =>
   have hyes : f=false∨n < v:=of_decide_eq_true hc.symm
   rw [if_pos hyes] at hfd
   refine fh e18 ?_
   change wpOps P _ _ [0,1,2] a3 w
   refine bH (w':=w) 63 rfl rfl (aN rfl) (v:=.int .i64 n) (mJ rfl x3) ?_
   refine bH (w':=w) 13 rfl rfl (aN rfl) (v:=.int .i64 n) (pO rfl (bt (sz3 63 (by decide)))) ?_
   refine bH (w':=w) 14 rfl rfl (aN rfl) (v:=.bool true) (pO rfl rfl) ?_
   refine hQ _ n ⟨((m3.put (by decide) _).put (by decide) _).put (by decide) _,?_,?_,?_,hfd⟩
   ·rw [aa (by decide),aa (by decide),aa (by decide)]; exact i3
   ·rw [aa (by decide),bt (by rw [bF]; exact sz3 13 (by decide))]
   ·rw [bt (by simp only [bF]; exact sz3 14 (by decide))]
 have want : ∀ {a : Act} {o : Oper} {ops : Array Oper},a.tmps.getD 58 undef=.bool (!f)→(ops[2]?).bind (·.dst)=some 58→o.guard=some (2,false)→Region.wanted o (yielded ops a.tmps)=f:=by
  intro a o ops h1 h2 h3
  have h4 : a.tmps[58]?=some (.bool (!f)):=pa h1 (by simp [undef])
  unfold Region.wanted yielded
  simp [h2,h3,h4]
 cases f with
 | false =>
  refine sf 59 rfl rfl (want b2 rfl rfl) ?_
  refine sf 60 rfl rfl (want (by rw [aa (by decide)]; exact b2) rfl rfl) ?_
  refine sf 61 rfl rfl (want (by rw [aa (by decide),aa (by decide)]; exact b2) rfl rfl) ?_
  refine bH (w':=w) 62 rfl rfl (aN rfl) (v:=.bool true) (Dn rfl (b:=true) (by rw [eD,aa (by decide),aa (by decide),aa (by decide)]; exact b2) rfl) ?_
  refine fin true _ ((((m2.put (by decide) _).put (by decide) _).put (by decide) _).put (by decide) _) ?_ ?_ ?_ ?_ ?_ (by simp)
  ·rw [aa (by decide),aa (by decide),aa (by decide),aa (by decide)]; exact x2
  ·rw [aa (by decide),aa (by decide),aa (by decide),aa (by decide)]; exact i2
  ·rw [aa (by decide),aa (by decide),aa (by decide),aa (by decide)]; exact v2
  ·rw [aa (by decide),aa (by decide),aa (by decide),aa (by decide)]; exact f2
  ·rw [bt (by simp only [bF]; exact sz2 62 (by decide))]
 | true =>
  refine bH (w':=w) 59 rfl rfl (want b2 rfl rfl) (v:=.int .i64 n) (mJ rfl x2) ?_
  refine bH (w':=w) 60 rfl rfl (want (by rw [aa (by decide)]; exact b2) rfl rfl) (v:=.int .i64 v) (mJ rfl (by rw [eD,aa (by decide)]; exact v2)) ?_
  refine bH (w':=w) 61 rfl rfl (want (by rw [aa (by decide),aa (by decide)]; exact b2) rfl rfl) (v:=.bool (decide (n < v))) (Gu rfl (by rw [eD,aa (by decide),bt (sz2 59 (by decide))]) (by rw [eD,bt (by rw [bF]; exact sz2 60 (by decide))])) ?_
  refine bH (w':=w) 62 rfl rfl (aN rfl) (v:=.bool (decide (n < v))) (Dn rfl (b:=false) (by rw [eD,aa (by decide),aa (by decide),aa (by decide)]; exact b2) (by simp only [Bool.false_eq_true,if_false]; rw [eD,bt (by simp only [bF]; exact sz2 61 (by decide))])) ?_
  refine fin (decide (n < v)) _ ((((m2.put (by decide) _).put (by decide) _).put (by decide) _).put (by decide) _) ?_ ?_ ?_ ?_ ?_ (by simp)
  ·rw [aa (by decide),aa (by decide),aa (by decide),aa (by decide)]; exact x2
  ·rw [aa (by decide),aa (by decide),aa (by decide),aa (by decide)]; exact i2
  ·rw [aa (by decide),aa (by decide),aa (by decide),aa (by decide)]; exact v2
  ·rw [aa (by decide),aa (by decide),aa (by decide),aa (by decide)]; exact f2
  ·rw [bt (by simp only [bF]; exact sz2 62 (by decide))]
theorem qa {v : RV} {d : Nat} {e e' : REnv} (h : putK msk v d (some e)=some e') : ∀ t,egt msk e' .nil t=if d=t∧cP msk d=true then v else egt msk e .nil t:=by
 intro t
 unfold putK at h
 cases hk : cP msk d with
 | false =>
  rw [hk] at h
  cases h
  rw [if_neg (by simp)]
 | true =>
  rw [hk] at h
  rw [xS h hk]
  unfold upd
  by_cases e1 : d=t
  ·subst e1; simp
  ·rw [if_neg (by simpa using e1),if_neg (by simp [e1])]
theorem oG : ∀ {l : List Nat} {e e' : REnv},pf msk l (some e)=some e'→∀ t,egt msk e' .nil t=.unk∨(t∉l∧egt msk e' .nil t=egt msk e .nil t)
 | [],e,e',h,t=>by cases h; exact .inr ⟨by simp,rfl⟩
 | d :: l,e,e',h,t=>by
  change putK msk .unk d (pf msk l (some e))=some e' at h
  cases h1 : pf msk l (some e) with
  | none=>rw [h1] at h; unfold putK at h; cases hk : cP msk d <;> rw [hk] at h <;> cases h
  | some e1 =>
   rw [h1] at h
   have h2:=qa h t
   rcases oG h1 t with h3 | ⟨h3,h4⟩
   ·left; rw [h2]; split
    ·rfl
    ·exact h3
   ·by_cases e2 : d=t
    ·left
     rw [h2]
     cases hk : cP msk d with
     | true=>rw [if_pos ⟨e2,rfl⟩]
     | false =>
      rw [if_neg (by simp),]
      unfold egt
      rw [← e2,hk]; rfl
    ·right
     rw [h2,if_neg (fun hh=>e2 hh.1)]
     exact ⟨by simp [h3,Ne.symm e2],h4⟩
theorem wQ {c : RC} {e : REnv} {s : RS} {o : Out} (h : CA msk c e s=o) : o=.no∨∃ e',o=.go e' s∧∀ t,egt msk e' .nil t=.unk∨(t=13∧egt msk e' .nil t=.one c)∨(t=14∧egt msk e' .nil t=.one (.bool true))∨(t∉sP∧egt msk e' .nil t=egt msk e .nil t):=by
 unfold CA at h
 split at h
 ·rename_i e' he
  refine .inr ⟨e',h.symm,fun t=>?_⟩
  cases h1 : pf msk wh (some e) with
  | none=>rw [h1] at he; exfalso; revert he; unfold putK; cases cP msk 13 <;> cases cP msk 14 <;> intro h <;> cases h
  | some e1 =>
   rw [h1] at he
   cases h2 : putK msk (.one (.bool true)) 14 (some e1) with
   | none=>rw [h2] at he; exfalso; revert he; unfold putK; cases cP msk 13 <;> intro h <;> cases h
   | some e2 =>
    rw [h2] at he
    have k1:=qa he t
    have k2:=qa h2 t
    by_cases t13 : 13=t
    ·cases hk : cP msk 13 with
     | true=>exact .inr (.inl ⟨t13.symm,by rw [k1,if_pos ⟨t13,hk⟩]⟩)
     | false=>left; unfold egt; rw [← t13,hk]; rfl
    ·rw [if_neg (fun h=>t13 h.1)] at k1
     by_cases t14 : 14=t
     ·cases hk : cP msk 14 with
      | true=>exact .inr (.inr (.inl ⟨t14.symm,by rw [k1,k2,if_pos ⟨t14,hk⟩]⟩))
      | false=>left; unfold egt; rw [← t14,hk]; rfl
     ·rw [if_neg (fun h=>t14 h.1)] at k2
      rcases oG h1 t with k3 | ⟨k3,k4⟩
      ·left; rw [k1,k2,k3]
      ·exact .inr (.inr (.inr ⟨by unfold sP; simp [k3,Ne.symm t13,Ne.symm t14],by rw [k1,k2,k4]⟩))
 ·exact .inl h.symm
theorem Go1.still {nx : Nat} {w w' : World} {ι : Io} {h : Hp} (hi : RInv GL w0 w ι h) (ht : ∀ b,nx≤b→ι b=none) (h1 : w'.os=w.os) (h2 : w'.tape=w.tape) (h3 : w'.output=w.output) (h4 : w.heap.size≤w'.heap.size) (h5 : ∀ B,B < w.heap.size→w'.heap[B]?=w.heap[B]?) :
  Go1 GL w0 nx w ι h nx w' ι h:=by
 refine ⟨⟨⟨h1.trans hi.kept.os,h2.trans hi.kept.tape,h3.trans hi.kept.output,Nat.le_trans hi.kept.size h4,fun b hb hM=>(h5 b (Nat.lt_of_lt_of_le hb hi.kept.size)).trans (hi.kept.block b hb hM)⟩,fun b o hb=>(hi.blk b o hb).mono (Io.le.refl ι) fun L hL=>h5 L.B (hi.lt b L hL),hi.inj,fun b L hL=>Nat.lt_of_lt_of_le (hi.lt b L hL) h4,hi.glob⟩,
  Io.le.refl ι,fun _ _=>rfl,Nat.le_refl _,ht,h4,fun B hB _=>h5 B hB,fun b o L hb ho hL=>.inr ⟨b,o,L,hb,ho,.inr rfl,id,hL,rfl⟩⟩
theorem F7 {x y : Code} (hchk : wO P N x y=true) {Q : Exit→Act→World→Prop} {a : Act} {w : World} {ι : Io} {e : REnv} {s : RS} (hs : RSim GL w0 N a w ι (egt msk e .nil) s) {o : Out} (ho : mw msk e s=o) :
  o=.no∨∃ e' s',o=.go e' s'∧((∀ a' w' ι',Go1 GL w0 s.nx w ι s.H.get s'.nx w' ι' s'.H.get→RSim GL w0 N a' w' ι' (egt msk e' .nil) s'→Q .normal a' w')→(Code.seq x y).wp P Q a w):=by
 unfold mw at ho
 split at ho
 ·rename_i b v0 hb hv0 hf0
  split at ho
  ·rename_i c hc
   rcases wQ ho with rfl | ⟨e',rfl,henv⟩
   ·exact .inl rfl
   ·refine .inr ⟨e',s,rfl,fun hQ=>?_⟩
    unfold Cj at hc
    split at hc
    ·rename_i es0 hblk
     split at hc
     ·rename_i n hn
      have h11:=hs.env 11
      rw [hb] at h11
      obtain ⟨L',q1,q2⟩:=kK h11
      obtain ⟨L,ents,clock,r1,r2,r3,r4,r5⟩:=hs.inv.blk b _ hblk
      have eL:=Option.some.inj (r1.symm.trans q1)
      subst eL
      obtain ⟨⟨xm,hxm,hxv⟩,hall⟩:=(AH r4).2 hn
      unfold wO at hchk
      split at hchk
      ·rename_i rr o14 k r15 o15 k' k3 r16 o16 r17 o17 r18 o18
       simp only [Bool.and_eq_true] at hchk
       obtain ⟨h64,hk,h14,h15,h16,h17,h18⟩:=hchk
       have h64:=Nat.le_of_ble_eq_true h64
       have hk:=Nat.eq_of_beq_eq_true hk
       subst hk
       obtain ⟨t,p1,z1,s1,p2,z2,s2,kt,et,e14,hu⟩:=l14 h14
       obtain ⟨y1,y2,y3,y4,y5,y6,e15⟩:=l15 h15
       have hlt : L.B < w.heap.size:=hs.inv.lt b L r1
       have m0 : MJ N a a:=⟨hs.defers,hs.size,fun _ _=>rfl⟩
       refine wp_seq (fh e14 ?_)
       change wpOps P _ _ [0,1] a w
       refine bH (w':=w) 50 rfl rfl (aN rfl) (v:=.map (some L.B)) (mJ rfl q2) ?_
       refine bH (w':=w.alloc (.mapIter (some L.B) clock #[] clock)) 51 rfl rfl (aN rfl) (v:=.pointer (some ⟨w.heap.size,0,none⟩)) (DH rfl (bt (cy m0 (by decide) h64)) (run_range_map w t kt et L.B ents clock hu r3)) ?_
       have mw0 : MW w w.heap.size L.B clock #[] (w.alloc (.mapIter (some L.B) clock #[] clock)):=by
        refine ⟨rfl,rfl,rfl,?_,fun b hb=>heap_alloc_old w _ hb,clock,Nat.le_refl _,heap_alloc_new w _⟩
        show w.heap.size≤(w.heap.push _).size
        simp
       have key : ∀ (m : Nat) {a1 : Act} {w1 : World} {sn : Array Nat} {v : Int} {f : Bool},(leftOf ents sn).size < m→MRd P N w.heap.size ents a sn v f a1→MW w w.heap.size L.B clock sn w1 →
         Code.rounds P (.seq (.region r15 o15 false) (.seq (.cond (.tmp 53) .skip (.exit k)) (.block k3 (.seq (.region r16 o16 false) (.seq (.region r17 o17 false) (.cond (.tmp 62) (.region r18 o18 false) .skip)))))) (Exit.inBlock k Q) m a1 w1:=by
        intro m
        induction m with
        | zero=>intro a1 w1 sn v f hlt; omega
        | succ m ih =>
         intro a1 w1 sn v f hlt hr hmw
         show Code.wp P _ (Exit.then (Code.rounds P _ (Exit.inBlock k Q) m) (Exit.inBlock k Q)) a1 w1
         refine wp_seq (fh e15 ?_)
         change wpOps P _ _ [0,1] a1 w1
         have z52:=cy hr.mj (d:=52) (by decide) h64
         have z53:=cy hr.mj (d:=53) (by decide) h64
         rcases hmw.next (P:=P) (Nat.le_refl _) r3 r5 y1 with ⟨hall',hrun⟩ | ⟨en,hen,hun,w2,hrun,hmw2,hent,hless⟩
         ·-- it is over
          refine bH (w':=w1) 52 rfl rfl (aN rfl) (v:=.tuple #[.bool false]) (Ba rfl hr.it hrun) ?_
          refine bH (w':=w1) 53 rfl rfl (aN rfl) (v:=.bool false) (mq rfl (bt z52) rfl) ?_
          refine wp_seq (wp_cond (t:=false) (by rw [eD,bt (by rw [bF]; exact z53)]) (wp_exit ?_))
          show (if k=k then Q .normal _ w1 else _)
          rw [if_pos rfl]
          have hf : f=true∧v=n:=by
           have hfd:=hr.fd
           cases f with
           | false=>have h1:=hfd xm hxm; have h2:=hall' xm hxm; rw [h1] at h2; cases h2
           | true =>
            obtain ⟨⟨x0,k1,k2⟩,k3⟩:=hfd
            refine ⟨rfl,?_⟩
            obtain ⟨m1,j1,j2⟩:=hall x0 k1
            obtain ⟨m2,j3,j4⟩:=k3 xm hxm (hall' xm hxm)
            rw [k2] at j1; rw [hxv] at j3
            cases j1; cases j3
            omega
          have hfin:=((hr.mj.put (d:=52) (by decide) (.tuple #[.bool false])).put (d:=53) (by decide) (.bool false))
          refine hQ _ w1 ι (Go1.still hs.inv hs.top hmw.os hmw.tape hmw.output hmw.size hmw.old) ⟨(Go1.still hs.inv hs.top hmw.os hmw.tape hmw.output hmw.size hmw.old).inv,hs.top,hfin.defers,hfin.size,fun t=>?_⟩
          rcases henv t with h | ⟨rfl,h⟩ | ⟨rfl,h⟩ | ⟨ht,h⟩
          ·rw [h]; trivial
          ·rw [h,aa (by decide),aa (by decide),hr.hv,hf.2]
           exact gY hc
          ·rw [h,aa (by decide),aa (by decide),hr.hf,hf.1]
           exact RelC.bool
          ·rw [h,hfin.old t ht]; exact hs.env t
         ·-- one more
          obtain ⟨nv,hnv,_⟩:=hall en hen
          refine bH (w':=w2) 52 rfl rfl (aN rfl) (v:=.tuple #[.bool true,en.key,en.val]) (Ba rfl hr.it hrun) ?_
          refine bH (w':=w2) 53 rfl rfl (aN rfl) (v:=.bool true) (mq rfl (bt z52) rfl) ?_
          refine wp_seq (wp_cond (t:=true) (by rw [eD,bt (by rw [bF]; exact z53)]) (wp_skip ?_))
          refine Bv (P:=P) (N:=N) (I:=w.heap.size) (es:=ents) (a0:=a) (sn:=sn) (v:=v) (f:=f) h16 h17 h18 h64 (r5.1.imp (fun h=>Nat.ne_of_lt h)) hen hnv ⟨(hr.mj.put (by decide) _).put (by decide) _,?_,?_,?_,hr.fd⟩ hent fun a' v' hr'=>?_
          ·rw [aa (by decide),aa (by decide)]; exact hr.it
          ·rw [aa (by decide),aa (by decide)]; exact hr.hv
          ·rw [aa (by decide),aa (by decide)]; exact hr.hf
          ·exact ih (by omega) hr' hmw2
       refine wp_block (wp_loop_rounds _ (key ((leftOf ents #[]).size+1) (v:=Int.ofNat v0) (f:=false) (Nat.lt_succ_self _) ⟨(m0.put (d:=50) (by decide) _).put (d:=51) (by decide) _,?_,?_,?_,?_⟩ mw0))
       ·rw [bt (by rw [bF]; exact cy m0 (by decide) h64)]
       ·rw [aa (by decide),aa (by decide)]
        have h:=hs.env 13
        rw [hv0] at h
        replace h : RelC ι (.nat v0) (a.tmps.getD 13 undef):=h
        generalize a.tmps.getD 13 undef=u at h
        cases h
        rfl
       ·rw [aa (by decide),aa (by decide)]
        have h:=hs.env 14
        rw [hf0] at h
        exact rel_bool h
       ·intro x hx; simp
      ·cases hchk
     ·cases hc
    ·cases hc
  ·exact .inl ho.symm
 ·exact .inl ho.symm
end
end
end Go.Rx

