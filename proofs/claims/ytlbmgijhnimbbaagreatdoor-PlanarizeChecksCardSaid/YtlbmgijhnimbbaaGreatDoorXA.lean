/-
 Tables by number; a closed call is run: what is reckoned.
-/
import Derived.Test.YtlbmgijhnimbbaaGreatDoorVmA
set_option linter.unusedVariables false
set_option linter.unusedSimpArgs false
/-
 Tables by number that the kernel reads and writes quickly.
-/
namespace Go.Rx
inductive Tr (α : Type) where
 | nil
 | node (x : Option α) (a b c d : Tr α)
noncomputable section
variable {α : Type}
def lM {β : Type} (a b c d : β) (r : Nat) : β :=
 Nat.rec (motive:=fun _=>β) a (fun j _=>Nat.rec (motive:=fun _=>β) b (fun j _=>Nat.rec (motive:=fun _=>β) c (fun _ _=>d) j) j) r
def Tr.get (t : Tr α) : Nat→Option α :=
 Tr.rec (motive:=fun _=>Nat→Option α) (fun _=>none)
  (fun x _ _ _ _ ga gb gc gd i=>Nat.rec (motive:=fun _=>Option α) x (fun k _=>lM ga gb gc gd (Nat.mod k 4) (Nat.div k 4)) i) t
section
variable {R : Type} (ih : Tr α→Nat→(Tr α→R)→R) (x : Option α) (a b c d : Tr α) (q : Nat) (K : Tr α→R)
def FX : R:=ih a q fun u=>K (.node x u b c d)
def qB : R:=ih b q fun u=>K (.node x a u c d)
def zi : R:=ih c q fun u=>K (.node x a b u d)
def Gj : R:=ih d q fun u=>K (.node x a b c u)
def FJ (k : Nat) : R:=lM (FX ih x a b c d (Nat.div k 4) K) (qB ih x a b c d (Nat.div k 4) K) (zi ih x a b c d (Nat.div k 4) K) (Gj ih x a b c d (Nat.div k 4) K) (Nat.mod k 4)
end
def Tr.putK {R : Type} (v : α) (no : R) (d : Nat) : Tr α→Nat→(Tr α→R)→R :=
 Nat.rec (motive:=fun _=>Tr α→Nat→(Tr α→R)→R) (fun _ _ _=>no)
  (fun _ ih t i K=>Tr.rec (motive:=fun _=>R)
   (Nat.rec (motive:=fun _=>R) (K (.node (some v) .nil .nil .nil .nil)) (fun k _=>FJ ih none .nil .nil .nil .nil K k) i)
   (fun x a b c d _ _ _ _=>Nat.rec (motive:=fun _=>R) (K (.node (some v) a b c d)) (fun k _=>FJ ih x a b c d K k) i) t) d
def deep : Nat:=20
def Tr.put (t : Tr α) (i : Nat) (v : α) : Option (Tr α):=Tr.putK v none deep t i some
theorem dT {β : Type} (a b c d : β) (r : Nat) : lM a b c d r=match r with | 0=>a | 1=>b | 2=>c | _=>d:=by
 match r with
 | 0=>rfl
 | 1=>rfl
 | 2=>rfl
 | _+3=>rfl
theorem CL {β γ : Type} (g : β→γ) (a b c d : β) (r : Nat) : lM (g a) (g b) (g c) (g d) r=g (lM a b c d r):=by
 match r with
 | 0=>rfl
 | 1=>rfl
 | 2=>rfl
 | _+3=>rfl
theorem Tr.get_nil (i : Nat) : (Tr.nil : Tr α).get i=none:=rfl
theorem Tr.get_zero (x : Option α) (a b c d : Tr α) : (Tr.node x a b c d).get 0=x:=rfl
theorem Tr.get_succ (x : Option α) (a b c d : Tr α) (k : Nat) : (Tr.node x a b c d).get (k+1)=(lM a b c d (k % 4)).get (k / 4):=by
 show lM a.get b.get c.get d.get (k % 4) (k / 4)=_
 rw [CL]
theorem Tr.putK_nil_zero {R : Type} (v : α) (no : R) (d : Nat) (K : Tr α→R) : Tr.putK v no (d+1) .nil 0 K=K (.node (some v) .nil .nil .nil .nil):=rfl
theorem Tr.putK_node_zero {R : Type} (v : α) (no : R) (n : Nat) (x : Option α) (a b c d : Tr α) (K : Tr α→R) : Tr.putK v no (n+1) (.node x a b c d) 0 K=K (.node (some v) a b c d):=rfl
def Tr.with (x : Option α) (a b c d : Tr α) (r : Nat) (u : Tr α) : Tr α:=match r with
 | 0=>.node x u b c d
 | 1=>.node x a u c d
 | 2=>.node x a b u d
 | _=>.node x a b c u
theorem Tr.putK_nil_succ {R : Type} (v : α) (no : R) (n k : Nat) (K : Tr α→R) :
  Tr.putK v no (n+1) .nil (k+1) K=Tr.putK v no n .nil (k / 4) fun u=>K (Tr.with none .nil .nil .nil .nil (k % 4) u):=by
 show lM _ _ _ _ (k % 4)=_
 match k % 4 with
 | 0=>rfl
 | 1=>rfl
 | 2=>rfl
 | _+3=>rfl
theorem Tr.putK_node_succ {R : Type} (v : α) (no : R) (n k : Nat) (x : Option α) (a b c d : Tr α) (K : Tr α→R) :
  Tr.putK v no (n+1) (.node x a b c d) (k+1) K=Tr.putK v no n (lM a b c d (k % 4)) (k / 4) fun u=>K (Tr.with x a b c d (k % 4) u):=by
 show lM _ _ _ _ (k % 4)=_
 match k % 4 with
 | 0=>rfl
 | 1=>rfl
 | 2=>rfl
 | _+3=>rfl
theorem Tr.putK_eq {R : Type} (v : α) (no : R) : ∀ (n : Nat) (t : Tr α) (i : Nat) (K : Tr α→R),Tr.putK v no n t i K=match Tr.putK v none n t i some with | some u=>K u | none=>no
 | 0,_,_,_=>rfl
 | n+1,.nil,0,K=>rfl
 | n+1,.nil,k+1,K=>by
  rw [Tr.putK_nil_succ,Tr.putK_nil_succ,Tr.putK_eq v no n,Tr.putK_eq v none n _ _ fun u=>some (Tr.with none .nil .nil .nil .nil (k % 4) u)]
  cases Tr.putK v none n .nil (k / 4) some <;> rfl
 | n+1,.node x a b c d,0,K=>rfl
 | n+1,.node x a b c d,k+1,K=>by
  rw [Tr.putK_node_succ,Tr.putK_node_succ,Tr.putK_eq v no n,Tr.putK_eq v none n _ _ fun u=>some (Tr.with x a b c d (k % 4) u)]
  cases Tr.putK v none n (lM a b c d (k % 4)) (k / 4) some <;> rfl
theorem Tr.get_with (x : Option α) (a b c d : Tr α) (r : Nat) (hr : r < 4) (u : Tr α) (j : Nat) :
  (Tr.with x a b c d r u).get j=match j with | 0=>x | k+1=>if k % 4=r then u.get (k / 4) else (lM a b c d (k % 4)).get (k / 4):=by
 cases j with
 | zero=>unfold Tr.with; split <;> rfl
 | succ k =>
  have hk : k % 4 < 4:=Nat.mod_lt _ (by omega)
  generalize hq : k % 4=q at hk ⊢
  match r,hr with
  | 0,_=>simp only [Tr.with,Tr.get_succ,hq]; rw [dT,dT]; match q,hk with
   | 0,_=>rfl
   | 1,_=>rfl
   | 2,_=>rfl
   | 3,_=>rfl
  | 1,_=>simp only [Tr.with,Tr.get_succ,hq]; rw [dT,dT]; match q,hk with
   | 0,_=>rfl
   | 1,_=>rfl
   | 2,_=>rfl
   | 3,_=>rfl
  | 2,_=>simp only [Tr.with,Tr.get_succ,hq]; rw [dT,dT]; match q,hk with
   | 0,_=>rfl
   | 1,_=>rfl
   | 2,_=>rfl
   | 3,_=>rfl
  | 3,_=>simp only [Tr.with,Tr.get_succ,hq]; rw [dT,dT]; match q,hk with
   | 0,_=>rfl
   | 1,_=>rfl
   | 2,_=>rfl
   | 3,_=>rfl
theorem Tr.get_putK (v : α) : ∀ (n : Nat) (t : Tr α) (i : Nat) (u : Tr α),Tr.putK v none n t i some=some u→∀ j,u.get j=if i=j then some v else t.get j
 | 0,_,_,_,h,_=>by cases h
 | n+1,.nil,0,u,h,j=>by
  rw [Tr.putK_nil_zero] at h; cases h
  cases j with
  | zero=>rfl
  | succ k=>rw [Tr.get_succ,dT]; simp only [Tr.get_nil]; split <;> simp [Tr.get_nil]
 | n+1,.nil,k+1,u,h,j=>by
  rw [Tr.putK_nil_succ,Tr.putK_eq] at h
  split at h
  ·rename_i u' hu'
   cases h
   rw [Tr.get_with _ _ _ _ _ _ (Nat.mod_lt _ (by omega))]
   have ih:=Tr.get_putK v n .nil (k / 4) u' hu'
   cases j with
   | zero=>simp [Tr.get_nil]
   | succ q =>
    simp only [Tr.get_nil]
    have hs : (lM Tr.nil Tr.nil Tr.nil Tr.nil (q % 4) : Tr α)=.nil:=by rw [dT]; split <;> rfl
    rw [ih,hs]
    simp only [Tr.get_nil]
    by_cases e : k=q
    ·subst e; simp
    ·by_cases e2 : q % 4=k % 4
     ·have : ¬ k / 4=q / 4:=by omega
      simp [e2,this,e]
     ·simp [e2,e]
  ·cases h
 | n+1,.node x a b c d,0,u,h,j=>by
  rw [Tr.putK_node_zero] at h; cases h
  cases j with
  | zero=>rfl
  | succ k=>rw [Tr.get_succ,Tr.get_succ]; simp
 | n+1,.node x a b c d,k+1,u,h,j=>by
  rw [Tr.putK_node_succ,Tr.putK_eq] at h
  split at h
  ·rename_i u' hu'
   cases h
   rw [Tr.get_with _ _ _ _ _ _ (Nat.mod_lt _ (by omega))]
   have ih:=Tr.get_putK v n _ (k / 4) u' hu'
   cases j with
   | zero=>simp [Tr.get_zero]
   | succ q =>
    simp only [Tr.get_succ]
    rw [ih]
    by_cases e : k=q
    ·subst e; simp
    ·by_cases e2 : q % 4=k % 4
     ·have : ¬ k / 4=q / 4:=by omega
      simp [e2,this,e]
     ·simp [e2,e]
  ·cases h
theorem Tr.get_put {t u : Tr α} {i : Nat} {v : α} (h : t.put i v=some u) (j : Nat) : u.get j=if i=j then some v else t.get j:=Tr.get_putK v deep t i u h j
end
end Go.Rx

/-
 An evaluator for calls without arguments: values without types, memory by blocks of its own, operations.
-/
namespace Go.Rx
noncomputable section
open Go.Vm
inductive RC where
 | nat (m : Nat)
 | int (k : IntKind) (n : Int)
 | bool (b : Bool)
 | sc (v : Value)
 | ptr (b off : Nat)
 | sl (b off len : Nat) (cap : Option Nat) (es : Nat)
 | emp (b es : Nat)
 | mp (b : Nat)
 | fn (f : Nat) (sh : List (Bool×Nat)) (k : Nat) (cells : List RC)
inductive RV where
 | unk
 | one (c : RC)
 | agg (l : List RC)
 | tup (l : List (Bool×List RC))
abbrev Ents:=List (Value×(Bool×List RC))
inductive RO where
 | cells (t : Tr RC) (n : Nat)
 | ro (t : Tr RC) (n : Nat)
 | map (es : Ents)
 | dead
def qw {α : Type} (t : Tr α) : Nat→Nat→Option (List α)
 | _,0=>some []
 | off,n+1=>match t.get off,qw t (Nat.succ off) n with
  | some c,some l=>some (c :: l)
  | _,_=>none
def fB {α : Type} : List α→Nat→Tr α→Option (Tr α)
 | [],_,t=>some t
 | c :: l,off,t=>match t.put off c with
  | some t'=>fB l (Nat.succ off) t'
  | none=>none
structure RS where
 H : Tr RO
 nx : Nat
def tk {α : Type} : Nat→List α→Option (List α)
 | 0,_=>some []
 | n+1,a :: l=>match tk n l with
  | some r=>some (a :: r)
  | none=>none
 | _+1,[]=>none
def pt {α : Type} : Nat→List α→List α→Option (List α)
 | 0,[],l=>some l
 | 0,a :: r,_ :: l=>match pt 0 r l with
  | some l'=>some (a :: l')
  | none=>none
 | n+1,xs,a :: l=>match pt n xs l with
  | some l'=>some (a :: l')
  | none=>none
 | _,_,_=>none
def iK : Value→Bool
 | .string s=>Nat.ble s.size 1000000
 | .pointer none=>true
 | .slice none 0 0=>true
 | .map none=>true
 | .nilFunc=>true
 | .nilIface=>true
 | _=>false
def maxI : Nat:=9223372036854775807
def sN (n : Nat) : RC:=Nat.rec (motive:=fun _=>RC) (.nat 0) (fun k _=>.nat (Nat.succ k)) n
def zh (k : IntKind) (n : Int) : Option RC:=match k,n with
 | .i64,.ofNat m=>cond (Nat.ble m maxI) (some (sN m)) none
 | k,n=>cond (decide (k.min≤n) && decide (n≤k.max)) (some (.int k n)) none
def ofC (v : Value) : Option RC:=match v with
 | .int k n=>zh k n
 | .bool b=>some (.bool b)
 | v=>cond (iK v) (some (.sc v)) none
def C7 (c : RC) : Option Value:=match c with
 | .nat m=>some (.int .i64 (.ofNat m))
 | .int k n=>some (.int k n)
 | .bool b=>some (.bool b)
 | .sc v=>some v
 | _=>none
def rundef : RV:=.tup []
def scs : List Value→Option (List RC)
 | []=>some []
 | v :: r=>match ofC v,scs r with
  | some c,some l=>some (c :: l)
  | _,_=>none
def ofV (v : Value) : Option RV:=match v with
 | .agg cs=>(match scs cs.toList with | some l=>some (.agg l) | none=>none)
 | v=>(match ofC v with | some c=>some (.one c) | none=>none)
def xT : List RC→Option (List Value)
 | []=>some []
 | c :: r=>match C7 c,xT r with
  | some v,some l=>some (v :: l)
  | _,_=>none
def vOf (x : RV) : Option Value:=match x with
 | .one c=>C7 c
 | .agg l=>(match xT l with | some vs=>some (.agg vs.toArray) | none=>none)
 | _=>none
def mY (x : RV) : Option (List RC):=match x with
 | .one c=>some [c]
 | .agg l=>some l
 | _=>none
def mv (agg : Bool) (l : List RC) : Option RV:=match agg,l with
 | true,l=>some (.agg l)
 | false,[c]=>some (.one c)
 | false,_=>none
structure SlH where
 b : Nat
 off : Nat
 len : Nat
 cap : Option Nat
 es : Nat
def RC.asNat (c : RC) : Option Nat:=RC.casesOn (motive_1:=fun _=>Option Nat) c (fun m=>some m) (fun _ _=>none) (fun _=>none) (fun _=>none) (fun _ _=>none) (fun _ _ _ _ _=>none) (fun _ _=>none) (fun _=>none) (fun _ _ _ _=>none)
def RC.asBool (c : RC) : Option Bool:=RC.casesOn (motive_1:=fun _=>Option Bool) c (fun _=>none) (fun _ _=>none) (fun b=>some b) (fun _=>none) (fun _ _=>none) (fun _ _ _ _ _=>none) (fun _ _=>none) (fun _=>none) (fun _ _ _ _=>none)
def RC.asPtr (c : RC) : Option (Nat×Nat):=RC.casesOn (motive_1:=fun _=>Option (Nat×Nat)) c (fun _=>none) (fun _ _=>none) (fun _=>none) (fun _=>none) (fun b o=>some (b,o)) (fun _ _ _ _ _=>none) (fun _ _=>none) (fun _=>none) (fun _ _ _ _=>none)
def RC.asSl (c : RC) : Option SlH:=RC.casesOn (motive_1:=fun _=>Option SlH) c (fun _=>none) (fun _ _=>none) (fun _=>none) (fun _=>none) (fun _ _=>none) (fun b o n c e=>some ⟨b,o,n,c,e⟩) (fun _ _=>none) (fun _=>none) (fun _ _ _ _=>none)
def RC.asBlk (c : RC) : Option Nat:=RC.casesOn (motive_1:=fun _=>Option Nat) c (fun _=>none) (fun _ _=>none) (fun _=>none) (fun _=>none) (fun b _=>some b) (fun _ _ _ _ _=>none) (fun _ _=>none) (fun b=>some b) (fun _ _ _ _=>none)
def RV.asBlk (x : RV) : Option Nat:=RV.casesOn (motive:=fun _=>Option Nat) x none (fun c=>c.asBlk) (fun _=>none) (fun _=>none)
def RV.asNat (x : RV) : Option Nat:=RV.casesOn (motive:=fun _=>Option Nat) x none (fun c=>c.asNat) (fun _=>none) (fun _=>none)
def RV.asBool (x : RV) : Option Bool:=RV.casesOn (motive:=fun _=>Option Bool) x none (fun c=>c.asBool) (fun _=>none) (fun _=>none)
def RV.asPtr (x : RV) : Option (Nat×Nat):=RV.casesOn (motive:=fun _=>Option (Nat×Nat)) x none (fun c=>c.asPtr) (fun _=>none) (fun _=>none)
def RV.asSl (x : RV) : Option SlH:=RV.casesOn (motive:=fun _=>Option SlH) x none (fun c=>c.asSl) (fun _=>none) (fun _=>none)
def RO.asC (o : RO) : Option (Tr RC×Nat):=RO.casesOn (motive:=fun _=>Option (Tr RC×Nat)) o (fun t n=>some (t,n)) (fun _ _=>none) (fun _=>none) none
def RO.asR (o : RO) : Option (Tr RC×Nat):=RO.casesOn (motive:=fun _=>Option (Tr RC×Nat)) o (fun t n=>some (t,n)) (fun t n=>some (t,n)) (fun _=>none) none
def onO {α R : Type} (o : Option α) (no : R) (K : α→R) : R:=Option.rec (motive:=fun _=>R) no K o
def sk {R : Type} (v : RV) (K : RV→R) : R:=RV.casesOn (motive:=fun _=>R) v (K .unk) (fun c=>K (.one c)) (fun l=>K (.agg l)) (fun l=>K (.tup l))
def mZ {R : Type} (n : Nat) (K : Nat→R) : R:=Nat.rec (motive:=fun _=>R) (K 0) (fun k _=>K (Nat.succ k)) n
section
variable (P : Program)
def gy {α : Type} : Sem α→Option α
 | .pure a=>some a
 | .program k=>gy (k P)
 | .mark _ k=>gy k
 | _=>none
def cY (t : TypeId) : Option Nat:=match P.info? t with
 | some i=>cond (Nat.ble i.bytes 100000) (some i.size) none
 | none=>none
def wZ (t : TypeId) : Option Bool:=match P.underlying t with
 | some (.struct _)=>some true
 | some (.array _ _)=>some true
 | some _=>some false
 | none=>none
def gK (t : TypeId) : Option (List RC):=match P.info? t with
 | some i=>(match i.zero with
  | some z=>scs z.cells.toList
  | none=>none)
 | none=>none
def gq (t : TypeId) : Option TypeId:=match P.underlying t with
 | some (.slice e)=>some e
 | _=>none
def ldT (t : TypeId) : Option (Bool×Nat):=match wZ P t,cY P t with
 | some g,some n=>cond (g || Nat.beq n 1) (some (g,n)) none
 | _,_=>none
def iU (t : TypeId) (f : Nat) : Option (Nat×(Bool×Nat)):=match P.underlying t with
 | some (.struct fs)=>(match fs[f]? with
  | some fd=>(match ldT P fd.type with
   | some p=>some (fd.offset,p)
   | none=>none)
  | none=>none)
 | _=>none
inductive IK where
 | sl (n : Nat)
 | ar (len : Nat) (g : Bool) (n : Nat)
 | no
def zf (t : TypeId) : IK:=match P.underlying t with
 | some (.slice e)=>(match cY P e with | some n=>.sl n | none=>.no)
 | some (.array len e)=>(match ldT P e with | some (g,n)=>.ar len g n | none=>.no)
 | _=>.no
inductive Lc where
 | nil
 | cons (t : Nat) (v : RV) (r : Lc)
abbrev bZ:=Tr RV
def fS (msk t : Nat) : Bool:=Nat.beq (Nat.mod (Nat.shiftRight msk t) 2) 1
def EZ (l : Lc) (t : Nat) : RV:=Lc.rec (motive:=fun _=>RV) .unk (fun t' v _ ih=>cond (Nat.beq t' t) v ih) l
def gOr (o : Option RV) : RV:=Option.rec (motive:=fun _=>RV) .unk (fun v=>v) o
def egt (msk : Nat) (e : bZ) (l : Lc) (t : Nat) : RV:=cond (fS msk t) (gOr (e.get t)) (EZ l t)
def BP (v : Value) : RV:=(ofV v).getD .unk
def gIn (GL : List Nat) (g : Nat) : Bool:=List.rec (motive:=fun _=>Bool) false (fun a _ ih=>cond (Nat.beq a g) true ih) GL
structure Opd where
 get : bZ→Lc→RV
def Fq (GL : List Nat) (msk : Nat) (x : Operand) : Opd:=match x with
 | .tmp t=>cond (fS msk t) ⟨fun e _=>gOr (e.get t)⟩ ⟨fun _ l=>EZ l t⟩
 | .const v=>⟨fun _ _=>BP v⟩
 | .global g=>cond (gIn GL g) ⟨fun _ _=>.one (.ptr g 0)⟩ ⟨fun _ _=>.unk⟩
 | .func f=>⟨fun _ _=>.one (.fn f [] 0 [])⟩
def rev (GL : List Nat) (msk : Nat) (e : bZ) (l : Lc) (x : Operand) : RV:=(Fq GL msk x).get e l
abbrev Hp:=Nat→Option RO
abbrev Ev:=Operand→RV
def blk (h : Hp) (x : RV) : Option RO:=onO x.asBlk none h
def ixI (x : RV) : Option Nat:=match x with
 | .one (.int _ n)=>cond (decide (0≤n)) (some n.toNat) none
 | _=>none
def ixN (x : RV) : Option Nat:=onO x.asNat (ixI x) some
inductive PR where
 | val (v : RV)
 | new (o : RO) (v : RV)
def E7 (op : BinOp) (k : IntKind) (a b : Int) : Option RC:=match xQ op k a b with
 | some (.val (.int k') n)=>zh k' n
 | some (.val .bool t)=>some (.bool t)
 | _=>none
def bB (b : Bool) : Option RV:=cond b (some (.one (.bool true))) (some (.one (.bool false)))
def bN (n : Nat) : Option RV:=Nat.rec (motive:=fun _=>Option RV) (some (.one (.nat 0))) (fun k _=>some (.one (.nat (Nat.succ k)))) n
def xu (op : BinOp) : Option (Nat→Nat→Option RV):=match op with
 | .add=>some fun a b=>cond (Nat.ble (Nat.add a b) maxI) (bN (Nat.add a b)) none
 | .sub=>some fun a b=>cond (Nat.ble b a) (bN (Nat.sub a b)) none
 | .mul=>some fun a b=>cond (Nat.ble (Nat.mul a b) maxI) (bN (Nat.mul a b)) none
 | .quo=>some fun a b=>cond (Nat.beq b 0) none (bN (Nat.div a b))
 | .rem=>some fun a b=>cond (Nat.beq b 0) none (bN (Nat.mod a b))
 | .eql=>some fun a b=>bB (Nat.beq a b)
 | .neq=>some fun a b=>bB (not (Nat.beq a b))
 | .lss=>some fun a b=>bB (Nat.ble (Nat.succ a) b)
 | .leq=>some fun a b=>bB (Nat.ble a b)
 | .gtr=>some fun a b=>bB (Nat.ble (Nat.succ b) a)
 | .geq=>some fun a b=>bB (Nat.ble b a)
 | _=>none
def gG (d : TypeDesc) (c : RC) (v : Value) : Bool:=match d,c,v with
 | .pointer _,.ptr _ _,.pointer none=>true
 | .slice _,.sl _ _ _ _ _,.slice none 0 0=>true
 | .slice _,.emp _ _,.slice none 0 0=>true
 | .map _ _,.mp _,.map none=>true
 | .func _ _ _,.fn _ _ _ _,.nilFunc=>true
 | _,_,_=>false
def sx (op : BinOp) (t : TypeId) (c : RC) (v : Value) : Option RV:=match P.underlying t with
 | some d=>cond (gG d c v) (match op with
  | .eql=>some (.one (.bool false))
  | .neq=>some (.one (.bool true))
  | _=>none) none
 | none=>none
def rV (op : BinOp) (k : IntKind) (m n : Int) : Option RC:=match op with
 | .quo=>cond (eqI n 0) none (zh k (kq k m n))
 | .rem=>cond (eqI n 0) none (zh k (k8 m n))
 | _=>E7 op k m n
def D7 (c : Option RC) : Option RV:=match c with
 | some c=>some (.one c)
 | none=>none
def xJ (op : BinOp) (xt : TypeId) (x y : Operand) (u v : Value) : Option RV:=match gy P (do eqGuard op xt x y u v; binOp op xt u v) with
 | some w=>ofV w
 | none=>none
def sB (op : BinOp) (xt : TypeId) (x y : Operand) (u v : Value) : Option RV:=match u,v with
 | .int k m,.int k' n=>cond (decide (k=k')) (D7 (rV op k m n)) none
 | u,v=>xJ P op xt x y u v
def Cf (op : BinOp) (xt : TypeId) (x y : Operand) (a b : RV) : Option RV:=match vOf a,vOf b with
 | some u,some v=>sB P op xt x y u v
 | none,some v=>(match a with
  | .one c=>sx P op xt c v
  | _=>none)
 | some v,none=>(match b with
  | .one c=>sx P op xt c v
  | _=>none)
 | none,none=>none
def vP (f : Nat→Nat→Option RV) (a b : RV) (slow : Option RV) : Option RV :=
 onO a.asNat slow fun m=>onO b.asNat slow fun n=>onO (f m n) slow some
def eJ (o : Option RO) : Option (Tr RC×Nat):=onO o none RO.asR
def gf (p : Option (Tr RC×Nat)) (off n : Nat) : Option (List RC):=match p with
 | some (t,m)=>cond (Nat.ble (Nat.add off n) m) (qw t off n) none
 | none=>none
def Gr {α : Type} (off : Nat) (p : Tr α×Nat) : Option α:=Prod.rec (motive:=fun _=>Option α) (fun t m=>cond (Nat.ble (Nat.succ off) m) (t.get off) none) p
def A9 (p : Option (Tr RC×Nat)) (off : Nat) : Option RV:=onO p none fun p=>onO (Gr off p) none fun c=>some (.one c)
def BT (l : Option (List RC)) : Option RV:=match l with
 | some l=>some (.agg l)
 | none=>none
def jF (l : List RC) : Option RO:=match fB l 0 .nil with
 | some t=>some (.cells t l.length)
 | none=>none
def zI (o : Option RO) (v : RV) : Option PR:=match o with
 | some o=>some (.new o v)
 | none=>none
def FE (o : Option RO) (g : Bool) (n off : Nat) : Option RV:=cond g (BT (gf (eJ o) off n)) (A9 (eJ o) off)
def pp (o : Option RO) (p : Option (Bool×Nat)) (x : RV) : Option RV :=
 onO p none fun q=>onO x.asPtr none fun a=>FE o q.1 q.2 a.2
def yr (p : Bool×Nat) (o : Nat) (l : List RC) : Option RV:=match tk p.2 (l.drop o) with
 | some c=>mv p.1 c
 | none=>none
def xe (p : Option (Nat×(Bool×Nat))) (x : RV) : Option RV:=match x,p with
 | .agg l,some (o,q)=>yr q o l
 | _,_=>none
def BU (b off : Nat) : Option RV:=some (.one (.ptr b off))
def qq (p : Option (Nat×(Bool×Nat))) (x : RV) : Option RV :=
 onO p none fun q=>onO x.asPtr none fun a=>cond (Nat.ble 1 q.2.2) (BU a.1 (Nat.add a.2 q.1)) none
def Et (n : Nat) (x : RV) (i : Option Nat) : Option RV :=
 onO i none fun i=>onO x.asSl none fun s=>cond (Nat.beq n s.es) (cond (Nat.ble (Nat.succ i) s.len) (BU s.b (Nat.add s.off (Nat.mul i n))) none) none
def EW (len n : Nat) (x : RV) (i : Option Nat) : Option RV :=
 onO i none fun i=>onO x.asPtr none fun a=>cond (Nat.ble (Nat.succ i) len) (BU a.1 (Nat.add a.2 (Nat.mul i n))) none
def ll (k : IK) (x : RV) (i : Option Nat) : Option RV:=match k with
 | .sl n=>Et n x i
 | .ar len _ n=>EW len n x i
 | .no=>none
def xy (k : IK) (l : List RC) (i : Option Nat) : Option RV:=match k,i with
 | .ar len g n,some i=>cond (Nat.ble (Nat.succ i) len) (yr (g,n) (Nat.mul i n) l) none
 | _,_=>none
def xA (t : TypeId) (u v : Option Value) : Option RV:=match u,v with
 | some (.string s),some (.int k i)=>(match gy P (Instr.index t (.string s) (.int k i)) with
  | some w=>ofV w
  | none=>none)
 | _,_=>none
def wF (t : TypeId) (x ix : RV) : Option RV:=match x with
 | .agg l=>xy (zf P t) l (ixN ix)
 | x=>xA P t (vOf x) (vOf ix)
def Cu (t : TypeId) (n c : Option Nat) : Option PR:=match gq P t,n,c with
 | some e,some n,some c=>(match cY P e,gK P e with
  | some es,some z=>cond (Nat.ble n c && Nat.ble c 1000000 && Nat.beq z.length es && Nat.ble 1 es)
   (zI (jF (List.replicate c z).flatten) (.one (.sl 0 0 n (some c) es))) none
  | _,_=>none)
 | _,_,_=>none
def vO (d : Nat) (x : Option RV) : Option Nat:=match x with
 | none=>some d
 | some v=>ixN v
def sQ (b off n l h : Nat) (c : Nat) : RV:=.one (.sl b (cond (Nat.beq c l) off (Nat.add off (Nat.mul l n))) (Nat.sub h l) (some (Nat.sub c l)) n)
def tx (n b off len : Nat) (cap : Option Nat) (es : Nat) (l h : Option Nat) (mx : Option RV) : Option RV:=match l,h with
 | some l,some h=>cond (Nat.beq n es && Nat.ble 1 es && Nat.ble l h) (match mx with
  | some m=>(match ixN m with
   | some m'=>cond (Nat.ble h m' && Nat.ble m' (cap.getD len)) (some (sQ b off n l h m')) none
   | none=>none)
  | none=>(match cap with
   | some c=>cond (Nat.ble h c) (some (sQ b off n l h c)) none
   | none=>cond (Nat.ble h len) (cond (Nat.ble len l) (some (.one (.emp b n))) (some (.one (.sl b (Nat.add off (Nat.mul l n)) (Nat.sub h l) none n)))) none)) none
 | _,_=>none
def qN (n b es : Nat) (l h : Option Nat) (mx : Option RV) : Option RV:=match l,h,mx with
 | some 0,some 0,none=>cond (Nat.beq n es) (some (.one (.emp b n))) none
 | _,_,_=>none
def qK (l h : Option Nat) (mx : Option RV) : Option RV:=match l,h,mx with
 | some 0,some 0,none=>some (.one (.sc (.slice none 0 0)))
 | _,_,_=>none
def DC (x : Option RV) : Option (Option Value):=match x with
 | none=>some none
 | some v=>(match vOf v with
  | some u=>some (some u)
  | none=>none)
def rx (t : TypeId) (s : ByteArray) (lo hi : Option (Option Value)) (mx : Option RV) : Option RV:=match lo,hi,mx with
 | some a,some b,none=>(match gy P (Instr.sliceAt t (.string s) a b none) with
  | some w=>ofV w
  | none=>none)
 | _,_,_=>none
def DM (hi mx : Option RV) : Bool:=match hi,mx with
 | none,some _=>false
 | _,_=>true
def wA (t : TypeId) (x : RV) (lo hi mx : Option RV) : Option RV:=cond (DM hi mx) (match x with
 | .one (.sl b off len cap es)=>(match gq P t with
  | some e=>(match cY P e with
   | some n=>tx n b off len cap es (vO 0 lo) (vO len hi) mx
   | none=>none)
  | none=>none)
 | .one (.emp b es)=>(match gq P t with
  | some e=>(match cY P e with
   | some n=>qN n b es (vO 0 lo) (vO 0 hi) mx
   | none=>none)
  | none=>none)
 | .one (.sc (.string s))=>rx P t s (DC lo) (DC hi) mx
 | .one (.sc (.slice none 0 0))=>(match gq P t with
  | some e=>(match cY P e with
   | some _=>qK (vO 0 lo) (vO 0 hi) mx
   | none=>none)
  | none=>none)
 | _=>none) none
def xv (place : Nat→Option (Nat×Nat)) : List (Nat×RV)→List RC→Option (List RC)
 | [],l=>some l
 | (i,v) :: r,l=>match place i,mY v with
  | some (o,n),some c=>cond (Nat.beq c.length n) (match pt o c l with
   | some l'=>xv place r l'
   | none=>none) none
  | _,_=>none
def tm (t : TypeId) (i : Nat) : Option (Nat×Nat):=match iU P t i with
 | some (o,(_,n))=>some (o,n)
 | none=>none
def yN {α : Type} (l : List α) : Nat:=List.rec (motive:=fun _=>Nat) 0 (fun _ _ n=>Nat.succ n) l
def Fa {α : Type} (l r : List α) : List α:=List.rec (motive:=fun _=>List α) r (fun a _ ih=>a :: ih) l
def E6 (l : List (Nat×RV)) : Option (List RC):=List.rec (motive:=fun _=>Option (List RC)) (some [])
 (fun p _ ih=>onO ih none fun r=>RV.casesOn (motive:=fun _=>Option (List RC)) p.2 none (fun c=>cond (Nat.beq p.1 1) (some (c :: r)) none) (fun l=>cond (Nat.beq (yN l) p.1) (some (Fa l r)) none) (fun _=>none)) l
def yX (place : Nat→Option (Nat×Nat)) : Nat→Nat→List Nat→Option (List Nat×Nat)
 | _,o,[]=>some ([],o)
 | i,o,j :: r=>cond (Nat.beq i j) (match place j with
  | some (o',n)=>cond (Nat.beq o o') (match yX place (i+1) (o+n) r with
   | some (l,e)=>some (n :: l,e)
   | none=>none) none
  | none=>none) none
def DT (place : Nat→Option (Nat×Nat)) (idx : List Nat) (total : Nat) : Option (List Nat):=match yX place 0 0 idx with
 | some (l,e)=>cond (Nat.beq e total) (some l) none
 | none=>none
def FY (l : List Nat) (vs : List RV) : List (Nat×RV):=List.zip l vs
structure Lit1 where
 run : List RV→Option (List RC)
def vk (place : Nat→Option (Nat×Nat)) (z : List RC) (idx : List Nat) : Lit1:=match DT place idx z.length with
 | some l=>⟨fun vs=>E6 (FY l vs)⟩
 | none=>⟨fun vs=>xv place (List.zip idx vs) z⟩
def rq : Lit1:=⟨fun _=>none⟩
def Fo (t : TypeId) (idx : List Nat) : Lit1:=match gK P t,P.underlying t with
 | some z,some (.struct fs)=>cond (fs.toList.all fun f=>(P.info? f.type).isSome) (vk (tm P t) z idx) rq
 | some z,some (.array _ e)=>(match cY P e with
  | some n=>vk (fun i=>some (i * n,n)) z idx
  | none=>rq)
 | _,_=>rq
def Fw (t : TypeId) (len : Nat) (idx : List Nat) : Lit1:=match gq P t with
 | some e=>(match cY P e,gK P e with
  | some es,some z=>cond (Nat.beq z.length es && Nat.ble 1 es && Nat.ble (len * es) 1000000) (vk (fun i=>some (i * es,es)) (List.replicate len z).flatten idx) rq
  | _,_=>rq)
 | none=>rq
def zu (ev : Ev) (l : List (Nat×Operand)) : List RV:=List.rec (motive:=fun _=>List RV) [] (fun p _ ih=>ev p.2 :: ih) l
def vA (t : TypeId) (parts : List (Nat×Operand)) (ev : Ev) : Option RV:=BT ((Fo P t (parts.map (·.1))).run (zu ev parts))
def Aa (l : List RC) : Option RO:=onO (fB l 0 .nil) none fun t=>some (.cells t (yN l))
def slV (es : Option Nat) (len : Nat) : RV:=.one (.sl 0 0 len (some len) (es.getD 0))
def jz (t : TypeId) (len : Nat) (parts : List (Nat×Operand)) (ev : Ev) : Option PR :=
 onO ((Fw P t len (parts.map (·.1))).run (zu ev parts)) none fun l=>zI (Aa l) (slV (onO (gq P t) none (cY P)) len)
def xU : List RV→Option (List (Bool×Nat)×List RC)
 | []=>some ([],[])
 | v :: r=>match v,xU r with
  | .one c,some p=>some ((false,1) :: p.1,c :: p.2)
  | .agg l,some p=>some ((true,l.length) :: p.1,l++p.2)
  | _,_=>none
def sn : List (Bool×Nat)→List RC→Option (List RV)
 | [],_=>some []
 | p :: r,l=>match tk p.2 l,sn r (l.drop p.2) with
  | some c,some vs=>(match mv p.1 c with | some v=>some (v :: vs) | none=>none)
  | _,_=>none
def RV.at (id : Nat) (v : RV) : RV:=match v with
 | .one (.ptr _ off)=>.one (.ptr id off)
 | .one (.sl _ off len cap es)=>.one (.sl id off len cap es)
 | .one (.mp _)=>.one (.mp id)
 | v=>v
def AG (em : Bool) (t : TypeId) (k : Value) (es : Ents) : Option (Option Nat) :=
 match gy P (do Instr.checkKey em 10000 t k; Instr.findKey t k (es.map fun e=>{ key:=e.1,val:=.nilFunc,born:=0 })) with
 | some r=>some (r.map (·.1))
 | none=>none
def mAt (r : Option Nat) (es : Ents) (g : Bool) (z : List RC) : Option (Bool×List RC):=match r with
 | none=>some (g,z)
 | some i=>(match es[i]? with
  | some e=>some e.2
  | none=>none)
def lkV (ok : Bool) (has : Bool) (c : Option (Bool×List RC)) : Option RV:=match c with
 | some c=>cond ok (some (.tup [c,(false,[.bool has])])) (mv c.1 c.2)
 | none=>none
def D6 (g : Bool) (v : Value) : Option (Bool×List RC):=match v with
 | .agg cs=>cond g (match scs cs.toList with
  | some l=>some (true,l)
  | none=>none) none
 | v=>cond g none (match ofC v with
  | some c=>some (false,[c])
  | none=>none)
def Ak (t : TypeId) : Option (Bool×List RC):=match wZ P t,P.info? t with
 | some g,some i=>(match i.zero with
  | some v=>D6 g v
  | none=>none)
 | _,_=>none
def sU (o : Option RO) (t : TypeId) (x key : RV) (ok : Bool) : Option RV:=match P.underlying t,x,vOf key with
 | some (.map kt vt),.one (.mp _),some k=>(match o,Ak P vt with
  | some (.map es),some (g,z)=>(match AG P es.isEmpty kt k es with
   | some r=>lkV ok r.isSome (mAt r es g z)
   | none=>none)
  | _,_=>none)
 | _,_,_=>none
def uS (x : RV) : Option Nat:=match x with
 | .one (.emp _ _)=>some 0
 | .one (.sc (.slice none 0 0))=>some 0
 | _=>none
def pb (x : RV) : Option Nat:=onO x.asSl (uS x) fun s=>some s.len
def w9 (x : RV) : Option Nat:=match x with
 | .one (.sc (.string s))=>some s.size
 | _=>none
def vC (o : Option RO) (x : RV) : Option Nat:=match x with
 | .one (.sc (.map none))=>some 0
 | .one (.mp _)=>(match o with
  | some (.map es)=>some es.length
  | _=>none)
 | _=>none
inductive LK where
 | sl
 | str
 | map
 | arr (n : Nat)
 | no
def Dc (t : TypeId) : LK:=match P.underlying t with
 | some .string=>.str
 | some (.array n _)=>.arr n
 | some (.slice _)=>.sl
 | some (.map _ _)=>.map
 | _=>.no
def Fu (k : LK) (x : RV) : Option Nat:=match k with
 | .sl=>pb x
 | .str=>w9 x
 | .map=>none
 | .arr n=>some n
 | .no=>none
def vJ (n : Option Nat) : Option RV:=match n with
 | some n=>cond (Nat.ble n maxI) (bN n) none
 | none=>none
def Dy : List RV→Option (List Value)
 | []=>some []
 | v :: r=>match vOf v,Dy r with
  | some u,some l=>some (u :: l)
  | _,_=>none
def Gx (v : Option RV) : Option PR:=Option.rec (motive:=fun _=>Option PR) none (fun v=>some (.val v)) v
def DV (c a b : RV) : Option RV:=onO c.asBool none fun t=>cond t (some a) (some b)
def wO (t : TypeId) : Option PR:=match gK P t with
 | some z=>zI (jF z) (.one (.ptr 0 0))
 | none=>none
def EK (x : RV) : Option PR:=match mY x with
 | some l=>zI (jF l) (.one (.ptr 0 0))
 | none=>none
def AW (v : RV) : Option RV:=match v with
 | .one (.fn f a b c)=>some (.one (.fn f a b c))
 | _=>none
def EX (v : RV) : Option RV:=onO v.asPtr (AW v) fun _=>some v
def unV (f : Value→Sem Value) (x : RV) : Option RV:=match vOf x with
 | some v=>(match gy P (f v) with
  | some w=>ofV w
  | none=>none)
 | none=>none
def Ey (x : RV) (slow : Option RV) : Option RV:=onO x.asBool slow fun b=>bB (not b)
def Bh (f : FuncId) (n : Nat) (l : List RV) : Option RV:=match xU l with
 | some p=>some (.one (.fn f p.1 n p.2))
 | none=>none
def oG (x : RV) (i : Nat) : Option RV:=match x with
 | .tup l=>(match l[i]? with
  | some p=>mv p.1 p.2
  | none=>none)
 | _=>none
def Ds (f : Array Value→Sem Value) (l : List RV) : Option RV:=match Dy l with
 | some vs=>(match gy P (f vs.toArray) with
  | some w=>ofV w
  | none=>none)
 | none=>none
inductive RK where
 | m (x : Operand)
 | v (f : Ev→Option RV)
 | r (x : Operand) (f : Option RO→Ev→Option RV)
 | b (f : Ev→Option PR)
 | store (n : Option Nat) (a x : Operand)
 | mapUpd (t : TypeId) (m k v : Operand)
 | append (n : Option Nat) (b x : Operand)
 | copy (n : Option Nat) (b x : Operand)
 | clear (t : TypeId) (x : Operand)
 | delete (t : TypeId) (x k : Operand)
 | call (g : Operand) (args : List Operand)
 | no
def pX (t : TypeId) : Option Nat:=match gq P t with
 | some e=>(match cY P e,gK P e with
  | some n,some z=>cond (Nat.ble 1 n && Nat.beq z.length n) (some n) none
  | _,_=>none)
 | none=>none
def lm (ty : TypeId) (b : Builtin) (args : List Operand) (ts : Array TypeId) : RK:=match b,args,ts.toList with
 | .len,[x],[t]=>(match Dc P t with
  | .map=>.r x fun o ev=>vJ (vC o (ev x))
  | k=>.v fun ev=>vJ (Fu k (ev x)))
 | .min,l,_=>.v fun ev=>Ds P (Builtin.min_ ts ty) (l.map ev)
 | .max,l,_=>.v fun ev=>Ds P (Builtin.max_ ts ty) (l.map ev)
 | .append,[b,x],[t,t']=>cond (decide (t=t')) (.append (pX P t) b x) .no
 | .copy,[b,x],[t,t']=>cond (decide (t=t')) (.copy (pX P t) b x) .no
 | .clear,[x],[t]=>.clear t x
 | .delete,[x,k],[t,_]=>.delete t x k
 | _,_,_=>.no
def qt (op : BinOp) (xt : TypeId) (x y : Operand) : RK:=match xu op with
 | some f=>.v fun ev=>vP f (ev x) (ev y) (Cf P op xt x y (ev x) (ev y))
 | none=>.v fun ev=>Cf P op xt x y (ev x) (ev y)
def vD (op : UnOp) (x : Operand) : RK:=match op with
 | .not=>.v fun ev=>Ey (ev x) (unV P (Op.unary .not) (ev x))
 | op=>.v fun ev=>unV P (Op.unary op) (ev x)
def rk (o : Oper) : RK:=match o.op with
 | .move x=>.m x
 | .assign x=>.m x
 | .pick c a b=>.v fun ev=>DV (ev c) (ev a) (ev b)
 | .alloc t=>.b fun _=>wO P t
 | .box _ x=>.b fun ev=>EK (ev x)
 | .build t parts=>.v fun ev=>vA P t parts.toList ev
 | .buildSlice t n parts=>.b fun ev=>jz P t n parts.toList ev
 | .load t a=>.r a fun o ev=>pp o (ldT P t) (ev a)
 | .nilCheck x=>.v fun ev=>EX (ev x)
 | .binOp op xt x y _=>qt P op xt x y
 | .unOp op _ x=>vD P op x
 | .convert a b x=>.v fun ev=>unV P (convert a b) (ev x)
 | .makeFunc (.func f) first caps=>.v fun ev=>Bh f first.size (first.toList.map ev++caps.toList.map ev)
 | .makeMap _ none=>.b fun _=>some (.new (.map []) (.one (.mp 0)))
 | .makeSlice t n c=>.b fun ev=>Cu P t (ixN (ev n)) (ixN (ev c))
 | .slice t x lo hi mx=>.v fun ev=>wA P t (ev x) (lo.map ev) (hi.map ev) (mx.map ev)
 | .fieldAddr t x f=>.v fun ev=>qq (iU P t f) (ev x)
 | .field t x f=>.v fun ev=>xe (iU P t f) (ev x)
 | .indexAddr t x ix=>.v fun ev=>ll (zf P t) (ev x) (ixN (ev ix))
 | .index t x ix=>.v fun ev=>wF P t (ev x) (ev ix)
 | .lookup t x ix ok=>.r x fun o ev=>sU P o t (ev x) (ev ix) ok
 | .extract x i=>.v fun ev=>oG (ev x) i
 | .store t a x=>.store (cY P t) a x
 | .mapUpdate t m k v=>.mapUpd t m k v
 | .call { callee:=.builtin b,args,argTypes }=>lm P o.type b args.toList argTypes
 | .call { callee:=.value g,args,.. }=>.call g args.toList
 | _=>.no
end
end
end Go.Rx

/-
 An evaluator for calls without arguments: operations that write, regions, bodies, calls.
-/
namespace Go.Rx
noncomputable section
open Go.Vm
abbrev Call1:=Nat→List RV→RS→Option (RV×RS)
section
variable (P : Program) (call : Call1)
def gl (s : RS) (b : Nat) (o : RO) : Option RS:=Tr.putK o none deep s.H b fun H=>some { H:=H,nx:=s.nx }
def tL {R : Type} (s : RS) (b : Nat) (no r : R) : R:=Option.rec (motive:=fun _=>R) r (fun _=>no) (s.H.get b)
def qD (s : RS) (o : RO) : Option RS:=mZ s.nx fun b=>tL s b none (Tr.putK o none deep s.H b fun H=>some { H:=H,nx:=Nat.succ b })
def zp (s : RS) (b n : Nat) (t : Option (Tr RC)) : Option RS:=match t with
 | some t=>gl s b (.cells t n)
 | none=>none
def ui (s : RS) (n : Nat) (t : Option (Tr RC)) : Option RS:=match t with
 | some t=>qD s (.cells t n)
 | none=>none
def Fx (c : List RC) (n b off : Nat) (s : RS) (p : Option (Tr RC×Nat)) : Option RS :=
 onO p none fun p=>cond (Nat.beq c.length n && Nat.ble (Nat.add off n) p.2) (zp s b p.2 (fB c off p.1)) none
def vo (n : Option Nat) (a x : RV) (s : RS) : Option RS :=
 onO n none fun n=>onO a.asPtr none fun a=>onO (mY x) none fun c=>Fx c n a.1 a.2 s (onO (s.H.get a.1) none RO.asC)
def cb (s : RS) (x : RV) : Option (List RC×Nat):=match x with
 | .one (.sc (.slice none 0 0))=>some ([],0)
 | .one (.emp _ _)=>some ([],0)
 | .one (.sl b off len _ es)=>(match gf (eJ (s.H.get b)) off (Nat.mul len es) with
  | some c=>some (c,len)
  | none=>none)
 | _=>none
def nt (nx n es : Nat) (s : Option RS) : Option (RV×RS):=match s with
 | some s'=>mZ nx fun nx=>mZ n fun n=>some (.one (.sl nx 0 n none es),s')
 | none=>none
def kill (s : RS) (b : Nat) (K : RS→Option RS) : Option RS:=match gl s b .dead with
 | some s1=>K s1
 | none=>none
def sC (c : List RC) (n es : Nat) (s : RS) : Option (RV×RS):=nt s.nx n es (ui s (Nat.mul n es) (fB c 0 .nil))
def CI (c : List RC) (b n es : Nat) (s : RS) : Option (RV×RS):=nt s.nx n es (kill s b fun s1=>ui s1 (Nat.mul n es) (fB c 0 .nil))
def Ay (t : Tr RC) (off m : Nat) : Option (Tr RC):=match off with
 | 0=>some t
 | off=>(match qw t off m with
  | some l=>fB l 0 .nil
  | none=>none)
def CM (t : Option (Tr RC)) (c : List RC) (m : Nat) : Option (Tr RC):=match t with
 | some t=>fB c m t
 | none=>none
def Cb (b off len k es : Nat) (s : Option RS) : Option (RV×RS):=match s with
 | some s'=>mZ len fun len=>some (.one (.sl b off len (some k) es),s')
 | none=>none
def Eh (c : List RC) (n b off len : Nat) (cap : Option Nat) (es : Nat) (t : Tr RC) (m : Nat) (s : RS) : Option (RV×RS):=match cap with
 | some k=>cond (Nat.ble (Nat.add len n) k)
  (cond (Nat.ble (Nat.add off (Nat.mul (Nat.add len n) es)) m) (Cb b off (Nat.add len n) k es (zp s b m (fB c (Nat.add off (Nat.mul len es)) t))) none)
  (cond (Nat.ble (Nat.add off (Nat.mul len es)) m) (nt s.nx (Nat.add len n) es (ui s (Nat.mul (Nat.add len n) es) (CM (Ay t off (Nat.mul len es)) c (Nat.mul len es)))) none)
 | none=>cond (Nat.ble (Nat.add off (Nat.mul len es)) m) (nt s.nx (Nat.add len n) es (kill s b fun s1=>ui s1 (Nat.mul (Nat.add len n) es) (CM (Ay t off (Nat.mul len es)) c (Nat.mul len es)))) none
def oI (es : Nat) (x : RV) (c : List RC) (n : Nat) (s : RS) : Option (RV×RS):=match x with
 | .one (.sc (.slice none 0 0))=>sC c n es s
 | .one (.sl b off len cap es')=>cond (Nat.beq es es') (match s.H.get b with
  | some (.cells t m)=>Eh c n b off len cap es t m s
  | _=>none) none
 | .one (.emp b es')=>cond (Nat.beq es es') (match s.H.get b with
  | some (.cells _ _)=>CI c b n es s
  | _=>none) none
 | _=>none
def D2 (n : Nat) (x : RV) : Bool:=onO (pb x) false fun m=>Nat.ble (Nat.add m n) 1000000
def uI (es : Nat) (x : RV) (c : List RC) (n : Nat) (s : RS) : Option (RV×RS):=cond (D2 n x) (match n with
 | 0=>some (x,s)
 | n=>oI es x c n s) none
def sW (es : Option Nat) (x y : RV) (s : RS) : Option (RV×RS):=match es,cb s y with
 | some es,some (c,n)=>cond (Nat.beq (yN c) (Nat.mul n es)) (uI es x c n s) none
 | _,_=>none
def Ax (n : Nat) (s : Option RS) : Option (RV×RS):=match s,vJ (some n) with
 | some s,some v=>some (v,s)
 | _,_=>none
def Ac (e : Option Nat) (x y : RV) (s : RS) : Option (RV×RS):=match e,x,cb s y with
 | some e,.one (.sl b off len _ es),some (c,n)=>cond (Nat.beq e es && Nat.beq (yN c) (Nat.mul n es)) (match s.H.get b,tk (Nat.mul (min len n) es) c with
  | some (.cells t m),some c'=>cond (Nat.ble (Nat.add off (Nat.mul (min len n) es)) m) (Ax (min len n) (zp s b m (fB c' off t))) none
  | _,_=>none) none
 | some _,.one (.sc (.slice none 0 0)),some _=>Ax 0 (some s)
 | some _,.one (.emp _ _),some _=>Ax 0 (some s)
 | _,_,_=>none
def v5 (t : TypeId) (x : RV) (s : RS) : Option RS:=match P.underlying t,x with
 | some (.slice e),.one (.sl b off len _ es)=>(match s.H.get b,gK P e with
  | some (.cells l m),some z=>cond (Nat.beq z.length es && Nat.ble (Nat.add off (Nat.mul len es)) m) (zp s b m (fB (List.replicate len z).flatten off l)) none
  | _,_=>none)
 | some (.slice _),.one (.sc (.slice none 0 0))=>some s
 | some (.map _ _),.one (.mp b)=>(match s.H.get b with
  | some (.map _)=>gl s b (.map [])
  | _=>none)
 | _,_=>none
def FL (k : Value) : Bool:=match ofV k with
 | some _=>true
 | none=>false
def Eg (e : Option (Value×(Bool×List RC))) (k : Value) : Option Value:=match e with
 | some e=>(match gy P (Instr.keyThatStays e.1 k) with
  | some k'=>cond (FL k') (some k') none
  | none=>none)
 | none=>none
def Cw (i : Option (Option Nat)) (k : Value) (c : Bool×List RC) (es : Ents) : Option Ents:=match i with
 | some none=>some (es++[(k,c)])
 | some (some i)=>(match Eg P es[i]? k with
  | some k'=>some (es.set i (k',c))
  | none=>none)
 | none=>none
def EI (s : RS) (b : Nat) (es : Option Ents) : Option RS:=match es with
 | some es=>gl s b (.map es)
 | none=>none
def vT (v : RV) : Option (Bool×List RC):=match v with
 | .one c=>some (false,[c])
 | .agg l=>some (true,l)
 | _=>none
def lr (t : TypeId) (x key v : RV) (s : RS) : Option RS:=match P.underlying t,x,vOf key with
 | some (.map kt _),.one (.mp b),some k=>(match s.H.get b,vT v with
  | some (.map es),some c=>EI s b (Cw P (AG P false kt k es) k c es)
  | _,_=>none)
 | _,_,_=>none
def sJ (t : TypeId) (x key : RV) (s : RS) : Option RS:=match P.underlying t,x,vOf key with
 | some (.map kt _),.one (.mp b),some k=>(match s.H.get b with
  | some (.map es)=>(match AG P es.isEmpty kt k es with
   | some none=>some s
   | some (some i)=>gl s b (.map (es.eraseIdx i))
   | none=>none)
  | _=>none)
 | _,_,_=>none
def Bj (s : Option RS) : Option (RV×RS):=Option.rec (motive:=fun _=>Option (RV×RS)) none (fun s'=>some (.unk,s')) s
def pk (s : Option RS) : Option (RV×RS):=Option.rec (motive:=fun _=>Option (RV×RS)) none (fun s'=>some (rundef,s')) s
def tA (f k : Nat) (l : Option (List RV)) (args : List RV) (s : RS) : Option (RV×RS):=match l with
 | some l=>call f (l.take k++args++l.drop k) s
 | none=>none
def CC (v : RV) (args : List RV) (s : RS) : Option (RV×RS):=match v with
 | .one (.fn f sh k cells)=>tA call f k (sn sh cells) args s
 | _=>none
def rc (k : RK) (ev : Ev) (s : RS) : Option (RV×RS):=match k with
 | .store n a x=>Bj (vo n (ev a) (ev x) s)
 | .mapUpd t m k v=>Bj (lr P t (ev m) (ev k) (ev v) s)
 | .append n b x=>sW n (ev b) (ev x) s
 | .copy n b x=>Ac n (ev b) (ev x) s
 | .clear t x=>pk (v5 P t (ev x) s)
 | .delete t x k=>pk (sJ P t (ev x) (ev k) s)
 | .call g args=>CC call (ev g) (args.map ev) s
 | _=>none
def cM (ops : List Oper) (j : Nat) : Option Nat:=match ops[j]? with
 | some o=>o.dst
 | none=>none
def ka (all : List Oper) : Option (Nat×Bool)→Option (Option (Nat×Bool))
 | none=>some none
 | some (j,want)=>match cM all j with
  | some d=>some (some (d,want))
  | none=>none
inductive Out where
 | no
 | go (e : bZ) (s : RS)
 | exit (i : Nat) (e : bZ) (s : RS)
 | ret (e : bZ) (s : RS)
section
variable (GL : List Nat) (msk : Nat)
structure Put1 where
 run : RV→bZ→Lc→(bZ→Lc→Out)→Out
def g7 (dst : Option Nat) : Put1:=match dst with
 | none=>⟨fun _ e l K=>K e l⟩
 | some d=>cond (fS msk d) ⟨fun v e l K=>sk v fun v=>Tr.putK v .no deep e d fun e'=>K e' l⟩ ⟨fun v e l K=>sk v fun v=>K e (.cons d v l)⟩
structure Note where
 i : Nat
 rd : Option Nat
 nw : Option Nat
abbrev Notes:=List Note
structure PE where
 i : Nat
 tk : Bool
 un : List Nat
abbrev Plan:=List PE
def inL (l : List Nat) (i : Nat) : Bool:=List.rec (motive:=fun _=>Bool) false (fun a _ ih=>cond (Nat.beq a i) true ih) l
def nN (b : Option Nat) (made : Bool) (s : Option RS) : Option RS:=match s,b with
 | some s,some b=>cond made (gl s b .dead) (match s.H.get b with
  | some (.cells t m)=>gl s b (.ro t m)
  | some (.map _)=>gl s b .dead
  | _=>some s)
 | s,_=>s
def eQ (un : List Nat) (s : RS) : Notes→Option RS
 | []=>some s
 | n :: r=>cond (inL un n.i) (nN n.nw true (nN n.rd false (eQ un s r))) (eQ un s r)
def jG (b : Option Nat) (s0 : RS) (s : Option RS) : Option RS:=match s,b with
 | some s,some b=>(match s0.H.get b with
  | some o=>gl s b o
  | none=>some s)
 | s,_=>s
def eS (un : List Nat) (s0 s : RS) : Notes→Option RS
 | []=>some s
 | n :: r=>cond (inL un n.i) (jG n.nw s0 (jG n.rd s0 (eS un s0 s r))) (eS un s0 s r)
def DY (un : List Nat) (ns : Notes) (s0 : RS) (r : Option (RV×RS)) : Option (RV×RS):=match r with
 | some (v,s')=>(match eS un s0 s' ns with
  | some s2=>some (v,s2)
  | none=>none)
 | none=>none
def rcU (call : Call1) (un : List Nat) (k : RK) (ev : Ev) (s : RS) (ns : Notes) : Option (RV×RS):=match eQ un s ns with
 | some s1=>DY un ns s (rc P call k ev s1)
 | none=>none
abbrev K1:=bZ→Lc→RS→Notes→Out
def oV (tk : Bool) (n : Note) (ns : Notes) : Notes:=cond tk (n :: ns) ns
def yW (pe : PE) (dst : Option Nat) (pr : Option PR) (e : bZ) (l : Lc) (s : RS) (ns : Notes) (K : K1) : Out:=match pr with
 | some (.new o v)=>mZ s.nx fun b=>tL s b .no (Tr.putK o .no deep s.H b fun H=>(g7 msk dst).run (v.at b) e l fun e' l'=>K e' l' { H:=H,nx:=Nat.succ b } (oV pe.tk ⟨pe.i,none,some b⟩ ns))
 | _=>.no
def t6 (dst : Option Nat) (v : Option RV) (e : bZ) (l : Lc) (s : RS) (ns : Notes) (K : K1) : Out :=
 Option.rec (motive:=fun _=>Out) .no (fun v=>(g7 msk dst).run v e l fun e' l'=>K e' l' s ns) v
def vG (dst : Option Nat) (pr : Option (RV×RS)) (e : bZ) (l : Lc) (ns : Notes) (K : K1) : Out:=match pr with
 | some (v,s')=>(g7 msk dst).run v e l fun e' l'=>K e' l' s' ns
 | none=>.no
structure Step where
 run : Call1→bZ→Lc→RS→Notes→K1→Out
def mkW (k : RK) (pe : PE) (dst : Option Nat) : Step:=match pe.un with
 | []=>⟨fun call e l s ns K=>vG msk dst (rc P call k (rev GL msk e l) s) e l ns K⟩
 | a :: r=>⟨fun call e l s ns K=>vG msk dst (rcU P call (a :: r) k (rev GL msk e l) s ns) e l ns K⟩
def iZ (k : RK) (pe : PE) (dst : Option Nat) : Step:=match k with
 | .m x=>⟨fun _ e l s ns K=>(g7 msk dst).run (rev GL msk e l x) e l fun e' l'=>K e' l' s ns⟩
 | .v f=>⟨fun _ e l s ns K=>t6 msk dst (f (rev GL msk e l)) e l s ns K⟩
 | .r x f=>⟨fun _ e l s ns K=>t6 msk dst (f (blk s.H.get (rev GL msk e l x)) (rev GL msk e l)) e l s (oV pe.tk ⟨pe.i,(rev GL msk e l x).asBlk,none⟩ ns) K⟩
 | .b f=>⟨fun _ e l s ns K=>yW msk pe dst (f (rev GL msk e l)) e l s ns K⟩
 | k=>mkW P GL msk k pe dst
def wq (v : RV) (skip : Out) : Out:=match v with
 | .tup []=>skip
 | _=>.no
def iu (v : RV) (want : Bool) (run skip : Out) : Out:=onO v.asBool (wq v skip) fun b=>cond b (cond want run skip) (cond want skip run)
def x7 (g : Option (Nat×Bool)) (dst : Option Nat) (st : Step) : Step:=match g with
 | none=>st
 | some (d,want)=>⟨fun call e l s ns K=>iu (egt msk e l d) want (st.run call e l s ns K) ((g7 msk dst).run rundef e l fun e' l'=>K e' l' s ns)⟩
structure Reg where
 run : Call1→bZ→Lc→RS→Notes→Out
def DU : Reg:=⟨fun _ _ _ _ _=>.no⟩
def FK (o : Oper) (g : Option (Nat×Bool)) (pe : PE) (next : Reg) : Reg:=⟨fun call e l s ns=>(x7 msk g o.dst (iZ P GL msk (rk P o) pe o.dst)).run call e l s ns (next.run call)⟩
def zz (all : List Oper) (pe : PE) (next : Reg) : Reg:=match all[pe.i]? with
 | some o=>(match ka all o.guard with
  | some g=>FK P GL msk o g pe next
  | none=>DU)
 | none=>DU
def dH (all : List Oper) (pl : Plan) : Reg:=List.rec (motive:=fun _=>Reg) ⟨fun _ e _ s _=>.go e s⟩ (fun pe _ ih=>zz P GL msk all pe ih) pl
def f8 : Nat→List Oper→Plan
 | _,[]=>[]
 | k,_ :: r=>⟨k,false,[]⟩ :: f8 (Nat.succ k) r
abbrev o7:=List (Nat×Plan)
def mO (ps : o7) (id : Nat) (ops : List Oper) : Plan:=List.rec (motive:=fun _=>Plan) (f8 0 ops) (fun p _ ih=>cond (Nat.beq p.1 id) p.2 ih) ps
def ri (f : bZ→RS→Out) (n : Nat) : bZ→RS→Out :=
 Nat.rec (motive:=fun _=>bZ→RS→Out) (fun _ _=>.no) (fun _ ih e s=>Out.rec (motive:=fun _=>Out) .no (fun e' s'=>ih e' s') .exit .ret (f e s)) n
def Ag (v : RV) (a b : Out) : Out:=onO v.asBool .no fun t=>cond t a b
def Cr (id : Nat) (o : Out) : Out:=Out.rec (motive:=fun _=>Out) .no .go (fun i e s=>cond (Nat.beq i id) (.go e s) (.exit i e s)) .ret o
def Fv (o : Out) (f : bZ→RS→Out) : Out:=Out.rec (motive:=fun _=>Out) .no (fun e s=>f e s) .exit .ret o
structure CS where
 run : Call1→bZ→RS→Out
def mkC (ps : o7) (fuel : Nat) (c : Code) : CS :=
 Code.rec (motive:=fun _=>CS)
  ⟨fun _ e s=>.go e s⟩
  (fun id ops _=>⟨fun call e s=>(dH P GL msk ops.toList (mO ps id ops.toList)).run call e .nil s []⟩)
  (fun _ _ ra rb=>⟨fun call e s=>Fv (ra.run call e s) (rb.run call)⟩)
  (fun c _ _ ra rb=>⟨fun call e s=>Ag (rev GL msk e .nil c) (ra.run call e s) (rb.run call e s)⟩)
  (fun id _ r=>⟨fun call e s=>Cr id (r.run call e s)⟩)
  (fun _ r=>⟨fun call e s=>ri (r.run call) fuel e s⟩)
  (fun _ _ _ _ _ _=>⟨fun _ _ _=>.no⟩)
  (fun i=>⟨fun _ e s=>.exit i e s⟩)
  (fun _ r=>⟨fun call e s=>r.run call e s⟩)
  (fun _=>⟨fun _ e s=>.go e s⟩)
  (fun _=>⟨fun _ _ _=>.no⟩)
  ⟨fun _ e s=>.ret e s⟩
  (fun _=>⟨fun _ _ _=>.no⟩) c
def ut : Nat→List RV→bZ→Option bZ
 | _,[],e=>some e
 | i,v :: r,e=>cond (fS msk i) (sk v fun v=>Tr.putK v none deep e i fun e'=>ut (Nat.succ i) r e') (ut (Nat.succ i) r e)
def Dr (e : bZ) (s : RS) : ResultVar→Option RV
 | .tmp t=>some (egt msk e .nil t)
 | .cell t τ=>pp (blk s.H.get (egt msk e .nil t)) (ldT P τ) (egt msk e .nil t)
def gW (e : bZ) (s : RS) : List ResultVar→Option (List RV)
 | []=>some []
 | r :: l=>match Dr P msk e s r,gW e s l with
  | some v,some vs=>some (v :: vs)
  | _,_=>none
def Dl : List RV→Option (List (Bool×List RC))
 | []=>some []
 | v :: r=>match v,Dl r with
  | .one c,some q=>some ((false,[c]) :: q)
  | .agg c,some q=>some ((true,c) :: q)
  | _,_=>none
def Aw (l : List RV) : Option RV:=match l with
 | [v]=>some v
 | l=>match Dl l with
  | some q=>some (.tup q)
  | none=>none
def xY (vs : Option (List RV)) (s : RS) : Option (RV×RS):=match vs with
 | some vs=>(match Aw vs with
  | some v=>some (v,s)
  | none=>none)
 | none=>none
def FV (rs : List ResultVar) (o : Out) : Option (RV×RS):=match o with
 | .go e s=>xY (gW P msk e s rs) s
 | .ret e s=>xY (gW P msk e s rs) s
 | _=>none
end
end
def ER (c : RC) : Option Int:=match c with
 | .nat m=>some (.ofNat m)
 | .int .i64 n=>some n
 | _=>none
def tD : List RC→Option (List Int)
 | []=>some []
 | c :: r=>match ER c,tD r with
  | some n,some l=>some (n :: l)
  | _,_=>none
def Gm (s : RS) (p : Option (List RC×Nat)) : Option (RV×RS):=match p with
 | some ([],n)=>cond (Nat.beq n 0) (some (.one (.sc (.slice none 0 0)),s)) none
 | some (c,n)=>cond (Nat.beq c.length n && Nat.ble n 1000000 && (tD c).isSome) (sC c n 1 s) none
 | none=>none
def lz (it : Nat) (args : List RV) (s : RS) : Option (RV×RS):=match args with
 | [.one (.sc (.slice none 0 0)),.one (.fn f [(false,1)] 0 [.ptr b 0])]=>cond (Nat.beq f it) (match gf (eJ (s.H.get b)) 0 1 with
  | some [x]=>Gm s (cb s (.one x))
  | _=>none) none
 | _=>none
def mr (o : Option RO) : Bool:=match o with
 | some (.cells _ _)=>true
 | _=>false
def Eo (x y : RV) (l : List RC) (n : Nat) (s : RS) : Option (RV×RS):=match x,y with
 | .one (.sl b _ _ _ 1),.one (.sl b' _ _ _ 1)=>cond (!(Nat.beq b b') && mr (s.H.get b) && mr (s.H.get b')) (nt s.nx n 1 (kill s b fun s1=>kill s1 b' fun s2=>ui s2 n (fB l 0 .nil))) none
 | .one (.sc (.slice none 0 0)),.one (.sl b' _ _ _ 1)=>cond (mr (s.H.get b')) (nt s.nx n 1 (kill s b' fun s2=>ui s2 n (fB l 0 .nil))) none
 | _,_=>none
def DZ (x y : RV) (i : Option Nat) (a b : Option (List RC×Nat)) (s : RS) : Option (RV×RS):=match i,a,b with
 | some i,some (c,n),some (c',n')=>cond (Nat.ble i n && Nat.beq c.length n && Nat.beq c'.length n' && Nat.ble 1 n' && Nat.ble (Nat.add n n') 1000000 && (tD c).isSome && (tD c').isSome)
   (Eo x y (c.take i++c'++c.drop i) (Nat.add n n') s) none
 | _,_,_=>none
def tf (args : List RV) (s : RS) : Option (RV×RS):=match args with
 | [x,i,y]=>DZ x y i.asNat (cb s x) (cb s y) s
 | _=>none
inductive XF where
 | appendSeq (it : Nat)
 | insert
def Fi (x : XF) (args : List RV) (s : RS) : Option (RV×RS):=match x with
 | .appendSeq it=>lz it args s
 | .insert=>tf args s
abbrev XTab:=List (Nat×XF)
def XTab.find : XTab→Nat→Option XF
 | [],_=>none
 | p :: r,f=>cond (Nat.beq p.1 f) (some p.2) (XTab.find r f)
structure FP where
 msk : Nat
 plans : o7
abbrev FPs:=List (Nat×FP)
def FPs.get (l : FPs) (f : Nat) : Option FP:=List.rec (motive:=fun _=>Option FP) none (fun p _ ih=>cond (Nat.beq p.1 f) (some p.2) ih) l
def AB (P : Program) (GL : List Nat) (lf : Nat) (fp : FP) (call : Call1) (rs : List ResultVar) (c : Code) (e : Option bZ) (s : RS) : Option (RV×RS):=match e with
 | some e=>FV P fp.msk rs ((mkC P GL fp.msk fp.plans lf c).run call e s)
 | none=>none
def DL (P : Program) (GL : List Nat) (lf : Nat) (fp : Option FP) (call : Call1) (fn : Option Func) (args : List RV) (s : RS) : Option (RV×RS):=match fn,fp with
 | some fn,some fp=>(match fn.body with
  | some c=>AB P GL lf fp call fn.results.toList c (ut fp.msk 0 args .nil) s
  | none=>none)
 | _,_=>none
def wi (P : Program) (GL : List Nat) (X : Option XF) (lf : Nat) (fp : Option FP) (call : Call1) (fn : Option Func) (args : List RV) (s : RS) : Option (RV×RS):=match X with
 | some x=>Fi x args s
 | none=>DL P GL lf fp call fn args s
def yz (P : Program) (GL : List Nat) (X : XTab) (M : FPs) (lf : Nat) (n : Nat) : Call1 :=
 Nat.rec (motive:=fun _=>Call1) (fun _ _ _=>none) (fun _ ih f args s=>wi P GL (X.find f) lf (M.get f) ih P.funcs[f]? args s) n
def sq (r : Option (RV×RS)) : Bool:=match r with
 | some (.one (.bool true),_)=>true
 | _=>false
end
end Go.Rx

