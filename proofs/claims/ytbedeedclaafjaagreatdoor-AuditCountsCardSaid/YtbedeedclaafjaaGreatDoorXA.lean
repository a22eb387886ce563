/-
 Tables by number; a closed call is run: what is reckoned.
-/
import Derived.Test.YtbedeedclaafjaaGreatDoorVmA
set_option linter.unusedVariables false
set_option linter.unusedSimpArgs false
/-
 Tables by number that the kernel reads and writes quickly.
-/
namespace Go.Rx
inductive Tr (α : Type) where
 | nil
 | node (x : Option α) (a b c d : Tr α)
noncomputable section
variable {α : Type}
def mt {β : Type} (a b c d : β) (r : Nat) : β :=
 Nat.rec (motive:=fun _=>β) a (fun j _=>Nat.rec (motive:=fun _=>β) b (fun j _=>Nat.rec (motive:=fun _=>β) c (fun _ _=>d) j) j) r
def Tr.get (t : Tr α) : Nat→Option α :=
 Tr.rec (motive:=fun _=>Nat→Option α) (fun _=>none)
  (fun x _ _ _ _ ga gb gc gd i=>Nat.rec (motive:=fun _=>Option α) x (fun k _=>mt ga gb gc gd (Nat.mod k 4) (Nat.div k 4)) i) t
section
variable {R : Type} (ih : Tr α→Nat→(Tr α→R)→R) (x : Option α) (a b c d : Tr α) (q : Nat) (K : Tr α→R)
def Il : R:=ih a q fun u=>K (.node x u b c d)
def zR : R:=ih b q fun u=>K (.node x a u c d)
def Ih : R:=ih c q fun u=>K (.node x a b u d)
def HM : R:=ih d q fun u=>K (.node x a b c u)
def GY (k : Nat) : R:=mt (Il ih x a b c d (Nat.div k 4) K) (zR ih x a b c d (Nat.div k 4) K) (Ih ih x a b c d (Nat.div k 4) K) (HM ih x a b c d (Nat.div k 4) K) (Nat.mod k 4)
end
def Tr.putK {R : Type} (v : α) (no : R) (d : Nat) : Tr α→Nat→(Tr α→R)→R :=
 Nat.rec (motive:=fun _=>Tr α→Nat→(Tr α→R)→R) (fun _ _ _=>no)
  (fun _ ih t i K=>Tr.rec (motive:=fun _=>R)
   (Nat.rec (motive:=fun _=>R) (K (.node (some v) .nil .nil .nil .nil)) (fun k _=>GY ih none .nil .nil .nil .nil K k) i)
   (fun x a b c d _ _ _ _=>Nat.rec (motive:=fun _=>R) (K (.node (some v) a b c d)) (fun k _=>GY ih x a b c d K k) i) t) d
def deep : Nat:=20
def Tr.put (t : Tr α) (i : Nat) (v : α) : Option (Tr α):=Tr.putK v none deep t i some
theorem ei {β : Type} (a b c d : β) (r : Nat) : mt a b c d r=match r with | 0=>a | 1=>b | 2=>c | _=>d:=by
 match r with
 | 0=>rfl
 | 1=>rfl
 | 2=>rfl
 | _+3=>rfl
theorem BX {β γ : Type} (g : β→γ) (a b c d : β) (r : Nat) : mt (g a) (g b) (g c) (g d) r=g (mt a b c d r):=by
 match r with
 | 0=>rfl
 | 1=>rfl
 | 2=>rfl
 | _+3=>rfl
theorem Tr.get_nil (i : Nat) : (Tr.nil : Tr α).get i=none:=rfl
theorem Tr.get_zero (x : Option α) (a b c d : Tr α) : (Tr.node x a b c d).get 0=x:=rfl
theorem Tr.get_succ (x : Option α) (a b c d : Tr α) (k : Nat) : (Tr.node x a b c d).get (k+1)=(mt a b c d (k % 4)).get (k / 4):=by
 show mt a.get b.get c.get d.get (k % 4) (k / 4)=_
 rw [BX]
theorem Tr.putK_nil_zero {R : Type} (v : α) (no : R) (d : Nat) (K : Tr α→R) : Tr.putK v no (d+1) .nil 0 K=K (.node (some v) .nil .nil .nil .nil):=rfl
theorem Tr.putK_node_zero {R : Type} (v : α) (no : R) (n : Nat) (x : Option α) (a b c d : Tr α) (K : Tr α→R) : Tr.putK v no (n+1) (.node x a b c d) 0 K=K (.node (some v) a b c d):=rfl
def Tr.with (x : Option α) (a b c d : Tr α) (r : Nat) (u : Tr α) : Tr α:=match r with
 | 0=>.node x u b c d
 | 1=>.node x a u c d
 | 2=>.node x a b u d
 | _=>.node x a b c u
theorem Tr.putK_nil_succ {R : Type} (v : α) (no : R) (n k : Nat) (K : Tr α→R) :
  Tr.putK v no (n+1) .nil (k+1) K=Tr.putK v no n .nil (k / 4) fun u=>K (Tr.with none .nil .nil .nil .nil (k % 4) u):=by
 show mt _ _ _ _ (k % 4)=_
 match k % 4 with
 | 0=>rfl
 | 1=>rfl
 | 2=>rfl
 | _+3=>rfl
theorem Tr.putK_node_succ {R : Type} (v : α) (no : R) (n k : Nat) (x : Option α) (a b c d : Tr α) (K : Tr α→R) :
  Tr.putK v no (n+1) (.node x a b c d) (k+1) K=Tr.putK v no n (mt a b c d (k % 4)) (k / 4) fun u=>K (Tr.with x a b c d (k % 4) u):=by
 show mt _ _ _ _ (k % 4)=_
 match k % 4 with
 | 0=>rfl
 | 1=>rfl
 | 2=>rfl
 | _+3=>rfl
theorem Tr.putK_eq {R : Type} (v : α) (no : R) : ∀ (n : Nat) (t : Tr α) (i : Nat) (K : Tr α→R),Tr.putK v no n t i K=match Tr.putK v none n t i some with | some u=>K u | none=>no
 | 0,_,_,_=>rfl
 | n+1,.nil,0,K=>rfl
 | n+1,.nil,k+1,K=>by
  rw [Tr.putK_nil_succ,Tr.putK_nil_succ,Tr.putK_eq v no n,Tr.putK_eq v none n _ _ fun u=>some (Tr.with none .nil .nil .nil .nil (k % 4) u)]
  cases Tr.putK v none n .nil (k / 4) some <;> rfl
 | n+1,.node x a b c d,0,K=>rfl
 | n+1,.node x a b c d,k+1,K=>by
  rw [Tr.putK_node_succ,Tr.putK_node_succ,Tr.putK_eq v no n,Tr.putK_eq v none n _ _ fun u=>some (Tr.with x a b c d (k % 4) u)]
  cases Tr.putK v none n (mt a b c d (k % 4)) (k / 4) some <;> rfl
theorem Tr.get_with (x : Option α) (a b c d : Tr α) (r : Nat) (hr : r < 4) (u : Tr α) (j : Nat) :
  (Tr.with x a b c d r u).get j=match j with | 0=>x | k+1=>if k % 4=r then u.get (k / 4) else (mt a b c d (k % 4)).get (k / 4):=by
 cases j with
 | zero=>unfold Tr.with; split <;> rfl
 | succ k =>
  have hk : k % 4 < 4:=Nat.mod_lt _ (by omega)
  generalize hq : k % 4=q at hk ⊢
  match r,hr with
  | 0,_=>simp only [Tr.with,Tr.get_succ,hq]; rw [ei,ei]; match q,hk with
   | 0,_=>rfl
   | 1,_=>rfl
   | 2,_=>rfl
   | 3,_=>rfl
  | 1,_=>simp only [Tr.with,Tr.get_succ,hq]; rw [ei,ei]; match q,hk with
   | 0,_=>rfl
   | 1,_=>rfl
   | 2,_=>rfl
   | 3,_=>rfl
  | 2,_=>simp only [Tr.with,Tr.get_succ,hq]; rw [ei,ei]; match q,hk with
   | 0,_=>rfl
   | 1,_=>rfl
   | 2,_=>rfl
   | 3,_=>rfl
  | 3,_=>simp only [Tr.with,Tr.get_succ,hq]; rw [ei,ei]; match q,hk with
   | 0,_=>rfl
   | 1,_=>rfl
   | 2,_=>rfl
   | 3,_=>rfl
theorem Tr.get_putK (v : α) : ∀ (n : Nat) (t : Tr α) (i : Nat) (u : Tr α),Tr.putK v none n t i some=some u→∀ j,u.get j=if i=j then some v else t.get j
 | 0,_,_,_,h,_=>by cases h
 | n+1,.nil,0,u,h,j=>by
  rw [Tr.putK_nil_zero] at h; cases h
  cases j with
  | zero=>rfl
  | succ k=>rw [Tr.get_succ,ei]; simp only [Tr.get_nil]; split <;> simp [Tr.get_nil]
 | n+1,.nil,k+1,u,h,j=>by
  rw [Tr.putK_nil_succ,Tr.putK_eq] at h
  split at h
  ·rename_i u' hu'
   cases h
   rw [Tr.get_with _ _ _ _ _ _ (Nat.mod_lt _ (by omega))]
   have ih:=Tr.get_putK v n .nil (k / 4) u' hu'
   cases j with
   | zero=>simp [Tr.get_nil]
   | succ q =>
    simp only [Tr.get_nil]
    have hs : (mt Tr.nil Tr.nil Tr.nil Tr.nil (q % 4) : Tr α)=.nil:=by rw [ei]; split <;> rfl
    rw [ih,hs]
    simp only [Tr.get_nil]
    by_cases e : k=q
    ·subst e; simp
    ·by_cases e2 : q % 4=k % 4
     ·have : ¬ k / 4=q / 4:=by omega
      simp [e2,this,e]
     ·simp [e2,e]
  ·cases h
 | n+1,.node x a b c d,0,u,h,j=>by
  rw [Tr.putK_node_zero] at h; cases h
  cases j with
  | zero=>rfl
  | succ k=>rw [Tr.get_succ,Tr.get_succ]; simp
 | n+1,.node x a b c d,k+1,u,h,j=>by
  rw [Tr.putK_node_succ,Tr.putK_eq] at h
  split at h
  ·rename_i u' hu'
   cases h
   rw [Tr.get_with _ _ _ _ _ _ (Nat.mod_lt _ (by omega))]
   have ih:=Tr.get_putK v n _ (k / 4) u' hu'
   cases j with
   | zero=>simp [Tr.get_zero]
   | succ q =>
    simp only [Tr.get_succ]
    rw [ih]
    by_cases e : k=q
    ·subst e; simp
    ·by_cases e2 : q % 4=k % 4
     ·have : ¬ k / 4=q / 4:=by omega
      simp [e2,this,e]
     ·simp [e2,e]
  ·cases h
theorem Tr.get_put {t u : Tr α} {i : Nat} {v : α} (h : t.put i v=some u) (j : Nat) : u.get j=if i=j then some v else t.get j:=Tr.get_putK v deep t i u h j
end
end Go.Rx

/-
 An evaluator for calls without arguments: values without types, memory by blocks of its own, operations.
-/
namespace Go.Rx
noncomputable section
open Go.Vm
inductive RC where
 | nat (m : Nat)
 | int (k : IntKind) (n : Int)
 | bool (b : Bool)
 | sc (v : Value)
 | ptr (b off : Nat)
 | sl (b off len : Nat) (cap : Option Nat) (es : Nat)
 | emp (b es : Nat)
 | mp (b : Nat)
 | fn (f : Nat) (sh : List (Bool×Nat)) (k : Nat) (cells : List RC)
inductive RV where
 | unk
 | one (c : RC)
 | agg (l : List RC)
 | tup (l : List (Bool×List RC))
abbrev Ents:=List (Value×(Bool×List RC))
inductive RO where
 | cells (t : Tr RC) (n : Nat)
 | ro (t : Tr RC) (n : Nat)
 | map (es : Ents)
 | dead
def qw {α : Type} (t : Tr α) : Nat→Nat→Option (List α)
 | _,0=>some []
 | off,n+1=>match t.get off,qw t (Nat.succ off) n with
  | some c,some l=>some (c :: l)
  | _,_=>none
def eS {α : Type} : List α→Nat→Tr α→Option (Tr α)
 | [],_,t=>some t
 | c :: l,off,t=>match t.put off c with
  | some t'=>eS l (Nat.succ off) t'
  | none=>none
structure RS where
 H : Tr RO
 nx : Nat
def tk {α : Type} : Nat→List α→Option (List α)
 | 0,_=>some []
 | n+1,a :: l=>match tk n l with
  | some r=>some (a :: r)
  | none=>none
 | _+1,[]=>none
def pt {α : Type} : Nat→List α→List α→Option (List α)
 | 0,[],l=>some l
 | 0,a :: r,_ :: l=>match pt 0 r l with
  | some l'=>some (a :: l')
  | none=>none
 | n+1,xs,a :: l=>match pt n xs l with
  | some l'=>some (a :: l')
  | none=>none
 | _,_,_=>none
def iz : Value→Bool
 | .string s=>Nat.ble s.size 1000000
 | .pointer none=>true
 | .slice none 0 0=>true
 | .map none=>true
 | .nilFunc=>true
 | .nilIface=>true
 | _=>false
def maxI : Nat:=9223372036854775807
def sN (n : Nat) : RC:=Nat.rec (motive:=fun _=>RC) (.nat 0) (fun k _=>.nat (Nat.succ k)) n
def vh (k : IntKind) (n : Int) : Option RC:=match k,n with
 | .i64,.ofNat m=>cond (Nat.ble m maxI) (some (sN m)) none
 | k,n=>cond (decide (k.min≤n) && decide (n≤k.max)) (some (.int k n)) none
def ofC (v : Value) : Option RC:=match v with
 | .int k n=>vh k n
 | .bool b=>some (.bool b)
 | v=>cond (iz v) (some (.sc v)) none
def En (c : RC) : Option Value:=match c with
 | .nat m=>some (.int .i64 (.ofNat m))
 | .int k n=>some (.int k n)
 | .bool b=>some (.bool b)
 | .sc v=>some v
 | _=>none
def rundef : RV:=.tup []
def scs : List Value→Option (List RC)
 | []=>some []
 | v :: r=>match ofC v,scs r with
  | some c,some l=>some (c :: l)
  | _,_=>none
def ofV (v : Value) : Option RV:=match v with
 | .agg cs=>(match scs cs.toList with | some l=>some (.agg l) | none=>none)
 | v=>(match ofC v with | some c=>some (.one c) | none=>none)
def yO : List RC→Option (List Value)
 | []=>some []
 | c :: r=>match En c,yO r with
  | some v,some l=>some (v :: l)
  | _,_=>none
def vOf (x : RV) : Option Value:=match x with
 | .one c=>En c
 | .agg l=>(match yO l with | some vs=>some (.agg vs.toArray) | none=>none)
 | _=>none
def mR (x : RV) : Option (List RC):=match x with
 | .one c=>some [c]
 | .agg l=>some l
 | _=>none
def mN (agg : Bool) (l : List RC) : Option RV:=match agg,l with
 | true,l=>some (.agg l)
 | false,[c]=>some (.one c)
 | false,_=>none
structure SlH where
 b : Nat
 off : Nat
 len : Nat
 cap : Option Nat
 es : Nat
def RC.asNat (c : RC) : Option Nat:=RC.casesOn (motive_1:=fun _=>Option Nat) c (fun m=>some m) (fun _ _=>none) (fun _=>none) (fun _=>none) (fun _ _=>none) (fun _ _ _ _ _=>none) (fun _ _=>none) (fun _=>none) (fun _ _ _ _=>none)
def RC.asBool (c : RC) : Option Bool:=RC.casesOn (motive_1:=fun _=>Option Bool) c (fun _=>none) (fun _ _=>none) (fun b=>some b) (fun _=>none) (fun _ _=>none) (fun _ _ _ _ _=>none) (fun _ _=>none) (fun _=>none) (fun _ _ _ _=>none)
def RC.asPtr (c : RC) : Option (Nat×Nat):=RC.casesOn (motive_1:=fun _=>Option (Nat×Nat)) c (fun _=>none) (fun _ _=>none) (fun _=>none) (fun _=>none) (fun b o=>some (b,o)) (fun _ _ _ _ _=>none) (fun _ _=>none) (fun _=>none) (fun _ _ _ _=>none)
def RC.asSl (c : RC) : Option SlH:=RC.casesOn (motive_1:=fun _=>Option SlH) c (fun _=>none) (fun _ _=>none) (fun _=>none) (fun _=>none) (fun _ _=>none) (fun b o n c e=>some ⟨b,o,n,c,e⟩) (fun _ _=>none) (fun _=>none) (fun _ _ _ _=>none)
def RC.asBlk (c : RC) : Option Nat:=RC.casesOn (motive_1:=fun _=>Option Nat) c (fun _=>none) (fun _ _=>none) (fun _=>none) (fun _=>none) (fun b _=>some b) (fun _ _ _ _ _=>none) (fun _ _=>none) (fun b=>some b) (fun _ _ _ _=>none)
def RV.asBlk (x : RV) : Option Nat:=RV.casesOn (motive:=fun _=>Option Nat) x none (fun c=>c.asBlk) (fun _=>none) (fun _=>none)
def RV.asNat (x : RV) : Option Nat:=RV.casesOn (motive:=fun _=>Option Nat) x none (fun c=>c.asNat) (fun _=>none) (fun _=>none)
def RV.asBool (x : RV) : Option Bool:=RV.casesOn (motive:=fun _=>Option Bool) x none (fun c=>c.asBool) (fun _=>none) (fun _=>none)
def RV.asPtr (x : RV) : Option (Nat×Nat):=RV.casesOn (motive:=fun _=>Option (Nat×Nat)) x none (fun c=>c.asPtr) (fun _=>none) (fun _=>none)
def RV.asSl (x : RV) : Option SlH:=RV.casesOn (motive:=fun _=>Option SlH) x none (fun c=>c.asSl) (fun _=>none) (fun _=>none)
def RO.asC (o : RO) : Option (Tr RC×Nat):=RO.casesOn (motive:=fun _=>Option (Tr RC×Nat)) o (fun t n=>some (t,n)) (fun _ _=>none) (fun _=>none) none
def RO.asR (o : RO) : Option (Tr RC×Nat):=RO.casesOn (motive:=fun _=>Option (Tr RC×Nat)) o (fun t n=>some (t,n)) (fun t n=>some (t,n)) (fun _=>none) none
def onO {α R : Type} (o : Option α) (no : R) (K : α→R) : R:=Option.rec (motive:=fun _=>R) no K o
def sU {R : Type} (v : RV) (K : RV→R) : R:=RV.casesOn (motive:=fun _=>R) v (K .unk) (fun c=>K (.one c)) (fun l=>K (.agg l)) (fun l=>K (.tup l))
def m6 {R : Type} (n : Nat) (K : Nat→R) : R:=Nat.rec (motive:=fun _=>R) (K 0) (fun k _=>K (Nat.succ k)) n
section
variable (P : Program)
def gv {α : Type} : Sem α→Option α
 | .pure a=>some a
 | .program k=>gv (k P)
 | .mark _ k=>gv k
 | _=>none
def cY (t : TypeId) : Option Nat:=match P.info? t with
 | some i=>cond (Nat.ble i.bytes 100000) (some i.size) none
 | none=>none
def xK (t : TypeId) : Option Bool:=match P.underlying t with
 | some (.struct _)=>some true
 | some (.array _ _)=>some true
 | some _=>some false
 | none=>none
def fP (t : TypeId) : Option (List RC):=match P.info? t with
 | some i=>(match i.zero with
  | some z=>scs z.cells.toList
  | none=>none)
 | none=>none
def dF (t : TypeId) : Option TypeId:=match P.underlying t with
 | some (.slice e)=>some e
 | _=>none
def ldT (t : TypeId) : Option (Bool×Nat):=match xK P t,cY P t with
 | some g,some n=>cond (g || Nat.beq n 1) (some (g,n)) none
 | _,_=>none
def jy (t : TypeId) (f : Nat) : Option (Nat×(Bool×Nat)):=match P.underlying t with
 | some (.struct fs)=>(match fs[f]? with
  | some fd=>(match ldT P fd.type with
   | some p=>some (fd.offset,p)
   | none=>none)
  | none=>none)
 | _=>none
inductive IK where
 | sl (n : Nat)
 | ar (len : Nat) (g : Bool) (n : Nat)
 | no
def zo (t : TypeId) : IK:=match P.underlying t with
 | some (.slice e)=>(match cY P e with | some n=>.sl n | none=>.no)
 | some (.array len e)=>(match ldT P e with | some (g,n)=>.ar len g n | none=>.no)
 | _=>.no
inductive Lc where
 | nil
 | cons (t : Nat) (v : RV) (r : Lc)
abbrev REnv:=Tr RV
def cP (msk t : Nat) : Bool:=Nat.beq (Nat.mod (Nat.shiftRight msk t) 2) 1
def FM (l : Lc) (t : Nat) : RV:=Lc.rec (motive:=fun _=>RV) .unk (fun t' v _ ih=>cond (Nat.beq t' t) v ih) l
def gOr (o : Option RV) : RV:=Option.rec (motive:=fun _=>RV) .unk (fun v=>v) o
def egt (msk : Nat) (e : REnv) (l : Lc) (t : Nat) : RV:=cond (cP msk t) (gOr (e.get t)) (FM l t)
def A0 (v : Value) : RV:=(ofV v).getD .unk
def gIn (GL : List Nat) (g : Nat) : Bool:=List.rec (motive:=fun _=>Bool) false (fun a _ ih=>cond (Nat.beq a g) true ih) GL
structure Opd where
 get : REnv→Lc→RV
def He (GL : List Nat) (msk : Nat) (x : Operand) : Opd:=match x with
 | .tmp t=>cond (cP msk t) ⟨fun e _=>gOr (e.get t)⟩ ⟨fun _ l=>FM l t⟩
 | .const v=>⟨fun _ _=>A0 v⟩
 | .global g=>cond (gIn GL g) ⟨fun _ _=>.one (.ptr g 0)⟩ ⟨fun _ _=>.unk⟩
 | .func f=>⟨fun _ _=>.one (.fn f [] 0 [])⟩
def rev (GL : List Nat) (msk : Nat) (e : REnv) (l : Lc) (x : Operand) : RV:=(He GL msk x).get e l
abbrev Hp:=Nat→Option RO
abbrev Ev:=Operand→RV
def blk (h : Hp) (x : RV) : Option RO:=onO x.asBlk none h
def ixI (x : RV) : Option Nat:=match x with
 | .one (.int _ n)=>cond (decide (0≤n)) (some n.toNat) none
 | _=>none
def ixN (x : RV) : Option Nat:=onO x.asNat (ixI x) some
inductive PR where
 | val (v : RV)
 | new (o : RO) (v : RV)
def FK (op : BinOp) (k : IntKind) (a b : Int) : Option RC:=match yM op k a b with
 | some (.val (.int k') n)=>vh k' n
 | some (.val .bool t)=>some (.bool t)
 | _=>none
def bB (b : Bool) : Option RV:=cond b (some (.one (.bool true))) (some (.one (.bool false)))
def bN (n : Nat) : Option RV:=Nat.rec (motive:=fun _=>Option RV) (some (.one (.nat 0))) (fun k _=>some (.one (.nat (Nat.succ k)))) n
def yi (op : BinOp) : Option (Nat→Nat→Option RV):=match op with
 | .add=>some fun a b=>cond (Nat.ble (Nat.add a b) maxI) (bN (Nat.add a b)) none
 | .sub=>some fun a b=>cond (Nat.ble b a) (bN (Nat.sub a b)) none
 | .mul=>some fun a b=>cond (Nat.ble (Nat.mul a b) maxI) (bN (Nat.mul a b)) none
 | .quo=>some fun a b=>cond (Nat.beq b 0) none (bN (Nat.div a b))
 | .rem=>some fun a b=>cond (Nat.beq b 0) none (bN (Nat.mod a b))
 | .eql=>some fun a b=>bB (Nat.beq a b)
 | .neq=>some fun a b=>bB (not (Nat.beq a b))
 | .lss=>some fun a b=>bB (Nat.ble (Nat.succ a) b)
 | .leq=>some fun a b=>bB (Nat.ble a b)
 | .gtr=>some fun a b=>bB (Nat.ble (Nat.succ b) a)
 | .geq=>some fun a b=>bB (Nat.ble b a)
 | _=>none
def gO (d : TypeDesc) (c : RC) (v : Value) : Bool:=match d,c,v with
 | .pointer _,.ptr _ _,.pointer none=>true
 | .slice _,.sl _ _ _ _ _,.slice none 0 0=>true
 | .slice _,.emp _ _,.slice none 0 0=>true
 | .map _ _,.mp _,.map none=>true
 | .func _ _ _,.fn _ _ _ _,.nilFunc=>true
 | _,_,_=>false
def tA (op : BinOp) (t : TypeId) (c : RC) (v : Value) : Option RV:=match P.underlying t with
 | some d=>cond (gO d c v) (match op with
  | .eql=>some (.one (.bool false))
  | .neq=>some (.one (.bool true))
  | _=>none) none
 | none=>none
def rV (op : BinOp) (k : IntKind) (m n : Int) : Option RC:=match op with
 | .quo=>cond (eqI n 0) none (vh k (DG k m n))
 | .rem=>cond (eqI n 0) none (vh k (DL m n))
 | _=>FK op k m n
def EM (c : Option RC) : Option RV:=match c with
 | some c=>some (.one c)
 | none=>none
def n9 (op : BinOp) (xt : TypeId) (x y : Operand) (u v : Value) : Option RV:=match gv P (do eqGuard op xt x y u v; binOp op xt u v) with
 | some w=>ofV w
 | none=>none
def EW (op : BinOp) : Bool:=match op with
 | .shl=>true
 | .shr=>true
 | .and=>true
 | .or=>true
 | .xor=>true
 | .andNot=>true
 | _=>false
def tv (op : BinOp) (xt : TypeId) (x y : Operand) (u v : Value) : Option RV:=match u,v with
 | .int k m,.int k' n=>cond (EW op) (n9 P op xt x y (.int k m) (.int k' n)) (cond (decide (k=k')) (EM (rV op k m n)) none)
 | u,v=>n9 P op xt x y u v
def C6 (op : BinOp) (xt : TypeId) (x y : Operand) (a b : RV) : Option RV:=match vOf a,vOf b with
 | some u,some v=>tv P op xt x y u v
 | none,some v=>(match a with
  | .one c=>tA P op xt c v
  | _=>none)
 | some v,none=>(match b with
  | .one c=>tA P op xt c v
  | _=>none)
 | none,none=>none
def we (f : Nat→Nat→Option RV) (a b : RV) (slow : Option RV) : Option RV :=
 onO a.asNat slow fun m=>onO b.asNat slow fun n=>onO (f m n) slow some
def ko (o : Option RO) : Option (Tr RC×Nat):=onO o none RO.asR
def pg (p : Option (Tr RC×Nat)) (off n : Nat) : Option (List RC):=match p with
 | some (t,m)=>cond (Nat.ble (Nat.add off n) m) (qw t off n) none
 | none=>none
def Ie {α : Type} (off : Nat) (p : Tr α×Nat) : Option α:=Prod.rec (motive:=fun _=>Option α) (fun t m=>cond (Nat.ble (Nat.succ off) m) (t.get off) none) p
def AY (p : Option (Tr RC×Nat)) (off : Nat) : Option RV:=onO p none fun p=>onO (Ie off p) none fun c=>some (.one c)
def AU (l : Option (List RC)) : Option RV:=match l with
 | some l=>some (.agg l)
 | none=>none
def gC (l : List RC) : Option RO:=match eS l 0 .nil with
 | some t=>some (.cells t l.length)
 | none=>none
def w8 (o : Option RO) (v : RV) : Option PR:=match o with
 | some o=>some (.new o v)
 | none=>none
def Hs (o : Option RO) (g : Bool) (n off : Nat) : Option RV:=cond g (AU (pg (ko o) off n)) (AY (ko o) off)
def o4 (o : Option RO) (p : Option (Bool×Nat)) (x : RV) : Option RV :=
 onO p none fun q=>onO x.asPtr none fun a=>Hs o q.1 q.2 a.2
def xO (p : Bool×Nat) (o : Nat) (l : List RC) : Option RV:=match tk p.2 (l.drop o) with
 | some c=>mN p.1 c
 | none=>none
def wM (p : Option (Nat×(Bool×Nat))) (x : RV) : Option RV:=match x,p with
 | .agg l,some (o,q)=>xO q o l
 | _,_=>none
def CJ (b off : Nat) : Option RV:=some (.one (.ptr b off))
def pF (p : Option (Nat×(Bool×Nat))) (x : RV) : Option RV :=
 onO p none fun q=>onO x.asPtr none fun a=>cond (Nat.ble 1 q.2.2) (CJ a.1 (Nat.add a.2 q.1)) none
def FJ (n : Nat) (x : RV) (i : Option Nat) : Option RV :=
 onO i none fun i=>onO x.asSl none fun s=>cond (Nat.beq n s.es) (cond (Nat.ble (Nat.succ i) s.len) (CJ s.b (Nat.add s.off (Nat.mul i n))) none) none
def F8 (len n : Nat) (x : RV) (i : Option Nat) : Option RV :=
 onO i none fun i=>onO x.asPtr none fun a=>cond (Nat.ble (Nat.succ i) len) (CJ a.1 (Nat.add a.2 (Nat.mul i n))) none
def lj (k : IK) (x : RV) (i : Option Nat) : Option RV:=match k with
 | .sl n=>FJ n x i
 | .ar len _ n=>F8 len n x i
 | .no=>none
def yI (k : IK) (l : List RC) (i : Option Nat) : Option RV:=match k,i with
 | .ar len g n,some i=>cond (Nat.ble (Nat.succ i) len) (xO (g,n) (Nat.mul i n) l) none
 | _,_=>none
def xP (t : TypeId) (u v : Option Value) : Option RV:=match u,v with
 | some (.string s),some (.int k i)=>(match gv P (Instr.index t (.string s) (.int k i)) with
  | some w=>ofV w
  | none=>none)
 | _,_=>none
def wL (t : TypeId) (x ix : RV) : Option RV:=match x with
 | .agg l=>yI (zo P t) l (ixN ix)
 | x=>xP P t (vOf x) (vOf ix)
def AL (t : TypeId) (n c : Option Nat) : Option PR:=match dF P t,n,c with
 | some e,some n,some c=>(match cY P e,fP P e with
  | some es,some z=>cond (Nat.ble n c && Nat.ble c 1000000 && Nat.beq z.length es && Nat.ble 1 es)
   (w8 (gC (List.replicate c z).flatten) (.one (.sl 0 0 n (some c) es))) none
  | _,_=>none)
 | _,_,_=>none
def wu (d : Nat) (x : Option RV) : Option Nat:=match x with
 | none=>some d
 | some v=>ixN v
def sL (b off n l h : Nat) (c : Nat) : RV:=.one (.sl b (cond (Nat.beq c l) off (Nat.add off (Nat.mul l n))) (Nat.sub h l) (some (Nat.sub c l)) n)
def uQ (n b off len : Nat) (cap : Option Nat) (es : Nat) (l h : Option Nat) (mx : Option RV) : Option RV:=match l,h with
 | some l,some h=>cond (Nat.beq n es && Nat.ble 1 es && Nat.ble l h) (match mx with
  | some m=>(match ixN m with
   | some m'=>cond (Nat.ble h m' && Nat.ble m' (cap.getD len)) (some (sL b off n l h m')) none
   | none=>none)
  | none=>(match cap with
   | some c=>cond (Nat.ble h c) (some (sL b off n l h c)) none
   | none=>cond (Nat.ble h len) (cond (Nat.ble len l) (some (.one (.emp b n))) (some (.one (.sl b (Nat.add off (Nat.mul l n)) (Nat.sub h l) none n)))) none)) none
 | _,_=>none
def rF (n b es : Nat) (l h : Option Nat) (mx : Option RV) : Option RV:=match l,h,mx with
 | some 0,some 0,none=>cond (Nat.beq n es) (some (.one (.emp b n))) none
 | _,_,_=>none
def rR (l h : Option Nat) (mx : Option RV) : Option RV:=match l,h,mx with
 | some 0,some 0,none=>some (.one (.sc (.slice none 0 0)))
 | _,_,_=>none
def D3 (x : Option RV) : Option (Option Value):=match x with
 | none=>some none
 | some v=>(match vOf v with
  | some u=>some (some u)
  | none=>none)
def rO (t : TypeId) (s : ByteArray) (lo hi : Option (Option Value)) (mx : Option RV) : Option RV:=match lo,hi,mx with
 | some a,some b,none=>(match gv P (Instr.sliceAt t (.string s) a b none) with
  | some w=>ofV w
  | none=>none)
 | _,_,_=>none
def ES (hi mx : Option RV) : Bool:=match hi,mx with
 | none,some _=>false
 | _,_=>true
def xf (t : TypeId) (x : RV) (lo hi mx : Option RV) : Option RV:=cond (ES hi mx) (match x with
 | .one (.sl b off len cap es)=>(match dF P t with
  | some e=>(match cY P e with
   | some n=>uQ n b off len cap es (wu 0 lo) (wu len hi) mx
   | none=>none)
  | none=>none)
 | .one (.emp b es)=>(match dF P t with
  | some e=>(match cY P e with
   | some n=>rF n b es (wu 0 lo) (wu 0 hi) mx
   | none=>none)
  | none=>none)
 | .one (.sc (.string s))=>rO P t s (D3 lo) (D3 hi) mx
 | .one (.sc (.slice none 0 0))=>(match dF P t with
  | some e=>(match cY P e with
   | some _=>rR (wu 0 lo) (wu 0 hi) mx
   | none=>none)
  | none=>none)
 | _=>none) none
def zk (place : Nat→Option (Nat×Nat)) : List (Nat×RV)→List RC→Option (List RC)
 | [],l=>some l
 | (i,v) :: r,l=>match place i,mR v with
  | some (o,n),some c=>cond (Nat.beq c.length n) (match pt o c l with
   | some l'=>zk place r l'
   | none=>none) none
  | _,_=>none
def tO (t : TypeId) (i : Nat) : Option (Nat×Nat):=match jy P t i with
 | some (o,(_,n))=>some (o,n)
 | none=>none
def zy {α : Type} (l : List α) : Nat:=List.rec (motive:=fun _=>Nat) 0 (fun _ _ n=>Nat.succ n) l
def Gg {α : Type} (l r : List α) : List α:=List.rec (motive:=fun _=>List α) r (fun a _ ih=>a :: ih) l
def Gd (l : List (Nat×RV)) : Option (List RC):=List.rec (motive:=fun _=>Option (List RC)) (some [])
 (fun p _ ih=>onO ih none fun r=>RV.casesOn (motive:=fun _=>Option (List RC)) p.2 none (fun c=>cond (Nat.beq p.1 1) (some (c :: r)) none) (fun l=>cond (Nat.beq (zy l) p.1) (some (Gg l r)) none) (fun _=>none)) l
def zp (place : Nat→Option (Nat×Nat)) : Nat→Nat→List Nat→Option (List Nat×Nat)
 | _,o,[]=>some ([],o)
 | i,o,j :: r=>cond (Nat.beq i j) (match place j with
  | some (o',n)=>cond (Nat.beq o o') (match zp place (i+1) (o+n) r with
   | some (l,e)=>some (n :: l,e)
   | none=>none) none
  | none=>none) none
def EF (place : Nat→Option (Nat×Nat)) (idx : List Nat) (total : Nat) : Option (List Nat):=match zp place 0 0 idx with
 | some (l,e)=>cond (Nat.beq e total) (some l) none
 | none=>none
def HP (l : List Nat) (vs : List RV) : List (Nat×RV):=List.zip l vs
structure Lit1 where
 run : List RV→Option (List RC)
def uC (place : Nat→Option (Nat×Nat)) (z : List RC) (idx : List Nat) : Lit1:=match EF place idx z.length with
 | some l=>⟨fun vs=>Gd (HP l vs)⟩
 | none=>⟨fun vs=>zk place (List.zip idx vs) z⟩
def rm : Lit1:=⟨fun _=>none⟩
def G7 (t : TypeId) (idx : List Nat) : Lit1:=match fP P t,P.underlying t with
 | some z,some (.struct fs)=>cond (fs.toList.all fun f=>(P.info? f.type).isSome) (uC (tO P t) z idx) rm
 | some z,some (.array _ e)=>(match cY P e with
  | some n=>uC (fun i=>some (i * n,n)) z idx
  | none=>rm)
 | _,_=>rm
def GH (t : TypeId) (len : Nat) (idx : List Nat) : Lit1:=match dF P t with
 | some e=>(match cY P e,fP P e with
  | some es,some z=>cond (Nat.beq z.length es && Nat.ble 1 es && Nat.ble (len * es) 1000000) (uC (fun i=>some (i * es,es)) (List.replicate len z).flatten idx) rm
  | _,_=>rm)
 | none=>rm
def AF (ev : Ev) (l : List (Nat×Operand)) : List RV:=List.rec (motive:=fun _=>List RV) [] (fun p _ ih=>ev p.2 :: ih) l
def vY (t : TypeId) (parts : List (Nat×Operand)) (ev : Ev) : Option RV:=AU ((G7 P t (parts.map (·.1))).run (AF ev parts))
def Cv (l : List RC) : Option RO:=onO (eS l 0 .nil) none fun t=>some (.cells t (zy l))
def slV (es : Option Nat) (len : Nat) : RV:=.one (.sl 0 0 len (some len) (es.getD 0))
def jr (t : TypeId) (len : Nat) (parts : List (Nat×Operand)) (ev : Ev) : Option PR :=
 onO ((GH P t len (parts.map (·.1))).run (AF ev parts)) none fun l=>w8 (Cv l) (slV (onO (dF P t) none (cY P)) len)
def za : List RV→Option (List (Bool×Nat)×List RC)
 | []=>some ([],[])
 | v :: r=>match v,za r with
  | .one c,some p=>some ((false,1) :: p.1,c :: p.2)
  | .agg l,some p=>some ((true,l.length) :: p.1,l++p.2)
  | _,_=>none
def sZ : List (Bool×Nat)→List RC→Option (List RV)
 | [],_=>some []
 | p :: r,l=>match tk p.2 l,sZ r (l.drop p.2) with
  | some c,some vs=>(match mN p.1 c with | some v=>some (v :: vs) | none=>none)
  | _,_=>none
def RV.at (id : Nat) (v : RV) : RV:=match v with
 | .one (.ptr _ off)=>.one (.ptr id off)
 | .one (.sl _ off len cap es)=>.one (.sl id off len cap es)
 | .one (.mp _)=>.one (.mp id)
 | v=>v
def Bh (em : Bool) (t : TypeId) (k : Value) (es : Ents) : Option (Option Nat) :=
 match gv P (do Instr.checkKey em 10000 t k; Instr.findKey t k (es.map fun e=>{ key:=e.1,val:=.nilFunc,born:=0 })) with
 | some r=>some (r.map (·.1))
 | none=>none
def mAt (r : Option Nat) (es : Ents) (g : Bool) (z : List RC) : Option (Bool×List RC):=match r with
 | none=>some (g,z)
 | some i=>(match es[i]? with
  | some e=>some e.2
  | none=>none)
def lkV (ok : Bool) (has : Bool) (c : Option (Bool×List RC)) : Option RV:=match c with
 | some c=>cond ok (some (.tup [c,(false,[.bool has])])) (mN c.1 c.2)
 | none=>none
def E6 (g : Bool) (v : Value) : Option (Bool×List RC):=match v with
 | .agg cs=>cond g (match scs cs.toList with
  | some l=>some (true,l)
  | none=>none) none
 | v=>cond g none (match ofC v with
  | some c=>some (false,[c])
  | none=>none)
def Cl (t : TypeId) : Option (Bool×List RC):=match xK P t,P.info? t with
 | some g,some i=>(match i.zero with
  | some v=>E6 g v
  | none=>none)
 | _,_=>none
def tJ (o : Option RO) (t : TypeId) (x key : RV) (ok : Bool) : Option RV:=match P.underlying t,x,vOf key with
 | some (.map kt vt),.one (.mp _),some k=>(match o,Cl P vt with
  | some (.map es),some (g,z)=>(match Bh P es.isEmpty kt k es with
   | some r=>lkV ok r.isSome (mAt r es g z)
   | none=>none)
  | _,_=>none)
 | _,_,_=>none
def tT (x : RV) : Option Nat:=match x with
 | .one (.emp _ _)=>some 0
 | .one (.sc (.slice none 0 0))=>some 0
 | _=>none
def pv (x : RV) : Option Nat:=onO x.asSl (tT x) fun s=>some s.len
def wy (x : RV) : Option Nat:=match x with
 | .one (.sc (.string s))=>some s.size
 | _=>none
def xA (o : Option RO) (x : RV) : Option Nat:=match x with
 | .one (.sc (.map none))=>some 0
 | .one (.mp _)=>(match o with
  | some (.map es)=>some es.length
  | _=>none)
 | _=>none
inductive LK where
 | sl
 | str
 | map
 | arr (n : Nat)
 | no
def DI (t : TypeId) : LK:=match P.underlying t with
 | some .string=>.str
 | some (.array n _)=>.arr n
 | some (.slice _)=>.sl
 | some (.map _ _)=>.map
 | _=>.no
def GM (k : LK) (x : RV) : Option Nat:=match k with
 | .sl=>pv x
 | .str=>wy x
 | .map=>none
 | .arr n=>some n
 | .no=>none
def tu (n : Option Nat) : Option RV:=match n with
 | some n=>cond (Nat.ble n maxI) (bN n) none
 | none=>none
def Er : List RV→Option (List Value)
 | []=>some []
 | v :: r=>match vOf v,Er r with
  | some u,some l=>some (u :: l)
  | _,_=>none
def II (v : Option RV) : Option PR:=Option.rec (motive:=fun _=>Option PR) none (fun v=>some (.val v)) v
def Fg (c a b : RV) : Option RV:=onO c.asBool none fun t=>cond t (some a) (some b)
def vO (t : TypeId) : Option PR:=match fP P t with
 | some z=>w8 (gC z) (.one (.ptr 0 0))
 | none=>none
def Gf (x : RV) : Option PR:=match mR x with
 | some l=>w8 (gC l) (.one (.ptr 0 0))
 | none=>none
def Dz (v : RV) : Option RV:=match v with
 | .one (.fn f a b c)=>some (.one (.fn f a b c))
 | _=>none
def FY (v : RV) : Option RV:=onO v.asPtr (Dz v) fun _=>some v
def unV (f : Value→Sem Value) (x : RV) : Option RV:=match vOf x with
 | some v=>(match gv P (f v) with
  | some w=>ofV w
  | none=>none)
 | none=>none
def FW (x : RV) (slow : Option RV) : Option RV:=onO x.asBool slow fun b=>bB (not b)
def AM (f : FuncId) (n : Nat) (l : List RV) : Option RV:=match za l with
 | some p=>some (.one (.fn f p.1 n p.2))
 | none=>none
def p8 (x : RV) (i : Nat) : Option RV:=match x with
 | .tup l=>(match l[i]? with
  | some p=>mN p.1 p.2
  | none=>none)
 | _=>none
def D5 (f : Array Value→Sem Value) (l : List RV) : Option RV:=match Er l with
 | some vs=>(match gv P (f vs.toArray) with
  | some w=>ofV w
  | none=>none)
 | none=>none
inductive RK where
 | m (x : Operand)
 | v (f : Ev→Option RV)
 | r (x : Operand) (f : Option RO→Ev→Option RV)
 | b (f : Ev→Option PR)
 | store (n : Option Nat) (a x : Operand)
 | mapUpd (t : TypeId) (m k v : Operand)
 | append (n : Option Nat) (b x : Operand)
 | copy (n : Option Nat) (b x : Operand)
 | clear (t : TypeId) (x : Operand)
 | delete (t : TypeId) (x k : Operand)
 | call (g : Operand) (args : List Operand)
 | no
def mm (t : TypeId) : Option Nat:=match dF P t with
 | some e=>(match cY P e,fP P e with
  | some n,some z=>cond (Nat.ble 1 n && Nat.beq z.length n) (some n) none
  | _,_=>none)
 | none=>none
def yq (t : TypeId) : Bool:=match dF P t with
 | some _=>true
 | none=>false
def FR (x : RV) : Option Nat:=match x with
 | .one (.sc (.slice none 0 0))=>some 0
 | .one (.sl _ _ _ (some k) _)=>some k
 | _=>none
def Bt (t : TypeId) : Option (List RC):=match dF P t with
 | some e=>fP P e
 | none=>none
def AK (es : Option Nat) (z : Option (List RC)) (x : RV) (n : Option Nat) : Option PR:=match es,z,x,n with
 | some es,some z,.one (.sc (.slice none 0 0)),some n=>cond (Nat.ble 1 n && Nat.ble n 1000000) (w8 (gC (List.replicate n z).flatten) (.one (.sl 0 0 n none es))) none
 | _,_,_,_=>none
def kR (t : TypeId) : Bool:=match P.underlying t with
 | some (.int .i64)=>true
 | _=>false
def lh (ty : TypeId) (b : Builtin) (args : List Operand) (ts : Array TypeId) : RK:=match b,args,ts.toList with
 | .len,[x],[t]=>(match DI P t with
  | .map=>.r x fun o ev=>tu (xA o (ev x))
  | k=>.v fun ev=>tu (GM k (ev x)))
 | .min,l,_=>.v fun ev=>D5 P (Builtin.min_ ts ty) (l.map ev)
 | .max,l,_=>.v fun ev=>D5 P (Builtin.max_ ts ty) (l.map ev)
 | .append,[b,x],[t,t']=>cond (decide (t=t')) (.append (mm P t) b x) (cond (kR P t') (.b fun ev=>AK (mm P t) (Bt P t) (ev b) (ixN (ev x))) .no)
 | .copy,[b,x],[t,t']=>cond (decide (t=t')) (.copy (mm P t) b x) .no
 | .clear,[x],[t]=>.clear t x
 | .delete,[x,k],[t,_]=>.delete t x k
 | .cap,[x],[t]=>cond (yq P t) (.v fun ev=>tu (FR (ev x))) .no
 | _,_,_=>.no
def pU (op : BinOp) (xt : TypeId) (x y : Operand) : RK:=match yi op with
 | some f=>.v fun ev=>we f (ev x) (ev y) (C6 P op xt x y (ev x) (ev y))
 | none=>.v fun ev=>C6 P op xt x y (ev x) (ev y)
def v7 (op : UnOp) (x : Operand) : RK:=match op with
 | .not=>.v fun ev=>FW (ev x) (unV P (Op.unary .not) (ev x))
 | op=>.v fun ev=>unV P (Op.unary op) (ev x)
def lR (a b : TypeId) : Bool:=match P.underlying a,dF P b with
 | some .string,some e=>(match P.underlying e with
  | some (.int .u8)=>true
  | _=>false)
 | _,_=>false
def EO (b : UInt8) : RC:=.int .u8 (.ofNat b.toNat)
def xn (x : RV) : Option PR:=match vOf x with
 | some (.string s)=>cond (Nat.ble s.data.toList.length 100000) (match eS (s.data.toList.map EO) 0 .nil with
  | some t=>some (.new (.ro t s.data.toList.length) (.one (.sl 0 0 s.data.toList.length none 1)))
  | none=>none) none
 | _=>none
def kT (a b : TypeId) (x : Operand) : RK:=cond (lR P a b) (.b fun ev=>xn (ev x)) (.v fun ev=>unV P (convert a b) (ev x))
def rk (o : Oper) : RK:=match o.op with
 | .move x=>.m x
 | .assign x=>.m x
 | .pick c a b=>.v fun ev=>Fg (ev c) (ev a) (ev b)
 | .alloc t=>.b fun _=>vO P t
 | .box _ x=>.b fun ev=>Gf (ev x)
 | .build t parts=>.v fun ev=>vY P t parts.toList ev
 | .buildSlice t n parts=>.b fun ev=>jr P t n parts.toList ev
 | .load t a=>.r a fun o ev=>o4 o (ldT P t) (ev a)
 | .nilCheck x=>.v fun ev=>FY (ev x)
 | .binOp op xt x y _=>pU P op xt x y
 | .unOp op _ x=>v7 P op x
 | .convert a b x=>kT P a b x
 | .makeFunc (.func f) first caps=>.v fun ev=>AM f first.size (first.toList.map ev++caps.toList.map ev)
 | .makeMap _ none=>.b fun _=>some (.new (.map []) (.one (.mp 0)))
 | .makeSlice t n c=>.b fun ev=>AL P t (ixN (ev n)) (ixN (ev c))
 | .slice t x lo hi mx=>.v fun ev=>xf P t (ev x) (lo.map ev) (hi.map ev) (mx.map ev)
 | .fieldAddr t x f=>.v fun ev=>pF (jy P t f) (ev x)
 | .field t x f=>.v fun ev=>wM (jy P t f) (ev x)
 | .indexAddr t x ix=>.v fun ev=>lj (zo P t) (ev x) (ixN (ev ix))
 | .index t x ix=>.v fun ev=>wL P t (ev x) (ev ix)
 | .lookup t x ix ok=>.r x fun o ev=>tJ P o t (ev x) (ev ix) ok
 | .extract x i=>.v fun ev=>p8 (ev x) i
 | .store t a x=>.store (cY P t) a x
 | .mapUpdate t m k v=>.mapUpd t m k v
 | .call { callee:=.builtin b,args,argTypes }=>lh P o.type b args.toList argTypes
 | .call { callee:=.value g,args,.. }=>.call g args.toList
 | _=>.no
end
end
end Go.Rx

/-
 An evaluator for calls without arguments: operations that write, regions, bodies, calls.
-/
namespace Go.Rx
noncomputable section
open Go.Vm
abbrev Call1:=Nat→List RV→RS→Option (RV×RS)
section
variable (P : Program) (call : Call1)
def gp (s : RS) (b : Nat) (o : RO) : Option RS:=Tr.putK o none deep s.H b fun H=>some { H:=H,nx:=s.nx }
def vj {R : Type} (s : RS) (b : Nat) (no r : R) : R:=Option.rec (motive:=fun _=>R) r (fun _=>no) (s.H.get b)
def tl (s : RS) (o : RO) : Option RS:=m6 s.nx fun b=>vj s b none (Tr.putK o none deep s.H b fun H=>some { H:=H,nx:=Nat.succ b })
def Al (s : RS) (b n : Nat) (t : Option (Tr RC)) : Option RS:=match t with
 | some t=>gp s b (.cells t n)
 | none=>none
def vi (s : RS) (n : Nat) (t : Option (Tr RC)) : Option RS:=match t with
 | some t=>tl s (.cells t n)
 | none=>none
def G3 (c : List RC) (n b off : Nat) (s : RS) (p : Option (Tr RC×Nat)) : Option RS :=
 onO p none fun p=>cond (Nat.beq c.length n && Nat.ble (Nat.add off n) p.2) (Al s b p.2 (eS c off p.1)) none
def wm (n : Option Nat) (a x : RV) (s : RS) : Option RS :=
 onO n none fun n=>onO a.asPtr none fun a=>onO (mR x) none fun c=>G3 c n a.1 a.2 s (onO (s.H.get a.1) none RO.asC)
def cf (s : RS) (x : RV) : Option (List RC×Nat):=match x with
 | .one (.sc (.slice none 0 0))=>some ([],0)
 | .one (.emp _ _)=>some ([],0)
 | .one (.sl b off len _ es)=>(match pg (ko (s.H.get b)) off (Nat.mul len es) with
  | some c=>some (c,len)
  | none=>none)
 | _=>none
def nA (nx n es : Nat) (s : Option RS) : Option (RV×RS):=match s with
 | some s'=>m6 nx fun nx=>m6 n fun n=>some (.one (.sl nx 0 n none es),s')
 | none=>none
def kill (s : RS) (b : Nat) (K : RS→Option RS) : Option RS:=match gp s b .dead with
 | some s1=>K s1
 | none=>none
def tn (c : List RC) (n es : Nat) (s : RS) : Option (RV×RS):=nA s.nx n es (vi s (Nat.mul n es) (eS c 0 .nil))
def C4 (c : List RC) (b n es : Nat) (s : RS) : Option (RV×RS):=nA s.nx n es (kill s b fun s1=>vi s1 (Nat.mul n es) (eS c 0 .nil))
def CB (t : Tr RC) (off m : Nat) : Option (Tr RC):=match off with
 | 0=>some t
 | off=>(match qw t off m with
  | some l=>eS l 0 .nil
  | none=>none)
def Eo (t : Option (Tr RC)) (c : List RC) (m : Nat) : Option (Tr RC):=match t with
 | some t=>eS c m t
 | none=>none
def BW (b off len k es : Nat) (s : Option RS) : Option (RV×RS):=match s with
 | some s'=>m6 len fun len=>some (.one (.sl b off len (some k) es),s')
 | none=>none
def EP (c : List RC) (n b off len : Nat) (cap : Option Nat) (es : Nat) (t : Tr RC) (m : Nat) (s : RS) : Option (RV×RS):=match cap with
 | some k=>cond (Nat.ble (Nat.add len n) k)
  (cond (Nat.ble (Nat.add off (Nat.mul (Nat.add len n) es)) m) (BW b off (Nat.add len n) k es (Al s b m (eS c (Nat.add off (Nat.mul len es)) t))) none)
  (cond (Nat.ble (Nat.add off (Nat.mul len es)) m) (nA s.nx (Nat.add len n) es (vi s (Nat.mul (Nat.add len n) es) (Eo (CB t off (Nat.mul len es)) c (Nat.mul len es)))) none)
 | none=>cond (Nat.ble (Nat.add off (Nat.mul len es)) m) (nA s.nx (Nat.add len n) es (kill s b fun s1=>vi s1 (Nat.mul (Nat.add len n) es) (Eo (CB t off (Nat.mul len es)) c (Nat.mul len es)))) none
def pb (es : Nat) (x : RV) (c : List RC) (n : Nat) (s : RS) : Option (RV×RS):=match x with
 | .one (.sc (.slice none 0 0))=>tn c n es s
 | .one (.sl b off len cap es')=>cond (Nat.beq es es') (match s.H.get b with
  | some (.cells t m)=>EP c n b off len cap es t m s
  | _=>none) none
 | .one (.emp b es')=>cond (Nat.beq es es') (match s.H.get b with
  | some (.cells _ _)=>C4 c b n es s
  | _=>none) none
 | _=>none
def EV (n : Nat) (x : RV) : Bool:=onO (pv x) false fun m=>Nat.ble (Nat.add m n) 1000000
def tQ (es : Nat) (x : RV) (c : List RC) (n : Nat) (s : RS) : Option (RV×RS):=cond (EV n x) (match n with
 | 0=>some (x,s)
 | n=>pb es x c n s) none
def sA (es : Option Nat) (x y : RV) (s : RS) : Option (RV×RS):=match es,cf s y with
 | some es,some (c,n)=>cond (Nat.beq (zy c) (Nat.mul n es)) (tQ es x c n s) none
 | _,_=>none
def CG (n : Nat) (s : Option RS) : Option (RV×RS):=match s,tu (some n) with
 | some s,some v=>some (v,s)
 | _,_=>none
def Be (e : Option Nat) (x y : RV) (s : RS) : Option (RV×RS):=match e,x,cf s y with
 | some e,.one (.sl b off len _ es),some (c,n)=>cond (Nat.beq e es && Nat.beq (zy c) (Nat.mul n es)) (match s.H.get b,tk (Nat.mul (min len n) es) c with
  | some (.cells t m),some c'=>cond (Nat.ble (Nat.add off (Nat.mul (min len n) es)) m) (CG (min len n) (Al s b m (eS c' off t))) none
  | _,_=>none) none
 | some _,.one (.sc (.slice none 0 0)),some _=>CG 0 (some s)
 | some _,.one (.emp _ _),some _=>CG 0 (some s)
 | _,_,_=>none
def w5 (t : TypeId) (x : RV) (s : RS) : Option RS:=match P.underlying t,x with
 | some (.slice e),.one (.sl b off len _ es)=>(match s.H.get b,fP P e with
  | some (.cells l m),some z=>cond (Nat.beq z.length es && Nat.ble (Nat.add off (Nat.mul len es)) m) (Al s b m (eS (List.replicate len z).flatten off l)) none
  | _,_=>none)
 | some (.slice _),.one (.sc (.slice none 0 0))=>some s
 | some (.map _ _),.one (.mp b)=>(match s.H.get b with
  | some (.map _)=>gp s b (.map [])
  | _=>none)
 | _,_=>none
def GQ (k : Value) : Bool:=match ofV k with
 | some _=>true
 | none=>false
def E7 (e : Option (Value×(Bool×List RC))) (k : Value) : Option Value:=match e with
 | some e=>(match gv P (Instr.keyThatStays e.1 k) with
  | some k'=>cond (GQ k') (some k') none
  | none=>none)
 | none=>none
def AT (i : Option (Option Nat)) (k : Value) (c : Bool×List RC) (es : Ents) : Option Ents:=match i with
 | some none=>some (es++[(k,c)])
 | some (some i)=>(match E7 P es[i]? k with
  | some k'=>some (es.set i (k',c))
  | none=>none)
 | none=>none
def Fw (s : RS) (b : Nat) (es : Option Ents) : Option RS:=match es with
 | some es=>gp s b (.map es)
 | none=>none
def vS (v : RV) : Option (Bool×List RC):=match v with
 | .one c=>some (false,[c])
 | .agg l=>some (true,l)
 | _=>none
def kP (t : TypeId) (x key v : RV) (s : RS) : Option RS:=match P.underlying t,x,vOf key with
 | some (.map kt _),.one (.mp b),some k=>(match s.H.get b,vS v with
  | some (.map es),some c=>Fw s b (AT P (Bh P false kt k es) k c es)
  | _,_=>none)
 | _,_,_=>none
def tH (t : TypeId) (x key : RV) (s : RS) : Option RS:=match P.underlying t,x,vOf key with
 | some (.map kt _),.one (.mp b),some k=>(match s.H.get b with
  | some (.map es)=>(match Bh P es.isEmpty kt k es with
   | some none=>some s
   | some (some i)=>gp s b (.map (es.eraseIdx i))
   | none=>none)
  | _=>none)
 | _,_,_=>none
def Dg (s : Option RS) : Option (RV×RS):=Option.rec (motive:=fun _=>Option (RV×RS)) none (fun s'=>some (.unk,s')) s
def pL (s : Option RS) : Option (RV×RS):=Option.rec (motive:=fun _=>Option (RV×RS)) none (fun s'=>some (rundef,s')) s
def um (f k : Nat) (l : Option (List RV)) (args : List RV) (s : RS) : Option (RV×RS):=match l with
 | some l=>call f (l.take k++args++l.drop k) s
 | none=>none
def Dd (v : RV) (args : List RV) (s : RS) : Option (RV×RS):=match v with
 | .one (.fn f sh k cells)=>um call f k (sZ sh cells) args s
 | _=>none
def rc (k : RK) (ev : Ev) (s : RS) : Option (RV×RS):=match k with
 | .store n a x=>Dg (wm n (ev a) (ev x) s)
 | .mapUpd t m k v=>Dg (kP P t (ev m) (ev k) (ev v) s)
 | .append n b x=>sA n (ev b) (ev x) s
 | .copy n b x=>Be n (ev b) (ev x) s
 | .clear t x=>pL (w5 P t (ev x) s)
 | .delete t x k=>pL (tH P t (ev x) (ev k) s)
 | .call g args=>Dd call (ev g) (args.map ev) s
 | _=>none
def cN (ops : List Oper) (j : Nat) : Option Nat:=match ops[j]? with
 | some o=>o.dst
 | none=>none
def jF (all : List Oper) : Option (Nat×Bool)→Option (Option (Nat×Bool))
 | none=>some none
 | some (j,want)=>match cN all j with
  | some d=>some (some (d,want))
  | none=>none
inductive Out where
 | no
 | go (e : REnv) (s : RS)
 | exit (i : Nat) (e : REnv) (s : RS)
 | ret (e : REnv) (s : RS)
section
variable (GL : List Nat) (msk : Nat)
structure Put1 where
 run : RV→REnv→Lc→(REnv→Lc→Out)→Out
def gz (dst : Option Nat) : Put1:=match dst with
 | none=>⟨fun _ e l K=>K e l⟩
 | some d=>cond (cP msk d) ⟨fun v e l K=>sU v fun v=>Tr.putK v .no deep e d fun e'=>K e' l⟩ ⟨fun v e l K=>sU v fun v=>K e (.cons d v l)⟩
structure Note where
 i : Nat
 rd : Option Nat
 nw : Option Nat
abbrev Notes:=List Note
structure PE where
 i : Nat
 tk : Bool
 un : List Nat
abbrev Plan:=List PE
def inL (l : List Nat) (i : Nat) : Bool:=List.rec (motive:=fun _=>Bool) false (fun a _ ih=>cond (Nat.beq a i) true ih) l
def nI (b : Option Nat) (made : Bool) (s : Option RS) : Option RS:=match s,b with
 | some s,some b=>cond made (gp s b .dead) (match s.H.get b with
  | some (.cells t m)=>gp s b (.ro t m)
  | some (.map _)=>gp s b .dead
  | _=>some s)
 | s,_=>s
def eG (un : List Nat) (s : RS) : Notes→Option RS
 | []=>some s
 | n :: r=>cond (inL un n.i) (nI n.nw true (nI n.rd false (eG un s r))) (eG un s r)
def je (b : Option Nat) (s0 : RS) (s : Option RS) : Option RS:=match s,b with
 | some s,some b=>(match s0.H.get b with
  | some o=>gp s b o
  | none=>some s)
 | s,_=>s
def eu (un : List Nat) (s0 s : RS) : Notes→Option RS
 | []=>some s
 | n :: r=>cond (inL un n.i) (je n.nw s0 (je n.rd s0 (eu un s0 s r))) (eu un s0 s r)
def Fc (un : List Nat) (ns : Notes) (s0 : RS) (r : Option (RV×RS)) : Option (RV×RS):=match r with
 | some (v,s')=>(match eu un s0 s' ns with
  | some s2=>some (v,s2)
  | none=>none)
 | none=>none
def rcU (call : Call1) (un : List Nat) (k : RK) (ev : Ev) (s : RS) (ns : Notes) : Option (RV×RS):=match eG un s ns with
 | some s1=>Fc un ns s (rc P call k ev s1)
 | none=>none
abbrev K1:=REnv→Lc→RS→Notes→Out
def pd (tk : Bool) (n : Note) (ns : Notes) : Notes:=cond tk (n :: ns) ns
def zP (pe : PE) (dst : Option Nat) (pr : Option PR) (e : REnv) (l : Lc) (s : RS) (ns : Notes) (K : K1) : Out:=match pr with
 | some (.new o v)=>m6 s.nx fun b=>vj s b .no (Tr.putK o .no deep s.H b fun H=>(gz msk dst).run (v.at b) e l fun e' l'=>K e' l' { H:=H,nx:=Nat.succ b } (pd pe.tk ⟨pe.i,none,some b⟩ ns))
 | _=>.no
def vD (dst : Option Nat) (v : Option RV) (e : REnv) (l : Lc) (s : RS) (ns : Notes) (K : K1) : Out :=
 Option.rec (motive:=fun _=>Out) .no (fun v=>(gz msk dst).run v e l fun e' l'=>K e' l' s ns) v
def xC (dst : Option Nat) (pr : Option (RV×RS)) (e : REnv) (l : Lc) (ns : Notes) (K : K1) : Out:=match pr with
 | some (v,s')=>(gz msk dst).run v e l fun e' l'=>K e' l' s' ns
 | none=>.no
structure Step where
 run : Call1→REnv→Lc→RS→Notes→K1→Out
def mkW (k : RK) (pe : PE) (dst : Option Nat) : Step:=match pe.un with
 | []=>⟨fun call e l s ns K=>xC msk dst (rc P call k (rev GL msk e l) s) e l ns K⟩
 | a :: r=>⟨fun call e l s ns K=>xC msk dst (rcU P call (a :: r) k (rev GL msk e l) s ns) e l ns K⟩
def jf (k : RK) (pe : PE) (dst : Option Nat) : Step:=match k with
 | .m x=>⟨fun _ e l s ns K=>(gz msk dst).run (rev GL msk e l x) e l fun e' l'=>K e' l' s ns⟩
 | .v f=>⟨fun _ e l s ns K=>vD msk dst (f (rev GL msk e l)) e l s ns K⟩
 | .r x f=>⟨fun _ e l s ns K=>vD msk dst (f (blk s.H.get (rev GL msk e l x)) (rev GL msk e l)) e l s (pd pe.tk ⟨pe.i,(rev GL msk e l x).asBlk,none⟩ ns) K⟩
 | .b f=>⟨fun _ e l s ns K=>zP msk pe dst (f (rev GL msk e l)) e l s ns K⟩
 | k=>mkW P GL msk k pe dst
def xh (v : RV) (skip : Out) : Out:=match v with
 | .tup []=>skip
 | _=>.no
def iy (v : RV) (want : Bool) (run skip : Out) : Out:=onO v.asBool (xh v skip) fun b=>cond b (cond want run skip) (cond want skip run)
def yP (g : Option (Nat×Bool)) (dst : Option Nat) (st : Step) : Step:=match g with
 | none=>st
 | some (d,want)=>⟨fun call e l s ns K=>iy (egt msk e l d) want (st.run call e l s ns K) ((gz msk dst).run rundef e l fun e' l'=>K e' l' s ns)⟩
structure Reg where
 run : Call1→REnv→Lc→RS→Notes→Out
def EG : Reg:=⟨fun _ _ _ _ _=>.no⟩
def G6 (o : Oper) (g : Option (Nat×Bool)) (pe : PE) (next : Reg) : Reg:=⟨fun call e l s ns=>(yP msk g o.dst (jf P GL msk (rk P o) pe o.dst)).run call e l s ns (next.run call)⟩
def zE (all : List Oper) (pe : PE) (next : Reg) : Reg:=match all[pe.i]? with
 | some o=>(match jF all o.guard with
  | some g=>G6 P GL msk o g pe next
  | none=>EG)
 | none=>EG
def dy (all : List Oper) (pl : Plan) : Reg:=List.rec (motive:=fun _=>Reg) ⟨fun _ e _ s _=>.go e s⟩ (fun pe _ ih=>zE P GL msk all pe ih) pl
def fQ : Nat→List Oper→Plan
 | _,[]=>[]
 | k,_ :: r=>⟨k,false,[]⟩ :: fQ (Nat.succ k) r
abbrev o9:=List (Nat×Plan)
def mI (ps : o9) (id : Nat) (ops : List Oper) : Plan:=List.rec (motive:=fun _=>Plan) (fQ 0 ops) (fun p _ ih=>cond (Nat.beq p.1 id) p.2 ih) ps
def rQ (f : REnv→RS→Out) (n : Nat) : REnv→RS→Out :=
 Nat.rec (motive:=fun _=>REnv→RS→Out) (fun _ _=>.no) (fun _ ih e s=>Out.rec (motive:=fun _=>Out) .no (fun e' s'=>ih e' s') .exit .ret (f e s)) n
def Cw (v : RV) (a b : Out) : Out:=onO v.asBool .no fun t=>cond t a b
def C2 (id : Nat) (o : Out) : Out:=Out.rec (motive:=fun _=>Out) .no .go (fun i e s=>cond (Nat.beq i id) (.go e s) (.exit i e s)) .ret o
def Eb (o : Out) (f : REnv→RS→Out) : Out:=Out.rec (motive:=fun _=>Out) .no (fun e s=>f e s) .exit .ret o
def wh : List Nat:=[50,51,52,53,54,55,16,56,57,58,59,60,61,62,63]
def CU (c : RC) : Option Int:=match c with
 | .nat m=>some (.ofNat m)
 | .int .i64 n=>some n
 | _=>none
def vN : Ents→Option (Option Int)
 | []=>some none
 | (_,(false,[c])) :: r=>match CU c,vN r with
  | some n,some none=>some (some n)
  | some n,some (some m)=>some (some (cond (decide (n≤m)) n m))
  | _,_=>none
 | _=>none
def putK (v : RV) (d : Nat) (e : Option REnv) : Option REnv:=cond (cP msk d) (match e with
 | some e=>Tr.put e d v
 | none=>none) e
def pf (l : List Nat) (e : Option REnv) : Option REnv:=List.rec (motive:=fun _=>Option REnv) e (fun d _ ih=>putK msk .unk d ih) l
def CA (c : RC) (e : REnv) (s : RS) : Out:=match putK msk (.one c) 13 (putK msk (.one (.bool true)) 14 (pf msk wh (some e))) with
 | some e'=>.go e' s
 | none=>.no
def Cj (o : Option RO) : Option RC:=match o with
 | some (.map es)=>(match vN es with
  | some (some n)=>vh .i64 n
  | _=>none)
 | _=>none
def mw (e : REnv) (s : RS) : Out:=match egt msk e .nil 11,egt msk e .nil 13,egt msk e .nil 14 with
 | .one (.mp b),.one (.nat _),.one (.bool false)=>(match Cj (s.H.get b) with
  | some c=>CA msk c e s
  | none=>.no)
 | _,_,_=>.no
def ut (mn : List Nat) (c : Code) : Bool:=match c with
 | .region id _ _=>inL mn id
 | _=>false
structure CS where
 run : Call1→REnv→RS→Out
def mkC (mn : List Nat) (ps : o9) (fuel : Nat) (c : Code) : CS :=
 Code.rec (motive:=fun _=>CS)
  ⟨fun _ e s=>.go e s⟩
  (fun id ops _=>⟨fun call e s=>(dy P GL msk ops.toList (mI ps id ops.toList)).run call e .nil s []⟩)
  (fun a _ ra rb=>cond (ut mn a) ⟨fun _ e s=>mw msk e s⟩ ⟨fun call e s=>Eb (ra.run call e s) (rb.run call)⟩)
  (fun c _ _ ra rb=>⟨fun call e s=>Cw (rev GL msk e .nil c) (ra.run call e s) (rb.run call e s)⟩)
  (fun id _ r=>⟨fun call e s=>C2 id (r.run call e s)⟩)
  (fun _ r=>⟨fun call e s=>rQ (r.run call) fuel e s⟩)
  (fun _ _ _ _ _ _=>⟨fun _ _ _=>.no⟩)
  (fun i=>⟨fun _ e s=>.exit i e s⟩)
  (fun _ r=>⟨fun call e s=>r.run call e s⟩)
  (fun _=>⟨fun _ e s=>.go e s⟩)
  (fun _=>⟨fun _ _ _=>.no⟩)
  ⟨fun _ e s=>.ret e s⟩
  (fun _=>⟨fun _ _ _=>.no⟩) c
def uT : Nat→List RV→REnv→Option REnv
 | _,[],e=>some e
 | i,v :: r,e=>cond (cP msk i) (sU v fun v=>Tr.putK v none deep e i fun e'=>uT (Nat.succ i) r e') (uT (Nat.succ i) r e)
def EB (e : REnv) (s : RS) : ResultVar→Option RV
 | .tmp t=>some (egt msk e .nil t)
 | .cell t τ=>o4 (blk s.H.get (egt msk e .nil t)) (ldT P τ) (egt msk e .nil t)
def gH (e : REnv) (s : RS) : List ResultVar→Option (List RV)
 | []=>some []
 | r :: l=>match EB P msk e s r,gH e s l with
  | some v,some vs=>some (v :: vs)
  | _,_=>none
def DB : List RV→Option (List (Bool×List RC))
 | []=>some []
 | v :: r=>match v,DB r with
  | .one c,some q=>some ((false,[c]) :: q)
  | .agg c,some q=>some ((true,c) :: q)
  | _,_=>none
def Da (l : List RV) : Option RV:=match l with
 | [v]=>some v
 | l=>match DB l with
  | some q=>some (.tup q)
  | none=>none
def x8 (vs : Option (List RV)) (s : RS) : Option (RV×RS):=match vs with
 | some vs=>(match Da vs with
  | some v=>some (v,s)
  | none=>none)
 | none=>none
def H1 (rs : List ResultVar) (o : Out) : Option (RV×RS):=match o with
 | .go e s=>x8 (gH P msk e s rs) s
 | .ret e s=>x8 (gH P msk e s rs) s
 | _=>none
end
end
def FX (c : RC) : Option Int:=match c with
 | .nat m=>some (.ofNat m)
 | .int .i64 n=>some n
 | _=>none
def xe : List RC→Option (List Int)
 | []=>some []
 | c :: r=>match FX c,xe r with
  | some n,some l=>some (n :: l)
  | _,_=>none
def IC (s : RS) (p : Option (List RC×Nat)) : Option (RV×RS):=match p with
 | some ([],n)=>cond (Nat.beq n 0) (some (.one (.sc (.slice none 0 0)),s)) none
 | some (c,n)=>cond (Nat.beq c.length n && Nat.ble n 1000000 && (xe c).isSome) (tn c n 1 s) none
 | none=>none
def lg (it : Nat) (args : List RV) (s : RS) : Option (RV×RS):=match args with
 | [.one (.sc (.slice none 0 0)),.one (.fn f [(false,1)] 0 [.ptr b 0])]=>cond (Nat.beq f it) (match pg (ko (s.H.get b)) 0 1 with
  | some [x]=>IC s (cf s (.one x))
  | _=>none) none
 | _=>none
def isCells (o : Option RO) : Bool:=match o with
 | some (.cells _ _)=>true
 | _=>false
def GN (x y : RV) (l : List RC) (n : Nat) (s : RS) : Option (RV×RS):=match x,y with
 | .one (.sl b _ _ _ 1),.one (.sl b' _ _ _ 1)=>cond (!(Nat.beq b b') && isCells (s.H.get b) && isCells (s.H.get b')) (nA s.nx n 1 (kill s b fun s1=>kill s1 b' fun s2=>vi s2 n (eS l 0 .nil))) none
 | .one (.sc (.slice none 0 0)),.one (.sl b' _ _ _ 1)=>cond (isCells (s.H.get b')) (nA s.nx n 1 (kill s b' fun s2=>vi s2 n (eS l 0 .nil))) none
 | _,_=>none
def Gt (x y : RV) (i : Option Nat) (a b : Option (List RC×Nat)) (s : RS) : Option (RV×RS):=match i,a,b with
 | some i,some (c,n),some (c',n')=>cond (Nat.ble i n && Nat.beq c.length n && Nat.beq c'.length n' && Nat.ble 1 n' && Nat.ble (Nat.add n n') 1000000 && (xe c).isSome && (xe c').isSome)
   (GN x y (c.take i++c'++c.drop i) (Nat.add n n') s) none
 | _,_,_=>none
def DQ (args : List RV) (s : RS) : Option (RV×RS):=match args with
 | [x,i,y]=>Gt x y i.asNat (cf s x) (cf s y) s
 | _=>none
inductive XF where
 | appendSeq (it : Nat)
 | insert
def G2 (x : XF) (args : List RV) (s : RS) : Option (RV×RS):=match x with
 | .appendSeq it=>lg it args s
 | .insert=>DQ args s
abbrev XTab:=List (Nat×XF)
def XTab.find : XTab→Nat→Option XF
 | [],_=>none
 | p :: r,f=>cond (Nat.beq p.1 f) (some p.2) (XTab.find r f)
structure FP where
 msk : Nat
 plans : o9
 mn : List Nat
abbrev FPs:=List (Nat×FP)
def FPs.get (l : FPs) (f : Nat) : Option FP:=List.rec (motive:=fun _=>Option FP) none (fun p _ ih=>cond (Nat.beq p.1 f) (some p.2) ih) l
def AW (P : Program) (GL : List Nat) (lf : Nat) (fp : FP) (call : Call1) (rs : List ResultVar) (c : Code) (e : Option REnv) (s : RS) : Option (RV×RS):=match e with
 | some e=>H1 P fp.msk rs ((mkC P GL fp.msk fp.mn fp.plans lf c).run call e s)
 | none=>none
def EQ (P : Program) (GL : List Nat) (lf : Nat) (fp : Option FP) (call : Call1) (fn : Option Func) (args : List RV) (s : RS) : Option (RV×RS):=match fn,fp with
 | some fn,some fp=>(match fn.body with
  | some c=>AW P GL lf fp call fn.results.toList c (uT fp.msk 0 args .nil) s
  | none=>none)
 | _,_=>none
def vR (P : Program) (GL : List Nat) (X : Option XF) (lf : Nat) (fp : Option FP) (call : Call1) (fn : Option Func) (args : List RV) (s : RS) : Option (RV×RS):=match X with
 | some x=>G2 x args s
 | none=>EQ P GL lf fp call fn args s
def xR (P : Program) (GL : List Nat) (X : XTab) (M : FPs) (lf : Nat) (n : Nat) : Call1 :=
 Nat.rec (motive:=fun _=>Call1) (fun _ _ _=>none) (fun _ ih f args s=>vR P GL (X.find f) lf (M.get f) ih P.funcs[f]? args s) n
def rX (r : Option (RV×RS)) : Bool:=match r with
 | some (.one (.bool true),_)=>true
 | _=>false
end
end Go.Rx

