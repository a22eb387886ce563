/-
 Tables by number; a closed call is run: what is reckoned.
-/
import Derived.Test.YtgdkanecejfeiaaGreatDoorSVmA
open List renaming replicate→A6,zip→NK
open Nat renaming beq→A8,ble→Lh,mul→LZ,add→Mg,mod_lt→MU,div→N7,mod→OQ,sub→OR
set_option linter.unusedVariables false
set_option linter.unusedSimpArgs false
/-
 Tables by number that the kernel reads and writes quickly.
-/
namespace Go.Rx
inductive Tr (α : Type) where
 | nil
 | node (x:Option α) (a b c d:Tr α)
noncomputable section
variable {α : Type}
def n9 {β : Type} (a b c d : β) (r:Nat) : β :=
 Nat.rec (motive:=fun _=>β) a (fun j _=>Nat.rec (motive:=fun _=>β) b (fun j _=>Nat.rec (motive:=fun _=>β) c (fun _ _=>d) j) j) r
def Tr.get (t:Tr α):Nat→Option α :=
 Tr.rec (motive:=fun _=>Nat→Option α) (fun _=>none)
  (fun x _ _ _ _ ga gb gc gd i=>Nat.rec (motive:=fun _=>Option α) x (fun k _=>n9 ga gb gc gd (OQ k 4) (N7 k 4)) i) t
section
variable {R:Type} (ih:Tr α→Nat→(Tr α→R)→R) (x:Option α) (a b c d:Tr α) (q:Nat) (K:Tr α→R)
def Ks:R:=ih a q fun u=>K (.node x u b c d)
def nJ:R:=ih b q fun u=>K (.node x a u c d)
def CL:R:=ih c q fun u=>K (.node x a b u d)
def KV:R:=ih d q fun u=>K (.node x a b c u)
def J5 (k:Nat):R:=n9 (Ks ih x a b c d (N7 k 4) K) (nJ ih x a b c d (N7 k 4) K) (CL ih x a b c d (N7 k 4) K) (KV ih x a b c d (N7 k 4) K) (OQ k 4)
end
def Tr.putK {R:Type} (v : α) (no:R) (d:Nat):Tr α→Nat→(Tr α→R)→R :=
 Nat.rec (motive:=fun _=>Tr α→Nat→(Tr α→R)→R) (fun _ _ _=>no)
  (fun _ ih t i K=>Tr.rec (motive:=fun _=>R)
   (Nat.rec (motive:=fun _=>R) (K (.node (some v) .nil .nil .nil .nil)) (fun k _=>J5 ih none .nil .nil .nil .nil K k) i)
   (fun x a b c d _ _ _ _=>Nat.rec (motive:=fun _=>R) (K (.node (some v) a b c d)) (fun k _=>J5 ih x a b c d K k) i) t) d
def deep:Nat:=20
def Tr.put (t:Tr α) (i:Nat) (v : α):Option (Tr α):=Tr.putK v none deep t i some
theorem eY {β : Type} (a b c d : β) (r:Nat):n9 a b c d r=match r with | 0=>a | 1=>b | 2=>c | _=>d:=by
 match r with
 | 0=>rfl
 | 1=>rfl
 | 2=>rfl
 | _+3=>rfl
theorem D4 {β γ : Type} (g : β→γ) (a b c d : β) (r:Nat):n9 (g a) (g b) (g c) (g d) r=g (n9 a b c d r):=by
 match r with
 | 0=>rfl
 | 1=>rfl
 | 2=>rfl
 | _+3=>rfl
theorem Tr.get_nil (i:Nat):(Tr.nil:Tr α).get i=none:=rfl
theorem Tr.get_zero (x:Option α) (a b c d:Tr α):(Tr.node x a b c d).get 0=x:=rfl
theorem Tr.get_succ (x:Option α) (a b c d:Tr α) (k:Nat):(Tr.node x a b c d).get (k+1)=(n9 a b c d (k % 4)).get (k / 4):=by
 show n9 a.get b.get c.get d.get (k % 4) (k / 4)=_
 rw [D4]
theorem Tr.putK_nil_zero {R:Type} (v : α) (no:R) (d:Nat) (K:Tr α→R):Tr.putK v no (d+1) .nil 0 K=K (.node (some v) .nil .nil .nil .nil):=rfl
theorem Tr.putK_node_zero {R:Type} (v : α) (no:R) (n:Nat) (x:Option α) (a b c d:Tr α) (K:Tr α→R):Tr.putK v no (n+1) (.node x a b c d) 0 K=K (.node (some v) a b c d):=rfl
def Tr.with (x:Option α) (a b c d:Tr α) (r:Nat) (u:Tr α):Tr α:=match r with
 | 0=>.node x u b c d
 | 1=>.node x a u c d
 | 2=>.node x a b u d
 | _=>.node x a b c u
theorem Tr.putK_nil_succ {R:Type} (v : α) (no:R) (n k:Nat) (K:Tr α→R) :
  Tr.putK v no (n+1) .nil (k+1) K=Tr.putK v no n .nil (k / 4) fun u=>K (Tr.with none .nil .nil .nil .nil (k % 4) u):=by
 show n9 _ _ _ _ (k % 4)=_
 match k % 4 with
 | 0=>rfl
 | 1=>rfl
 | 2=>rfl
 | _+3=>rfl
theorem Tr.putK_node_succ {R:Type} (v : α) (no:R) (n k:Nat) (x:Option α) (a b c d:Tr α) (K:Tr α→R) :
  Tr.putK v no (n+1) (.node x a b c d) (k+1) K=Tr.putK v no n (n9 a b c d (k % 4)) (k / 4) fun u=>K (Tr.with x a b c d (k % 4) u):=by
 show n9 _ _ _ _ (k % 4)=_
 match k % 4 with
 | 0=>rfl
 | 1=>rfl
 | 2=>rfl
 | _+3=>rfl
theorem Tr.putK_eq {R:Type} (v : α) (no:R):∀ (n:Nat) (t:Tr α) (i:Nat) (K:Tr α→R),Tr.putK v no n t i K=match Tr.putK v none n t i some with | some u=>K u | none=>no
 | 0,_,_,_=>rfl
 | n+1,.nil,0,K=>rfl
 | n+1,.nil,k+1,K=>by
  rw [Tr.putK_nil_succ,Tr.putK_nil_succ,Tr.putK_eq v no n,Tr.putK_eq v none n _ _ fun u=>some (Tr.with none .nil .nil .nil .nil (k % 4) u)]
  cases Tr.putK v none n .nil (k / 4) some <;> rfl
 | n+1,.node x a b c d,0,K=>rfl
 | n+1,.node x a b c d,k+1,K=>by
  rw [Tr.putK_node_succ,Tr.putK_node_succ,Tr.putK_eq v no n,Tr.putK_eq v none n _ _ fun u=>some (Tr.with x a b c d (k % 4) u)]
  cases Tr.putK v none n (n9 a b c d (k % 4)) (k / 4) some <;> rfl
theorem Tr.get_with (x:Option α) (a b c d:Tr α) (r:Nat) (hr:r < 4) (u:Tr α) (j:Nat) :
  (Tr.with x a b c d r u).get j=match j with | 0=>x | k+1=>if k % 4=r then u.get (k / 4) else (n9 a b c d (k % 4)).get (k / 4):=by
 cases j with
 | zero=>unfold Tr.with; split <;> rfl
 | succ k =>
  have hk:k % 4 < 4:=MU _ (by omega)
  generalize hq:k % 4=q at hk ⊢
  match r,hr with
  | 0,_=>simp only [Tr.with,Tr.get_succ,hq]; rw [eY,eY]; match q,hk with
   | 0,_=>rfl
   | 1,_=>rfl
   | 2,_=>rfl
   | 3,_=>rfl
  | 1,_=>simp only [Tr.with,Tr.get_succ,hq]; rw [eY,eY]; match q,hk with
   | 0,_=>rfl
   | 1,_=>rfl
   | 2,_=>rfl
   | 3,_=>rfl
  | 2,_=>simp only [Tr.with,Tr.get_succ,hq]; rw [eY,eY]; match q,hk with
   | 0,_=>rfl
   | 1,_=>rfl
   | 2,_=>rfl
   | 3,_=>rfl
  | 3,_=>simp only [Tr.with,Tr.get_succ,hq]; rw [eY,eY]; match q,hk with
   | 0,_=>rfl
   | 1,_=>rfl
   | 2,_=>rfl
   | 3,_=>rfl
theorem Tr.get_putK (v : α):∀ (n:Nat) (t:Tr α) (i:Nat) (u:Tr α),Tr.putK v none n t i some=some u→∀ j,u.get j=if i=j then some v else t.get j
 | 0,_,_,_,h,_=>by cases h
 | n+1,.nil,0,u,h,j=>by
  rw [Tr.putK_nil_zero] at h; cases h
  cases j with
  | zero=>rfl
  | succ k=>rw [Tr.get_succ,eY]; simp only [Tr.get_nil]; split <;> simp [Tr.get_nil]
 | n+1,.nil,k+1,u,h,j=>by
  rw [Tr.putK_nil_succ,Tr.putK_eq] at h
  split at h
  ·rename_i u' hu'
   cases h
   rw [Tr.get_with _ _ _ _ _ _ (MU _ (by omega))]
   have ih:=Tr.get_putK v n .nil (k / 4) u' hu'
   cases j with
   | zero=>simp [Tr.get_nil]
   | succ q =>
    simp only [Tr.get_nil]
    have hs:(n9 Tr.nil Tr.nil Tr.nil Tr.nil (q % 4):Tr α)=.nil:=by rw [eY]; split <;> rfl
    rw [ih,hs]
    simp only [Tr.get_nil]
    by_cases e:k=q
    ·subst e; simp
    ·by_cases e2:q % 4=k % 4
     ·have:¬ k / 4=q / 4:=by omega
      simp [e2,this,e]
     ·simp [e2,e]
  ·cases h
 | n+1,.node x a b c d,0,u,h,j=>by
  rw [Tr.putK_node_zero] at h; cases h
  cases j with
  | zero=>rfl
  | succ k=>rw [Tr.get_succ,Tr.get_succ]; simp
 | n+1,.node x a b c d,k+1,u,h,j=>by
  rw [Tr.putK_node_succ,Tr.putK_eq] at h
  split at h
  ·rename_i u' hu'
   cases h
   rw [Tr.get_with _ _ _ _ _ _ (MU _ (by omega))]
   have ih:=Tr.get_putK v n _ (k / 4) u' hu'
   cases j with
   | zero=>simp [Tr.get_zero]
   | succ q =>
    simp only [Tr.get_succ]
    rw [ih]
    by_cases e:k=q
    ·subst e; simp
    ·by_cases e2:q % 4=k % 4
     ·have:¬ k / 4=q / 4:=by omega
      simp [e2,this,e]
     ·simp [e2,e]
  ·cases h
theorem Tr.get_put {t u:Tr α} {i:Nat} {v : α} (h:t.put i v=some u) (j:Nat):u.get j=if i=j then some v else t.get j:=Tr.get_putK v deep t i u h j
end
end Go.Rx

/-
 An evaluator for calls without arguments: values without types, memory by blocks of its own, operations.
-/
namespace Go.Rx
noncomputable section
open Go.Vm
inductive RC where
 | nat (m:Nat)
 | int (k:IntKind) (n:Int)
 | bool (b:Bool)
 | sc (v:Value)
 | ptr (b off:Nat)
 | sl (b off len:Nat) (cap:Option Nat) (es:Nat)
 | emp (b es:Nat)
 | mp (b:Nat)
 | fn (f:Nat) (sh:List (Bool×Nat)) (k:Nat) (cells:List RC)
inductive RV where
 | unk
 | one (c:RC)
 | agg (l:List RC)
 | tup (l:List (Bool×List RC))
abbrev Ents:=List (Value×(Bool×List RC))
inductive RO where
 | cells (t:Tr RC) (n:Nat)
 | ro (t:Tr RC) (n:Nat)
 | map (es:Ents)
 | dead
def sY {α : Type} (t:Tr α):Nat→Nat→Option (List α)
 | _,0=>some []
 | off,n+1=>match t.get off,sY t (Nat.succ off) n with
  | some c,some l=>some (c :: l)
  | _,_=>none
def gP {α : Type}:List α→Nat→Tr α→Option (Tr α)
 | [],_,t=>some t
 | c :: l,off,t=>match t.put off c with
  | some t'=>gP l (Nat.succ off) t'
  | none=>none
structure RS where
 H:Tr RO
 nx:Nat
def tk {α : Type}:Nat→List α→Option (List α)
 | 0,_=>some []
 | n+1,a :: l=>match tk n l with
  | some r=>some (a :: r)
  | none=>none
 | _+1,[]=>none
def pt {α : Type}:Nat→List α→List α→Option (List α)
 | 0,[],l=>some l
 | 0,a :: r,_ :: l=>match pt 0 r l with
  | some l'=>some (a :: l')
  | none=>none
 | n+1,xs,a :: l=>match pt n xs l with
  | some l'=>some (a :: l')
  | none=>none
 | _,_,_=>none
def jZ:Value→Bool
 | .string s=>Lh s.size 1000000
 | .pointer none=>true
 | .slice none 0 0=>true
 | .map none=>true
 | .nilFunc=>true
 | .nilIface=>true
 | _=>false
def maxI:Nat:=9223372036854775807
def sN (n:Nat):RC:=Nat.rec (motive:=fun _=>RC) (.nat 0) (fun k _=>.nat (Nat.succ k)) n
def Df (k:IntKind) (n:Int):Option RC:=match k,n with
 | .i64,.ofNat m=>cond (Lh m maxI) (some (sN m)) none
 | k,n=>cond (decide (k.min≤n) && decide (n≤k.max)) (some (.int k n)) none
def ofC (v:Value):Option RC:=match v with
 | .int k n=>Df k n
 | .bool b=>some (.bool b)
 | v=>cond (jZ v) (some (.sc v)) none
def Gt (c:RC):Option Value:=match c with
 | .nat m=>some (.int .i64 (.ofNat m))
 | .int k n=>some (.int k n)
 | .bool b=>some (.bool b)
 | .sc v=>some v
 | _=>none
def rundef:RV:=.tup []
def scs:List Value→Option (List RC)
 | []=>some []
 | v :: r=>match ofC v,scs r with
  | some c,some l=>some (c :: l)
  | _,_=>none
def ofV (v:Value):Option RV:=match v with
 | .agg cs=>(match scs cs.toList with | some l=>some (.agg l) | none=>none)
 | v=>(match ofC v with | some c=>some (.one c) | none=>none)
def Bp:List RC→Option (List Value)
 | []=>some []
 | c :: r=>match Gt c,Bp r with
  | some v,some l=>some (v :: l)
  | _,_=>none
def vOf (x:RV):Option Value:=match x with
 | .one c=>Gt c
 | .agg l=>(match Bp l with | some vs=>some (.agg vs.toArray) | none=>none)
 | _=>none
def oV (x:RV):Option (List RC):=match x with
 | .one c=>some [c]
 | .agg l=>some l
 | _=>none
def pg (agg:Bool) (l:List RC):Option RV:=match agg,l with
 | true,l=>some (.agg l)
 | false,[c]=>some (.one c)
 | false,_=>none
structure SlH where
 b:Nat
 off:Nat
 len:Nat
 cap:Option Nat
 es:Nat
def RC.asNat (c:RC):Option Nat:=RC.casesOn (motive_1:=fun _=>Option Nat) c (fun m=>some m) (fun _ _=>none) (fun _=>none) (fun _=>none) (fun _ _=>none) (fun _ _ _ _ _=>none) (fun _ _=>none) (fun _=>none) (fun _ _ _ _=>none)
def RC.asBool (c:RC):Option Bool:=RC.casesOn (motive_1:=fun _=>Option Bool) c (fun _=>none) (fun _ _=>none) (fun b=>some b) (fun _=>none) (fun _ _=>none) (fun _ _ _ _ _=>none) (fun _ _=>none) (fun _=>none) (fun _ _ _ _=>none)
def RC.asPtr (c:RC):Option (Nat×Nat):=RC.casesOn (motive_1:=fun _=>Option (Nat×Nat)) c (fun _=>none) (fun _ _=>none) (fun _=>none) (fun _=>none) (fun b o=>some (b,o)) (fun _ _ _ _ _=>none) (fun _ _=>none) (fun _=>none) (fun _ _ _ _=>none)
def RC.asSl (c:RC):Option SlH:=RC.casesOn (motive_1:=fun _=>Option SlH) c (fun _=>none) (fun _ _=>none) (fun _=>none) (fun _=>none) (fun _ _=>none) (fun b o n c e=>some ⟨b,o,n,c,e⟩) (fun _ _=>none) (fun _=>none) (fun _ _ _ _=>none)
def RC.asBlk (c:RC):Option Nat:=RC.casesOn (motive_1:=fun _=>Option Nat) c (fun _=>none) (fun _ _=>none) (fun _=>none) (fun _=>none) (fun b _=>some b) (fun _ _ _ _ _=>none) (fun _ _=>none) (fun b=>some b) (fun _ _ _ _=>none)
def RV.asBlk (x:RV):Option Nat:=RV.casesOn (motive:=fun _=>Option Nat) x none (fun c=>c.asBlk) (fun _=>none) (fun _=>none)
def RV.asNat (x:RV):Option Nat:=RV.casesOn (motive:=fun _=>Option Nat) x none (fun c=>c.asNat) (fun _=>none) (fun _=>none)
def RV.asBool (x:RV):Option Bool:=RV.casesOn (motive:=fun _=>Option Bool) x none (fun c=>c.asBool) (fun _=>none) (fun _=>none)
def RV.asPtr (x:RV):Option (Nat×Nat):=RV.casesOn (motive:=fun _=>Option (Nat×Nat)) x none (fun c=>c.asPtr) (fun _=>none) (fun _=>none)
def RV.asSl (x:RV):Option SlH:=RV.casesOn (motive:=fun _=>Option SlH) x none (fun c=>c.asSl) (fun _=>none) (fun _=>none)
def RO.asC (o:RO):Option (Tr RC×Nat):=RO.casesOn (motive:=fun _=>Option (Tr RC×Nat)) o (fun t n=>some (t,n)) (fun _ _=>none) (fun _=>none) none
def RO.asR (o:RO):Option (Tr RC×Nat):=RO.casesOn (motive:=fun _=>Option (Tr RC×Nat)) o (fun t n=>some (t,n)) (fun t n=>some (t,n)) (fun _=>none) none
def onO {α R:Type} (o:Option α) (no:R) (K : α→R):R:=Option.rec (motive:=fun _=>R) no K o
def uN {R:Type} (v:RV) (K:RV→R):R:=RV.casesOn (motive:=fun _=>R) v (K .unk) (fun c=>K (.one c)) (fun l=>K (.agg l)) (fun l=>K (.tup l))
def o5 {R:Type} (n:Nat) (K:Nat→R):R:=Nat.rec (motive:=fun _=>R) (K 0) (fun k _=>K (Nat.succ k)) n
section
variable (P:Program)
def iM {α : Type}:Sem α→Option α
 | .pure a=>some a
 | .program k=>iM (k P)
 | .mark _ k=>iM k
 | _=>none
def dG (t:TypeId):Option Nat:=match P.info? t with
 | some i=>cond (Lh i.bytes 100000) (some i.size) none
 | none=>none
def zn (t:TypeId):Option Bool:=match P.underlying t with
 | some (.struct _)=>some true
 | some (.array _ _)=>some true
 | some _=>some false
 | none=>none
def iH (t:TypeId):Option (List RC):=match P.info? t with
 | some i=>(match i.zero with
  | some z=>scs z.cells.toList
  | none=>none)
 | none=>none
def fF (t:TypeId):Option TypeId:=match P.underlying t with
 | some (.slice e)=>some e
 | _=>none
def ldT (t:TypeId):Option (Bool×Nat):=match zn P t,dG P t with
 | some g,some n=>cond (g || A8 n 1) (some (g,n)) none
 | _,_=>none
def kS (t:TypeId) (f:Nat):Option (Nat×(Bool×Nat)):=match P.underlying t with
 | some (.struct fs)=>(match fs[f]? with
  | some fd=>(match ldT P fd.type with
   | some p=>some (fd.offset,p)
   | none=>none)
  | none=>none)
 | _=>none
inductive IK where
 | sl (n:Nat)
 | ar (len:Nat) (g:Bool) (n:Nat)
 | no
def CR (t:TypeId):IK:=match P.underlying t with
 | some (.slice e)=>(match dG P e with | some n=>.sl n | none=>.no)
 | some (.array len e)=>(match ldT P e with | some (g,n)=>.ar len g n | none=>.no)
 | _=>.no
inductive Lc where
 | nil
 | cons (t:Nat) (v:RV) (r:Lc)
abbrev cE:=Tr RV
def iE (msk t:Nat):Bool:=A8 (OQ (Nat.shiftRight msk t) 2) 1
def I0 (l:Lc) (t:Nat):RV:=Lc.rec (motive:=fun _=>RV) .unk (fun t' v _ ih=>cond (A8 t' t) v ih) l
def gOr (o:Option RV):RV:=Option.rec (motive:=fun _=>RV) .unk (fun v=>v) o
def egt (msk:Nat) (e:cE) (l:Lc) (t:Nat):RV:=cond (iE msk t) (gOr (e.get t)) (I0 l t)
def E3 (v:Value):RV:=(ofV v).getD .unk
def gIn (GL:List Nat) (g:Nat):Bool:=List.rec (motive:=fun _=>Bool) false (fun a _ ih=>cond (A8 a g) true ih) GL
structure Opd where
 get:cE→Lc→RV
def JS (GL:List Nat) (msk:Nat) (x:Operand):Opd:=match x with
 | .tmp t=>cond (iE msk t) ⟨fun e _=>gOr (e.get t)⟩ ⟨fun _ l=>I0 l t⟩
 | .const v=>⟨fun _ _=>E3 v⟩
 | .global g=>cond (gIn GL g) ⟨fun _ _=>.one (.ptr g 0)⟩ ⟨fun _ _=>.unk⟩
 | .func f=>⟨fun _ _=>.one (.fn f [] 0 [])⟩
def rev (GL:List Nat) (msk:Nat) (e:cE) (l:Lc) (x:Operand):RV:=(JS GL msk x).get e l
abbrev Hp:=Nat→Option RO
abbrev Ev:=Operand→RV
def blk (h:Hp) (x:RV):Option RO:=onO x.asBlk none h
def ixI (x:RV):Option Nat:=match x with
 | .one (.int _ n)=>cond (decide (0≤n)) (some n.toNat) none
 | _=>none
def ixN (x:RV):Option Nat:=onO x.asNat (ixI x) some
inductive PR where
 | val (v:RV)
 | new (o:RO) (v:RV)
def IX (op:BinOp) (k:IntKind) (a b:Int):Option RC:=match AQ op k a b with
 | some (.val (.int k') n)=>Df k' n
 | some (.val .bool t)=>some (.bool t)
 | _=>none
def bB (b:Bool):Option RV:=cond b (some (.one (.bool true))) (some (.one (.bool false)))
def bN (n:Nat):Option RV:=Nat.rec (motive:=fun _=>Option RV) (some (.one (.nat 0))) (fun k _=>some (.one (.nat (Nat.succ k)))) n
def Bi (op:BinOp):Option (Nat→Nat→Option RV):=match op with
 | .add=>some fun a b=>cond (Lh (Mg a b) maxI) (bN (Mg a b)) none
 | .sub=>some fun a b=>cond (Lh b a) (bN (OR a b)) none
 | .mul=>some fun a b=>cond (Lh (LZ a b) maxI) (bN (LZ a b)) none
 | .quo=>some fun a b=>cond (A8 b 0) none (bN (N7 a b))
 | .rem=>some fun a b=>cond (A8 b 0) none (bN (OQ a b))
 | .eql=>some fun a b=>bB (A8 a b)
 | .neq=>some fun a b=>bB (not (A8 a b))
 | .lss=>some fun a b=>bB (Lh (Nat.succ a) b)
 | .leq=>some fun a b=>bB (Lh a b)
 | .gtr=>some fun a b=>bB (Lh (Nat.succ b) a)
 | .geq=>some fun a b=>bB (Lh b a)
 | _=>none
def iY (d:TypeDesc) (c:RC) (v:Value):Bool:=match d,c,v with
 | .pointer _,.ptr _ _,.pointer none=>true
 | .slice _,.sl _ _ _ _ _,.slice none 0 0=>true
 | .slice _,.emp _ _,.slice none 0 0=>true
 | .map _ _,.mp _,.map none=>true
 | .func _ _ _,.fn _ _ _ _,.nilFunc=>true
 | _,_,_=>false
def vQ (op:BinOp) (t:TypeId) (c:RC) (v:Value):Option RV:=match P.underlying t with
 | some d=>cond (iY d c v) (match op with
  | .eql=>some (.one (.bool false))
  | .neq=>some (.one (.bool true))
  | _=>none) none
 | none=>none
def vd (op:BinOp) (k:IntKind) (m n:Int):Option RC:=match op with
 | .quo=>cond (eqI n 0) none (Df k (i7 k m n))
 | .rem=>cond (eqI n 0) none (Df k (kO m n))
 | _=>IX op k m n
def HD (c:Option RC):Option RV:=match c with
 | some c=>some (.one c)
 | none=>none
def ql (op:BinOp) (xt:TypeId) (x y:Operand) (u v:Value):Option RV:=match iM P (do eqGuard op xt x y u v; binOp op xt u v) with
 | some w=>ofV w
 | none=>none
def Hs (op:BinOp):Bool:=match op with
 | .shl=>true
 | .shr=>true
 | .and=>true
 | .or=>true
 | .xor=>true
 | .andNot=>true
 | _=>false
def vf (op:BinOp) (xt:TypeId) (x y:Operand) (u v:Value):Option RV:=match u,v with
 | .int k m,.int k' n=>cond (Hs op) (ql P op xt x y (.int k m) (.int k' n)) (cond (decide (k=k')) (HD (vd op k m n)) none)
 | u,v=>ql P op xt x y u v
def DY (op:BinOp) (xt:TypeId) (x y:Operand) (a b:RV):Option RV:=match vOf a,vOf b with
 | some u,some v=>vf P op xt x y u v
 | none,some v=>(match a with
  | .one c=>vQ P op xt c v
  | _=>none)
 | some v,none=>(match b with
  | .one c=>vQ P op xt c v
  | _=>none)
 | none,none=>none
def zz (f:Nat→Nat→Option RV) (a b:RV) (slow:Option RV):Option RV :=
 onO a.asNat slow fun m=>onO b.asNat slow fun n=>onO (f m n) slow some
def gk (o:Option RO):Option (Tr RC×Nat):=onO o none RO.asR
def iv (p:Option (Tr RC×Nat)) (off n:Nat):Option (List RC):=match p with
 | some (t,m)=>cond (Lh (Mg off n) m) (sY t off n) none
 | none=>none
def Ko {α : Type} (off:Nat) (p:Tr α×Nat):Option α:=Prod.rec (motive:=fun _=>Option α) (fun t m=>cond (Lh (Nat.succ off) m) (t.get off) none) p
def D2 (p:Option (Tr RC×Nat)) (off:Nat):Option RV:=onO p none fun p=>onO (Ko off p) none fun c=>some (.one c)
def Ei (l:Option (List RC)):Option RV:=match l with
 | some l=>some (.agg l)
 | none=>none
def iR (l:List RC):Option RO:=match gP l 0 .nil with
 | some t=>some (.cells t l.length)
 | none=>none
def Al (o:Option RO) (v:RV):Option PR:=match o with
 | some o=>some (.new o v)
 | none=>none
def I9 (o:Option RO) (g:Bool) (n off:Nat):Option RV:=cond g (Ei (iv (gk o) off n)) (D2 (gk o) off)
def rr (o:Option RO) (p:Option (Bool×Nat)) (x:RV):Option RV :=
 onO p none fun q=>onO x.asPtr none fun a=>I9 o q.1 q.2 a.2
def Bc (p:Bool×Nat) (o:Nat) (l:List RC):Option RV:=match tk p.2 (l.drop o) with
 | some c=>pg p.1 c
 | none=>none
def AK (p:Option (Nat×(Bool×Nat))) (x:RV):Option RV:=match x,p with
 | .agg l,some (o,q)=>Bc q o l
 | _,_=>none
def Fk (b off:Nat):Option RV:=some (.one (.ptr b off))
def rT (p:Option (Nat×(Bool×Nat))) (x:RV):Option RV :=
 onO p none fun q=>onO x.asPtr none fun a=>cond (Lh 1 q.2.2) (Fk a.1 (Mg a.2 q.1)) none
def IU (n:Nat) (x:RV) (i:Option Nat):Option RV :=
 onO i none fun i=>onO x.asSl none fun s=>cond (A8 n s.es) (cond (Lh (Nat.succ i) s.len) (Fk s.b (Mg s.off (LZ i n))) none) none
def I3 (len n:Nat) (x:RV) (i:Option Nat):Option RV :=
 onO i none fun i=>onO x.asPtr none fun a=>cond (Lh (Nat.succ i) len) (Fk a.1 (Mg a.2 (LZ i n))) none
def mV (k:IK) (x:RV) (i:Option Nat):Option RV:=match k with
 | .sl n=>IU n x i
 | .ar len _ n=>I3 len n x i
 | .no=>none
def AO (k:IK) (l:List RC) (i:Option Nat):Option RV:=match k,i with
 | .ar len g n,some i=>cond (Lh (Nat.succ i) len) (Bc (g,n) (LZ i n) l) none
 | _,_=>none
def BP (t:TypeId) (u v:Option Value):Option RV:=match u,v with
 | some (.string s),some (.int k i)=>(match iM P (Instr.index t (.string s) (.int k i)) with
  | some w=>ofV w
  | none=>none)
 | _,_=>none
def zV (t:TypeId) (x ix:RV):Option RV:=match x with
 | .agg l=>AO (CR P t) l (ixN ix)
 | x=>BP P t (vOf x) (vOf ix)
def Fs (t:TypeId) (n c:Option Nat):Option PR:=match fF P t,n,c with
 | some e,some n,some c=>(match dG P e,iH P e with
  | some es,some z=>cond (Lh n c && Lh c 1000000 && A8 z.length es && Lh 1 es)
   (Al (iR (A6 c z).flatten) (.one (.sl 0 0 n (some c) es))) none
  | _,_=>none)
 | _,_,_=>none
def yI (d:Nat) (x:Option RV):Option Nat:=match x with
 | none=>some d
 | some v=>ixN v
def vp (b off n l h:Nat) (c:Nat):RV:=.one (.sl b (cond (A8 c l) off (Mg off (LZ l n))) (OR h l) (some (OR c l)) n)
def xH (n b off len:Nat) (cap:Option Nat) (es:Nat) (l h:Option Nat) (mx:Option RV):Option RV:=match l,h with
 | some l,some h=>cond (A8 n es && Lh 1 es && Lh l h) (match mx with
  | some m=>(match ixN m with
   | some m'=>cond (Lh h m' && Lh m' (cap.getD len)) (some (vp b off n l h m')) none
   | none=>none)
  | none=>(match cap with
   | some c=>cond (Lh h c) (some (vp b off n l h c)) none
   | none=>cond (Lh h len) (cond (Lh len l) (some (.one (.emp b n))) (some (.one (.sl b (Mg off (LZ l n)) (OR h l) none n)))) none)) none
 | _,_=>none
def tE (n b es:Nat) (l h:Option Nat) (mx:Option RV):Option RV:=match l,h,mx with
 | some 0,some 0,none=>cond (A8 n es) (some (.one (.emp b n))) none
 | _,_,_=>none
def tw (l h:Option Nat) (mx:Option RV):Option RV:=match l,h,mx with
 | some 0,some 0,none=>some (.one (.sc (.slice none 0 0)))
 | _,_,_=>none
def Gv (x:Option RV):Option (Option Value):=match x with
 | none=>some none
 | some v=>(match vOf v with
  | some u=>some (some u)
  | none=>none)
def tt (t:TypeId) (s:ByteArray) (lo hi:Option (Option Value)) (mx:Option RV):Option RV:=match lo,hi,mx with
 | some a,some b,none=>(match iM P (Instr.sliceAt t (.string s) a b none) with
  | some w=>ofV w
  | none=>none)
 | _,_,_=>none
def H8 (hi mx:Option RV):Bool:=match hi,mx with
 | none,some _=>false
 | _,_=>true
def yO (t:TypeId) (x:RV) (lo hi mx:Option RV):Option RV:=cond (H8 hi mx) (match x with
 | .one (.sl b off len cap es)=>(match fF P t with
  | some e=>(match dG P e with
   | some n=>xH n b off len cap es (yI 0 lo) (yI len hi) mx
   | none=>none)
  | none=>none)
 | .one (.emp b es)=>(match fF P t with
  | some e=>(match dG P e with
   | some n=>tE n b es (yI 0 lo) (yI 0 hi) mx
   | none=>none)
  | none=>none)
 | .one (.sc (.string s))=>tt P t s (Gv lo) (Gv hi) mx
 | .one (.sc (.slice none 0 0))=>(match fF P t with
  | some e=>(match dG P e with
   | some _=>tw (yI 0 lo) (yI 0 hi) mx
   | none=>none)
  | none=>none)
 | _=>none) none
def BQ (place:Nat→Option (Nat×Nat)):List (Nat×RV)→List RC→Option (List RC)
 | [],l=>some l
 | (i,v) :: r,l=>match place i,oV v with
  | some (o,n),some c=>cond (A8 c.length n) (match pt o c l with
   | some l'=>BQ place r l'
   | none=>none) none
  | _,_=>none
def uD (t:TypeId) (i:Nat):Option (Nat×Nat):=match kS P t i with
 | some (o,(_,n))=>some (o,n)
 | none=>none
def Co {α : Type} (l:List α):Nat:=List.rec (motive:=fun _=>Nat) 0 (fun _ _ n=>Nat.succ n) l
def Is {α : Type} (l r:List α):List α:=List.rec (motive:=fun _=>List α) r (fun a _ ih=>a :: ih) l
def In (l:List (Nat×RV)):Option (List RC):=List.rec (motive:=fun _=>Option (List RC)) (some [])
 (fun p _ ih=>onO ih none fun r=>RV.casesOn (motive:=fun _=>Option (List RC)) p.2 none (fun c=>cond (A8 p.1 1) (some (c :: r)) none) (fun l=>cond (A8 (Co l) p.1) (some (Is l r)) none) (fun _=>none)) l
def CU (place:Nat→Option (Nat×Nat)):Nat→Nat→List Nat→Option (List Nat×Nat)
 | _,o,[]=>some ([],o)
 | i,o,j :: r=>cond (A8 i j) (match place j with
  | some (o',n)=>cond (A8 o o') (match CU place (i+1) (o+n) r with
   | some (l,e)=>some (n :: l,e)
   | none=>none) none
  | none=>none) none
def Ic (place:Nat→Option (Nat×Nat)) (idx:List Nat) (total:Nat):Option (List Nat):=match CU place 0 0 idx with
 | some (l,e)=>cond (A8 e total) (some l) none
 | none=>none
def Kv (l:List Nat) (vs:List RV):List (Nat×RV):=NK l vs
structure Lit1 where
 run:List RV→Option (List RC)
def w8 (place:Nat→Option (Nat×Nat)) (z:List RC) (idx:List Nat):Lit1:=match Ic place idx z.length with
 | some l=>⟨fun vs=>In (Kv l vs)⟩
 | none=>⟨fun vs=>BQ place (NK idx vs) z⟩
def uv:Lit1:=⟨fun _=>none⟩
def Ji (t:TypeId) (idx:List Nat):Lit1:=match iH P t,P.underlying t with
 | some z,some (.struct fs)=>cond (fs.toList.all fun f=>(P.info? f.type).isSome) (w8 (uD P t) z idx) uv
 | some z,some (.array _ e)=>(match dG P e with
  | some n=>w8 (fun i=>some (i * n,n)) z idx
  | none=>uv)
 | _,_=>uv
def JJ (t:TypeId) (len:Nat) (idx:List Nat):Lit1:=match fF P t with
 | some e=>(match dG P e,iH P e with
  | some es,some z=>cond (A8 z.length es && Lh 1 es && Lh (len * es) 1000000) (w8 (fun i=>some (i * es,es)) (A6 len z).flatten idx) uv
  | _,_=>uv)
 | none=>uv
def C0 (ev:Ev) (l:List (Nat×Operand)):List RV:=List.rec (motive:=fun _=>List RV) [] (fun p _ ih=>ev p.2 :: ih) l
def zK (t:TypeId) (parts:List (Nat×Operand)) (ev:Ev):Option RV:=Ei ((Ji P t (parts.map (·.1))).run (C0 ev parts))
def DN (l:List RC):Option RO:=onO (gP l 0 .nil) none fun t=>some (.cells t (Co l))
def slV (es:Option Nat) (len:Nat):RV:=.one (.sl 0 0 len (some len) (es.getD 0))
def lD (t:TypeId) (len:Nat) (parts:List (Nat×Operand)) (ev:Ev):Option PR :=
 onO ((JJ P t len (parts.map (·.1))).run (C0 ev parts)) none fun l=>Al (DN l) (slV (onO (fF P t) none (dG P)) len)
def BW:List RV→Option (List (Bool×Nat)×List RC)
 | []=>some ([],[])
 | v :: r=>match v,BW r with
  | .one c,some p=>some ((false,1) :: p.1,c :: p.2)
  | .agg l,some p=>some ((true,l.length) :: p.1,l++p.2)
  | _,_=>none
def vk:List (Bool×Nat)→List RC→Option (List RV)
 | [],_=>some []
 | p :: r,l=>match tk p.2 l,vk r (l.drop p.2) with
  | some c,some vs=>(match pg p.1 c with | some v=>some (v :: vs) | none=>none)
  | _,_=>none
def RV.at (id:Nat) (v:RV):RV:=match v with
 | .one (.ptr _ off)=>.one (.ptr id off)
 | .one (.sl _ off len cap es)=>.one (.sl id off len cap es)
 | .one (.mp _)=>.one (.mp id)
 | v=>v
def FL (em:Bool) (t:TypeId) (k:Value) (es:Ents):Option (Option Nat) :=
 match iM P (do Instr.checkKey em 10000 t k; Instr.findKey t k (es.map fun e=>{ key:=e.1,val:=.nilFunc,born:=0 })) with
 | some r=>some (r.map (·.1))
 | none=>none
def mAt (r:Option Nat) (es:Ents) (g:Bool) (z:List RC):Option (Bool×List RC):=match r with
 | none=>some (g,z)
 | some i=>(match es[i]? with
  | some e=>some e.2
  | none=>none)
def lkV (ok:Bool) (has:Bool) (c:Option (Bool×List RC)):Option RV:=match c with
 | some c=>cond ok (some (.tup [c,(false,[.bool has])])) (pg c.1 c.2)
 | none=>none
def HZ (g:Bool) (v:Value):Option (Bool×List RC):=match v with
 | .agg cs=>cond g (match scs cs.toList with
  | some l=>some (true,l)
  | none=>none) none
 | v=>cond g none (match ofC v with
  | some c=>some (false,[c])
  | none=>none)
def D5 (t:TypeId):Option (Bool×List RC):=match zn P t,P.info? t with
 | some g,some i=>(match i.zero with
  | some v=>HZ g v
  | none=>none)
 | _,_=>none
def vL (o:Option RO) (t:TypeId) (x key:RV) (ok:Bool):Option RV:=match P.underlying t,x,vOf key with
 | some (.map kt vt),.one (.mp _),some k=>(match o,D5 P vt with
  | some (.map es),some (g,z)=>(match FL P es.isEmpty kt k es with
   | some r=>lkV ok r.isSome (mAt r es g z)
   | none=>none)
  | _,_=>none)
 | _,_,_=>none
def wj (x:RV):Option Nat:=match x with
 | .one (.emp _ _)=>some 0
 | .one (.sc (.slice none 0 0))=>some 0
 | _=>none
def sm (x:RV):Option Nat:=onO x.asSl (wj x) fun s=>some s.len
def zl (x:RV):Option Nat:=match x with
 | .one (.sc (.string s))=>some s.size
 | _=>none
def zR (o:Option RO) (x:RV):Option Nat:=match x with
 | .one (.sc (.map none))=>some 0
 | .one (.mp _)=>(match o with
  | some (.map es)=>some es.length
  | _=>none)
 | _=>none
inductive LK where
 | sl
 | str
 | map
 | arr (n:Nat)
 | no
def GF (t:TypeId):LK:=match P.underlying t with
 | some .string=>.str
 | some (.array n _)=>.arr n
 | some (.slice _)=>.sl
 | some (.map _ _)=>.map
 | _=>.no
def JC (k:LK) (x:RV):Option Nat:=match k with
 | .sl=>sm x
 | .str=>zl x
 | .map=>none
 | .arr n=>some n
 | .no=>none
def uR (n:Option Nat):Option RV:=match n with
 | some n=>cond (Lh n maxI) (bN n) none
 | none=>none
def F7:List RV→Option (List Value)
 | []=>some []
 | v :: r=>match vOf v,F7 r with
  | some u,some l=>some (u :: l)
  | _,_=>none
def K2 (v:Option RV):Option PR:=Option.rec (motive:=fun _=>Option PR) none (fun v=>some (.val v)) v
def Ia (c a b:RV):Option RV:=onO c.asBool none fun t=>cond t (some a) (some b)
def zy (t:TypeId):Option PR:=match iH P t with
 | some z=>Al (iR z) (.one (.ptr 0 0))
 | none=>none
def Iq (x:RV):Option PR:=match oV x with
 | some l=>Al (iR l) (.one (.ptr 0 0))
 | none=>none
def Dv (v:RV):Option RV:=match v with
 | .one (.fn f a b c)=>some (.one (.fn f a b c))
 | _=>none
def IW (v:RV):Option RV:=onO v.asPtr (Dv v) fun _=>some v
def unV (f:Value→Sem Value) (x:RV):Option RV:=match vOf x with
 | some v=>(match iM P (f v) with
  | some w=>ofV w
  | none=>none)
 | none=>none
def ID (x:RV) (slow:Option RV):Option RV:=onO x.asBool slow fun b=>bB (not b)
def E1 (f:FuncId) (n:Nat) (l:List RV):Option RV:=match BW l with
 | some p=>some (.one (.fn f p.1 n p.2))
 | none=>none
def rS (x:RV) (i:Nat):Option RV:=match x with
 | .tup l=>(match l[i]? with
  | some p=>pg p.1 p.2
  | none=>none)
 | _=>none
def G6 (f:Array Value→Sem Value) (l:List RV):Option RV:=match F7 l with
 | some vs=>(match iM P (f vs.toArray) with
  | some w=>ofV w
  | none=>none)
 | none=>none
inductive RK where
 | m (x:Operand)
 | v (f:Ev→Option RV)
 | r (x:Operand) (f:Option RO→Ev→Option RV)
 | b (f:Ev→Option PR)
 | store (n:Option Nat) (a x:Operand)
 | mapUpd (t:TypeId) (m k v:Operand)
 | append (n:Option Nat) (b x:Operand)
 | copy (n:Option Nat) (b x:Operand)
 | clear (t:TypeId) (x:Operand)
 | delete (t:TypeId) (x k:Operand)
 | call (g:Operand) (args:List Operand)
 | no
def xW (t:TypeId):Option Nat:=match fF P t with
 | some e=>(match dG P e,iH P e with
  | some n,some z=>cond (Lh 1 n && A8 z.length n) (some n) none
  | _,_=>none)
 | none=>none
def Ba (t:TypeId):Bool:=match fF P t with
 | some _=>true
 | none=>false
def Iu (x:RV):Option Nat:=match x with
 | .one (.sc (.slice none 0 0))=>some 0
 | .one (.sl _ _ _ (some k) _)=>some k
 | _=>none
def KZ (t:TypeId):Option (List RC):=match fF P t with
 | some e=>iH P e
 | none=>none
def KY (es:Option Nat) (z:Option (List RC)) (x:RV) (n:Option Nat):Option PR:=match es,z,x,n with
 | some es,some z,.one (.sc (.slice none 0 0)),some n=>cond (Lh 1 n && Lh n 1000000) (Al (iR (A6 n z).flatten) (.one (.sl 0 0 n none es))) none
 | _,_,_,_=>none
def KQ (t:TypeId):Bool:=match P.underlying t with
 | some (.int .i64)=>true
 | _=>false
def mZ (ty:TypeId) (b:Builtin) (args:List Operand) (ts:Array TypeId):RK:=match b,args,ts.toList with
 | .len,[x],[t]=>(match GF P t with
  | .map=>.r x fun o ev=>uR (zR o (ev x))
  | k=>.v fun ev=>uR (JC k (ev x)))
 | .min,l,_=>.v fun ev=>G6 P (Builtin.min_ ts ty) (l.map ev)
 | .max,l,_=>.v fun ev=>G6 P (Builtin.max_ ts ty) (l.map ev)
 | .append,[b,x],[t,t']=>cond (decide (t=t')) (.append (xW P t) b x) .no
 | .copy,[b,x],[t,t']=>cond (decide (t=t')) (.copy (xW P t) b x) .no
 | .clear,[x],[t]=>.clear t x
 | .delete,[x,k],[t,_]=>.delete t x k
 | .cap,[x],[t]=>cond (Ba P t) (.v fun ev=>uR (Iu (ev x))) .no
 | _,_,_=>.no
def rh (op:BinOp) (xt:TypeId) (x y:Operand):RK:=match Bi op with
 | some f=>.v fun ev=>zz f (ev x) (ev y) (DY P op xt x y (ev x) (ev y))
 | none=>.v fun ev=>DY P op xt x y (ev x) (ev y)
def AG (op:UnOp) (x:Operand):RK:=match op with
 | .not=>.v fun ev=>ID (ev x) (unV P (Op.unary .not) (ev x))
 | op=>.v fun ev=>unV P (Op.unary op) (ev x)
def Jl (a b:TypeId):Bool:=match P.underlying a,fF P b with
 | some .string,some e=>(match P.underlying e with
  | some (.int .u8)=>true
  | _=>false)
 | _,_=>false
def Jp (b:UInt8):RC:=.int .u8 (.ofNat b.toNat)
def KK (x:RV):Option PR:=match vOf x with
 | some (.string s)=>cond (Lh s.data.toList.length 100000) (match gP (s.data.toList.map Jp) 0 .nil with
  | some t=>some (.new (.ro t s.data.toList.length) (.one (.sl 0 0 s.data.toList.length none 1)))
  | none=>none) none
 | _=>none
def FE (a b:TypeId) (x:Operand):RK:=.v fun ev=>unV P (convert a b) (ev x)
def rk (o:Oper):RK:=match o.op with
 | .move x=>.m x
 | .assign x=>.m x
 | .pick c a b=>.v fun ev=>Ia (ev c) (ev a) (ev b)
 | .alloc t=>.b fun _=>zy P t
 | .box _ x=>.b fun ev=>Iq (ev x)
 | .build t parts=>.v fun ev=>zK P t parts.toList ev
 | .buildSlice t n parts=>.b fun ev=>lD P t n parts.toList ev
 | .load t a=>.r a fun o ev=>rr o (ldT P t) (ev a)
 | .nilCheck x=>.v fun ev=>IW (ev x)
 | .binOp op xt x y _=>rh P op xt x y
 | .unOp op _ x=>AG P op x
 | .convert a b x=>FE P a b x
 | .makeFunc (.func f) first caps=>.v fun ev=>E1 f first.size (first.toList.map ev++caps.toList.map ev)
 | .makeMap _ none=>.b fun _=>some (.new (.map []) (.one (.mp 0)))
 | .makeSlice t n c=>.b fun ev=>Fs P t (ixN (ev n)) (ixN (ev c))
 | .slice t x lo hi mx=>.v fun ev=>yO P t (ev x) (lo.map ev) (hi.map ev) (mx.map ev)
 | .fieldAddr t x f=>.v fun ev=>rT (kS P t f) (ev x)
 | .field t x f=>.v fun ev=>AK (kS P t f) (ev x)
 | .indexAddr t x ix=>.v fun ev=>mV (CR P t) (ev x) (ixN (ev ix))
 | .index t x ix=>.v fun ev=>zV P t (ev x) (ev ix)
 | .lookup t x ix ok=>.r x fun o ev=>vL P o t (ev x) (ev ix) ok
 | .extract x i=>.v fun ev=>rS (ev x) i
 | .store t a x=>.store (dG P t) a x
 | .mapUpdate t m k v=>.mapUpd t m k v
 | .call { callee:=.builtin b,args,argTypes }=>mZ P o.type b args.toList argTypes
 | .call { callee:=.value g,args,.. }=>.call g args.toList
 | _=>.no
end
end
end Go.Rx

/-
 An evaluator for calls without arguments: operations that write, regions, bodies, calls.
-/
namespace Go.Rx
noncomputable section
open Go.Vm
abbrev Call1:=Nat→List RV→RS→Option (RV×RS)
section
variable (P:Program) (call:Call1)
def iJ (s:RS) (b:Nat) (o:RO):Option RS:=Tr.putK o none deep s.H b fun H=>some { H:=H,nx:=s.nx }
def wv {R:Type} (s:RS) (b:Nat) (no r:R):R:=Option.rec (motive:=fun _=>R) r (fun _=>no) (s.H.get b)
def th (s:RS) (o:RO):Option RS:=o5 s.nx fun b=>wv s b none (Tr.putK o none deep s.H b fun H=>some { H:=H,nx:=Nat.succ b })
def CI (s:RS) (b n:Nat) (t:Option (Tr RC)):Option RS:=match t with
 | some t=>iJ s b (.cells t n)
 | none=>none
def yq (s:RS) (n:Nat) (t:Option (Tr RC)):Option RS:=match t with
 | some t=>th s (.cells t n)
 | none=>none
def Jw (c:List RC) (n b off:Nat) (s:RS) (p:Option (Tr RC×Nat)):Option RS :=
 onO p none fun p=>cond (A8 c.length n && Lh (Mg off n) p.2) (CI s b p.2 (gP c off p.1)) none
def zd (n:Option Nat) (a x:RV) (s:RS):Option RS :=
 onO n none fun n=>onO a.asPtr none fun a=>onO (oV x) none fun c=>Jw c n a.1 a.2 s (onO (s.H.get a.1) none RO.asC)
def cL (s:RS) (x:RV):Option (List RC×Nat):=match x with
 | .one (.sc (.slice none 0 0))=>some ([],0)
 | .one (.emp _ _)=>some ([],0)
 | .one (.sl b off len _ es)=>(match iv (gk (s.H.get b)) off (LZ len es) with
  | some c=>some (c,len)
  | none=>none)
 | _=>none
def pP (nx n es:Nat) (s:Option RS):Option (RV×RS):=match s with
 | some s'=>o5 nx fun nx=>o5 n fun n=>some (.one (.sl nx 0 n none es),s')
 | none=>none
def kill (s:RS) (b:Nat) (K:RS→Option RS):Option RS:=match iJ s b .dead with
 | some s1=>K s1
 | none=>none
def vN (c:List RC) (n es:Nat) (s:RS):Option (RV×RS):=pP s.nx n es (yq s (LZ n es) (gP c 0 .nil))
def DP (c:List RC) (b n es:Nat) (s:RS):Option (RV×RS):=pP s.nx n es (kill s b fun s1=>yq s1 (LZ n es) (gP c 0 .nil))
def FU (t:Tr RC) (off m:Nat):Option (Tr RC):=match off with
 | 0=>some t
 | off=>(match sY t off m with
  | some l=>gP l 0 .nil
  | none=>none)
def Ha (t:Option (Tr RC)) (c:List RC) (m:Nat):Option (Tr RC):=match t with
 | some t=>gP c m t
 | none=>none
def D8 (b off len k es:Nat) (s:Option RS):Option (RV×RS):=match s with
 | some s'=>o5 len fun len=>some (.one (.sl b off len (some k) es),s')
 | none=>none
def H9 (c:List RC) (n b off len:Nat) (cap:Option Nat) (es:Nat) (t:Tr RC) (m:Nat) (s:RS):Option (RV×RS):=match cap with
 | some k=>cond (Lh (Mg len n) k)
  (cond (Lh (Mg off (LZ (Mg len n) es)) m) (D8 b off (Mg len n) k es (CI s b m (gP c (Mg off (LZ len es)) t))) none)
  (cond (Lh (Mg off (LZ len es)) m) (pP s.nx (Mg len n) es (yq s (LZ (Mg len n) es) (Ha (FU t off (LZ len es)) c (LZ len es)))) none)
 | none=>cond (Lh (Mg off (LZ len es)) m) (pP s.nx (Mg len n) es (kill s b fun s1=>yq s1 (LZ (Mg len n) es) (Ha (FU t off (LZ len es)) c (LZ len es)))) none
def sy (es:Nat) (x:RV) (c:List RC) (n:Nat) (s:RS):Option (RV×RS):=match x with
 | .one (.sc (.slice none 0 0))=>vN c n es s
 | .one (.sl b off len cap es')=>cond (A8 es es') (match s.H.get b with
  | some (.cells t m)=>H9 c n b off len cap es t m s
  | _=>none) none
 | .one (.emp b es')=>cond (A8 es es') (match s.H.get b with
  | some (.cells _ _)=>DP c b n es s
  | _=>none) none
 | _=>none
def Hi (n:Nat) (x:RV):Bool:=onO (sm x) false fun m=>Lh (Mg m n) 1000000
def xQ (es:Nat) (x:RV) (c:List RC) (n:Nat) (s:RS):Option (RV×RS):=cond (Hi n x) (match n with
 | 0=>some (x,s)
 | n=>sy es x c n s) none
def uJ (es:Option Nat) (x y:RV) (s:RS):Option (RV×RS):=match es,cL s y with
 | some es,some (c,n)=>cond (A8 (Co c) (LZ n es)) (xQ es x c n s) none
 | _,_=>none
def IG (n:Nat) (s:Option RS):Option (RV×RS):=match s,uR (some n) with
 | some s,some v=>some (v,s)
 | _,_=>none
def K0 (e:Option Nat) (x y:RV) (s:RS):Option (RV×RS):=match e,x,cL s y with
 | some e,.one (.sl b off len _ es),some (c,n)=>cond (A8 e es && A8 (Co c) (LZ n es)) (match s.H.get b,tk (LZ (min len n) es) c with
  | some (.cells t m),some c'=>cond (Lh (Mg off (LZ (min len n) es)) m) (IG (min len n) (CI s b m (gP c' off t))) none
  | _,_=>none) none
 | some _,.one (.sc (.slice none 0 0)),some _=>IG 0 (some s)
 | some _,.one (.emp _ _),some _=>IG 0 (some s)
 | _,_,_=>none
def Kh (t:TypeId) (x:RV) (s:RS):Option RS:=match P.underlying t,x with
 | some (.slice e),.one (.sl b off len _ es)=>(match s.H.get b,iH P e with
  | some (.cells l m),some z=>cond (A8 z.length es && Lh (Mg off (LZ len es)) m) (CI s b m (gP (A6 len z).flatten off l)) none
  | _,_=>none)
 | some (.slice _),.one (.sc (.slice none 0 0))=>some s
 | some (.map _ _),.one (.mp b)=>(match s.H.get b with
  | some (.map _)=>iJ s b (.map [])
  | _=>none)
 | _,_=>none
def Je (k:Value):Bool:=match ofV k with
 | some _=>true
 | none=>false
def Hx (e:Option (Value×(Bool×List RC))) (k:Value):Option Value:=match e with
 | some e=>(match iM P (Instr.keyThatStays e.1 k) with
  | some k'=>cond (Je k') (some k') none
  | none=>none)
 | none=>none
def E5 (i:Option (Option Nat)) (k:Value) (c:Bool×List RC) (es:Ents):Option Ents:=match i with
 | some none=>some (es++[(k,c)])
 | some (some i)=>(match Hx P es[i]? k with
  | some k'=>some (es.set i (k',c))
  | none=>none)
 | none=>none
def IT (s:RS) (b:Nat) (es:Option Ents):Option RS:=match es with
 | some es=>iJ s b (.map es)
 | none=>none
def AC (v:RV):Option (Bool×List RC):=match v with
 | .one c=>some (false,[c])
 | .agg l=>some (true,l)
 | _=>none
def mW (t:TypeId) (x key v:RV) (s:RS):Option RS:=match P.underlying t,x,vOf key with
 | some (.map kt _),.one (.mp b),some k=>(match s.H.get b,AC v with
  | some (.map es),some c=>IT s b (E5 P (FL P false kt k es) k c es)
  | _,_=>none)
 | _,_,_=>none
def Kd (t:TypeId) (x key:RV) (s:RS):Option RS:=match P.underlying t,x,vOf key with
 | some (.map kt _),.one (.mp b),some k=>(match s.H.get b with
  | some (.map es)=>(match FL P es.isEmpty kt k es with
   | some none=>some s
   | some (some i)=>iJ s b (.map (es.eraseIdx i))
   | none=>none)
  | _=>none)
 | _,_,_=>none
def DV (s:Option RS):Option (RV×RS):=Option.rec (motive:=fun _=>Option (RV×RS)) none (fun s'=>some (.unk,s')) s
def KU (s:Option RS):Option (RV×RS):=Option.rec (motive:=fun _=>Option (RV×RS)) none (fun s'=>some (rundef,s')) s
def wy (f k:Nat) (l:Option (List RV)) (args:List RV) (s:RS):Option (RV×RS):=match l with
 | some l=>call f (l.take k++args++l.drop k) s
 | none=>none
def EO (v:RV) (args:List RV) (s:RS):Option (RV×RS):=match v with
 | .one (.fn f sh k cells)=>wy call f k (vk sh cells) args s
 | _=>none
def rc (k:RK) (ev:Ev) (s:RS):Option (RV×RS):=match k with
 | .store n a x=>DV (zd n (ev a) (ev x) s)
 | .mapUpd t m k v=>DV (mW P t (ev m) (ev k) (ev v) s)
 | .append n b x=>uJ n (ev b) (ev x) s
 | .call g args=>EO call (ev g) (args.map ev) s
 | _=>none
def dz (ops:List Oper) (j:Nat):Option Nat:=match ops[j]? with
 | some o=>o.dst
 | none=>none
def lR (all:List Oper):Option (Nat×Bool)→Option (Option (Nat×Bool))
 | none=>some none
 | some (j,want)=>match dz all j with
  | some d=>some (some (d,want))
  | none=>none
inductive Out where
 | no
 | go (e:cE) (s:RS)
 | exit (i:Nat) (e:cE) (s:RS)
 | ret (e:cE) (s:RS)
section
variable (GL:List Nat) (msk:Nat)
structure Put1 where
 run:RV→cE→Lc→(cE→Lc→Out)→Out
def jj (dst:Option Nat):Put1:=match dst with
 | none=>⟨fun _ e l K=>K e l⟩
 | some d=>cond (iE msk d) ⟨fun v e l K=>uN v fun v=>Tr.putK v .no deep e d fun e'=>K e' l⟩ ⟨fun v e l K=>uN v fun v=>K e (.cons d v l)⟩
structure Note where
 i:Nat
 rd:Option Nat
 nw:Option Nat
abbrev Notes:=List Note
structure PE where
 i:Nat
 tk:Bool
 un:List Nat
abbrev Plan:=List PE
def inL (l:List Nat) (i:Nat):Bool:=List.rec (motive:=fun _=>Bool) false (fun a _ ih=>cond (A8 a i) true ih) l
def pI (b:Option Nat) (made:Bool) (s:Option RS):Option RS:=match s,b with
 | some s,some b=>cond made (iJ s b .dead) (match s.H.get b with
  | some (.cells t m)=>iJ s b (.ro t m)
  | some (.map _)=>iJ s b .dead
  | _=>some s)
 | s,_=>s
def gl (un:List Nat) (s:RS):Notes→Option RS
 | []=>some s
 | n :: r=>cond (inL un n.i) (pI n.nw true (pI n.rd false (gl un s r))) (gl un s r)
def lg (b:Option Nat) (s0:RS) (s:Option RS):Option RS:=match s,b with
 | some s,some b=>(match s0.H.get b with
  | some o=>iJ s b o
  | none=>some s)
 | s,_=>s
def fZ (un:List Nat) (s0 s:RS):Notes→Option RS
 | []=>some s
 | n :: r=>cond (inL un n.i) (lg n.nw s0 (lg n.rd s0 (fZ un s0 s r))) (fZ un s0 s r)
def Ho (un:List Nat) (ns:Notes) (s0:RS) (r:Option (RV×RS)):Option (RV×RS):=match r with
 | some (v,s')=>(match fZ un s0 s' ns with
  | some s2=>some (v,s2)
  | none=>none)
 | none=>none
def rcU (call:Call1) (un:List Nat) (k:RK) (ev:Ev) (s:RS) (ns:Notes):Option (RV×RS):=match gl un s ns with
 | some s1=>Ho un ns s (rc P call k ev s1)
 | none=>none
abbrev K1:=cE→Lc→RS→Notes→Out
def rq (tk:Bool) (n:Note) (ns:Notes):Notes:=cond tk (n :: ns) ns
def Cr (pe:PE) (dst:Option Nat) (pr:Option PR) (e:cE) (l:Lc) (s:RS) (ns:Notes) (K:K1):Out:=match pr with
 | some (.new o v)=>o5 s.nx fun b=>wv s b .no (Tr.putK o .no deep s.H b fun H=>(jj msk dst).run (v.at b) e l fun e' l'=>K e' l' { H:=H,nx:=Nat.succ b } (rq pe.tk ⟨pe.i,none,some b⟩ ns))
 | _=>.no
def xY (dst:Option Nat) (v:Option RV) (e:cE) (l:Lc) (s:RS) (ns:Notes) (K:K1):Out :=
 Option.rec (motive:=fun _=>Out) .no (fun v=>(jj msk dst).run v e l fun e' l'=>K e' l' s ns) v
def AM (dst:Option Nat) (pr:Option (RV×RS)) (e:cE) (l:Lc) (ns:Notes) (K:K1):Out:=match pr with
 | some (v,s')=>(jj msk dst).run v e l fun e' l'=>K e' l' s' ns
 | none=>.no
structure Step where
 run:Call1→cE→Lc→RS→Notes→K1→Out
def mkW (k:RK) (pe:PE) (dst:Option Nat):Step:=match pe.un with
 | []=>⟨fun call e l s ns K=>AM msk dst (rc P call k (rev GL msk e l) s) e l ns K⟩
 | a :: r=>⟨fun call e l s ns K=>AM msk dst (rcU P call (a :: r) k (rev GL msk e l) s ns) e l ns K⟩
def kH (k:RK) (pe:PE) (dst:Option Nat):Step:=match k with
 | .m x=>⟨fun _ e l s ns K=>(jj msk dst).run (rev GL msk e l x) e l fun e' l'=>K e' l' s ns⟩
 | .v f=>⟨fun _ e l s ns K=>xY msk dst (f (rev GL msk e l)) e l s ns K⟩
 | .r x f=>⟨fun _ e l s ns K=>xY msk dst (f (blk s.H.get (rev GL msk e l x)) (rev GL msk e l)) e l s (rq pe.tk ⟨pe.i,(rev GL msk e l x).asBlk,none⟩ ns) K⟩
 | .b f=>⟨fun _ e l s ns K=>Cr msk pe dst (f (rev GL msk e l)) e l s ns K⟩
 | k=>mkW P GL msk k pe dst
def zS (v:RV) (skip:Out):Out:=match v with
 | .tup []=>skip
 | _=>.no
def jJ (v:RV) (want:Bool) (run skip:Out):Out:=onO v.asBool (zS v skip) fun b=>cond b (cond want run skip) (cond want skip run)
def AZ (g:Option (Nat×Bool)) (dst:Option Nat) (st:Step):Step:=match g with
 | none=>st
 | some (d,want)=>⟨fun call e l s ns K=>jJ (egt msk e l d) want (st.run call e l s ns K) ((jj msk dst).run rundef e l fun e' l'=>K e' l' s ns)⟩
structure Reg where
 run:Call1→cE→Lc→RS→Notes→Out
def HQ:Reg:=⟨fun _ _ _ _ _=>.no⟩
def JD (o:Oper) (g:Option (Nat×Bool)) (pe:PE) (next:Reg):Reg:=⟨fun call e l s ns=>(AZ msk g o.dst (kH P GL msk (rk P o) pe o.dst)).run call e l s ns (next.run call)⟩
def C9 (all:List Oper) (pe:PE) (next:Reg):Reg:=match all[pe.i]? with
 | some o=>(match lR all o.guard with
  | some g=>JD P GL msk o g pe next
  | none=>HQ)
 | none=>HQ
def eU (all:List Oper) (pl:Plan):Reg:=List.rec (motive:=fun _=>Reg) ⟨fun _ e _ s _=>.go e s⟩ (fun pe _ ih=>C9 P GL msk all pe ih) pl
def iy:Nat→List Oper→Plan
 | _,[]=>[]
 | k,_ :: r=>⟨k,false,[]⟩ :: iy (Nat.succ k) r
abbrev rn:=List (Nat×Plan)
def pa (ps:rn) (id:Nat) (ops:List Oper):Plan:=List.rec (motive:=fun _=>Plan) (iy 0 ops) (fun p _ ih=>cond (A8 p.1 id) p.2 ih) ps
def ut (f:cE→RS→Out) (n:Nat):cE→RS→Out :=
 Nat.rec (motive:=fun _=>cE→RS→Out) (fun _ _=>.no) (fun _ ih e s=>Out.rec (motive:=fun _=>Out) .no (fun e' s'=>ih e' s') .exit .ret (f e s)) n
def E4 (v:RV) (a b:Out):Out:=onO v.asBool .no fun t=>cond t a b
def FR (id:Nat) (o:Out):Out:=Out.rec (motive:=fun _=>Out) .no .go (fun i e s=>cond (A8 i id) (.go e s) (.exit i e s)) .ret o
def JM (o:Out) (f:cE→RS→Out):Out:=Out.rec (motive:=fun _=>Out) .no (fun e s=>f e s) .exit .ret o
structure CS where
 run:Call1→cE→RS→Out
def mkC (mn:List Nat) (ps:rn) (fuel:Nat) (c:Code):CS :=
 Code.rec (motive:=fun _=>CS)
  ⟨fun _ e s=>.go e s⟩
  (fun id ops _=>⟨fun call e s=>(eU P GL msk ops.toList (pa ps id ops.toList)).run call e .nil s []⟩)
  (fun _ _ ra rb=>⟨fun call e s=>JM (ra.run call e s) (rb.run call)⟩)
  (fun c _ _ ra rb=>⟨fun call e s=>E4 (rev GL msk e .nil c) (ra.run call e s) (rb.run call e s)⟩)
  (fun id _ r=>⟨fun call e s=>FR id (r.run call e s)⟩)
  (fun _ r=>⟨fun call e s=>ut (r.run call) fuel e s⟩)
  (fun _ _ _ _ _ _=>⟨fun _ _ _=>.no⟩)
  (fun i=>⟨fun _ e s=>.exit i e s⟩)
  (fun _ r=>⟨fun call e s=>r.run call e s⟩)
  (fun _=>⟨fun _ e s=>.go e s⟩)
  (fun _=>⟨fun _ _ _=>.no⟩)
  ⟨fun _ e s=>.ret e s⟩
  (fun _=>⟨fun _ _ _=>.no⟩) c
def wS:Nat→List RV→cE→Option cE
 | _,[],e=>some e
 | i,v :: r,e=>cond (iE msk i) (uN v fun v=>Tr.putK v none deep e i fun e'=>wS (Nat.succ i) r e') (wS (Nat.succ i) r e)
def Hc (e:cE) (s:RS):ResultVar→Option RV
 | .tmp t=>some (egt msk e .nil t)
 | .cell t τ=>rr (blk s.H.get (egt msk e .nil t)) (ldT P τ) (egt msk e .nil t)
def jh (e:cE) (s:RS):List ResultVar→Option (List RV)
 | []=>some []
 | r :: l=>match Hc P msk e s r,jh e s l with
  | some v,some vs=>some (v :: vs)
  | _,_=>none
def He:List RV→Option (List (Bool×List RC))
 | []=>some []
 | v :: r=>match v,He r with
  | .one c,some q=>some ((false,[c]) :: q)
  | .agg c,some q=>some ((true,c) :: q)
  | _,_=>none
def FQ (l:List RV):Option RV:=match l with
 | [v]=>some v
 | l=>match He l with
  | some q=>some (.tup q)
  | none=>none
def Bw (vs:Option (List RV)) (s:RS):Option (RV×RS):=match vs with
 | some vs=>(match FQ vs with
  | some v=>some (v,s)
  | none=>none)
 | none=>none
def KS (rs:List ResultVar) (o:Out):Option (RV×RS):=match o with
 | .go e s=>Bw (jh P msk e s rs) s
 | .ret e s=>Bw (jh P msk e s rs) s
 | _=>none
end
end
def Ip (c:RC):Option Int:=match c with
 | .nat m=>some (.ofNat m)
 | .int .i64 n=>some n
 | _=>none
def wD:List RC→Option (List Int)
 | []=>some []
 | c :: r=>match Ip c,wD r with
  | some n,some l=>some (n :: l)
  | _,_=>none
def KX (s:RS) (p:Option (List RC×Nat)):Option (RV×RS):=match p with
 | some ([],n)=>cond (A8 n 0) (some (.one (.sc (.slice none 0 0)),s)) none
 | some (c,n)=>cond (A8 c.length n && Lh n 1000000 && (wD c).isSome) (vN c n 1 s) none
 | none=>none
def mL (it:Nat) (args:List RV) (s:RS):Option (RV×RS):=match args with
 | [.one (.sc (.slice none 0 0)),.one (.fn f [(false,1)] 0 [.ptr b 0])]=>cond (A8 f it) (match iv (gk (s.H.get b)) 0 1 with
  | some [x]=>KX s (cL s (.one x))
  | _=>none) none
 | _=>none
def nB (o:Option RO):Bool:=match o with
 | some (.cells _ _)=>true
 | _=>false
def H3 (x y:RV) (l:List RC) (n:Nat) (s:RS):Option (RV×RS):=match x,y with
 | .one (.sl b _ _ _ 1),.one (.sl b' _ _ _ 1)=>cond (!(A8 b b') && nB (s.H.get b) && nB (s.H.get b')) (pP s.nx n 1 (kill s b fun s1=>kill s1 b' fun s2=>yq s2 n (gP l 0 .nil))) none
 | .one (.sc (.slice none 0 0)),.one (.sl b' _ _ _ 1)=>cond (nB (s.H.get b')) (pP s.nx n 1 (kill s b' fun s2=>yq s2 n (gP l 0 .nil))) none
 | _,_=>none
def HH (x y:RV) (i:Option Nat) (a b:Option (List RC×Nat)) (s:RS):Option (RV×RS):=match i,a,b with
 | some i,some (c,n),some (c',n')=>cond (Lh i n && A8 c.length n && A8 c'.length n' && Lh 1 n' && Lh (Mg n n') 1000000 && (wD c).isSome && (wD c').isSome)
   (H3 x y (c.take i++c'++c.drop i) (Mg n n') s) none
 | _,_,_=>none
def uZ (args:List RV) (s:RS):Option (RV×RS):=match args with
 | [x,i,y]=>HH x y i.asNat (cL s x) (cL s y) s
 | _=>none
inductive XF where
 | appendSeq (it:Nat)
 | insert
def J4 (x:XF) (args:List RV) (s:RS):Option (RV×RS):=match x with
 | .appendSeq it=>mL it args s
 | .insert=>uZ args s
abbrev XTab:=List (Nat×XF)
def XTab.find:XTab→Nat→Option XF
 | [],_=>none
 | p :: r,f=>cond (A8 p.1 f) (some p.2) (XTab.find r f)
structure FP where
 msk:Nat
 plans:rn
 mn:List Nat
abbrev FPs:=List (Nat×FP)
def FPs.get (l:FPs) (f:Nat):Option FP:=List.rec (motive:=fun _=>Option FP) none (fun p _ ih=>cond (A8 p.1 f) (some p.2) ih) l
def Ea (P:Program) (GL:List Nat) (lf:Nat) (fp:FP) (call:Call1) (rs:List ResultVar) (c:Code) (e:Option cE) (s:RS):Option (RV×RS):=match e with
 | some e=>KS P fp.msk rs ((mkC P GL fp.msk fp.mn fp.plans lf c).run call e s)
 | none=>none
def Hj (P:Program) (GL:List Nat) (lf:Nat) (fp:Option FP) (call:Call1) (fn:Option Func) (args:List RV) (s:RS):Option (RV×RS):=match fn,fp with
 | some fn,some fp=>(match fn.body with
  | some c=>Ea P GL lf fp call fn.results.toList c (wS fp.msk 0 args .nil) s
  | none=>none)
 | _,_=>none
def yQ (P:Program) (GL:List Nat) (X:Option XF) (lf:Nat) (fp:Option FP) (call:Call1) (fn:Option Func) (args:List RV) (s:RS):Option (RV×RS):=match X with
 | some x=>J4 x args s
 | none=>Hj P GL lf fp call fn args s
def AY (P:Program) (GL:List Nat) (X:XTab) (M:FPs) (lf:Nat) (n:Nat):Call1 :=
 Nat.rec (motive:=fun _=>Call1) (fun _ _ _=>none) (fun _ ih f args s=>yQ P GL (X.find f) lf (M.get f) ih P.funcs[f]? args s) n
def uF (r:Option (RV×RS)):Bool:=match r with
 | some (.one (.bool true),_)=>true
 | _=>false
end
end Go.Rx

