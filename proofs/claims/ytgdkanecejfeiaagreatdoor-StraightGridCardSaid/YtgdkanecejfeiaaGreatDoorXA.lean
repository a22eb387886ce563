/-
 Tables by number; a closed call is run: what is reckoned.
-/
import Derived.Test.YtgdkanecejfeiaaGreatDoorVmA
open List renaming replicate→A6,zip→OB
open Nat renaming beq→B1,ble→L6,mul→MN,add→MZ,mod_lt→NA,div→O0,mod→PL,sub→PM
set_option linter.unusedVariables false
set_option linter.unusedSimpArgs false
/-
 Tables by number that the kernel reads and writes quickly.
-/
namespace Go.Rx
inductive Tr (α : Type) where
 | nil
 | node (x:Option α) (a b c d:Tr α)
noncomputable section
variable {α : Type}
def mP {β : Type} (a b c d : β) (r:Nat) : β :=
 Nat.rec (motive:=fun _=>β) a (fun j _=>Nat.rec (motive:=fun _=>β) b (fun j _=>Nat.rec (motive:=fun _=>β) c (fun _ _=>d) j) j) r
def Tr.get (t:Tr α):Nat→Option α :=
 Tr.rec (motive:=fun _=>Nat→Option α) (fun _=>none)
  (fun x _ _ _ _ ga gb gc gd i=>Nat.rec (motive:=fun _=>Option α) x (fun k _=>mP ga gb gc gd (PL k 4) (O0 k 4)) i) t
section
variable {R:Type} (ih:Tr α→Nat→(Tr α→R)→R) (x:Option α) (a b c d:Tr α) (q:Nat) (K:Tr α→R)
def K7:R:=ih a q fun u=>K (.node x u b c d)
def pD:R:=ih b q fun u=>K (.node x a u c d)
def Dt:R:=ih c q fun u=>K (.node x a b u d)
def Lr:R:=ih d q fun u=>K (.node x a b c u)
def Kr (k:Nat):R:=mP (K7 ih x a b c d (O0 k 4) K) (pD ih x a b c d (O0 k 4) K) (Dt ih x a b c d (O0 k 4) K) (Lr ih x a b c d (O0 k 4) K) (PL k 4)
end
def Tr.putK {R:Type} (v : α) (no:R) (d:Nat):Tr α→Nat→(Tr α→R)→R :=
 Nat.rec (motive:=fun _=>Tr α→Nat→(Tr α→R)→R) (fun _ _ _=>no)
  (fun _ ih t i K=>Tr.rec (motive:=fun _=>R)
   (Nat.rec (motive:=fun _=>R) (K (.node (some v) .nil .nil .nil .nil)) (fun k _=>Kr ih none .nil .nil .nil .nil K k) i)
   (fun x a b c d _ _ _ _=>Nat.rec (motive:=fun _=>R) (K (.node (some v) a b c d)) (fun k _=>Kr ih x a b c d K k) i) t) d
def deep:Nat:=20
def Tr.put (t:Tr α) (i:Nat) (v : α):Option (Tr α):=Tr.putK v none deep t i some
theorem eO {β : Type} (a b c d : β) (r:Nat):mP a b c d r=match r with | 0=>a | 1=>b | 2=>c | _=>d:=by
 match r with
 | 0=>rfl
 | 1=>rfl
 | 2=>rfl
 | _+3=>rfl
theorem Fs {β γ : Type} (g : β→γ) (a b c d : β) (r:Nat):mP (g a) (g b) (g c) (g d) r=g (mP a b c d r):=by
 match r with
 | 0=>rfl
 | 1=>rfl
 | 2=>rfl
 | _+3=>rfl
theorem Tr.get_nil (i:Nat):(Tr.nil:Tr α).get i=none:=rfl
theorem Tr.get_zero (x:Option α) (a b c d:Tr α):(Tr.node x a b c d).get 0=x:=rfl
theorem Tr.get_succ (x:Option α) (a b c d:Tr α) (k:Nat):(Tr.node x a b c d).get (k+1)=(mP a b c d (k % 4)).get (k / 4):=by
 show mP a.get b.get c.get d.get (k % 4) (k / 4)=_
 rw [Fs]
theorem Tr.putK_nil_zero {R:Type} (v : α) (no:R) (d:Nat) (K:Tr α→R):Tr.putK v no (d+1) .nil 0 K=K (.node (some v) .nil .nil .nil .nil):=rfl
theorem Tr.putK_node_zero {R:Type} (v : α) (no:R) (n:Nat) (x:Option α) (a b c d:Tr α) (K:Tr α→R):Tr.putK v no (n+1) (.node x a b c d) 0 K=K (.node (some v) a b c d):=rfl
def Tr.with (x:Option α) (a b c d:Tr α) (r:Nat) (u:Tr α):Tr α:=match r with
 | 0=>.node x u b c d
 | 1=>.node x a u c d
 | 2=>.node x a b u d
 | _=>.node x a b c u
theorem Tr.putK_nil_succ {R:Type} (v : α) (no:R) (n k:Nat) (K:Tr α→R) :
  Tr.putK v no (n+1) .nil (k+1) K=Tr.putK v no n .nil (k / 4) fun u=>K (Tr.with none .nil .nil .nil .nil (k % 4) u):=by
 show mP _ _ _ _ (k % 4)=_
 match k % 4 with
 | 0=>rfl
 | 1=>rfl
 | 2=>rfl
 | _+3=>rfl
theorem Tr.putK_node_succ {R:Type} (v : α) (no:R) (n k:Nat) (x:Option α) (a b c d:Tr α) (K:Tr α→R) :
  Tr.putK v no (n+1) (.node x a b c d) (k+1) K=Tr.putK v no n (mP a b c d (k % 4)) (k / 4) fun u=>K (Tr.with x a b c d (k % 4) u):=by
 show mP _ _ _ _ (k % 4)=_
 match k % 4 with
 | 0=>rfl
 | 1=>rfl
 | 2=>rfl
 | _+3=>rfl
theorem Tr.putK_eq {R:Type} (v : α) (no:R):∀ (n:Nat) (t:Tr α) (i:Nat) (K:Tr α→R),Tr.putK v no n t i K=match Tr.putK v none n t i some with | some u=>K u | none=>no
 | 0,_,_,_=>rfl
 | n+1,.nil,0,K=>rfl
 | n+1,.nil,k+1,K=>by
  rw [Tr.putK_nil_succ,Tr.putK_nil_succ,Tr.putK_eq v no n,Tr.putK_eq v none n _ _ fun u=>some (Tr.with none .nil .nil .nil .nil (k % 4) u)]
  cases Tr.putK v none n .nil (k / 4) some <;> rfl
 | n+1,.node x a b c d,0,K=>rfl
 | n+1,.node x a b c d,k+1,K=>by
  rw [Tr.putK_node_succ,Tr.putK_node_succ,Tr.putK_eq v no n,Tr.putK_eq v none n _ _ fun u=>some (Tr.with x a b c d (k % 4) u)]
  cases Tr.putK v none n (mP a b c d (k % 4)) (k / 4) some <;> rfl
theorem Tr.get_with (x:Option α) (a b c d:Tr α) (r:Nat) (hr:r < 4) (u:Tr α) (j:Nat) :
  (Tr.with x a b c d r u).get j=match j with | 0=>x | k+1=>if k % 4=r then u.get (k / 4) else (mP a b c d (k % 4)).get (k / 4):=by
 cases j with
 | zero=>unfold Tr.with; split <;> rfl
 | succ k =>
  have hk:k % 4 < 4:=NA _ (by omega)
  generalize hq:k % 4=q at hk ⊢
  match r,hr with
  | 0,_=>simp only [Tr.with,Tr.get_succ,hq]; rw [eO,eO]; match q,hk with
   | 0,_=>rfl
   | 1,_=>rfl
   | 2,_=>rfl
   | 3,_=>rfl
  | 1,_=>simp only [Tr.with,Tr.get_succ,hq]; rw [eO,eO]; match q,hk with
   | 0,_=>rfl
   | 1,_=>rfl
   | 2,_=>rfl
   | 3,_=>rfl
  | 2,_=>simp only [Tr.with,Tr.get_succ,hq]; rw [eO,eO]; match q,hk with
   | 0,_=>rfl
   | 1,_=>rfl
   | 2,_=>rfl
   | 3,_=>rfl
  | 3,_=>simp only [Tr.with,Tr.get_succ,hq]; rw [eO,eO]; match q,hk with
   | 0,_=>rfl
   | 1,_=>rfl
   | 2,_=>rfl
   | 3,_=>rfl
theorem Tr.get_putK (v : α):∀ (n:Nat) (t:Tr α) (i:Nat) (u:Tr α),Tr.putK v none n t i some=some u→∀ j,u.get j=if i=j then some v else t.get j
 | 0,_,_,_,h,_=>by cases h
 | n+1,.nil,0,u,h,j=>by
  rw [Tr.putK_nil_zero] at h; cases h
  cases j with
  | zero=>rfl
  | succ k=>rw [Tr.get_succ,eO]; simp only [Tr.get_nil]; split <;> simp [Tr.get_nil]
 | n+1,.nil,k+1,u,h,j=>by
  rw [Tr.putK_nil_succ,Tr.putK_eq] at h
  split at h
  ·rename_i u' hu'
   cases h
   rw [Tr.get_with _ _ _ _ _ _ (NA _ (by omega))]
   have ih:=Tr.get_putK v n .nil (k / 4) u' hu'
   cases j with
   | zero=>simp [Tr.get_nil]
   | succ q =>
    simp only [Tr.get_nil]
    have hs:(mP Tr.nil Tr.nil Tr.nil Tr.nil (q % 4):Tr α)=.nil:=by rw [eO]; split <;> rfl
    rw [ih,hs]
    simp only [Tr.get_nil]
    by_cases e:k=q
    ·subst e; simp
    ·by_cases e2:q % 4=k % 4
     ·have:¬ k / 4=q / 4:=by omega
      simp [e2,this,e]
     ·simp [e2,e]
  ·cases h
 | n+1,.node x a b c d,0,u,h,j=>by
  rw [Tr.putK_node_zero] at h; cases h
  cases j with
  | zero=>rfl
  | succ k=>rw [Tr.get_succ,Tr.get_succ]; simp
 | n+1,.node x a b c d,k+1,u,h,j=>by
  rw [Tr.putK_node_succ,Tr.putK_eq] at h
  split at h
  ·rename_i u' hu'
   cases h
   rw [Tr.get_with _ _ _ _ _ _ (NA _ (by omega))]
   have ih:=Tr.get_putK v n _ (k / 4) u' hu'
   cases j with
   | zero=>simp [Tr.get_zero]
   | succ q =>
    simp only [Tr.get_succ]
    rw [ih]
    by_cases e:k=q
    ·subst e; simp
    ·by_cases e2:q % 4=k % 4
     ·have:¬ k / 4=q / 4:=by omega
      simp [e2,this,e]
     ·simp [e2,e]
  ·cases h
theorem Tr.get_put {t u:Tr α} {i:Nat} {v : α} (h:t.put i v=some u) (j:Nat):u.get j=if i=j then some v else t.get j:=Tr.get_putK v deep t i u h j
end
end Go.Rx

/-
 An evaluator for calls without arguments: values without types, memory by blocks of its own, operations.
-/
namespace Go.Rx
noncomputable section
open Go.Vm
inductive RC where
 | nat (m:Nat)
 | int (k:IntKind) (n:Int)
 | bool (b:Bool)
 | sc (v:Value)
 | ptr (b off:Nat)
 | sl (b off len:Nat) (cap:Option Nat) (es:Nat)
 | emp (b es:Nat)
 | mp (b:Nat)
 | fn (f:Nat) (sh:List (Bool×Nat)) (k:Nat) (cells:List RC)
inductive RV where
 | unk
 | one (c:RC)
 | agg (l:List RC)
 | tup (l:List (Bool×List RC))
abbrev Ents:=List (Value×(Bool×List RC))
inductive RO where
 | cells (t:Tr RC) (n:Nat)
 | ro (t:Tr RC) (n:Nat)
 | map (es:Ents)
 | dead
def sR {α : Type} (t:Tr α):Nat→Nat→Option (List α)
 | _,0=>some []
 | off,n+1=>match t.get off,sR t (Nat.succ off) n with
  | some c,some l=>some (c :: l)
  | _,_=>none
def fZ {α : Type}:List α→Nat→Tr α→Option (Tr α)
 | [],_,t=>some t
 | c :: l,off,t=>match t.put off c with
  | some t'=>fZ l (Nat.succ off) t'
  | none=>none
structure RS where
 H:Tr RO
 nx:Nat
def tk {α : Type}:Nat→List α→Option (List α)
 | 0,_=>some []
 | n+1,a :: l=>match tk n l with
  | some r=>some (a :: r)
  | none=>none
 | _+1,[]=>none
def pt {α : Type}:Nat→List α→List α→Option (List α)
 | 0,[],l=>some l
 | 0,a :: r,_ :: l=>match pt 0 r l with
  | some l'=>some (a :: l')
  | none=>none
 | n+1,xs,a :: l=>match pt n xs l with
  | some l'=>some (a :: l')
  | none=>none
 | _,_,_=>none
def jg:Value→Bool
 | .string s=>L6 s.size 1000000
 | .pointer none=>true
 | .slice none 0 0=>true
 | .map none=>true
 | .nilFunc=>true
 | .nilIface=>true
 | _=>false
def maxI:Nat:=9223372036854775807
def sN (n:Nat):RC:=Nat.rec (motive:=fun _=>RC) (.nat 0) (fun k _=>.nat (Nat.succ k)) n
def C5 (k:IntKind) (n:Int):Option RC:=match k,n with
 | .i64,.ofNat m=>cond (L6 m maxI) (some (sN m)) none
 | k,n=>cond (decide (k.min≤n) && decide (n≤k.max)) (some (.int k n)) none
def ofC (v:Value):Option RC:=match v with
 | .int k n=>C5 k n
 | .bool b=>some (.bool b)
 | v=>cond (jg v) (some (.sc v)) none
def Hn (c:RC):Option Value:=match c with
 | .nat m=>some (.int .i64 (.ofNat m))
 | .int k n=>some (.int k n)
 | .bool b=>some (.bool b)
 | .sc v=>some v
 | _=>none
def rundef:RV:=.tup []
def scs:List Value→Option (List RC)
 | []=>some []
 | v :: r=>match ofC v,scs r with
  | some c,some l=>some (c :: l)
  | _,_=>none
def ofV (v:Value):Option RV:=match v with
 | .agg cs=>(match scs cs.toList with | some l=>some (.agg l) | none=>none)
 | v=>(match ofC v with | some c=>some (.one c) | none=>none)
def BK:List RC→Option (List Value)
 | []=>some []
 | c :: r=>match Hn c,BK r with
  | some v,some l=>some (v :: l)
  | _,_=>none
def vOf (x:RV):Option Value:=match x with
 | .one c=>Hn c
 | .agg l=>(match BK l with | some vs=>some (.agg vs.toArray) | none=>none)
 | _=>none
def oS (x:RV):Option (List RC):=match x with
 | .one c=>some [c]
 | .agg l=>some l
 | _=>none
def oQ (agg:Bool) (l:List RC):Option RV:=match agg,l with
 | true,l=>some (.agg l)
 | false,[c]=>some (.one c)
 | false,_=>none
structure SlH where
 b:Nat
 off:Nat
 len:Nat
 cap:Option Nat
 es:Nat
def RC.asNat (c:RC):Option Nat:=RC.casesOn (motive_1:=fun _=>Option Nat) c (fun m=>some m) (fun _ _=>none) (fun _=>none) (fun _=>none) (fun _ _=>none) (fun _ _ _ _ _=>none) (fun _ _=>none) (fun _=>none) (fun _ _ _ _=>none)
def RC.asBool (c:RC):Option Bool:=RC.casesOn (motive_1:=fun _=>Option Bool) c (fun _=>none) (fun _ _=>none) (fun b=>some b) (fun _=>none) (fun _ _=>none) (fun _ _ _ _ _=>none) (fun _ _=>none) (fun _=>none) (fun _ _ _ _=>none)
def RC.asPtr (c:RC):Option (Nat×Nat):=RC.casesOn (motive_1:=fun _=>Option (Nat×Nat)) c (fun _=>none) (fun _ _=>none) (fun _=>none) (fun _=>none) (fun b o=>some (b,o)) (fun _ _ _ _ _=>none) (fun _ _=>none) (fun _=>none) (fun _ _ _ _=>none)
def RC.asSl (c:RC):Option SlH:=RC.casesOn (motive_1:=fun _=>Option SlH) c (fun _=>none) (fun _ _=>none) (fun _=>none) (fun _=>none) (fun _ _=>none) (fun b o n c e=>some ⟨b,o,n,c,e⟩) (fun _ _=>none) (fun _=>none) (fun _ _ _ _=>none)
def RC.asBlk (c:RC):Option Nat:=RC.casesOn (motive_1:=fun _=>Option Nat) c (fun _=>none) (fun _ _=>none) (fun _=>none) (fun _=>none) (fun b _=>some b) (fun _ _ _ _ _=>none) (fun _ _=>none) (fun b=>some b) (fun _ _ _ _=>none)
def RV.asBlk (x:RV):Option Nat:=RV.casesOn (motive:=fun _=>Option Nat) x none (fun c=>c.asBlk) (fun _=>none) (fun _=>none)
def RV.asNat (x:RV):Option Nat:=RV.casesOn (motive:=fun _=>Option Nat) x none (fun c=>c.asNat) (fun _=>none) (fun _=>none)
def RV.asBool (x:RV):Option Bool:=RV.casesOn (motive:=fun _=>Option Bool) x none (fun c=>c.asBool) (fun _=>none) (fun _=>none)
def RV.asPtr (x:RV):Option (Nat×Nat):=RV.casesOn (motive:=fun _=>Option (Nat×Nat)) x none (fun c=>c.asPtr) (fun _=>none) (fun _=>none)
def RV.asSl (x:RV):Option SlH:=RV.casesOn (motive:=fun _=>Option SlH) x none (fun c=>c.asSl) (fun _=>none) (fun _=>none)
def RO.asC (o:RO):Option (Tr RC×Nat):=RO.casesOn (motive:=fun _=>Option (Tr RC×Nat)) o (fun t n=>some (t,n)) (fun _ _=>none) (fun _=>none) none
def RO.asR (o:RO):Option (Tr RC×Nat):=RO.casesOn (motive:=fun _=>Option (Tr RC×Nat)) o (fun t n=>some (t,n)) (fun t n=>some (t,n)) (fun _=>none) none
def onO {α R:Type} (o:Option α) (no:R) (K : α→R):R:=Option.rec (motive:=fun _=>R) no K o
def wb {R:Type} (v:RV) (K:RV→R):R:=RV.casesOn (motive:=fun _=>R) v (K .unk) (fun c=>K (.one c)) (fun l=>K (.agg l)) (fun l=>K (.tup l))
def nQ {R:Type} (n:Nat) (K:Nat→R):R:=Nat.rec (motive:=fun _=>R) (K 0) (fun k _=>K (Nat.succ k)) n
section
variable (P:Program)
def im {α : Type}:Sem α→Option α
 | .pure a=>some a
 | .program k=>im (k P)
 | .mark _ k=>im k
 | _=>none
def dv (t:TypeId):Option Nat:=match P.info? t with
 | some i=>cond (L6 i.bytes 100000) (some i.size) none
 | none=>none
def Am (t:TypeId):Option Bool:=match P.underlying t with
 | some (.struct _)=>some true
 | some (.array _ _)=>some true
 | some _=>some false
 | none=>none
def gT (t:TypeId):Option (List RC):=match P.info? t with
 | some i=>(match i.zero with
  | some z=>scs z.cells.toList
  | none=>none)
 | none=>none
def eZ (t:TypeId):Option TypeId:=match P.underlying t with
 | some (.slice e)=>some e
 | _=>none
def ldT (t:TypeId):Option (Bool×Nat):=match Am P t,dv P t with
 | some g,some n=>cond (g || B1 n 1) (some (g,n)) none
 | _,_=>none
def kw (t:TypeId) (f:Nat):Option (Nat×(Bool×Nat)):=match P.underlying t with
 | some (.struct fs)=>(match fs[f]? with
  | some fd=>(match ldT P fd.type with
   | some p=>some (fd.offset,p)
   | none=>none)
  | none=>none)
 | _=>none
inductive IK where
 | sl (n:Nat)
 | ar (len:Nat) (g:Bool) (n:Nat)
 | no
def CJ (t:TypeId):IK:=match P.underlying t with
 | some (.slice e)=>(match dv P e with | some n=>.sl n | none=>.no)
 | some (.array len e)=>(match ldT P e with | some (g,n)=>.ar len g n | none=>.no)
 | _=>.no
inductive Lc where
 | nil
 | cons (t:Nat) (v:RV) (r:Lc)
abbrev cm:=Tr RV
def gX (msk t:Nat):Bool:=B1 (PL (Nat.shiftRight msk t) 2) 1
def II (l:Lc) (t:Nat):RV:=Lc.rec (motive:=fun _=>RV) .unk (fun t' v _ ih=>cond (B1 t' t) v ih) l
def gOr (o:Option RV):RV:=Option.rec (motive:=fun _=>RV) .unk (fun v=>v) o
def egt (msk:Nat) (e:cm) (l:Lc) (t:Nat):RV:=cond (gX msk t) (gOr (e.get t)) (II l t)
def Ea (v:Value):RV:=(ofV v).getD .unk
def gIn (GL:List Nat) (g:Nat):Bool:=List.rec (motive:=fun _=>Bool) false (fun a _ ih=>cond (B1 a g) true ih) GL
structure Opd where
 get:cm→Lc→RV
def JU (GL:List Nat) (msk:Nat) (x:Operand):Opd:=match x with
 | .tmp t=>cond (gX msk t) ⟨fun e _=>gOr (e.get t)⟩ ⟨fun _ l=>II l t⟩
 | .const v=>⟨fun _ _=>Ea v⟩
 | .global g=>cond (gIn GL g) ⟨fun _ _=>.one (.ptr g 0)⟩ ⟨fun _ _=>.unk⟩
 | .func f=>⟨fun _ _=>.one (.fn f [] 0 [])⟩
def rev (GL:List Nat) (msk:Nat) (e:cm) (l:Lc) (x:Operand):RV:=(JU GL msk x).get e l
abbrev Hp:=Nat→Option RO
abbrev Ev:=Operand→RV
def blk (h:Hp) (x:RV):Option RO:=onO x.asBlk none h
def ixI (x:RV):Option Nat:=match x with
 | .one (.int _ n)=>cond (decide (0≤n)) (some n.toNat) none
 | _=>none
def ixN (x:RV):Option Nat:=onO x.asNat (ixI x) some
inductive PR where
 | val (v:RV)
 | new (o:RO) (v:RV)
def I4 (op:BinOp) (k:IntKind) (a b:Int):Option RC:=match Bo op k a b with
 | some (.val (.int k') n)=>C5 k' n
 | some (.val .bool t)=>some (.bool t)
 | _=>none
def bB (b:Bool):Option RV:=cond b (some (.one (.bool true))) (some (.one (.bool false)))
def bN (n:Nat):Option RV:=Nat.rec (motive:=fun _=>Option RV) (some (.one (.nat 0))) (fun k _=>some (.one (.nat (Nat.succ k)))) n
def BM (op:BinOp):Option (Nat→Nat→Option RV):=match op with
 | .add=>some fun a b=>cond (L6 (MZ a b) maxI) (bN (MZ a b)) none
 | .sub=>some fun a b=>cond (L6 b a) (bN (PM a b)) none
 | .mul=>some fun a b=>cond (L6 (MN a b) maxI) (bN (MN a b)) none
 | .quo=>some fun a b=>cond (B1 b 0) none (bN (O0 a b))
 | .rem=>some fun a b=>cond (B1 b 0) none (bN (PL a b))
 | .eql=>some fun a b=>bB (B1 a b)
 | .neq=>some fun a b=>bB (not (B1 a b))
 | .lss=>some fun a b=>bB (L6 (Nat.succ a) b)
 | .leq=>some fun a b=>bB (L6 a b)
 | .gtr=>some fun a b=>bB (L6 (Nat.succ b) a)
 | .geq=>some fun a b=>bB (L6 b a)
 | _=>none
def iQ (d:TypeDesc) (c:RC) (v:Value):Bool:=match d,c,v with
 | .pointer _,.ptr _ _,.pointer none=>true
 | .slice _,.sl _ _ _ _ _,.slice none 0 0=>true
 | .slice _,.emp _ _,.slice none 0 0=>true
 | .map _ _,.mp _,.map none=>true
 | .func _ _ _,.fn _ _ _ _,.nilFunc=>true
 | _,_,_=>false
def uG (op:BinOp) (t:TypeId) (c:RC) (v:Value):Option RV:=match P.underlying t with
 | some d=>cond (iQ d c v) (match op with
  | .eql=>some (.one (.bool false))
  | .neq=>some (.one (.bool true))
  | _=>none) none
 | none=>none
def uV (op:BinOp) (k:IntKind) (m n:Int):Option RC:=match op with
 | .quo=>cond (eqI n 0) none (C5 k (iq k m n))
 | .rem=>cond (eqI n 0) none (C5 k (kC m n))
 | _=>I4 op k m n
def H4 (c:Option RC):Option RV:=match c with
 | some c=>some (.one c)
 | none=>none
def pR (op:BinOp) (xt:TypeId) (x y:Operand) (u v:Value):Option RV:=match im P (do eqGuard op xt x y u v; binOp op xt u v) with
 | some w=>ofV w
 | none=>none
def IB (op:BinOp):Bool:=match op with
 | .shl=>true
 | .shr=>true
 | .and=>true
 | .or=>true
 | .xor=>true
 | .andNot=>true
 | _=>false
def uP (op:BinOp) (xt:TypeId) (x y:Operand) (u v:Value):Option RV:=match u,v with
 | .int k m,.int k' n=>cond (IB op) (pR P op xt x y (.int k m) (.int k' n)) (cond (decide (k=k')) (H4 (uV op k m n)) none)
 | u,v=>pR P op xt x y u v
def Fj (op:BinOp) (xt:TypeId) (x y:Operand) (a b:RV):Option RV:=match vOf a,vOf b with
 | some u,some v=>uP P op xt x y u v
 | none,some v=>(match a with
  | .one c=>uG P op xt c v
  | _=>none)
 | some v,none=>(match b with
  | .one c=>uG P op xt c v
  | _=>none)
 | none,none=>none
def zP (f:Nat→Nat→Option RV) (a b:RV) (slow:Option RV):Option RV :=
 onO a.asNat slow fun m=>onO b.asNat slow fun n=>onO (f m n) slow some
def fG (o:Option RO):Option (Tr RC×Nat):=onO o none RO.asR
def gU (p:Option (Tr RC×Nat)) (off n:Nat):Option (List RC):=match p with
 | some (t,m)=>cond (L6 (MZ off n) m) (sR t off n) none
 | none=>none
def Le {α : Type} (off:Nat) (p:Tr α×Nat):Option α:=Prod.rec (motive:=fun _=>Option α) (fun t m=>cond (L6 (Nat.succ off) m) (t.get off) none) p
def DU (p:Option (Tr RC×Nat)) (off:Nat):Option RV:=onO p none fun p=>onO (Le off p) none fun c=>some (.one c)
def EA (l:Option (List RC)):Option RV:=match l with
 | some l=>some (.agg l)
 | none=>none
def iD (l:List RC):Option RO:=match fZ l 0 .nil with
 | some t=>some (.cells t l.length)
 | none=>none
def Ao (o:Option RO) (v:RV):Option PR:=match o with
 | some o=>some (.new o v)
 | none=>none
def J7 (o:Option RO) (g:Bool) (n off:Nat):Option RV:=cond g (EA (gU (fG o) off n)) (DU (fG o) off)
def rh (o:Option RO) (p:Option (Bool×Nat)) (x:RV):Option RV :=
 onO p none fun q=>onO x.asPtr none fun a=>J7 o q.1 q.2 a.2
def Ck (p:Bool×Nat) (o:Nat) (l:List RC):Option RV:=match tk p.2 (l.drop o) with
 | some c=>oQ p.1 c
 | none=>none
def zI (p:Option (Nat×(Bool×Nat))) (x:RV):Option RV:=match x,p with
 | .agg l,some (o,q)=>Ck q o l
 | _,_=>none
def FX (b off:Nat):Option RV:=some (.one (.ptr b off))
def qq (p:Option (Nat×(Bool×Nat))) (x:RV):Option RV :=
 onO p none fun q=>onO x.asPtr none fun a=>cond (L6 1 q.2.2) (FX a.1 (MZ a.2 q.1)) none
def IM (n:Nat) (x:RV) (i:Option Nat):Option RV :=
 onO i none fun i=>onO x.asSl none fun s=>cond (B1 n s.es) (cond (L6 (Nat.succ i) s.len) (FX s.b (MZ s.off (MN i n))) none) none
def I8 (len n:Nat) (x:RV) (i:Option Nat):Option RV :=
 onO i none fun i=>onO x.asPtr none fun a=>cond (L6 (Nat.succ i) len) (FX a.1 (MZ a.2 (MN i n))) none
def mD (k:IK) (x:RV) (i:Option Nat):Option RV:=match k with
 | .sl n=>IM n x i
 | .ar len _ n=>I8 len n x i
 | .no=>none
def Bx (k:IK) (l:List RC) (i:Option Nat):Option RV:=match k,i with
 | .ar len g n,some i=>cond (L6 (Nat.succ i) len) (Ck (g,n) (MN i n) l) none
 | _,_=>none
def Bf (t:TypeId) (u v:Option Value):Option RV:=match u,v with
 | some (.string s),some (.int k i)=>(match im P (Instr.index t (.string s) (.int k i)) with
  | some w=>ofV w
  | none=>none)
 | _,_=>none
def yQ (t:TypeId) (x ix:RV):Option RV:=match x with
 | .agg l=>Bx (CJ P t) l (ixN ix)
 | x=>Bf P t (vOf x) (vOf ix)
def Er (t:TypeId) (n c:Option Nat):Option PR:=match eZ P t,n,c with
 | some e,some n,some c=>(match dv P e,gT P e with
  | some es,some z=>cond (L6 n c && L6 c 1000000 && B1 z.length es && L6 1 es)
   (Ao (iD (A6 c z).flatten) (.one (.sl 0 0 n (some c) es))) none
  | _,_=>none)
 | _,_,_=>none
def zp (d:Nat) (x:Option RV):Option Nat:=match x with
 | none=>some d
 | some v=>ixN v
def vd (b off n l h:Nat) (c:Nat):RV:=.one (.sl b (cond (B1 c l) off (MZ off (MN l n))) (PM h l) (some (PM c l)) n)
def wJ (n b off len:Nat) (cap:Option Nat) (es:Nat) (l h:Option Nat) (mx:Option RV):Option RV:=match l,h with
 | some l,some h=>cond (B1 n es && L6 1 es && L6 l h) (match mx with
  | some m=>(match ixN m with
   | some m'=>cond (L6 h m' && L6 m' (cap.getD len)) (some (vd b off n l h m')) none
   | none=>none)
  | none=>(match cap with
   | some c=>cond (L6 h c) (some (vd b off n l h c)) none
   | none=>cond (L6 h len) (cond (L6 len l) (some (.one (.emp b n))) (some (.one (.sl b (MZ off (MN l n)) (PM h l) none n)))) none)) none
 | _,_=>none
def tP (n b es:Nat) (l h:Option Nat) (mx:Option RV):Option RV:=match l,h,mx with
 | some 0,some 0,none=>cond (B1 n es) (some (.one (.emp b n))) none
 | _,_,_=>none
def uf (l h:Option Nat) (mx:Option RV):Option RV:=match l,h,mx with
 | some 0,some 0,none=>some (.one (.sc (.slice none 0 0)))
 | _,_,_=>none
def Hd (x:Option RV):Option (Option Value):=match x with
 | none=>some none
 | some v=>(match vOf v with
  | some u=>some (some u)
  | none=>none)
def ul (t:TypeId) (s:ByteArray) (lo hi:Option (Option Value)) (mx:Option RV):Option RV:=match lo,hi,mx with
 | some a,some b,none=>(match im P (Instr.sliceAt t (.string s) a b none) with
  | some w=>ofV w
  | none=>none)
 | _,_,_=>none
def H0 (hi mx:Option RV):Bool:=match hi,mx with
 | none,some _=>false
 | _,_=>true
def zF (t:TypeId) (x:RV) (lo hi mx:Option RV):Option RV:=cond (H0 hi mx) (match x with
 | .one (.sl b off len cap es)=>(match eZ P t with
  | some e=>(match dv P e with
   | some n=>wJ n b off len cap es (zp 0 lo) (zp len hi) mx
   | none=>none)
  | none=>none)
 | .one (.emp b es)=>(match eZ P t with
  | some e=>(match dv P e with
   | some n=>tP n b es (zp 0 lo) (zp 0 hi) mx
   | none=>none)
  | none=>none)
 | .one (.sc (.string s))=>ul P t s (Hd lo) (Hd hi) mx
 | .one (.sc (.slice none 0 0))=>(match eZ P t with
  | some e=>(match dv P e with
   | some _=>uf (zp 0 lo) (zp 0 hi) mx
   | none=>none)
  | none=>none)
 | _=>none) none
def BP (place:Nat→Option (Nat×Nat)):List (Nat×RV)→List RC→Option (List RC)
 | [],l=>some l
 | (i,v) :: r,l=>match place i,oS v with
  | some (o,n),some c=>cond (B1 c.length n) (match pt o c l with
   | some l'=>BP place r l'
   | none=>none) none
  | _,_=>none
def vW (t:TypeId) (i:Nat):Option (Nat×Nat):=match kw P t i with
 | some (o,(_,n))=>some (o,n)
 | none=>none
def CG {α : Type} (l:List α):Nat:=List.rec (motive:=fun _=>Nat) 0 (fun _ _ n=>Nat.succ n) l
def IU {α : Type} (l r:List α):List α:=List.rec (motive:=fun _=>List α) r (fun a _ ih=>a :: ih) l
def JB (l:List (Nat×RV)):Option (List RC):=List.rec (motive:=fun _=>Option (List RC)) (some [])
 (fun p _ ih=>onO ih none fun r=>RV.casesOn (motive:=fun _=>Option (List RC)) p.2 none (fun c=>cond (B1 p.1 1) (some (c :: r)) none) (fun l=>cond (B1 (CG l) p.1) (some (IU l r)) none) (fun _=>none)) l
def Da (place:Nat→Option (Nat×Nat)):Nat→Nat→List Nat→Option (List Nat×Nat)
 | _,o,[]=>some ([],o)
 | i,o,j :: r=>cond (B1 i j) (match place j with
  | some (o',n)=>cond (B1 o o') (match Da place (i+1) (o+n) r with
   | some (l,e)=>some (n :: l,e)
   | none=>none) none
  | none=>none) none
def IF (place:Nat→Option (Nat×Nat)) (idx:List Nat) (total:Nat):Option (List Nat):=match Da place 0 0 idx with
 | some (l,e)=>cond (B1 e total) (some l) none
 | none=>none
def K8 (l:List Nat) (vs:List RV):List (Nat×RV):=OB l vs
structure Lit1 where
 run:List RV→Option (List RC)
def yD (place:Nat→Option (Nat×Nat)) (z:List RC) (idx:List Nat):Lit1:=match IF place idx z.length with
 | some l=>⟨fun vs=>JB (K8 l vs)⟩
 | none=>⟨fun vs=>BP place (OB idx vs) z⟩
def tc:Lit1:=⟨fun _=>none⟩
def JR (t:TypeId) (idx:List Nat):Lit1:=match gT P t,P.underlying t with
 | some z,some (.struct fs)=>cond (fs.toList.all fun f=>(P.info? f.type).isSome) (yD (vW P t) z idx) tc
 | some z,some (.array _ e)=>(match dv P e with
  | some n=>yD (fun i=>some (i * n,n)) z idx
  | none=>tc)
 | _,_=>tc
def Ko (t:TypeId) (len:Nat) (idx:List Nat):Lit1:=match eZ P t with
 | some e=>(match dv P e,gT P e with
  | some es,some z=>cond (B1 z.length es && L6 1 es && L6 (len * es) 1000000) (yD (fun i=>some (i * es,es)) (A6 len z).flatten idx) tc
  | _,_=>tc)
 | none=>tc
def CF (ev:Ev) (l:List (Nat×Operand)):List RV:=List.rec (motive:=fun _=>List RV) [] (fun p _ ih=>ev p.2 :: ih) l
def yY (t:TypeId) (parts:List (Nat×Operand)) (ev:Ev):Option RV:=EA ((JR P t (parts.map (·.1))).run (CF ev parts))
def DQ (l:List RC):Option RO:=onO (fZ l 0 .nil) none fun t=>some (.cells t (CG l))
def slV (es:Option Nat) (len:Nat):RV:=.one (.sl 0 0 len (some len) (es.getD 0))
def ko (t:TypeId) (len:Nat) (parts:List (Nat×Operand)) (ev:Ev):Option PR :=
 onO ((Ko P t len (parts.map (·.1))).run (CF ev parts)) none fun l=>Ao (DQ l) (slV (onO (eZ P t) none (dv P)) len)
def Br:List RV→Option (List (Bool×Nat)×List RC)
 | []=>some ([],[])
 | v :: r=>match v,Br r with
  | .one c,some p=>some ((false,1) :: p.1,c :: p.2)
  | .agg l,some p=>some ((true,l.length) :: p.1,l++p.2)
  | _,_=>none
def vP:List (Bool×Nat)→List RC→Option (List RV)
 | [],_=>some []
 | p :: r,l=>match tk p.2 l,vP r (l.drop p.2) with
  | some c,some vs=>(match oQ p.1 c with | some v=>some (v :: vs) | none=>none)
  | _,_=>none
def RV.at (id:Nat) (v:RV):RV:=match v with
 | .one (.ptr _ off)=>.one (.ptr id off)
 | .one (.sl _ off len cap es)=>.one (.sl id off len cap es)
 | .one (.mp _)=>.one (.mp id)
 | v=>v
def FS (em:Bool) (t:TypeId) (k:Value) (es:Ents):Option (Option Nat) :=
 match im P (do Instr.checkKey em 10000 t k; Instr.findKey t k (es.map fun e=>{ key:=e.1,val:=.nilFunc,born:=0 })) with
 | some r=>some (r.map (·.1))
 | none=>none
def mAt (r:Option Nat) (es:Ents) (g:Bool) (z:List RC):Option (Bool×List RC):=match r with
 | none=>some (g,z)
 | some i=>(match es[i]? with
  | some e=>some e.2
  | none=>none)
def lkV (ok:Bool) (has:Bool) (c:Option (Bool×List RC)):Option RV:=match c with
 | some c=>cond ok (some (.tup [c,(false,[.bool has])])) (oQ c.1 c.2)
 | none=>none
def HX (g:Bool) (v:Value):Option (Bool×List RC):=match v with
 | .agg cs=>cond g (match scs cs.toList with
  | some l=>some (true,l)
  | none=>none) none
 | v=>cond g none (match ofC v with
  | some c=>some (false,[c])
  | none=>none)
def EI (t:TypeId):Option (Bool×List RC):=match Am P t,P.info? t with
 | some g,some i=>(match i.zero with
  | some v=>HX g v
  | none=>none)
 | _,_=>none
def vu (o:Option RO) (t:TypeId) (x key:RV) (ok:Bool):Option RV:=match P.underlying t,x,vOf key with
 | some (.map kt vt),.one (.mp _),some k=>(match o,EI P vt with
  | some (.map es),some (g,z)=>(match FS P es.isEmpty kt k es with
   | some r=>lkV ok r.isSome (mAt r es g z)
   | none=>none)
  | _,_=>none)
 | _,_,_=>none
def wn (x:RV):Option Nat:=match x with
 | .one (.emp _ _)=>some 0
 | .one (.sc (.slice none 0 0))=>some 0
 | _=>none
def rO (x:RV):Option Nat:=onO x.asSl (wn x) fun s=>some s.len
def AU (x:RV):Option Nat:=match x with
 | .one (.sc (.string s))=>some s.size
 | _=>none
def Af (o:Option RO) (x:RV):Option Nat:=match x with
 | .one (.sc (.map none))=>some 0
 | .one (.mp _)=>(match o with
  | some (.map es)=>some es.length
  | _=>none)
 | _=>none
inductive LK where
 | sl
 | str
 | map
 | arr (n:Nat)
 | no
def Hz (t:TypeId):LK:=match P.underlying t with
 | some .string=>.str
 | some (.array n _)=>.arr n
 | some (.slice _)=>.sl
 | some (.map _ _)=>.map
 | _=>.no
def Ka (k:LK) (x:RV):Option Nat:=match k with
 | .sl=>rO x
 | .str=>AU x
 | .map=>none
 | .arr n=>some n
 | .no=>none
def uD (n:Option Nat):Option RV:=match n with
 | some n=>cond (L6 n maxI) (bN n) none
 | none=>none
def Hm:List RV→Option (List Value)
 | []=>some []
 | v :: r=>match vOf v,Hm r with
  | some u,some l=>some (u :: l)
  | _,_=>none
def LP (v:Option RV):Option PR:=Option.rec (motive:=fun _=>Option PR) none (fun v=>some (.val v)) v
def Ir (c a b:RV):Option RV:=onO c.asBool none fun t=>cond t (some a) (some b)
def AF (t:TypeId):Option PR:=match gT P t with
 | some z=>Ao (iD z) (.one (.ptr 0 0))
 | none=>none
def Ji (x:RV):Option PR:=match oS x with
 | some l=>Ao (iD l) (.one (.ptr 0 0))
 | none=>none
def EK (v:RV):Option RV:=match v with
 | .one (.fn f a b c)=>some (.one (.fn f a b c))
 | _=>none
def Jn (v:RV):Option RV:=onO v.asPtr (EK v) fun _=>some v
def unV (f:Value→Sem Value) (x:RV):Option RV:=match vOf x with
 | some v=>(match im P (f v) with
  | some w=>ofV w
  | none=>none)
 | none=>none
def IY (x:RV) (slow:Option RV):Option RV:=onO x.asBool slow fun b=>bB (not b)
def E9 (f:FuncId) (n:Nat) (l:List RV):Option RV:=match Br l with
 | some p=>some (.one (.fn f p.1 n p.2))
 | none=>none
def sq (x:RV) (i:Nat):Option RV:=match x with
 | .tup l=>(match l[i]? with
  | some p=>oQ p.1 p.2
  | none=>none)
 | _=>none
def HG (f:Array Value→Sem Value) (l:List RV):Option RV:=match Hm l with
 | some vs=>(match im P (f vs.toArray) with
  | some w=>ofV w
  | none=>none)
 | none=>none
inductive RK where
 | m (x:Operand)
 | v (f:Ev→Option RV)
 | r (x:Operand) (f:Option RO→Ev→Option RV)
 | b (f:Ev→Option PR)
 | store (n:Option Nat) (a x:Operand)
 | mapUpd (t:TypeId) (m k v:Operand)
 | append (n:Option Nat) (b x:Operand)
 | copy (n:Option Nat) (b x:Operand)
 | clear (t:TypeId) (x:Operand)
 | delete (t:TypeId) (x k:Operand)
 | call (g:Operand) (args:List Operand)
 | no
def x6 (t:TypeId):Option Nat:=match eZ P t with
 | some e=>(match dv P e,gT P e with
  | some n,some z=>cond (L6 1 n && B1 z.length n) (some n) none
  | _,_=>none)
 | none=>none
def B9 (t:TypeId):Bool:=match eZ P t with
 | some _=>true
 | none=>false
def Jy (x:RV):Option Nat:=match x with
 | .one (.sc (.slice none 0 0))=>some 0
 | .one (.sl _ _ _ (some k) _)=>some k
 | _=>none
def LM (t:TypeId):Option (List RC):=match eZ P t with
 | some e=>gT P e
 | none=>none
def LN (es:Option Nat) (z:Option (List RC)) (x:RV) (n:Option Nat):Option PR:=match es,z,x,n with
 | some es,some z,.one (.sc (.slice none 0 0)),some n=>cond (L6 1 n && L6 n 1000000) (Ao (iD (A6 n z).flatten) (.one (.sl 0 0 n none es))) none
 | _,_,_,_=>none
def LH (t:TypeId):Bool:=match P.underlying t with
 | some (.int .i64)=>true
 | _=>false
def mf (ty:TypeId) (b:Builtin) (args:List Operand) (ts:Array TypeId):RK:=match b,args,ts.toList with
 | .len,[x],[t]=>(match Hz P t with
  | .map=>.r x fun o ev=>uD (Af o (ev x))
  | k=>.v fun ev=>uD (Ka k (ev x)))
 | .min,l,_=>.v fun ev=>HG P (Builtin.min_ ts ty) (l.map ev)
 | .max,l,_=>.v fun ev=>HG P (Builtin.max_ ts ty) (l.map ev)
 | .append,[b,x],[t,t']=>cond (decide (t=t')) (.append (x6 P t) b x) .no
 | .copy,[b,x],[t,t']=>cond (decide (t=t')) (.copy (x6 P t) b x) .no
 | .clear,[x],[t]=>.clear t x
 | .delete,[x,k],[t,_]=>.delete t x k
 | .cap,[x],[t]=>cond (B9 P t) (.v fun ev=>uD (Jy (ev x))) .no
 | _,_,_=>.no
def sj (op:BinOp) (xt:TypeId) (x y:Operand):RK:=match BM op with
 | some f=>.v fun ev=>zP f (ev x) (ev y) (Fj P op xt x y (ev x) (ev y))
 | none=>.v fun ev=>Fj P op xt x y (ev x) (ev y)
def Aq (op:UnOp) (x:Operand):RK:=match op with
 | .not=>.v fun ev=>IY (ev x) (unV P (Op.unary .not) (ev x))
 | op=>.v fun ev=>unV P (Op.unary op) (ev x)
def JH (a b:TypeId):Bool:=match P.underlying a,eZ P b with
 | some .string,some e=>(match P.underlying e with
  | some (.int .u8)=>true
  | _=>false)
 | _,_=>false
def JP (b:UInt8):RC:=.int .u8 (.ofNat b.toNat)
def K0 (x:RV):Option PR:=match vOf x with
 | some (.string s)=>cond (L6 s.data.toList.length 100000) (match fZ (s.data.toList.map JP) 0 .nil with
  | some t=>some (.new (.ro t s.data.toList.length) (.one (.sl 0 0 s.data.toList.length none 1)))
  | none=>none) none
 | _=>none
def EZ (a b:TypeId) (x:Operand):RK:=.v fun ev=>unV P (convert a b) (ev x)
def rk (o:Oper):RK:=match o.op with
 | .move x=>.m x
 | .assign x=>.m x
 | .pick c a b=>.v fun ev=>Ir (ev c) (ev a) (ev b)
 | .alloc t=>.b fun _=>AF P t
 | .box _ x=>.b fun ev=>Ji (ev x)
 | .build t parts=>.v fun ev=>yY P t parts.toList ev
 | .buildSlice t n parts=>.b fun ev=>ko P t n parts.toList ev
 | .load t a=>.r a fun o ev=>rh o (ldT P t) (ev a)
 | .nilCheck x=>.v fun ev=>Jn (ev x)
 | .binOp op xt x y _=>sj P op xt x y
 | .unOp op _ x=>Aq P op x
 | .convert a b x=>EZ P a b x
 | .makeFunc (.func f) first caps=>.v fun ev=>E9 f first.size (first.toList.map ev++caps.toList.map ev)
 | .makeMap _ none=>.b fun _=>some (.new (.map []) (.one (.mp 0)))
 | .makeSlice t n c=>.b fun ev=>Er P t (ixN (ev n)) (ixN (ev c))
 | .slice t x lo hi mx=>.v fun ev=>zF P t (ev x) (lo.map ev) (hi.map ev) (mx.map ev)
 | .fieldAddr t x f=>.v fun ev=>qq (kw P t f) (ev x)
 | .field t x f=>.v fun ev=>zI (kw P t f) (ev x)
 | .indexAddr t x ix=>.v fun ev=>mD (CJ P t) (ev x) (ixN (ev ix))
 | .index t x ix=>.v fun ev=>yQ P t (ev x) (ev ix)
 | .lookup t x ix ok=>.r x fun o ev=>vu P o t (ev x) (ev ix) ok
 | .extract x i=>.v fun ev=>sq (ev x) i
 | .store t a x=>.store (dv P t) a x
 | .mapUpdate t m k v=>.mapUpd t m k v
 | .call { callee:=.builtin b,args,argTypes }=>mf P o.type b args.toList argTypes
 | .call { callee:=.value g,args,.. }=>.call g args.toList
 | _=>.no
end
end
end Go.Rx

/-
 An evaluator for calls without arguments: operations that write, regions, bodies, calls.
-/
namespace Go.Rx
noncomputable section
open Go.Vm
abbrev Call1:=Nat→List RV→RS→Option (RV×RS)
section
variable (P:Program) (call:Call1)
def hZ (s:RS) (b:Nat) (o:RO):Option RS:=Tr.putK o none deep s.H b fun H=>some { H:=H,nx:=s.nx }
def wC {R:Type} (s:RS) (b:Nat) (no r:R):R:=Option.rec (motive:=fun _=>R) r (fun _=>no) (s.H.get b)
def s6 (s:RS) (o:RO):Option RS:=nQ s.nx fun b=>wC s b none (Tr.putK o none deep s.H b fun H=>some { H:=H,nx:=Nat.succ b })
def CL (s:RS) (b n:Nat) (t:Option (Tr RC)):Option RS:=match t with
 | some t=>hZ s b (.cells t n)
 | none=>none
def yn (s:RS) (n:Nat) (t:Option (Tr RC)):Option RS:=match t with
 | some t=>s6 s (.cells t n)
 | none=>none
def KP (c:List RC) (n b off:Nat) (s:RS) (p:Option (Tr RC×Nat)):Option RS :=
 onO p none fun p=>cond (B1 c.length n && L6 (MZ off n) p.2) (CL s b p.2 (fZ c off p.1)) none
def Al (n:Option Nat) (a x:RV) (s:RS):Option RS :=
 onO n none fun n=>onO a.asPtr none fun a=>onO (oS x) none fun c=>KP c n a.1 a.2 s (onO (s.H.get a.1) none RO.asC)
def cA (s:RS) (x:RV):Option (List RC×Nat):=match x with
 | .one (.sc (.slice none 0 0))=>some ([],0)
 | .one (.emp _ _)=>some ([],0)
 | .one (.sl b off len _ es)=>(match gU (fG (s.H.get b)) off (MN len es) with
  | some c=>some (c,len)
  | none=>none)
 | _=>none
def pw (nx n es:Nat) (s:Option RS):Option (RV×RS):=match s with
 | some s'=>nQ nx fun nx=>nQ n fun n=>some (.one (.sl nx 0 n none es),s')
 | none=>none
def kill (s:RS) (b:Nat) (K:RS→Option RS):Option RS:=match hZ s b .dead with
 | some s1=>K s1
 | none=>none
def vI (c:List RC) (n es:Nat) (s:RS):Option (RV×RS):=pw s.nx n es (yn s (MN n es) (fZ c 0 .nil))
def Ei (c:List RC) (b n es:Nat) (s:RS):Option (RV×RS):=pw s.nx n es (kill s b fun s1=>yn s1 (MN n es) (fZ c 0 .nil))
def F4 (t:Tr RC) (off m:Nat):Option (Tr RC):=match off with
 | 0=>some t
 | off=>(match sR t off m with
  | some l=>fZ l 0 .nil
  | none=>none)
def GN (t:Option (Tr RC)) (c:List RC) (m:Nat):Option (Tr RC):=match t with
 | some t=>fZ c m t
 | none=>none
def EO (b off len k es:Nat) (s:Option RS):Option (RV×RS):=match s with
 | some s'=>nQ len fun len=>some (.one (.sl b off len (some k) es),s')
 | none=>none
def HW (c:List RC) (n b off len:Nat) (cap:Option Nat) (es:Nat) (t:Tr RC) (m:Nat) (s:RS):Option (RV×RS):=match cap with
 | some k=>cond (L6 (MZ len n) k)
  (cond (L6 (MZ off (MN (MZ len n) es)) m) (EO b off (MZ len n) k es (CL s b m (fZ c (MZ off (MN len es)) t))) none)
  (cond (L6 (MZ off (MN len es)) m) (pw s.nx (MZ len n) es (yn s (MN (MZ len n) es) (GN (F4 t off (MN len es)) c (MN len es)))) none)
 | none=>cond (L6 (MZ off (MN len es)) m) (pw s.nx (MZ len n) es (kill s b fun s1=>yn s1 (MN (MZ len n) es) (GN (F4 t off (MN len es)) c (MN len es)))) none
def rp (es:Nat) (x:RV) (c:List RC) (n:Nat) (s:RS):Option (RV×RS):=match x with
 | .one (.sc (.slice none 0 0))=>vI c n es s
 | .one (.sl b off len cap es')=>cond (B1 es es') (match s.H.get b with
  | some (.cells t m)=>HW c n b off len cap es t m s
  | _=>none) none
 | .one (.emp b es')=>cond (B1 es es') (match s.H.get b with
  | some (.cells _ _)=>Ei c b n es s
  | _=>none) none
 | _=>none
def Ib (n:Nat) (x:RV):Bool:=onO (rO x) false fun m=>L6 (MZ m n) 1000000
def wv (es:Nat) (x:RV) (c:List RC) (n:Nat) (s:RS):Option (RV×RS):=cond (Ib n x) (match n with
 | 0=>some (x,s)
 | n=>rp es x c n s) none
def vM (es:Option Nat) (x y:RV) (s:RS):Option (RV×RS):=match es,cA s y with
 | some es,some (c,n)=>cond (B1 (CG c) (MN n es)) (wv es x c n s) none
 | _,_=>none
def IL (n:Nat) (s:Option RS):Option (RV×RS):=match s,uD (some n) with
 | some s,some v=>some (v,s)
 | _,_=>none
def LL (e:Option Nat) (x y:RV) (s:RS):Option (RV×RS):=match e,x,cA s y with
 | some e,.one (.sl b off len _ es),some (c,n)=>cond (B1 e es && B1 (CG c) (MN n es)) (match s.H.get b,tk (MN (min len n) es) c with
  | some (.cells t m),some c'=>cond (L6 (MZ off (MN (min len n) es)) m) (IL (min len n) (CL s b m (fZ c' off t))) none
  | _,_=>none) none
 | some _,.one (.sc (.slice none 0 0)),some _=>IL 0 (some s)
 | some _,.one (.emp _ _),some _=>IL 0 (some s)
 | _,_,_=>none
def KY (t:TypeId) (x:RV) (s:RS):Option RS:=match P.underlying t,x with
 | some (.slice e),.one (.sl b off len _ es)=>(match s.H.get b,gT P e with
  | some (.cells l m),some z=>cond (B1 z.length es && L6 (MZ off (MN len es)) m) (CL s b m (fZ (A6 len z).flatten off l)) none
  | _,_=>none)
 | some (.slice _),.one (.sc (.slice none 0 0))=>some s
 | some (.map _ _),.one (.mp b)=>(match s.H.get b with
  | some (.map _)=>hZ s b (.map [])
  | _=>none)
 | _,_=>none
def Kx (k:Value):Bool:=match ofV k with
 | some _=>true
 | none=>false
def H3 (e:Option (Value×(Bool×List RC))) (k:Value):Option Value:=match e with
 | some e=>(match im P (Instr.keyThatStays e.1 k) with
  | some k'=>cond (Kx k') (some k') none
  | none=>none)
 | none=>none
def D0 (i:Option (Option Nat)) (k:Value) (c:Bool×List RC) (es:Ents):Option Ents:=match i with
 | some none=>some (es++[(k,c)])
 | some (some i)=>(match H3 P es[i]? k with
  | some k'=>some (es.set i (k',c))
  | none=>none)
 | none=>none
def Jk (s:RS) (b:Nat) (es:Option Ents):Option RS:=match es with
 | some es=>hZ s b (.map es)
 | none=>none
def Av (v:RV):Option (Bool×List RC):=match v with
 | .one c=>some (false,[c])
 | .agg l=>some (true,l)
 | _=>none
def mz (t:TypeId) (x key v:RV) (s:RS):Option RS:=match P.underlying t,x,vOf key with
 | some (.map kt _),.one (.mp b),some k=>(match s.H.get b,Av v with
  | some (.map es),some c=>Jk s b (D0 P (FS P false kt k es) k c es)
  | _,_=>none)
 | _,_,_=>none
def KS (t:TypeId) (x key:RV) (s:RS):Option RS:=match P.underlying t,x,vOf key with
 | some (.map kt _),.one (.mp b),some k=>(match s.H.get b with
  | some (.map es)=>(match FS P es.isEmpty kt k es with
   | some none=>some s
   | some (some i)=>hZ s b (.map (es.eraseIdx i))
   | none=>none)
  | _=>none)
 | _,_,_=>none
def Gv (s:Option RS):Option (RV×RS):=Option.rec (motive:=fun _=>Option (RV×RS)) none (fun s'=>some (.unk,s')) s
def K5 (s:Option RS):Option (RV×RS):=Option.rec (motive:=fun _=>Option (RV×RS)) none (fun s'=>some (rundef,s')) s
def wq (f k:Nat) (l:Option (List RV)) (args:List RV) (s:RS):Option (RV×RS):=match l with
 | some l=>call f (l.take k++args++l.drop k) s
 | none=>none
def E8 (v:RV) (args:List RV) (s:RS):Option (RV×RS):=match v with
 | .one (.fn f sh k cells)=>wq call f k (vP sh cells) args s
 | _=>none
def rc (k:RK) (ev:Ev) (s:RS):Option (RV×RS):=match k with
 | .store n a x=>Gv (Al n (ev a) (ev x) s)
 | .mapUpd t m k v=>Gv (mz P t (ev m) (ev k) (ev v) s)
 | .append n b x=>vM n (ev b) (ev x) s
 | .call g args=>E8 call (ev g) (args.map ev) s
 | _=>none
def dd (ops:List Oper) (j:Nat):Option Nat:=match ops[j]? with
 | some o=>o.dst
 | none=>none
def lm (all:List Oper):Option (Nat×Bool)→Option (Option (Nat×Bool))
 | none=>some none
 | some (j,want)=>match dd all j with
  | some d=>some (some (d,want))
  | none=>none
inductive Out where
 | no
 | go (e:cm) (s:RS)
 | exit (i:Nat) (e:cm) (s:RS)
 | ret (e:cm) (s:RS)
section
variable (GL:List Nat) (msk:Nat)
structure Put1 where
 run:RV→cm→Lc→(cm→Lc→Out)→Out
def iG (dst:Option Nat):Put1:=match dst with
 | none=>⟨fun _ e l K=>K e l⟩
 | some d=>cond (gX msk d) ⟨fun v e l K=>wb v fun v=>Tr.putK v .no deep e d fun e'=>K e' l⟩ ⟨fun v e l K=>wb v fun v=>K e (.cons d v l)⟩
structure Note where
 i:Nat
 rd:Option Nat
 nw:Option Nat
abbrev Notes:=List Note
structure PE where
 i:Nat
 tk:Bool
 un:List Nat
abbrev Plan:=List PE
def inL (l:List Nat) (i:Nat):Bool:=List.rec (motive:=fun _=>Bool) false (fun a _ ih=>cond (B1 a i) true ih) l
def pa (b:Option Nat) (made:Bool) (s:Option RS):Option RS:=match s,b with
 | some s,some b=>cond made (hZ s b .dead) (match s.H.get b with
  | some (.cells t m)=>hZ s b (.ro t m)
  | some (.map _)=>hZ s b .dead
  | _=>some s)
 | s,_=>s
def fI (un:List Nat) (s:RS):Notes→Option RS
 | []=>some s
 | n :: r=>cond (inL un n.i) (pa n.nw true (pa n.rd false (fI un s r))) (fI un s r)
def kM (b:Option Nat) (s0:RS) (s:Option RS):Option RS:=match s,b with
 | some s,some b=>(match s0.H.get b with
  | some o=>hZ s b o
  | none=>some s)
 | s,_=>s
def fA (un:List Nat) (s0 s:RS):Notes→Option RS
 | []=>some s
 | n :: r=>cond (inL un n.i) (kM n.nw s0 (kM n.rd s0 (fA un s0 s r))) (fA un s0 s r)
def Ic (un:List Nat) (ns:Notes) (s0:RS) (r:Option (RV×RS)):Option (RV×RS):=match r with
 | some (v,s')=>(match fA un s0 s' ns with
  | some s2=>some (v,s2)
  | none=>none)
 | none=>none
def rcU (call:Call1) (un:List Nat) (k:RK) (ev:Ev) (s:RS) (ns:Notes):Option (RV×RS):=match fI un s ns with
 | some s1=>Ic un ns s (rc P call k ev s1)
 | none=>none
abbrev K1:=cm→Lc→RS→Notes→Out
def sk (tk:Bool) (n:Note) (ns:Notes):Notes:=cond tk (n :: ns) ns
def CV (pe:PE) (dst:Option Nat) (pr:Option PR) (e:cm) (l:Lc) (s:RS) (ns:Notes) (K:K1):Out:=match pr with
 | some (.new o v)=>nQ s.nx fun b=>wC s b .no (Tr.putK o .no deep s.H b fun H=>(iG msk dst).run (v.at b) e l fun e' l'=>K e' l' { H:=H,nx:=Nat.succ b } (sk pe.tk ⟨pe.i,none,some b⟩ ns))
 | _=>.no
def wx (dst:Option Nat) (v:Option RV) (e:cm) (l:Lc) (s:RS) (ns:Notes) (K:K1):Out :=
 Option.rec (motive:=fun _=>Out) .no (fun v=>(iG msk dst).run v e l fun e' l'=>K e' l' s ns) v
def Ap (dst:Option Nat) (pr:Option (RV×RS)) (e:cm) (l:Lc) (ns:Notes) (K:K1):Out:=match pr with
 | some (v,s')=>(iG msk dst).run v e l fun e' l'=>K e' l' s' ns
 | none=>.no
structure Step where
 run:Call1→cm→Lc→RS→Notes→K1→Out
def mkW (k:RK) (pe:PE) (dst:Option Nat):Step:=match pe.un with
 | []=>⟨fun call e l s ns K=>Ap msk dst (rc P call k (rev GL msk e l) s) e l ns K⟩
 | a :: r=>⟨fun call e l s ns K=>Ap msk dst (rcU P call (a :: r) k (rev GL msk e l) s ns) e l ns K⟩
def kv (k:RK) (pe:PE) (dst:Option Nat):Step:=match k with
 | .m x=>⟨fun _ e l s ns K=>(iG msk dst).run (rev GL msk e l x) e l fun e' l'=>K e' l' s ns⟩
 | .v f=>⟨fun _ e l s ns K=>wx msk dst (f (rev GL msk e l)) e l s ns K⟩
 | .r x f=>⟨fun _ e l s ns K=>wx msk dst (f (blk s.H.get (rev GL msk e l x)) (rev GL msk e l)) e l s (sk pe.tk ⟨pe.i,(rev GL msk e l x).asBlk,none⟩ ns) K⟩
 | .b f=>⟨fun _ e l s ns K=>CV msk pe dst (f (rev GL msk e l)) e l s ns K⟩
 | k=>mkW P GL msk k pe dst
def AD (v:RV) (skip:Out):Out:=match v with
 | .tup []=>skip
 | _=>.no
def iY (v:RV) (want:Bool) (run skip:Out):Out:=onO v.asBool (AD v skip) fun b=>cond b (cond want run skip) (cond want skip run)
def Bb (g:Option (Nat×Bool)) (dst:Option Nat) (st:Step):Step:=match g with
 | none=>st
 | some (d,want)=>⟨fun call e l s ns K=>iY (egt msk e l d) want (st.run call e l s ns K) ((iG msk dst).run rundef e l fun e' l'=>K e' l' s ns)⟩
structure Reg where
 run:Call1→cm→Lc→RS→Notes→Out
def H6:Reg:=⟨fun _ _ _ _ _=>.no⟩
def J6 (o:Oper) (g:Option (Nat×Bool)) (pe:PE) (next:Reg):Reg:=⟨fun call e l s ns=>(Bb msk g o.dst (kv P GL msk (rk P o) pe o.dst)).run call e l s ns (next.run call)⟩
def DF (all:List Oper) (pe:PE) (next:Reg):Reg:=match all[pe.i]? with
 | some o=>(match lm all o.guard with
  | some g=>J6 P GL msk o g pe next
  | none=>H6)
 | none=>H6
def er (all:List Oper) (pl:Plan):Reg:=List.rec (motive:=fun _=>Reg) ⟨fun _ e _ s _=>.go e s⟩ (fun pe _ ih=>DF P GL msk all pe ih) pl
def g9:Nat→List Oper→Plan
 | _,[]=>[]
 | k,_ :: r=>⟨k,false,[]⟩ :: g9 (Nat.succ k) r
abbrev sK:=List (Nat×Plan)
def nU (ps:sK) (id:Nat) (ops:List Oper):Plan:=List.rec (motive:=fun _=>Plan) (g9 0 ops) (fun p _ ih=>cond (B1 p.1 id) p.2 ih) ps
def ud (f:cm→RS→Out) (n:Nat):cm→RS→Out :=
 Nat.rec (motive:=fun _=>cm→RS→Out) (fun _ _=>.no) (fun _ ih e s=>Out.rec (motive:=fun _=>Out) .no (fun e' s'=>ih e' s') .exit .ret (f e s)) n
def Gw (v:RV) (a b:Out):Out:=onO v.asBool .no fun t=>cond t a b
def FI (id:Nat) (o:Out):Out:=Out.rec (motive:=fun _=>Out) .no .go (fun i e s=>cond (B1 i id) (.go e s) (.exit i e s)) .ret o
def JX (o:Out) (f:cm→RS→Out):Out:=Out.rec (motive:=fun _=>Out) .no (fun e s=>f e s) .exit .ret o
structure CS where
 run:Call1→cm→RS→Out
def mkC (mn:List Nat) (ps:sK) (fuel:Nat) (c:Code):CS :=
 Code.rec (motive:=fun _=>CS)
  ⟨fun _ e s=>.go e s⟩
  (fun id ops _=>⟨fun call e s=>(er P GL msk ops.toList (nU ps id ops.toList)).run call e .nil s []⟩)
  (fun _ _ ra rb=>⟨fun call e s=>JX (ra.run call e s) (rb.run call)⟩)
  (fun c _ _ ra rb=>⟨fun call e s=>Gw (rev GL msk e .nil c) (ra.run call e s) (rb.run call e s)⟩)
  (fun id _ r=>⟨fun call e s=>FI id (r.run call e s)⟩)
  (fun _ r=>⟨fun call e s=>ud (r.run call) fuel e s⟩)
  (fun _ _ _ _ _ _=>⟨fun _ _ _=>.no⟩)
  (fun i=>⟨fun _ e s=>.exit i e s⟩)
  (fun _ r=>⟨fun call e s=>r.run call e s⟩)
  (fun _=>⟨fun _ e s=>.go e s⟩)
  (fun _=>⟨fun _ _ _=>.no⟩)
  ⟨fun _ e s=>.ret e s⟩
  (fun _=>⟨fun _ _ _=>.no⟩) c
def yo:Nat→List RV→cm→Option cm
 | _,[],e=>some e
 | i,v :: r,e=>cond (gX msk i) (wb v fun v=>Tr.putK v none deep e i fun e'=>yo (Nat.succ i) r e') (yo (Nat.succ i) r e)
def HN (e:cm) (s:RS):ResultVar→Option RV
 | .tmp t=>some (egt msk e .nil t)
 | .cell t τ=>rh (blk s.H.get (egt msk e .nil t)) (ldT P τ) (egt msk e .nil t)
def iA (e:cm) (s:RS):List ResultVar→Option (List RV)
 | []=>some []
 | r :: l=>match HN P msk e s r,iA e s l with
  | some v,some vs=>some (v :: vs)
  | _,_=>none
def G4:List RV→Option (List (Bool×List RC))
 | []=>some []
 | v :: r=>match v,G4 r with
  | .one c,some q=>some ((false,[c]) :: q)
  | .agg c,some q=>some ((true,c) :: q)
  | _,_=>none
def DL (l:List RV):Option RV:=match l with
 | [v]=>some v
 | l=>match G4 l with
  | some q=>some (.tup q)
  | none=>none
def Bi (vs:Option (List RV)) (s:RS):Option (RV×RS):=match vs with
 | some vs=>(match DL vs with
  | some v=>some (v,s)
  | none=>none)
 | none=>none
def Lp (rs:List ResultVar) (o:Out):Option (RV×RS):=match o with
 | .go e s=>Bi (iA P msk e s rs) s
 | .ret e s=>Bi (iA P msk e s rs) s
 | _=>none
end
end
def Js (c:RC):Option Int:=match c with
 | .nat m=>some (.ofNat m)
 | .int .i64 n=>some n
 | _=>none
def xw:List RC→Option (List Int)
 | []=>some []
 | c :: r=>match Js c,xw r with
  | some n,some l=>some (n :: l)
  | _,_=>none
def LC (s:RS) (p:Option (List RC×Nat)):Option (RV×RS):=match p with
 | some ([],n)=>cond (B1 n 0) (some (.one (.sc (.slice none 0 0)),s)) none
 | some (c,n)=>cond (B1 c.length n && L6 n 1000000 && (xw c).isSome) (vI c n 1 s) none
 | none=>none
def mw (it:Nat) (args:List RV) (s:RS):Option (RV×RS):=match args with
 | [.one (.sc (.slice none 0 0)),.one (.fn f [(false,1)] 0 [.ptr b 0])]=>cond (B1 f it) (match gU (fG (s.H.get b)) 0 1 with
  | some [x]=>LC s (cA s (.one x))
  | _=>none) none
 | _=>none
def nC (o:Option RO):Bool:=match o with
 | some (.cells _ _)=>true
 | _=>false
def ID (x y:RV) (l:List RC) (n:Nat) (s:RS):Option (RV×RS):=match x,y with
 | .one (.sl b _ _ _ 1),.one (.sl b' _ _ _ 1)=>cond (!(B1 b b') && nC (s.H.get b) && nC (s.H.get b')) (pw s.nx n 1 (kill s b fun s1=>kill s1 b' fun s2=>yn s2 n (fZ l 0 .nil))) none
 | .one (.sc (.slice none 0 0)),.one (.sl b' _ _ _ 1)=>cond (nC (s.H.get b')) (pw s.nx n 1 (kill s b' fun s2=>yn s2 n (fZ l 0 .nil))) none
 | _,_=>none
def IG (x y:RV) (i:Option Nat) (a b:Option (List RC×Nat)) (s:RS):Option (RV×RS):=match i,a,b with
 | some i,some (c,n),some (c',n')=>cond (L6 i n && B1 c.length n && B1 c'.length n' && L6 1 n' && L6 (MZ n n') 1000000 && (xw c).isSome && (xw c').isSome)
   (ID x y (c.take i++c'++c.drop i) (MZ n n') s) none
 | _,_,_=>none
def vo (args:List RV) (s:RS):Option (RV×RS):=match args with
 | [x,i,y]=>IG x y i.asNat (cA s x) (cA s y) s
 | _=>none
inductive XF where
 | appendSeq (it:Nat)
 | insert
def J8 (x:XF) (args:List RV) (s:RS):Option (RV×RS):=match x with
 | .appendSeq it=>mw it args s
 | .insert=>vo args s
abbrev XTab:=List (Nat×XF)
def XTab.find:XTab→Nat→Option XF
 | [],_=>none
 | p :: r,f=>cond (B1 p.1 f) (some p.2) (XTab.find r f)
structure FP where
 msk:Nat
 plans:sK
 mn:List Nat
abbrev FPs:=List (Nat×FP)
def FPs.get (l:FPs) (f:Nat):Option FP:=List.rec (motive:=fun _=>Option FP) none (fun p _ ih=>cond (B1 p.1 f) (some p.2) ih) l
def Fz (P:Program) (GL:List Nat) (lf:Nat) (fp:FP) (call:Call1) (rs:List ResultVar) (c:Code) (e:Option cm) (s:RS):Option (RV×RS):=match e with
 | some e=>Lp P fp.msk rs ((mkC P GL fp.msk fp.mn fp.plans lf c).run call e s)
 | none=>none
def HT (P:Program) (GL:List Nat) (lf:Nat) (fp:Option FP) (call:Call1) (fn:Option Func) (args:List RV) (s:RS):Option (RV×RS):=match fn,fp with
 | some fn,some fp=>(match fn.body with
  | some c=>Fz P GL lf fp call fn.results.toList c (yo fp.msk 0 args .nil) s
  | none=>none)
 | _,_=>none
def AX (P:Program) (GL:List Nat) (X:Option XF) (lf:Nat) (fp:Option FP) (call:Call1) (fn:Option Func) (args:List RV) (s:RS):Option (RV×RS):=match X with
 | some x=>J8 x args s
 | none=>HT P GL lf fp call fn args s
def Bk (P:Program) (GL:List Nat) (X:XTab) (M:FPs) (lf:Nat) (n:Nat):Call1 :=
 Nat.rec (motive:=fun _=>Call1) (fun _ _ _=>none) (fun _ ih f args s=>AX P GL (X.find f) lf (M.get f) ih P.funcs[f]? args s) n
def vE (r:Option (RV×RS)):Bool:=match r with
 | some (.one (.bool true),_)=>true
 | _=>false
end
end Go.Rx

