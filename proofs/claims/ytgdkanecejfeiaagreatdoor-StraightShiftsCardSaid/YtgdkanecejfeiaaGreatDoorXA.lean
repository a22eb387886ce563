/-
 Tables by number; a closed call is run: what is reckoned.
-/
import Derived.Test.YtgdkanecejfeiaaGreatDoorVmA
open List renaming replicate→A6,zip→NK
open Nat renaming beq→A8,ble→Lh,mul→LZ,add→Mg,mod_lt→MU,div→N7,mod→OQ,sub→OR
set_option linter.unusedVariables false
set_option linter.unusedSimpArgs false
/-
 Tables by number that the kernel reads and writes quickly.
-/
namespace Go.Rx
inductive Tr (α : Type) where
 | nil
 | node (x:Option α) (a b c d:Tr α)
noncomputable section
variable {α : Type}
def nv {β : Type} (a b c d : β) (r:Nat) : β :=
 Nat.rec (motive:=fun _=>β) a (fun j _=>Nat.rec (motive:=fun _=>β) b (fun j _=>Nat.rec (motive:=fun _=>β) c (fun _ _=>d) j) j) r
def Tr.get (t:Tr α):Nat→Option α :=
 Tr.rec (motive:=fun _=>Nat→Option α) (fun _=>none)
  (fun x _ _ _ _ ga gb gc gd i=>Nat.rec (motive:=fun _=>Option α) x (fun k _=>nv ga gb gc gd (OQ k 4) (N7 k 4)) i) t
section
variable {R:Type} (ih:Tr α→Nat→(Tr α→R)→R) (x:Option α) (a b c d:Tr α) (q:Nat) (K:Tr α→R)
def Kl:R:=ih a q fun u=>K (.node x u b c d)
def nP:R:=ih b q fun u=>K (.node x a u c d)
def Df:R:=ih c q fun u=>K (.node x a b u d)
def KO:R:=ih d q fun u=>K (.node x a b c u)
def Jg (k:Nat):R:=nv (Kl ih x a b c d (N7 k 4) K) (nP ih x a b c d (N7 k 4) K) (Df ih x a b c d (N7 k 4) K) (KO ih x a b c d (N7 k 4) K) (OQ k 4)
end
def Tr.putK {R:Type} (v : α) (no:R) (d:Nat):Tr α→Nat→(Tr α→R)→R :=
 Nat.rec (motive:=fun _=>Tr α→Nat→(Tr α→R)→R) (fun _ _ _=>no)
  (fun _ ih t i K=>Tr.rec (motive:=fun _=>R)
   (Nat.rec (motive:=fun _=>R) (K (.node (some v) .nil .nil .nil .nil)) (fun k _=>Jg ih none .nil .nil .nil .nil K k) i)
   (fun x a b c d _ _ _ _=>Nat.rec (motive:=fun _=>R) (K (.node (some v) a b c d)) (fun k _=>Jg ih x a b c d K k) i) t) d
def deep:Nat:=20
def Tr.put (t:Tr α) (i:Nat) (v : α):Option (Tr α):=Tr.putK v none deep t i some
theorem fg {β : Type} (a b c d : β) (r:Nat):nv a b c d r=match r with | 0=>a | 1=>b | 2=>c | _=>d:=by
 match r with
 | 0=>rfl
 | 1=>rfl
 | 2=>rfl
 | _+3=>rfl
theorem EU {β γ : Type} (g : β→γ) (a b c d : β) (r:Nat):nv (g a) (g b) (g c) (g d) r=g (nv a b c d r):=by
 match r with
 | 0=>rfl
 | 1=>rfl
 | 2=>rfl
 | _+3=>rfl
theorem Tr.get_nil (i:Nat):(Tr.nil:Tr α).get i=none:=rfl
theorem Tr.get_zero (x:Option α) (a b c d:Tr α):(Tr.node x a b c d).get 0=x:=rfl
theorem Tr.get_succ (x:Option α) (a b c d:Tr α) (k:Nat):(Tr.node x a b c d).get (k+1)=(nv a b c d (k % 4)).get (k / 4):=by
 show nv a.get b.get c.get d.get (k % 4) (k / 4)=_
 rw [EU]
theorem Tr.putK_nil_zero {R:Type} (v : α) (no:R) (d:Nat) (K:Tr α→R):Tr.putK v no (d+1) .nil 0 K=K (.node (some v) .nil .nil .nil .nil):=rfl
theorem Tr.putK_node_zero {R:Type} (v : α) (no:R) (n:Nat) (x:Option α) (a b c d:Tr α) (K:Tr α→R):Tr.putK v no (n+1) (.node x a b c d) 0 K=K (.node (some v) a b c d):=rfl
def Tr.with (x:Option α) (a b c d:Tr α) (r:Nat) (u:Tr α):Tr α:=match r with
 | 0=>.node x u b c d
 | 1=>.node x a u c d
 | 2=>.node x a b u d
 | _=>.node x a b c u
theorem Tr.putK_nil_succ {R:Type} (v : α) (no:R) (n k:Nat) (K:Tr α→R) :
  Tr.putK v no (n+1) .nil (k+1) K=Tr.putK v no n .nil (k / 4) fun u=>K (Tr.with none .nil .nil .nil .nil (k % 4) u):=by
 show nv _ _ _ _ (k % 4)=_
 match k % 4 with
 | 0=>rfl
 | 1=>rfl
 | 2=>rfl
 | _+3=>rfl
theorem Tr.putK_node_succ {R:Type} (v : α) (no:R) (n k:Nat) (x:Option α) (a b c d:Tr α) (K:Tr α→R) :
  Tr.putK v no (n+1) (.node x a b c d) (k+1) K=Tr.putK v no n (nv a b c d (k % 4)) (k / 4) fun u=>K (Tr.with x a b c d (k % 4) u):=by
 show nv _ _ _ _ (k % 4)=_
 match k % 4 with
 | 0=>rfl
 | 1=>rfl
 | 2=>rfl
 | _+3=>rfl
theorem Tr.putK_eq {R:Type} (v : α) (no:R):∀ (n:Nat) (t:Tr α) (i:Nat) (K:Tr α→R),Tr.putK v no n t i K=match Tr.putK v none n t i some with | some u=>K u | none=>no
 | 0,_,_,_=>rfl
 | n+1,.nil,0,K=>rfl
 | n+1,.nil,k+1,K=>by
  rw [Tr.putK_nil_succ,Tr.putK_nil_succ,Tr.putK_eq v no n,Tr.putK_eq v none n _ _ fun u=>some (Tr.with none .nil .nil .nil .nil (k % 4) u)]
  cases Tr.putK v none n .nil (k / 4) some <;> rfl
 | n+1,.node x a b c d,0,K=>rfl
 | n+1,.node x a b c d,k+1,K=>by
  rw [Tr.putK_node_succ,Tr.putK_node_succ,Tr.putK_eq v no n,Tr.putK_eq v none n _ _ fun u=>some (Tr.with x a b c d (k % 4) u)]
  cases Tr.putK v none n (nv a b c d (k % 4)) (k / 4) some <;> rfl
theorem Tr.get_with (x:Option α) (a b c d:Tr α) (r:Nat) (hr:r < 4) (u:Tr α) (j:Nat) :
  (Tr.with x a b c d r u).get j=match j with | 0=>x | k+1=>if k % 4=r then u.get (k / 4) else (nv a b c d (k % 4)).get (k / 4):=by
 cases j with
 | zero=>unfold Tr.with; split <;> rfl
 | succ k =>
  have hk:k % 4 < 4:=MU _ (by omega)
  generalize hq:k % 4=q at hk ⊢
  match r,hr with
  | 0,_=>simp only [Tr.with,Tr.get_succ,hq]; rw [fg,fg]; match q,hk with
   | 0,_=>rfl
   | 1,_=>rfl
   | 2,_=>rfl
   | 3,_=>rfl
  | 1,_=>simp only [Tr.with,Tr.get_succ,hq]; rw [fg,fg]; match q,hk with
   | 0,_=>rfl
   | 1,_=>rfl
   | 2,_=>rfl
   | 3,_=>rfl
  | 2,_=>simp only [Tr.with,Tr.get_succ,hq]; rw [fg,fg]; match q,hk with
   | 0,_=>rfl
   | 1,_=>rfl
   | 2,_=>rfl
   | 3,_=>rfl
  | 3,_=>simp only [Tr.with,Tr.get_succ,hq]; rw [fg,fg]; match q,hk with
   | 0,_=>rfl
   | 1,_=>rfl
   | 2,_=>rfl
   | 3,_=>rfl
theorem Tr.get_putK (v : α):∀ (n:Nat) (t:Tr α) (i:Nat) (u:Tr α),Tr.putK v none n t i some=some u→∀ j,u.get j=if i=j then some v else t.get j
 | 0,_,_,_,h,_=>by cases h
 | n+1,.nil,0,u,h,j=>by
  rw [Tr.putK_nil_zero] at h; cases h
  cases j with
  | zero=>rfl
  | succ k=>rw [Tr.get_succ,fg]; simp only [Tr.get_nil]; split <;> simp [Tr.get_nil]
 | n+1,.nil,k+1,u,h,j=>by
  rw [Tr.putK_nil_succ,Tr.putK_eq] at h
  split at h
  ·rename_i u' hu'
   cases h
   rw [Tr.get_with _ _ _ _ _ _ (MU _ (by omega))]
   have ih:=Tr.get_putK v n .nil (k / 4) u' hu'
   cases j with
   | zero=>simp [Tr.get_nil]
   | succ q =>
    simp only [Tr.get_nil]
    have hs:(nv Tr.nil Tr.nil Tr.nil Tr.nil (q % 4):Tr α)=.nil:=by rw [fg]; split <;> rfl
    rw [ih,hs]
    simp only [Tr.get_nil]
    by_cases e:k=q
    ·subst e; simp
    ·by_cases e2:q % 4=k % 4
     ·have:¬ k / 4=q / 4:=by omega
      simp [e2,this,e]
     ·simp [e2,e]
  ·cases h
 | n+1,.node x a b c d,0,u,h,j=>by
  rw [Tr.putK_node_zero] at h; cases h
  cases j with
  | zero=>rfl
  | succ k=>rw [Tr.get_succ,Tr.get_succ]; simp
 | n+1,.node x a b c d,k+1,u,h,j=>by
  rw [Tr.putK_node_succ,Tr.putK_eq] at h
  split at h
  ·rename_i u' hu'
   cases h
   rw [Tr.get_with _ _ _ _ _ _ (MU _ (by omega))]
   have ih:=Tr.get_putK v n _ (k / 4) u' hu'
   cases j with
   | zero=>simp [Tr.get_zero]
   | succ q =>
    simp only [Tr.get_succ]
    rw [ih]
    by_cases e:k=q
    ·subst e; simp
    ·by_cases e2:q % 4=k % 4
     ·have:¬ k / 4=q / 4:=by omega
      simp [e2,this,e]
     ·simp [e2,e]
  ·cases h
theorem Tr.get_put {t u:Tr α} {i:Nat} {v : α} (h:t.put i v=some u) (j:Nat):u.get j=if i=j then some v else t.get j:=Tr.get_putK v deep t i u h j
end
end Go.Rx

/-
 An evaluator for calls without arguments: values without types, memory by blocks of its own, operations.
-/
namespace Go.Rx
noncomputable section
open Go.Vm
inductive RC where
 | nat (m:Nat)
 | int (k:IntKind) (n:Int)
 | bool (b:Bool)
 | sc (v:Value)
 | ptr (b off:Nat)
 | sl (b off len:Nat) (cap:Option Nat) (es:Nat)
 | emp (b es:Nat)
 | mp (b:Nat)
 | fn (f:Nat) (sh:List (Bool×Nat)) (k:Nat) (cells:List RC)
inductive RV where
 | unk
 | one (c:RC)
 | agg (l:List RC)
 | tup (l:List (Bool×List RC))
abbrev Ents:=List (Value×(Bool×List RC))
inductive RO where
 | cells (t:Tr RC) (n:Nat)
 | ro (t:Tr RC) (n:Nat)
 | map (es:Ents)
 | dead
def sX {α : Type} (t:Tr α):Nat→Nat→Option (List α)
 | _,0=>some []
 | off,n+1=>match t.get off,sX t (Nat.succ off) n with
  | some c,some l=>some (c :: l)
  | _,_=>none
def gH {α : Type}:List α→Nat→Tr α→Option (Tr α)
 | [],_,t=>some t
 | c :: l,off,t=>match t.put off c with
  | some t'=>gH l (Nat.succ off) t'
  | none=>none
structure RS where
 H:Tr RO
 nx:Nat
def tk {α : Type}:Nat→List α→Option (List α)
 | 0,_=>some []
 | n+1,a :: l=>match tk n l with
  | some r=>some (a :: r)
  | none=>none
 | _+1,[]=>none
def pt {α : Type}:Nat→List α→List α→Option (List α)
 | 0,[],l=>some l
 | 0,a :: r,_ :: l=>match pt 0 r l with
  | some l'=>some (a :: l')
  | none=>none
 | n+1,xs,a :: l=>match pt n xs l with
  | some l'=>some (a :: l')
  | none=>none
 | _,_,_=>none
def kb:Value→Bool
 | .string s=>Lh s.size 1000000
 | .pointer none=>true
 | .slice none 0 0=>true
 | .map none=>true
 | .nilFunc=>true
 | .nilIface=>true
 | _=>false
def maxI:Nat:=9223372036854775807
def sN (n:Nat):RC:=Nat.rec (motive:=fun _=>RC) (.nat 0) (fun k _=>.nat (Nat.succ k)) n
def Cq (k:IntKind) (n:Int):Option RC:=match k,n with
 | .i64,.ofNat m=>cond (Lh m maxI) (some (sN m)) none
 | k,n=>cond (decide (k.min≤n) && decide (n≤k.max)) (some (.int k n)) none
def ofC (v:Value):Option RC:=match v with
 | .int k n=>Cq k n
 | .bool b=>some (.bool b)
 | v=>cond (kb v) (some (.sc v)) none
def GO (c:RC):Option Value:=match c with
 | .nat m=>some (.int .i64 (.ofNat m))
 | .int k n=>some (.int k n)
 | .bool b=>some (.bool b)
 | .sc v=>some v
 | _=>none
def rundef:RV:=.tup []
def scs:List Value→Option (List RC)
 | []=>some []
 | v :: r=>match ofC v,scs r with
  | some c,some l=>some (c :: l)
  | _,_=>none
def ofV (v:Value):Option RV:=match v with
 | .agg cs=>(match scs cs.toList with | some l=>some (.agg l) | none=>none)
 | v=>(match ofC v with | some c=>some (.one c) | none=>none)
def Bo:List RC→Option (List Value)
 | []=>some []
 | c :: r=>match GO c,Bo r with
  | some v,some l=>some (v :: l)
  | _,_=>none
def vOf (x:RV):Option Value:=match x with
 | .one c=>GO c
 | .agg l=>(match Bo l with | some vs=>some (.agg vs.toArray) | none=>none)
 | _=>none
def oz (x:RV):Option (List RC):=match x with
 | .one c=>some [c]
 | .agg l=>some l
 | _=>none
def ov (agg:Bool) (l:List RC):Option RV:=match agg,l with
 | true,l=>some (.agg l)
 | false,[c]=>some (.one c)
 | false,_=>none
structure SlH where
 b:Nat
 off:Nat
 len:Nat
 cap:Option Nat
 es:Nat
def RC.asNat (c:RC):Option Nat:=RC.casesOn (motive_1:=fun _=>Option Nat) c (fun m=>some m) (fun _ _=>none) (fun _=>none) (fun _=>none) (fun _ _=>none) (fun _ _ _ _ _=>none) (fun _ _=>none) (fun _=>none) (fun _ _ _ _=>none)
def RC.asBool (c:RC):Option Bool:=RC.casesOn (motive_1:=fun _=>Option Bool) c (fun _=>none) (fun _ _=>none) (fun b=>some b) (fun _=>none) (fun _ _=>none) (fun _ _ _ _ _=>none) (fun _ _=>none) (fun _=>none) (fun _ _ _ _=>none)
def RC.asPtr (c:RC):Option (Nat×Nat):=RC.casesOn (motive_1:=fun _=>Option (Nat×Nat)) c (fun _=>none) (fun _ _=>none) (fun _=>none) (fun _=>none) (fun b o=>some (b,o)) (fun _ _ _ _ _=>none) (fun _ _=>none) (fun _=>none) (fun _ _ _ _=>none)
def RC.asSl (c:RC):Option SlH:=RC.casesOn (motive_1:=fun _=>Option SlH) c (fun _=>none) (fun _ _=>none) (fun _=>none) (fun _=>none) (fun _ _=>none) (fun b o n c e=>some ⟨b,o,n,c,e⟩) (fun _ _=>none) (fun _=>none) (fun _ _ _ _=>none)
def RC.asBlk (c:RC):Option Nat:=RC.casesOn (motive_1:=fun _=>Option Nat) c (fun _=>none) (fun _ _=>none) (fun _=>none) (fun _=>none) (fun b _=>some b) (fun _ _ _ _ _=>none) (fun _ _=>none) (fun b=>some b) (fun _ _ _ _=>none)
def RV.asBlk (x:RV):Option Nat:=RV.casesOn (motive:=fun _=>Option Nat) x none (fun c=>c.asBlk) (fun _=>none) (fun _=>none)
def RV.asNat (x:RV):Option Nat:=RV.casesOn (motive:=fun _=>Option Nat) x none (fun c=>c.asNat) (fun _=>none) (fun _=>none)
def RV.asBool (x:RV):Option Bool:=RV.casesOn (motive:=fun _=>Option Bool) x none (fun c=>c.asBool) (fun _=>none) (fun _=>none)
def RV.asPtr (x:RV):Option (Nat×Nat):=RV.casesOn (motive:=fun _=>Option (Nat×Nat)) x none (fun c=>c.asPtr) (fun _=>none) (fun _=>none)
def RV.asSl (x:RV):Option SlH:=RV.casesOn (motive:=fun _=>Option SlH) x none (fun c=>c.asSl) (fun _=>none) (fun _=>none)
def RO.asC (o:RO):Option (Tr RC×Nat):=RO.casesOn (motive:=fun _=>Option (Tr RC×Nat)) o (fun t n=>some (t,n)) (fun _ _=>none) (fun _=>none) none
def RO.asR (o:RO):Option (Tr RC×Nat):=RO.casesOn (motive:=fun _=>Option (Tr RC×Nat)) o (fun t n=>some (t,n)) (fun t n=>some (t,n)) (fun _=>none) none
def onO {α R:Type} (o:Option α) (no:R) (K : α→R):R:=Option.rec (motive:=fun _=>R) no K o
def uK {R:Type} (v:RV) (K:RV→R):R:=RV.casesOn (motive:=fun _=>R) v (K .unk) (fun c=>K (.one c)) (fun l=>K (.agg l)) (fun l=>K (.tup l))
def oE {R:Type} (n:Nat) (K:Nat→R):R:=Nat.rec (motive:=fun _=>R) (K 0) (fun k _=>K (Nat.succ k)) n
section
variable (P:Program)
def iI {α : Type}:Sem α→Option α
 | .pure a=>some a
 | .program k=>iI (k P)
 | .mark _ k=>iI k
 | _=>none
def dF (t:TypeId):Option Nat:=match P.info? t with
 | some i=>cond (Lh i.bytes 100000) (some i.size) none
 | none=>none
def zP (t:TypeId):Option Bool:=match P.underlying t with
 | some (.struct _)=>some true
 | some (.array _ _)=>some true
 | some _=>some false
 | none=>none
def iy (t:TypeId):Option (List RC):=match P.info? t with
 | some i=>(match i.zero with
  | some z=>scs z.cells.toList
  | none=>none)
 | none=>none
def fN (t:TypeId):Option TypeId:=match P.underlying t with
 | some (.slice e)=>some e
 | _=>none
def ldT (t:TypeId):Option (Bool×Nat):=match zP P t,dF P t with
 | some g,some n=>cond (g || A8 n 1) (some (g,n)) none
 | _,_=>none
def kO (t:TypeId) (f:Nat):Option (Nat×(Bool×Nat)):=match P.underlying t with
 | some (.struct fs)=>(match fs[f]? with
  | some fd=>(match ldT P fd.type with
   | some p=>some (fd.offset,p)
   | none=>none)
  | none=>none)
 | _=>none
inductive IK where
 | sl (n:Nat)
 | ar (len:Nat) (g:Bool) (n:Nat)
 | no
def C0 (t:TypeId):IK:=match P.underlying t with
 | some (.slice e)=>(match dF P e with | some n=>.sl n | none=>.no)
 | some (.array len e)=>(match ldT P e with | some (g,n)=>.ar len g n | none=>.no)
 | _=>.no
inductive Lc where
 | nil
 | cons (t:Nat) (v:RV) (r:Lc)
abbrev cE:=Tr RV
def iv (msk t:Nat):Bool:=A8 (OQ (Nat.shiftRight msk t) 2) 1
def Id (l:Lc) (t:Nat):RV:=Lc.rec (motive:=fun _=>RV) .unk (fun t' v _ ih=>cond (A8 t' t) v ih) l
def gOr (o:Option RV):RV:=Option.rec (motive:=fun _=>RV) .unk (fun v=>v) o
def egt (msk:Nat) (e:cE) (l:Lc) (t:Nat):RV:=cond (iv msk t) (gOr (e.get t)) (Id l t)
def Dv (v:Value):RV:=(ofV v).getD .unk
def gIn (GL:List Nat) (g:Nat):Bool:=List.rec (motive:=fun _=>Bool) false (fun a _ ih=>cond (A8 a g) true ih) GL
structure Opd where
 get:cE→Lc→RV
def JA (GL:List Nat) (msk:Nat) (x:Operand):Opd:=match x with
 | .tmp t=>cond (iv msk t) ⟨fun e _=>gOr (e.get t)⟩ ⟨fun _ l=>Id l t⟩
 | .const v=>⟨fun _ _=>Dv v⟩
 | .global g=>cond (gIn GL g) ⟨fun _ _=>.one (.ptr g 0)⟩ ⟨fun _ _=>.unk⟩
 | .func f=>⟨fun _ _=>.one (.fn f [] 0 [])⟩
def rev (GL:List Nat) (msk:Nat) (e:cE) (l:Lc) (x:Operand):RV:=(JA GL msk x).get e l
abbrev Hp:=Nat→Option RO
abbrev Ev:=Operand→RV
def blk (h:Hp) (x:RV):Option RO:=onO x.asBlk none h
def ixI (x:RV):Option Nat:=match x with
 | .one (.int _ n)=>cond (decide (0≤n)) (some n.toNat) none
 | _=>none
def ixN (x:RV):Option Nat:=onO x.asNat (ixI x) some
inductive PR where
 | val (v:RV)
 | new (o:RO) (v:RV)
def Ih (op:BinOp) (k:IntKind) (a b:Int):Option RC:=match Bv op k a b with
 | some (.val (.int k') n)=>Cq k' n
 | some (.val .bool t)=>some (.bool t)
 | _=>none
def bB (b:Bool):Option RV:=cond b (some (.one (.bool true))) (some (.one (.bool false)))
def bN (n:Nat):Option RV:=Nat.rec (motive:=fun _=>Option RV) (some (.one (.nat 0))) (fun k _=>some (.one (.nat (Nat.succ k)))) n
def Bc (op:BinOp):Option (Nat→Nat→Option RV):=match op with
 | .add=>some fun a b=>cond (Lh (Mg a b) maxI) (bN (Mg a b)) none
 | .sub=>some fun a b=>cond (Lh b a) (bN (OR a b)) none
 | .mul=>some fun a b=>cond (Lh (LZ a b) maxI) (bN (LZ a b)) none
 | .quo=>some fun a b=>cond (A8 b 0) none (bN (N7 a b))
 | .rem=>some fun a b=>cond (A8 b 0) none (bN (OQ a b))
 | .eql=>some fun a b=>bB (A8 a b)
 | .neq=>some fun a b=>bB (not (A8 a b))
 | .lss=>some fun a b=>bB (Lh (Nat.succ a) b)
 | .leq=>some fun a b=>bB (Lh a b)
 | .gtr=>some fun a b=>bB (Lh (Nat.succ b) a)
 | .geq=>some fun a b=>bB (Lh b a)
 | _=>none
def jh (d:TypeDesc) (c:RC) (v:Value):Bool:=match d,c,v with
 | .pointer _,.ptr _ _,.pointer none=>true
 | .slice _,.sl _ _ _ _ _,.slice none 0 0=>true
 | .slice _,.emp _ _,.slice none 0 0=>true
 | .map _ _,.mp _,.map none=>true
 | .func _ _ _,.fn _ _ _ _,.nilFunc=>true
 | _,_,_=>false
def vR (op:BinOp) (t:TypeId) (c:RC) (v:Value):Option RV:=match P.underlying t with
 | some d=>cond (jh d c v) (match op with
  | .eql=>some (.one (.bool false))
  | .neq=>some (.one (.bool true))
  | _=>none) none
 | none=>none
def vM (op:BinOp) (k:IntKind) (m n:Int):Option RC:=match op with
 | .quo=>cond (eqI n 0) none (Cq k (jf k m n))
 | .rem=>cond (eqI n 0) none (Cq k (ks m n))
 | _=>Ih op k m n
def Ia (c:Option RC):Option RV:=match c with
 | some c=>some (.one c)
 | none=>none
def qd (op:BinOp) (xt:TypeId) (x y:Operand) (u v:Value):Option RV:=match iI P (do eqGuard op xt x y u v; binOp op xt u v) with
 | some w=>ofV w
 | none=>none
def HR (op:BinOp):Bool:=match op with
 | .shl=>true
 | .shr=>true
 | .and=>true
 | .or=>true
 | .xor=>true
 | .andNot=>true
 | _=>false
def wb (op:BinOp) (xt:TypeId) (x y:Operand) (u v:Value):Option RV:=match u,v with
 | .int k m,.int k' n=>cond (HR op) (qd P op xt x y (.int k m) (.int k' n)) (cond (decide (k=k')) (Ia (vM op k m n)) none)
 | u,v=>qd P op xt x y u v
def DZ (op:BinOp) (xt:TypeId) (x y:Operand) (a b:RV):Option RV:=match vOf a,vOf b with
 | some u,some v=>wb P op xt x y u v
 | none,some v=>(match a with
  | .one c=>vR P op xt c v
  | _=>none)
 | some v,none=>(match b with
  | .one c=>vR P op xt c v
  | _=>none)
 | none,none=>none
def zW (f:Nat→Nat→Option RV) (a b:RV) (slow:Option RV):Option RV :=
 onO a.asNat slow fun m=>onO b.asNat slow fun n=>onO (f m n) slow some
def gj (o:Option RO):Option (Tr RC×Nat):=onO o none RO.asR
def iA (p:Option (Tr RC×Nat)) (off n:Nat):Option (List RC):=match p with
 | some (t,m)=>cond (Lh (Mg off n) m) (sX t off n) none
 | none=>none
def KI {α : Type} (off:Nat) (p:Tr α×Nat):Option α:=Prod.rec (motive:=fun _=>Option α) (fun t m=>cond (Lh (Nat.succ off) m) (t.get off) none) p
def EM (p:Option (Tr RC×Nat)) (off:Nat):Option RV:=onO p none fun p=>onO (KI off p) none fun c=>some (.one c)
def FS (l:Option (List RC)):Option RV:=match l with
 | some l=>some (.agg l)
 | none=>none
def jk (l:List RC):Option RO:=match gH l 0 .nil with
 | some t=>some (.cells t l.length)
 | none=>none
def zJ (o:Option RO) (v:RV):Option PR:=match o with
 | some o=>some (.new o v)
 | none=>none
def J5 (o:Option RO) (g:Bool) (n off:Nat):Option RV:=cond g (FS (iA (gj o) off n)) (EM (gj o) off)
def qL (o:Option RO) (p:Option (Bool×Nat)) (x:RV):Option RV :=
 onO p none fun q=>onO x.asPtr none fun a=>J5 o q.1 q.2 a.2
def Bq (p:Bool×Nat) (o:Nat) (l:List RC):Option RV:=match tk p.2 (l.drop o) with
 | some c=>ov p.1 c
 | none=>none
def zn (p:Option (Nat×(Bool×Nat))) (x:RV):Option RV:=match x,p with
 | .agg l,some (o,q)=>Bq q o l
 | _,_=>none
def EP (b off:Nat):Option RV:=some (.one (.ptr b off))
def sI (p:Option (Nat×(Bool×Nat))) (x:RV):Option RV :=
 onO p none fun q=>onO x.asPtr none fun a=>cond (Lh 1 q.2.2) (EP a.1 (Mg a.2 q.1)) none
def Iw (n:Nat) (x:RV) (i:Option Nat):Option RV :=
 onO i none fun i=>onO x.asSl none fun s=>cond (A8 n s.es) (cond (Lh (Nat.succ i) s.len) (EP s.b (Mg s.off (LZ i n))) none) none
def Ie (len n:Nat) (x:RV) (i:Option Nat):Option RV :=
 onO i none fun i=>onO x.asPtr none fun a=>cond (Lh (Nat.succ i) len) (EP a.1 (Mg a.2 (LZ i n))) none
def m7 (k:IK) (x:RV) (i:Option Nat):Option RV:=match k with
 | .sl n=>Iw n x i
 | .ar len _ n=>Ie len n x i
 | .no=>none
def Cd (k:IK) (l:List RC) (i:Option Nat):Option RV:=match k,i with
 | .ar len g n,some i=>cond (Lh (Nat.succ i) len) (Bq (g,n) (LZ i n) l) none
 | _,_=>none
def A0 (t:TypeId) (u v:Option Value):Option RV:=match u,v with
 | some (.string s),some (.int k i)=>(match iI P (Instr.index t (.string s) (.int k i)) with
  | some w=>ofV w
  | none=>none)
 | _,_=>none
def zE (t:TypeId) (x ix:RV):Option RV:=match x with
 | .agg l=>Cd (C0 P t) l (ixN ix)
 | x=>A0 P t (vOf x) (vOf ix)
def E4 (t:TypeId) (n c:Option Nat):Option PR:=match fN P t,n,c with
 | some e,some n,some c=>(match dF P e,iy P e with
  | some es,some z=>cond (Lh n c && Lh c 1000000 && A8 z.length es && Lh 1 es)
   (zJ (jk (A6 c z).flatten) (.one (.sl 0 0 n (some c) es))) none
  | _,_=>none)
 | _,_,_=>none
def zN (d:Nat) (x:Option RV):Option Nat:=match x with
 | none=>some d
 | some v=>ixN v
def vO (b off n l h:Nat) (c:Nat):RV:=.one (.sl b (cond (A8 c l) off (Mg off (LZ l n))) (OR h l) (some (OR c l)) n)
def xK (n b off len:Nat) (cap:Option Nat) (es:Nat) (l h:Option Nat) (mx:Option RV):Option RV:=match l,h with
 | some l,some h=>cond (A8 n es && Lh 1 es && Lh l h) (match mx with
  | some m=>(match ixN m with
   | some m'=>cond (Lh h m' && Lh m' (cap.getD len)) (some (vO b off n l h m')) none
   | none=>none)
  | none=>(match cap with
   | some c=>cond (Lh h c) (some (vO b off n l h c)) none
   | none=>cond (Lh h len) (cond (Lh len l) (some (.one (.emp b n))) (some (.one (.sl b (Mg off (LZ l n)) (OR h l) none n)))) none)) none
 | _,_=>none
def ub (n b es:Nat) (l h:Option Nat) (mx:Option RV):Option RV:=match l,h,mx with
 | some 0,some 0,none=>cond (A8 n es) (some (.one (.emp b n))) none
 | _,_,_=>none
def tB (l h:Option Nat) (mx:Option RV):Option RV:=match l,h,mx with
 | some 0,some 0,none=>some (.one (.sc (.slice none 0 0)))
 | _,_,_=>none
def F7 (x:Option RV):Option (Option Value):=match x with
 | none=>some none
 | some v=>(match vOf v with
  | some u=>some (some u)
  | none=>none)
def tL (t:TypeId) (s:ByteArray) (lo hi:Option (Option Value)) (mx:Option RV):Option RV:=match lo,hi,mx with
 | some a,some b,none=>(match iI P (Instr.sliceAt t (.string s) a b none) with
  | some w=>ofV w
  | none=>none)
 | _,_,_=>none
def H9 (hi mx:Option RV):Bool:=match hi,mx with
 | none,some _=>false
 | _,_=>true
def zC (t:TypeId) (x:RV) (lo hi mx:Option RV):Option RV:=cond (H9 hi mx) (match x with
 | .one (.sl b off len cap es)=>(match fN P t with
  | some e=>(match dF P e with
   | some n=>xK n b off len cap es (zN 0 lo) (zN len hi) mx
   | none=>none)
  | none=>none)
 | .one (.emp b es)=>(match fN P t with
  | some e=>(match dF P e with
   | some n=>ub n b es (zN 0 lo) (zN 0 hi) mx
   | none=>none)
  | none=>none)
 | .one (.sc (.string s))=>tL P t s (F7 lo) (F7 hi) mx
 | .one (.sc (.slice none 0 0))=>(match fN P t with
  | some e=>(match dF P e with
   | some _=>tB (zN 0 lo) (zN 0 hi) mx
   | none=>none)
  | none=>none)
 | _=>none) none
def AO (place:Nat→Option (Nat×Nat)):List (Nat×RV)→List RC→Option (List RC)
 | [],l=>some l
 | (i,v) :: r,l=>match place i,oz v with
  | some (o,n),some c=>cond (A8 c.length n) (match pt o c l with
   | some l'=>AO place r l'
   | none=>none) none
  | _,_=>none
def vA (t:TypeId) (i:Nat):Option (Nat×Nat):=match kO P t i with
 | some (o,(_,n))=>some (o,n)
 | none=>none
def CU {α : Type} (l:List α):Nat:=List.rec (motive:=fun _=>Nat) 0 (fun _ _ n=>Nat.succ n) l
def IS {α : Type} (l r:List α):List α:=List.rec (motive:=fun _=>List α) r (fun a _ ih=>a :: ih) l
def IF (l:List (Nat×RV)):Option (List RC):=List.rec (motive:=fun _=>Option (List RC)) (some [])
 (fun p _ ih=>onO ih none fun r=>RV.casesOn (motive:=fun _=>Option (List RC)) p.2 none (fun c=>cond (A8 p.1 1) (some (c :: r)) none) (fun l=>cond (A8 (CU l) p.1) (some (IS l r)) none) (fun _=>none)) l
def CT (place:Nat→Option (Nat×Nat)):Nat→Nat→List Nat→Option (List Nat×Nat)
 | _,o,[]=>some ([],o)
 | i,o,j :: r=>cond (A8 i j) (match place j with
  | some (o',n)=>cond (A8 o o') (match CT place (i+1) (o+n) r with
   | some (l,e)=>some (n :: l,e)
   | none=>none) none
  | none=>none) none
def HE (place:Nat→Option (Nat×Nat)) (idx:List Nat) (total:Nat):Option (List Nat):=match CT place 0 0 idx with
 | some (l,e)=>cond (A8 e total) (some l) none
 | none=>none
def Km (l:List Nat) (vs:List RV):List (Nat×RV):=NK l vs
structure Lit1 where
 run:List RV→Option (List RC)
def yo (place:Nat→Option (Nat×Nat)) (z:List RC) (idx:List Nat):Lit1:=match HE place idx z.length with
 | some l=>⟨fun vs=>IF (Km l vs)⟩
 | none=>⟨fun vs=>AO place (NK idx vs) z⟩
def ue:Lit1:=⟨fun _=>none⟩
def J2 (t:TypeId) (idx:List Nat):Lit1:=match iy P t,P.underlying t with
 | some z,some (.struct fs)=>cond (fs.toList.all fun f=>(P.info? f.type).isSome) (yo (vA P t) z idx) ue
 | some z,some (.array _ e)=>(match dF P e with
  | some n=>yo (fun i=>some (i * n,n)) z idx
  | none=>ue)
 | _,_=>ue
def Jd (t:TypeId) (len:Nat) (idx:List Nat):Lit1:=match fN P t with
 | some e=>(match dF P e,iy P e with
  | some es,some z=>cond (A8 z.length es && Lh 1 es && Lh (len * es) 1000000) (yo (fun i=>some (i * es,es)) (A6 len z).flatten idx) ue
  | _,_=>ue)
 | none=>ue
def Cu (ev:Ev) (l:List (Nat×Operand)):List RV:=List.rec (motive:=fun _=>List RV) [] (fun p _ ih=>ev p.2 :: ih) l
def zk (t:TypeId) (parts:List (Nat×Operand)) (ev:Ev):Option RV:=FS ((J2 P t (parts.map (·.1))).run (Cu ev parts))
def Ds (l:List RC):Option RO:=onO (gH l 0 .nil) none fun t=>some (.cells t (CU l))
def slV (es:Option Nat) (len:Nat):RV:=.one (.sl 0 0 len (some len) (es.getD 0))
def lA (t:TypeId) (len:Nat) (parts:List (Nat×Operand)) (ev:Ev):Option PR :=
 onO ((Jd P t len (parts.map (·.1))).run (Cu ev parts)) none fun l=>zJ (Ds l) (slV (onO (fN P t) none (dF P)) len)
def BK:List RV→Option (List (Bool×Nat)×List RC)
 | []=>some ([],[])
 | v :: r=>match v,BK r with
  | .one c,some p=>some ((false,1) :: p.1,c :: p.2)
  | .agg l,some p=>some ((true,l.length) :: p.1,l++p.2)
  | _,_=>none
def vh:List (Bool×Nat)→List RC→Option (List RV)
 | [],_=>some []
 | p :: r,l=>match tk p.2 l,vh r (l.drop p.2) with
  | some c,some vs=>(match ov p.1 c with | some v=>some (v :: vs) | none=>none)
  | _,_=>none
def RV.at (id:Nat) (v:RV):RV:=match v with
 | .one (.ptr _ off)=>.one (.ptr id off)
 | .one (.sl _ off len cap es)=>.one (.sl id off len cap es)
 | .one (.mp _)=>.one (.mp id)
 | v=>v
def En (em:Bool) (t:TypeId) (k:Value) (es:Ents):Option (Option Nat) :=
 match iI P (do Instr.checkKey em 10000 t k; Instr.findKey t k (es.map fun e=>{ key:=e.1,val:=.nilFunc,born:=0 })) with
 | some r=>some (r.map (·.1))
 | none=>none
def mAt (r:Option Nat) (es:Ents) (g:Bool) (z:List RC):Option (Bool×List RC):=match r with
 | none=>some (g,z)
 | some i=>(match es[i]? with
  | some e=>some e.2
  | none=>none)
def lkV (ok:Bool) (has:Bool) (c:Option (Bool×List RC)):Option RV:=match c with
 | some c=>cond ok (some (.tup [c,(false,[.bool has])])) (ov c.1 c.2)
 | none=>none
def H6 (g:Bool) (v:Value):Option (Bool×List RC):=match v with
 | .agg cs=>cond g (match scs cs.toList with
  | some l=>some (true,l)
  | none=>none) none
 | v=>cond g none (match ofC v with
  | some c=>some (false,[c])
  | none=>none)
def FR (t:TypeId):Option (Bool×List RC):=match zP P t,P.info? t with
 | some g,some i=>(match i.zero with
  | some v=>H6 g v
  | none=>none)
 | _,_=>none
def uU (o:Option RO) (t:TypeId) (x key:RV) (ok:Bool):Option RV:=match P.underlying t,x,vOf key with
 | some (.map kt vt),.one (.mp _),some k=>(match o,FR P vt with
  | some (.map es),some (g,z)=>(match En P es.isEmpty kt k es with
   | some r=>lkV ok r.isSome (mAt r es g z)
   | none=>none)
  | _,_=>none)
 | _,_,_=>none
def ye (x:RV):Option Nat:=match x with
 | .one (.emp _ _)=>some 0
 | .one (.sc (.slice none 0 0))=>some 0
 | _=>none
def sF (x:RV):Option Nat:=onO x.asSl (ye x) fun s=>some s.len
def Av (x:RV):Option Nat:=match x with
 | .one (.sc (.string s))=>some s.size
 | _=>none
def Ad (o:Option RO) (x:RV):Option Nat:=match x with
 | .one (.sc (.map none))=>some 0
 | .one (.mp _)=>(match o with
  | some (.map es)=>some es.length
  | _=>none)
 | _=>none
inductive LK where
 | sl
 | str
 | map
 | arr (n:Nat)
 | no
def Gq (t:TypeId):LK:=match P.underlying t with
 | some .string=>.str
 | some (.array n _)=>.arr n
 | some (.slice _)=>.sl
 | some (.map _ _)=>.map
 | _=>.no
def Ji (k:LK) (x:RV):Option Nat:=match k with
 | .sl=>sF x
 | .str=>Av x
 | .map=>none
 | .arr n=>some n
 | .no=>none
def vp (n:Option Nat):Option RV:=match n with
 | some n=>cond (Lh n maxI) (bN n) none
 | none=>none
def Gw:List RV→Option (List Value)
 | []=>some []
 | v :: r=>match vOf v,Gw r with
  | some u,some l=>some (u :: l)
  | _,_=>none
def K3 (v:Option RV):Option PR:=Option.rec (motive:=fun _=>Option PR) none (fun v=>some (.val v)) v
def Hx (c a b:RV):Option RV:=onO c.asBool none fun t=>cond t (some a) (some b)
def yJ (t:TypeId):Option PR:=match iy P t with
 | some z=>zJ (jk z) (.one (.ptr 0 0))
 | none=>none
def Ii (x:RV):Option PR:=match oz x with
 | some l=>zJ (jk l) (.one (.ptr 0 0))
 | none=>none
def D3 (v:RV):Option RV:=match v with
 | .one (.fn f a b c)=>some (.one (.fn f a b c))
 | _=>none
def IT (v:RV):Option RV:=onO v.asPtr (D3 v) fun _=>some v
def unV (f:Value→Sem Value) (x:RV):Option RV:=match vOf x with
 | some v=>(match iI P (f v) with
  | some w=>ofV w
  | none=>none)
 | none=>none
def IV (x:RV) (slow:Option RV):Option RV:=onO x.asBool slow fun b=>bB (not b)
def ES (f:FuncId) (n:Nat) (l:List RV):Option RV:=match BK l with
 | some p=>some (.one (.fn f p.1 n p.2))
 | none=>none
def si (x:RV) (i:Nat):Option RV:=match x with
 | .tup l=>(match l[i]? with
  | some p=>ov p.1 p.2
  | none=>none)
 | _=>none
def Ge (f:Array Value→Sem Value) (l:List RV):Option RV:=match Gw l with
 | some vs=>(match iI P (f vs.toArray) with
  | some w=>ofV w
  | none=>none)
 | none=>none
inductive RK where
 | m (x:Operand)
 | v (f:Ev→Option RV)
 | r (x:Operand) (f:Option RO→Ev→Option RV)
 | b (f:Ev→Option PR)
 | store (n:Option Nat) (a x:Operand)
 | mapUpd (t:TypeId) (m k v:Operand)
 | append (n:Option Nat) (b x:Operand)
 | copy (n:Option Nat) (b x:Operand)
 | clear (t:TypeId) (x:Operand)
 | delete (t:TypeId) (x k:Operand)
 | call (g:Operand) (args:List Operand)
 | no
def wo (t:TypeId):Option Nat:=match fN P t with
 | some e=>(match dF P e,iy P e with
  | some n,some z=>cond (Lh 1 n && A8 z.length n) (some n) none
  | _,_=>none)
 | none=>none
def BG (t:TypeId):Bool:=match fN P t with
 | some _=>true
 | none=>false
def Ir (x:RV):Option Nat:=match x with
 | .one (.sc (.slice none 0 0))=>some 0
 | .one (.sl _ _ _ (some k) _)=>some k
 | _=>none
def KZ (t:TypeId):Option (List RC):=match fN P t with
 | some e=>iy P e
 | none=>none
def K0 (es:Option Nat) (z:Option (List RC)) (x:RV) (n:Option Nat):Option PR:=match es,z,x,n with
 | some es,some z,.one (.sc (.slice none 0 0)),some n=>cond (Lh 1 n && Lh n 1000000) (zJ (jk (A6 n z).flatten) (.one (.sl 0 0 n none es))) none
 | _,_,_,_=>none
def KB (t:TypeId):Bool:=match P.underlying t with
 | some (.int .i64)=>true
 | _=>false
def mU (ty:TypeId) (b:Builtin) (args:List Operand) (ts:Array TypeId):RK:=match b,args,ts.toList with
 | .len,[x],[t]=>(match Gq P t with
  | .map=>.r x fun o ev=>vp (Ad o (ev x))
  | k=>.v fun ev=>vp (Ji k (ev x)))
 | .min,l,_=>.v fun ev=>Ge P (Builtin.min_ ts ty) (l.map ev)
 | .max,l,_=>.v fun ev=>Ge P (Builtin.max_ ts ty) (l.map ev)
 | .append,[b,x],[t,t']=>cond (decide (t=t')) (.append (wo P t) b x) .no
 | .copy,[b,x],[t,t']=>cond (decide (t=t')) (.copy (wo P t) b x) .no
 | .clear,[x],[t]=>.clear t x
 | .delete,[x,k],[t,_]=>.delete t x k
 | .cap,[x],[t]=>cond (BG P t) (.v fun ev=>vp (Ir (ev x))) .no
 | _,_,_=>.no
def qI (op:BinOp) (xt:TypeId) (x y:Operand):RK:=match Bc op with
 | some f=>.v fun ev=>zW f (ev x) (ev y) (DZ P op xt x y (ev x) (ev y))
 | none=>.v fun ev=>DZ P op xt x y (ev x) (ev y)
def Ay (op:UnOp) (x:Operand):RK:=match op with
 | .not=>.v fun ev=>IV (ev x) (unV P (Op.unary .not) (ev x))
 | op=>.v fun ev=>unV P (Op.unary op) (ev x)
def JC (a b:TypeId):Bool:=match P.underlying a,fN P b with
 | some .string,some e=>(match P.underlying e with
  | some (.int .u8)=>true
  | _=>false)
 | _,_=>false
def JM (b:UInt8):RC:=.int .u8 (.ofNat b.toNat)
def Kx (x:RV):Option PR:=match vOf x with
 | some (.string s)=>cond (Lh s.data.toList.length 100000) (match gH (s.data.toList.map JM) 0 .nil with
  | some t=>some (.new (.ro t s.data.toList.length) (.one (.sl 0 0 s.data.toList.length none 1)))
  | none=>none) none
 | _=>none
def Dx (a b:TypeId) (x:Operand):RK:=.v fun ev=>unV P (convert a b) (ev x)
def rk (o:Oper):RK:=match o.op with
 | .move x=>.m x
 | .assign x=>.m x
 | .pick c a b=>.v fun ev=>Hx (ev c) (ev a) (ev b)
 | .alloc t=>.b fun _=>yJ P t
 | .box _ x=>.b fun ev=>Ii (ev x)
 | .build t parts=>.v fun ev=>zk P t parts.toList ev
 | .buildSlice t n parts=>.b fun ev=>lA P t n parts.toList ev
 | .load t a=>.r a fun o ev=>qL o (ldT P t) (ev a)
 | .nilCheck x=>.v fun ev=>IT (ev x)
 | .binOp op xt x y _=>qI P op xt x y
 | .unOp op _ x=>Ay P op x
 | .convert a b x=>Dx P a b x
 | .makeFunc (.func f) first caps=>.v fun ev=>ES f first.size (first.toList.map ev++caps.toList.map ev)
 | .makeMap _ none=>.b fun _=>some (.new (.map []) (.one (.mp 0)))
 | .makeSlice t n c=>.b fun ev=>E4 P t (ixN (ev n)) (ixN (ev c))
 | .slice t x lo hi mx=>.v fun ev=>zC P t (ev x) (lo.map ev) (hi.map ev) (mx.map ev)
 | .fieldAddr t x f=>.v fun ev=>sI (kO P t f) (ev x)
 | .field t x f=>.v fun ev=>zn (kO P t f) (ev x)
 | .indexAddr t x ix=>.v fun ev=>m7 (C0 P t) (ev x) (ixN (ev ix))
 | .index t x ix=>.v fun ev=>zE P t (ev x) (ev ix)
 | .lookup t x ix ok=>.r x fun o ev=>uU P o t (ev x) (ev ix) ok
 | .extract x i=>.v fun ev=>si (ev x) i
 | .store t a x=>.store (dF P t) a x
 | .mapUpdate t m k v=>.mapUpd t m k v
 | .call { callee:=.builtin b,args,argTypes }=>mU P o.type b args.toList argTypes
 | .call { callee:=.value g,args,.. }=>.call g args.toList
 | _=>.no
end
end
end Go.Rx

/-
 An evaluator for calls without arguments: operations that write, regions, bodies, calls.
-/
namespace Go.Rx
noncomputable section
open Go.Vm
abbrev Call1:=Nat→List RV→RS→Option (RV×RS)
section
variable (P:Program) (call:Call1)
def iP (s:RS) (b:Nat) (o:RO):Option RS:=Tr.putK o none deep s.H b fun H=>some { H:=H,nx:=s.nx }
def wv {R:Type} (s:RS) (b:Nat) (no r:R):R:=Option.rec (motive:=fun _=>R) r (fun _=>no) (s.H.get b)
def s9 (s:RS) (o:RO):Option RS:=oE s.nx fun b=>wv s b none (Tr.putK o none deep s.H b fun H=>some { H:=H,nx:=Nat.succ b })
def Dm (s:RS) (b n:Nat) (t:Option (Tr RC)):Option RS:=match t with
 | some t=>iP s b (.cells t n)
 | none=>none
def xw (s:RS) (n:Nat) (t:Option (Tr RC)):Option RS:=match t with
 | some t=>s9 s (.cells t n)
 | none=>none
def I6 (c:List RC) (n b off:Nat) (s:RS) (p:Option (Tr RC×Nat)):Option RS :=
 onO p none fun p=>cond (A8 c.length n && Lh (Mg off n) p.2) (Dm s b p.2 (gH c off p.1)) none
def AI (n:Option Nat) (a x:RV) (s:RS):Option RS :=
 onO n none fun n=>onO a.asPtr none fun a=>onO (oz x) none fun c=>I6 c n a.1 a.2 s (onO (s.H.get a.1) none RO.asC)
def cK (s:RS) (x:RV):Option (List RC×Nat):=match x with
 | .one (.sc (.slice none 0 0))=>some ([],0)
 | .one (.emp _ _)=>some ([],0)
 | .one (.sl b off len _ es)=>(match iA (gj (s.H.get b)) off (LZ len es) with
  | some c=>some (c,len)
  | none=>none)
 | _=>none
def px (nx n es:Nat) (s:Option RS):Option (RV×RS):=match s with
 | some s'=>oE nx fun nx=>oE n fun n=>some (.one (.sl nx 0 n none es),s')
 | none=>none
def kill (s:RS) (b:Nat) (K:RS→Option RS):Option RS:=match iP s b .dead with
 | some s1=>K s1
 | none=>none
def u7 (c:List RC) (n es:Nat) (s:RS):Option (RV×RS):=px s.nx n es (xw s (LZ n es) (gH c 0 .nil))
def EF (c:List RC) (b n es:Nat) (s:RS):Option (RV×RS):=px s.nx n es (kill s b fun s1=>xw s1 (LZ n es) (gH c 0 .nil))
def Fc (t:Tr RC) (off m:Nat):Option (Tr RC):=match off with
 | 0=>some t
 | off=>(match sX t off m with
  | some l=>gH l 0 .nil
  | none=>none)
def Gj (t:Option (Tr RC)) (c:List RC) (m:Nat):Option (Tr RC):=match t with
 | some t=>gH c m t
 | none=>none
def E0 (b off len k es:Nat) (s:Option RS):Option (RV×RS):=match s with
 | some s'=>oE len fun len=>some (.one (.sl b off len (some k) es),s')
 | none=>none
def HW (c:List RC) (n b off len:Nat) (cap:Option Nat) (es:Nat) (t:Tr RC) (m:Nat) (s:RS):Option (RV×RS):=match cap with
 | some k=>cond (Lh (Mg len n) k)
  (cond (Lh (Mg off (LZ (Mg len n) es)) m) (E0 b off (Mg len n) k es (Dm s b m (gH c (Mg off (LZ len es)) t))) none)
  (cond (Lh (Mg off (LZ len es)) m) (px s.nx (Mg len n) es (xw s (LZ (Mg len n) es) (Gj (Fc t off (LZ len es)) c (LZ len es)))) none)
 | none=>cond (Lh (Mg off (LZ len es)) m) (px s.nx (Mg len n) es (kill s b fun s1=>xw s1 (LZ (Mg len n) es) (Gj (Fc t off (LZ len es)) c (LZ len es)))) none
def sy (es:Nat) (x:RV) (c:List RC) (n:Nat) (s:RS):Option (RV×RS):=match x with
 | .one (.sc (.slice none 0 0))=>u7 c n es s
 | .one (.sl b off len cap es')=>cond (A8 es es') (match s.H.get b with
  | some (.cells t m)=>HW c n b off len cap es t m s
  | _=>none) none
 | .one (.emp b es')=>cond (A8 es es') (match s.H.get b with
  | some (.cells _ _)=>EF c b n es s
  | _=>none) none
 | _=>none
def Hk (n:Nat) (x:RV):Bool:=onO (sF x) false fun m=>Lh (Mg m n) 1000000
def xj (es:Nat) (x:RV) (c:List RC) (n:Nat) (s:RS):Option (RV×RS):=cond (Hk n x) (match n with
 | 0=>some (x,s)
 | n=>sy es x c n s) none
def vn (es:Option Nat) (x y:RV) (s:RS):Option (RV×RS):=match es,cK s y with
 | some es,some (c,n)=>cond (A8 (CU c) (LZ n es)) (xj es x c n s) none
 | _,_=>none
def ID (n:Nat) (s:Option RS):Option (RV×RS):=match s,vp (some n) with
 | some s,some v=>some (v,s)
 | _,_=>none
def KY (e:Option Nat) (x y:RV) (s:RS):Option (RV×RS):=match e,x,cK s y with
 | some e,.one (.sl b off len _ es),some (c,n)=>cond (A8 e es && A8 (CU c) (LZ n es)) (match s.H.get b,tk (LZ (min len n) es) c with
  | some (.cells t m),some c'=>cond (Lh (Mg off (LZ (min len n) es)) m) (ID (min len n) (Dm s b m (gH c' off t))) none
  | _,_=>none) none
 | some _,.one (.sc (.slice none 0 0)),some _=>ID 0 (some s)
 | some _,.one (.emp _ _),some _=>ID 0 (some s)
 | _,_,_=>none
def Kk (t:TypeId) (x:RV) (s:RS):Option RS:=match P.underlying t,x with
 | some (.slice e),.one (.sl b off len _ es)=>(match s.H.get b,iy P e with
  | some (.cells l m),some z=>cond (A8 z.length es && Lh (Mg off (LZ len es)) m) (Dm s b m (gH (A6 len z).flatten off l)) none
  | _,_=>none)
 | some (.slice _),.one (.sc (.slice none 0 0))=>some s
 | some (.map _ _),.one (.mp b)=>(match s.H.get b with
  | some (.map _)=>iP s b (.map [])
  | _=>none)
 | _,_=>none
def J4 (k:Value):Bool:=match ofV k with
 | some _=>true
 | none=>false
def HQ (e:Option (Value×(Bool×List RC))) (k:Value):Option Value:=match e with
 | some e=>(match iI P (Instr.keyThatStays e.1 k) with
  | some k'=>cond (J4 k') (some k') none
  | none=>none)
 | none=>none
def Fk (i:Option (Option Nat)) (k:Value) (c:Bool×List RC) (es:Ents):Option Ents:=match i with
 | some none=>some (es++[(k,c)])
 | some (some i)=>(match HQ P es[i]? k with
  | some k'=>some (es.set i (k',c))
  | none=>none)
 | none=>none
def If (s:RS) (b:Nat) (es:Option Ents):Option RS:=match es with
 | some es=>iP s b (.map es)
 | none=>none
def Ak (v:RV):Option (Bool×List RC):=match v with
 | .one c=>some (false,[c])
 | .agg l=>some (true,l)
 | _=>none
def nc (t:TypeId) (x key v:RV) (s:RS):Option RS:=match P.underlying t,x,vOf key with
 | some (.map kt _),.one (.mp b),some k=>(match s.H.get b,Ak v with
  | some (.map es),some c=>If s b (Fk P (En P false kt k es) k c es)
  | _,_=>none)
 | _,_,_=>none
def Kd (t:TypeId) (x key:RV) (s:RS):Option RS:=match P.underlying t,x,vOf key with
 | some (.map kt _),.one (.mp b),some k=>(match s.H.get b with
  | some (.map es)=>(match En P es.isEmpty kt k es with
   | some none=>some s
   | some (some i)=>iP s b (.map (es.eraseIdx i))
   | none=>none)
  | _=>none)
 | _,_,_=>none
def Ez (s:Option RS):Option (RV×RS):=Option.rec (motive:=fun _=>Option (RV×RS)) none (fun s'=>some (.unk,s')) s
def Kn (s:Option RS):Option (RV×RS):=Option.rec (motive:=fun _=>Option (RV×RS)) none (fun s'=>some (rundef,s')) s
def xS (f k:Nat) (l:Option (List RV)) (args:List RV) (s:RS):Option (RV×RS):=match l with
 | some l=>call f (l.take k++args++l.drop k) s
 | none=>none
def El (v:RV) (args:List RV) (s:RS):Option (RV×RS):=match v with
 | .one (.fn f sh k cells)=>xS call f k (vh sh cells) args s
 | _=>none
def rc (k:RK) (ev:Ev) (s:RS):Option (RV×RS):=match k with
 | .store n a x=>Ez (AI n (ev a) (ev x) s)
 | .mapUpd t m k v=>Ez (nc P t (ev m) (ev k) (ev v) s)
 | .append n b x=>vn n (ev b) (ev x) s
 | .call g args=>El call (ev g) (args.map ev) s
 | _=>none
def dz (ops:List Oper) (j:Nat):Option Nat:=match ops[j]? with
 | some o=>o.dst
 | none=>none
def lN (all:List Oper):Option (Nat×Bool)→Option (Option (Nat×Bool))
 | none=>some none
 | some (j,want)=>match dz all j with
  | some d=>some (some (d,want))
  | none=>none
inductive Out where
 | no
 | go (e:cE) (s:RS)
 | exit (i:Nat) (e:cE) (s:RS)
 | ret (e:cE) (s:RS)
section
variable (GL:List Nat) (msk:Nat)
structure Put1 where
 run:RV→cE→Lc→(cE→Lc→Out)→Out
def iR (dst:Option Nat):Put1:=match dst with
 | none=>⟨fun _ e l K=>K e l⟩
 | some d=>cond (iv msk d) ⟨fun v e l K=>uK v fun v=>Tr.putK v .no deep e d fun e'=>K e' l⟩ ⟨fun v e l K=>uK v fun v=>K e (.cons d v l)⟩
structure Note where
 i:Nat
 rd:Option Nat
 nw:Option Nat
abbrev Notes:=List Note
structure PE where
 i:Nat
 tk:Bool
 un:List Nat
abbrev Plan:=List PE
def inL (l:List Nat) (i:Nat):Bool:=List.rec (motive:=fun _=>Bool) false (fun a _ ih=>cond (A8 a i) true ih) l
def pE (b:Option Nat) (made:Bool) (s:Option RS):Option RS:=match s,b with
 | some s,some b=>cond made (iP s b .dead) (match s.H.get b with
  | some (.cells t m)=>iP s b (.ro t m)
  | some (.map _)=>iP s b .dead
  | _=>some s)
 | s,_=>s
def gf (un:List Nat) (s:RS):Notes→Option RS
 | []=>some s
 | n :: r=>cond (inL un n.i) (pE n.nw true (pE n.rd false (gf un s r))) (gf un s r)
def kY (b:Option Nat) (s0:RS) (s:Option RS):Option RS:=match s,b with
 | some s,some b=>(match s0.H.get b with
  | some o=>iP s b o
  | none=>some s)
 | s,_=>s
def fY (un:List Nat) (s0 s:RS):Notes→Option RS
 | []=>some s
 | n :: r=>cond (inL un n.i) (kY n.nw s0 (kY n.rd s0 (fY un s0 s r))) (fY un s0 s r)
def HH (un:List Nat) (ns:Notes) (s0:RS) (r:Option (RV×RS)):Option (RV×RS):=match r with
 | some (v,s')=>(match fY un s0 s' ns with
  | some s2=>some (v,s2)
  | none=>none)
 | none=>none
def rcU (call:Call1) (un:List Nat) (k:RK) (ev:Ev) (s:RS) (ns:Notes):Option (RV×RS):=match gf un s ns with
 | some s1=>HH un ns s (rc P call k ev s1)
 | none=>none
abbrev K1:=cE→Lc→RS→Notes→Out
def rr (tk:Bool) (n:Note) (ns:Notes):Notes:=cond tk (n :: ns) ns
def Cm (pe:PE) (dst:Option Nat) (pr:Option PR) (e:cE) (l:Lc) (s:RS) (ns:Notes) (K:K1):Out:=match pr with
 | some (.new o v)=>oE s.nx fun b=>wv s b .no (Tr.putK o .no deep s.H b fun H=>(iR msk dst).run (v.at b) e l fun e' l'=>K e' l' { H:=H,nx:=Nat.succ b } (rr pe.tk ⟨pe.i,none,some b⟩ ns))
 | _=>.no
def xJ (dst:Option Nat) (v:Option RV) (e:cE) (l:Lc) (s:RS) (ns:Notes) (K:K1):Out :=
 Option.rec (motive:=fun _=>Out) .no (fun v=>(iR msk dst).run v e l fun e' l'=>K e' l' s ns) v
def zU (dst:Option Nat) (pr:Option (RV×RS)) (e:cE) (l:Lc) (ns:Notes) (K:K1):Out:=match pr with
 | some (v,s')=>(iR msk dst).run v e l fun e' l'=>K e' l' s' ns
 | none=>.no
structure Step where
 run:Call1→cE→Lc→RS→Notes→K1→Out
def mkW (k:RK) (pe:PE) (dst:Option Nat):Step:=match pe.un with
 | []=>⟨fun call e l s ns K=>zU msk dst (rc P call k (rev GL msk e l) s) e l ns K⟩
 | a :: r=>⟨fun call e l s ns K=>zU msk dst (rcU P call (a :: r) k (rev GL msk e l) s ns) e l ns K⟩
def lk (k:RK) (pe:PE) (dst:Option Nat):Step:=match k with
 | .m x=>⟨fun _ e l s ns K=>(iR msk dst).run (rev GL msk e l x) e l fun e' l'=>K e' l' s ns⟩
 | .v f=>⟨fun _ e l s ns K=>xJ msk dst (f (rev GL msk e l)) e l s ns K⟩
 | .r x f=>⟨fun _ e l s ns K=>xJ msk dst (f (blk s.H.get (rev GL msk e l x)) (rev GL msk e l)) e l s (rr pe.tk ⟨pe.i,(rev GL msk e l x).asBlk,none⟩ ns) K⟩
 | .b f=>⟨fun _ e l s ns K=>Cm msk pe dst (f (rev GL msk e l)) e l s ns K⟩
 | k=>mkW P GL msk k pe dst
def yR (v:RV) (skip:Out):Out:=match v with
 | .tup []=>skip
 | _=>.no
def jy (v:RV) (want:Bool) (run skip:Out):Out:=onO v.asBool (yR v skip) fun b=>cond b (cond want run skip) (cond want skip run)
def Br (g:Option (Nat×Bool)) (dst:Option Nat) (st:Step):Step:=match g with
 | none=>st
 | some (d,want)=>⟨fun call e l s ns K=>jy (egt msk e l d) want (st.run call e l s ns K) ((iR msk dst).run rundef e l fun e' l'=>K e' l' s ns)⟩
structure Reg where
 run:Call1→cE→Lc→RS→Notes→Out
def Ho:Reg:=⟨fun _ _ _ _ _=>.no⟩
def JN (o:Oper) (g:Option (Nat×Bool)) (pe:PE) (next:Reg):Reg:=⟨fun call e l s ns=>(Br msk g o.dst (lk P GL msk (rk P o) pe o.dst)).run call e l s ns (next.run call)⟩
def Cv (all:List Oper) (pe:PE) (next:Reg):Reg:=match all[pe.i]? with
 | some o=>(match lN all o.guard with
  | some g=>JN P GL msk o g pe next
  | none=>Ho)
 | none=>Ho
def eW (all:List Oper) (pl:Plan):Reg:=List.rec (motive:=fun _=>Reg) ⟨fun _ e _ s _=>.go e s⟩ (fun pe _ ih=>Cv P GL msk all pe ih) pl
def iH:Nat→List Oper→Plan
 | _,[]=>[]
 | k,_ :: r=>⟨k,false,[]⟩ :: iH (Nat.succ k) r
abbrev rF:=List (Nat×Plan)
def oX (ps:rF) (id:Nat) (ops:List Oper):Plan:=List.rec (motive:=fun _=>Plan) (iH 0 ops) (fun p _ ih=>cond (A8 p.1 id) p.2 ih) ps
def tD (f:cE→RS→Out) (n:Nat):cE→RS→Out :=
 Nat.rec (motive:=fun _=>cE→RS→Out) (fun _ _=>.no) (fun _ ih e s=>Out.rec (motive:=fun _=>Out) .no (fun e' s'=>ih e' s') .exit .ret (f e s)) n
def Fo (v:RV) (a b:Out):Out:=onO v.asBool .no fun t=>cond t a b
def FZ (id:Nat) (o:Out):Out:=Out.rec (motive:=fun _=>Out) .no .go (fun i e s=>cond (A8 i id) (.go e s) (.exit i e s)) .ret o
def JW (o:Out) (f:cE→RS→Out):Out:=Out.rec (motive:=fun _=>Out) .no (fun e s=>f e s) .exit .ret o
structure CS where
 run:Call1→cE→RS→Out
def mkC (mn:List Nat) (ps:rF) (fuel:Nat) (c:Code):CS :=
 Code.rec (motive:=fun _=>CS)
  ⟨fun _ e s=>.go e s⟩
  (fun id ops _=>⟨fun call e s=>(eW P GL msk ops.toList (oX ps id ops.toList)).run call e .nil s []⟩)
  (fun _ _ ra rb=>⟨fun call e s=>JW (ra.run call e s) (rb.run call)⟩)
  (fun c _ _ ra rb=>⟨fun call e s=>Fo (rev GL msk e .nil c) (ra.run call e s) (rb.run call e s)⟩)
  (fun id _ r=>⟨fun call e s=>FZ id (r.run call e s)⟩)
  (fun _ r=>⟨fun call e s=>tD (r.run call) fuel e s⟩)
  (fun _ _ _ _ _ _=>⟨fun _ _ _=>.no⟩)
  (fun i=>⟨fun _ e s=>.exit i e s⟩)
  (fun _ r=>⟨fun call e s=>r.run call e s⟩)
  (fun _=>⟨fun _ e s=>.go e s⟩)
  (fun _=>⟨fun _ _ _=>.no⟩)
  ⟨fun _ e s=>.ret e s⟩
  (fun _=>⟨fun _ _ _=>.no⟩) c
def xl:Nat→List RV→cE→Option cE
 | _,[],e=>some e
 | i,v :: r,e=>cond (iv msk i) (uK v fun v=>Tr.putK v none deep e i fun e'=>xl (Nat.succ i) r e') (xl (Nat.succ i) r e)
def Hc (e:cE) (s:RS):ResultVar→Option RV
 | .tmp t=>some (egt msk e .nil t)
 | .cell t τ=>qL (blk s.H.get (egt msk e .nil t)) (ldT P τ) (egt msk e .nil t)
def ji (e:cE) (s:RS):List ResultVar→Option (List RV)
 | []=>some []
 | r :: l=>match Hc P msk e s r,ji e s l with
  | some v,some vs=>some (v :: vs)
  | _,_=>none
def GV:List RV→Option (List (Bool×List RC))
 | []=>some []
 | v :: r=>match v,GV r with
  | .one c,some q=>some ((false,[c]) :: q)
  | .agg c,some q=>some ((true,c) :: q)
  | _,_=>none
def Ep (l:List RV):Option RV:=match l with
 | [v]=>some v
 | l=>match GV l with
  | some q=>some (.tup q)
  | none=>none
def Cb (vs:Option (List RV)) (s:RS):Option (RV×RS):=match vs with
 | some vs=>(match Ep vs with
  | some v=>some (v,s)
  | none=>none)
 | none=>none
def Kt (rs:List ResultVar) (o:Out):Option (RV×RS):=match o with
 | .go e s=>Cb (ji P msk e s rs) s
 | .ret e s=>Cb (ji P msk e s rs) s
 | _=>none
end
end
def IG (c:RC):Option Int:=match c with
 | .nat m=>some (.ofNat m)
 | .int .i64 n=>some n
 | _=>none
def xg:List RC→Option (List Int)
 | []=>some []
 | c :: r=>match IG c,xg r with
  | some n,some l=>some (n :: l)
  | _,_=>none
def Kv (s:RS) (p:Option (List RC×Nat)):Option (RV×RS):=match p with
 | some ([],n)=>cond (A8 n 0) (some (.one (.sc (.slice none 0 0)),s)) none
 | some (c,n)=>cond (A8 c.length n && Lh n 1000000 && (xg c).isSome) (u7 c n 1 s) none
 | none=>none
def m9 (it:Nat) (args:List RV) (s:RS):Option (RV×RS):=match args with
 | [.one (.sc (.slice none 0 0)),.one (.fn f [(false,1)] 0 [.ptr b 0])]=>cond (A8 f it) (match iA (gj (s.H.get b)) 0 1 with
  | some [x]=>Kv s (cK s (.one x))
  | _=>none) none
 | _=>none
def np (o:Option RO):Bool:=match o with
 | some (.cells _ _)=>true
 | _=>false
def HM (x y:RV) (l:List RC) (n:Nat) (s:RS):Option (RV×RS):=match x,y with
 | .one (.sl b _ _ _ 1),.one (.sl b' _ _ _ 1)=>cond (!(A8 b b') && np (s.H.get b) && np (s.H.get b')) (px s.nx n 1 (kill s b fun s1=>kill s1 b' fun s2=>xw s2 n (gH l 0 .nil))) none
 | .one (.sc (.slice none 0 0)),.one (.sl b' _ _ _ 1)=>cond (np (s.H.get b')) (px s.nx n 1 (kill s b' fun s2=>xw s2 n (gH l 0 .nil))) none
 | _,_=>none
def HC (x y:RV) (i:Option Nat) (a b:Option (List RC×Nat)) (s:RS):Option (RV×RS):=match i,a,b with
 | some i,some (c,n),some (c',n')=>cond (Lh i n && A8 c.length n && A8 c'.length n' && Lh 1 n' && Lh (Mg n n') 1000000 && (xg c).isSome && (xg c').isSome)
   (HM x y (c.take i++c'++c.drop i) (Mg n n') s) none
 | _,_,_=>none
def vz (args:List RV) (s:RS):Option (RV×RS):=match args with
 | [x,i,y]=>HC x y i.asNat (cK s x) (cK s y) s
 | _=>none
inductive XF where
 | appendSeq (it:Nat)
 | insert
def JL (x:XF) (args:List RV) (s:RS):Option (RV×RS):=match x with
 | .appendSeq it=>m9 it args s
 | .insert=>vz args s
abbrev XTab:=List (Nat×XF)
def XTab.find:XTab→Nat→Option XF
 | [],_=>none
 | p :: r,f=>cond (A8 p.1 f) (some p.2) (XTab.find r f)
structure FP where
 msk:Nat
 plans:rF
 mn:List Nat
abbrev FPs:=List (Nat×FP)
def FPs.get (l:FPs) (f:Nat):Option FP:=List.rec (motive:=fun _=>Option FP) none (fun p _ ih=>cond (A8 p.1 f) (some p.2) ih) l
def Ey (P:Program) (GL:List Nat) (lf:Nat) (fp:FP) (call:Call1) (rs:List ResultVar) (c:Code) (e:Option cE) (s:RS):Option (RV×RS):=match e with
 | some e=>Kt P fp.msk rs ((mkC P GL fp.msk fp.mn fp.plans lf c).run call e s)
 | none=>none
def HX (P:Program) (GL:List Nat) (lf:Nat) (fp:Option FP) (call:Call1) (fn:Option Func) (args:List RV) (s:RS):Option (RV×RS):=match fn,fp with
 | some fn,some fp=>(match fn.body with
  | some c=>Ey P GL lf fp call fn.results.toList c (xl fp.msk 0 args .nil) s
  | none=>none)
 | _,_=>none
def Al (P:Program) (GL:List Nat) (X:Option XF) (lf:Nat) (fp:Option FP) (call:Call1) (fn:Option Func) (args:List RV) (s:RS):Option (RV×RS):=match X with
 | some x=>JL x args s
 | none=>HX P GL lf fp call fn args s
def AU (P:Program) (GL:List Nat) (X:XTab) (M:FPs) (lf:Nat) (n:Nat):Call1 :=
 Nat.rec (motive:=fun _=>Call1) (fun _ _ _=>none) (fun _ ih f args s=>Al P GL (X.find f) lf (M.get f) ih P.funcs[f]? args s) n
def vT (r:Option (RV×RS)):Bool:=match r with
 | some (.one (.bool true),_)=>true
 | _=>false
end
end Go.Rx

