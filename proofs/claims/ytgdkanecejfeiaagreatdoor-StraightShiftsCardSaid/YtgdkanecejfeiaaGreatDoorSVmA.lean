/-
 A machine on typed values, small enough to be reckoned by the kernel, and the proof that it goes with the model: part 1 of 4. What it computes for a function is that function's contract. No condition of its own.
-/
import Derived.Calls
import GoSem.Core.Utf8
import Derived.WalkKit
import Derived.Laws.Closers25b
open Option renaming bind_some→gr
open Option.some renaming injEq→A1
open List renaming getElem?_eq_getElem→A2,getElem?_eq_some_iff→A3,replicate→A6,mem_append→B1,mem_of_getElem?→B2,mem_cons→B3,length_cons→La,range→Le,mem_cons_of_mem→Ll,getElem?_cons_succ→Lp,getElem?_take→Ls,getElem?_cons_zero→Lt,length_append→Lu,getElem?_toArray→Lv,length_set→LF,length_nil→LG,mem_cons_self→LL,mem_iff_getElem?→LM,append_nil→LU,nil_append→LW,any_eq_false→L4,getElem?_drop→L5,getElem_of_mem→Mj,getElem?_eq_none→Ml,length_take→Mt,pairwise_iff_getElem→Mw,getElem?_set_ne→Mz,ext_getElem?→MA,mem_of_mem_drop→MB,getElem_set_ne→MD,take_of_length_le→MI,drop_eq_nil_of_le→MJ,take_append_of_le_length→MK,flatMap_cons→MM,getElem?_set_self→MX,take_left→MY,getElem_set_self→M2,mem_of_mem_take→Nb,drop_eq_getElem_cons→Nk,drop_append→Np,getElem_cons_succ→Nt,drop_zero→ND,take_zero→Oe,getElem?_append→Ol,isEmpty_nil→OL
open Bool renaming and_eq_true→A4,not_eq_true'→Lz,false_eq_true→LR,and_self→OX
open Nat renaming eq_of_beq_eq_true→A5,le_refl→A7,beq→A8,le_of_ble_eq_true→B7,mul_le_mul_right→K9,add_mul→Lf,ble→Lh,add_assoc→Lo,lt_of_lt_of_le→LA,le_trans→LQ,add_zero→L7,lt_succ_self→Mf,mul_one→M4,ne_of_beq_eq_false→M8,blt→NC,lt_or_gt_of_ne→NN,add_sub_cancel_left→Of,eq_zero_or_pos→OF,zero_mul→O4
open Sum renaming elim→K8
open Prod.mk renaming injEq→Ld
open Array renaming getElem?_eq_some_iff→Lw,length_toList→LJ,getElem?_toList→LO
open List.cons renaming injEq→Mx
open Int renaming tmod_nonneg→OS
set_option linter.unusedVariables false
set_option linter.unusedSimpArgs false
/-
 A small abstract machine over typed values: definitions. Slices that are only read are lists; what a call makes itself is an object with a number.
-/
namespace Go.Vm
inductive Ty where
 | int (k:IntKind)
 | bool
 | str
 | slice (e:Ty)
 | prod (a b:Ty)
 | unit
 | arr (n:Nat) (e:Ty)
 | ptr (e:Ty)
 | clo (g:Nat) (e:Ty)
 deriving DecidableEq
@[reducible] def Ty.den:Ty→Type
 | .int _=>Int
 | .bool=>Bool
 | .str=>ByteArray
 | .slice e=>List e.den
 | .prod a b=>a.den×b.den
 | .unit=>Unit
 | .arr _ e=>List e.den
 | .ptr e=>e.den
 | .clo _ e=>e.den
def Ty.size:Ty→Nat
 | .int _=>1
 | .bool=>1
 | .str=>1
 | .slice _=>1
 | .prod a b=>a.size+b.size
 | .unit=>0
 | .arr n e=>n * e.size
 | .ptr _=>1
 | .clo _ _=>1
def Ty.isAgg:Ty→Bool
 | .prod _ _=>true
 | .unit=>true
 | .arr _ _=>true
 | _=>false
def Ty.field:Ty→Nat→Option (Nat×Ty)
 | .prod a _,0=>some (0,a)
 | .prod a b,i+1=>match b.field i with
  | some (o,t)=>some (a.size+o,t)
  | none=>none
 | _,_=>none
def dj:(τ : Ty)→List Nat→Option (Nat×Ty)
 | τ,[]=>some (0,τ)
 | τ,i :: p=>match τ.field i with
  | some (o,t)=>match dj t p with
   | some (q,u)=>some (o+q,u)
   | none=>none
  | none=>none
def cO:(τ : Ty)→τ.den→Nat→Option (Σ t:Ty,t.den)
 | .prod a _,x,0=>some ⟨a,x.1⟩
 | .prod _ b,x,i+1=>cO b x.2 i
 | _,_,_=>none
inductive Atom where
 | u
 | undef
 | nils
 | val (τ : Ty) (x : τ.den)
 | own (id:Nat)
 | view (id off len:Nat)
 | ptr (id off:Nat)
 | aptr (id idx:Nat) (path:List Nat)
 | clo (f:Nat) (caps:List Nat)
 | cut (id off len:Nat)
 | bnd (f:Nat) (l:List (Σ t:Ty,t.den))
 | ownd (id:Nat)
 | sub (id ver j:Nat)
 | saptr (id ver j k:Nat)
 | ownm (id:Nat)
inductive SV where
 | av (a:Atom)
 | agg (l:List Atom)
 | tup (l:List (Bool×List Atom))
inductive Obj where
 | arr (τ : Ty) (l:List τ.den)
 | box (l:List Atom)
 | dead
 | deep (ver:Nat) (τ : Ty) (l:List (List τ.den)) (hole:Option Nat)
 | map (k v:Ty) (l:List (k.den×v.den))
abbrev Env:=List (Nat×SV)
abbrev Heap:=List (Nat×Obj)
structure St where
 env:Env
 G:Heap
def Env.get:Env→Nat→SV
 | [],_=>.av .u
 | (k,v) :: r,t=>cond (A8 k t) v (Env.get r t)
def Heap.get:Heap→Nat→Option Obj
 | [],_=>none
 | (k,v) :: r,t=>cond (A8 k t) (some v) (Heap.get r t)
def Heap.has:Heap→Nat→Bool
 | [],_=>false
 | (k,_) :: r,t=>cond (A8 k t) true (Heap.has r t)
def aO:Nat→Heap→Nat→Nat
 | 0,_,i=>i
 | n+1,G,i=>cond (Heap.has G i) (aO n G (i+1000)) i
abbrev Tab:=List (Nat×Ty)
def Tab.get:Tab→Nat→Option Ty
 | [],_=>none
 | (k,v) :: r,t=>cond (A8 k t) (some v) (Tab.get r t)
@[reducible] def aB (l:List Ty):Ty:=l.foldr Ty.prod Ty.unit
inductive Mode where
 | rd
 | upd
 | take
 | box (k:List Nat)
@[reducible] def aY:List (Mode×Ty)→List Ty
 | []=>[]
 | (.upd,τ) :: l=>τ :: aY l
 | (.box _,τ) :: l=>τ :: aY l
 | (_,_) :: l=>aY l
structure Con where
 ins:List (Mode×Ty)
 outs:List (Bool×Ty)
 fn:(aB (ins.map (·.2))).den→Option (aB (outs.map (·.2)++aY ins)).den
 deep:Bool:=false
abbrev JT:=Nat→Nat→Option Con
structure Ctx where
 tab:Tab
 con:JT
 glob:List (Nat×(Σ t:Ty,t.den))
 eqs:List Nat
 frz:List Nat:=[]
 deep:List Nat:=[]
 maps:List (Nat×(Ty×Ty)):=[]
 light:List Nat:=[]
 hold:List (Nat×Nat):=[]
 vars:List Nat:=[]
def Ctx.vr (C:Ctx) (id:Nat):Bool:=C.vars.any fun i=>A8 i id
def eK:List (Nat×(Σ t:Ty,t.den))→Nat→Option (Σ t:Ty,t.den)
 | [],_=>none
 | (k,v) :: r,t=>cond (A8 k t) (some v) (eK r t)
def mi:Value→Atom
 | .int k n=>cond (decide (k.min≤n) && decide (n≤k.max)) (.val (.int k) n) .u
 | .bool b=>.val .bool b
 | .string s=>cond (Lh s.size 1000000) (.val .str s) .u
 | .slice none 0 0=>.nils
 | _=>.u
def ap (C:Ctx) (e:Env):Operand→SV
 | .tmp t=>e.get t
 | .const v=>.av (mi v)
 | .global g=>match eK C.glob g with
  | some ⟨t,x⟩=>.av (.val (.ptr t) x)
  | none=>.av .u
 | .func f=>.av (.clo f [])
def bG (τ : Ty) (σ : Ty) (x : σ.den):Option τ.den :=
 if h : σ=τ then some (h ▸ x) else none
def aZ {α : Type} (l:List (List α)) (j:Nat):List α:=(l[j]?).getD []
theorem fP {α : Type} {l:List (List α)} {j:Nat} (h:j < l.length):aZ l j=l[j]:=by unfold aZ; rw [A2 h]; rfl
def aE (G:Heap) (τ : Ty) (a:Atom):Option τ.den :=
 match a with
 | .val σ x=>bG τ σ x
 | .nils=>match τ with
  | .slice _=>some []
  | _=>none
 | .own id=>match τ,G.get id with
  | .slice e,some (.arr σ l)=>bG (.slice e) (.slice σ) l
  | _,_=>none
 | .view id off len=>match τ,G.get id with
  | .slice e,some (.arr σ l)=>bG (.slice e) (.slice σ) ((l.drop off).take len)
  | _,_=>none
 | .ownd id=>match τ,G.get id with
  | .slice e,some (.deep _ σ l none)=>bG (.slice e) (.slice (.slice σ)) l
  | _,_=>none
 | .sub id ver j=>match τ,G.get id with
  | .slice e,some (.deep ver' σ l none)=>cond (A8 ver ver') (bG (.slice e) (.slice σ) (aZ l j)) none
  | _,_=>none
 | _=>none
def ks {α : Type} (f:List Atom→Option (α×List Atom)):Nat→List Atom→Option (List α×List Atom)
 | 0,l=>some ([],l)
 | k+1,l=>match f l with
  | some (x,r)=>match ks f k r with
   | some (xs,r')=>some (x :: xs,r')
   | none=>none
  | none=>none
def ay (G:Heap):(τ : Ty)→List Atom→Option (τ.den×List Atom)
 | .prod a b,l=>match ay G a l with
  | some (x,r)=>match ay G b r with
   | some (y,r')=>some ((x,y),r')
   | none=>none
  | none=>none
 | .unit,l=>some ((),l)
 | .arr n e,l=>ks (ay G e) n l
 | .int k,a :: l=>match aE G (.int k) a with
  | some x=>some (x,l)
  | none=>none
 | .bool,a :: l=>match aE G .bool a with
  | some x=>some (x,l)
  | none=>none
 | .str,a :: l=>match aE G .str a with
  | some x=>some (x,l)
  | none=>none
 | .slice e,a :: l=>match aE G (.slice e) a with
  | some x=>some (x,l)
  | none=>none
 | .ptr e,a :: l=>match aE G (.ptr e) a with
  | some x=>some (x,l)
  | none=>none
 | .clo g e,a :: l=>match aE G (.clo g e) a with
  | some x=>some (x,l)
  | none=>none
 | _,[]=>none
def jC (G:Heap) (τ : Ty) (id off:Nat):Option τ.den :=
 match G.get id with
 | some (.box l)=>cond (Lh (off+τ.size) l.length) (match ay G τ (l.drop off) with
  | some (x,_)=>some x
  | none=>none) none
 | _=>none
def bY (G:Heap):(τ : Ty)→List Nat→Option τ.den
 | .prod (.ptr a) b,i :: r=>match jC G a i 0 with
  | some x=>match bY G b r with
   | some y=>some (x,y)
   | none=>none
  | none=>none
 | .unit,[]=>some ()
 | _,_=>none
def aW (G:Heap) (τ : Ty):SV→Option τ.den
 | .av (.val σ x)=>bG τ σ x
 | .av (.ptr id off)=>match τ with
  | .ptr e=>jC G e id off
  | _=>none
 | .av (.clo f caps)=>match τ with
  | .clo g e=>cond (A8 f g) (bY G e caps) none
  | _=>none
 | .av a=>cond τ.isAgg none (aE G τ a)
 | .agg l=>cond τ.isAgg (match ay G τ l with
  | some (x,[])=>some x
  | _=>none) none
 | .tup _=>none
def eh:(τ : Ty)→τ.den→List Atom
 | .prod a b,x=>eh a x.1++eh b x.2
 | .unit,_=>[]
 | .int k,x=>[.val (.int k) x]
 | .bool,x=>[.val .bool x]
 | .str,x=>[.val .str x]
 | .slice e,x=>[.val (.slice e) x]
 | .arr n e,x=>(Le n).flatMap fun i=>match x[i]? with
  | some y=>eh e y
  | none=>A6 e.size .u
 | .ptr e,x=>[.val (.ptr e) x]
 | .clo g e,x=>[.val (.clo g e) x]
def gO (τ : Ty):SV→Option (List Atom)
 | .agg l=>some l
 | .av (.val σ x)=>if h : σ=τ then some (eh τ (h ▸ x)) else none
 | .av .u=>none
 | .av .undef=>none
 | .av a=>cond τ.isAgg none (some [a])
 | .tup _=>none
def pu:Nat→List Atom→Option (List Atom)
 | 0,_=>some []
 | n+1,a :: l=>match pu n l with
  | some r=>some (a :: r)
  | none=>none
 | _+1,[]=>none
def qz:Nat→List Atom→List Atom→Option (List Atom)
 | 0,[],l=>some l
 | 0,a :: r,_ :: l=>match qz 0 r l with
  | some l'=>some (a :: l')
  | none=>none
 | n+1,xs,a :: l=>match qz n xs l with
  | some l'=>some (a :: l')
  | none=>none
 | _,_,_=>none
def lU (τ : Ty) (l:List Atom):SV :=
 cond τ.isAgg (.agg l) (match l with | [a]=>.av a | _=>.av .u)
def oc:(τ : Ty)→τ.den→List Nat→Option (Σ t:Ty,t.den)
 | τ,x,[]=>some ⟨τ,x⟩
 | τ,x,i :: p=>match cO τ x i with
  | some ⟨t,y⟩=>oc t y p
  | none=>none
def aL {α : Type} (l:List α) (i:Int):Option α:=if 0≤i then l[i.toNat]? else none
def aQ (n:Nat) (i:Int):Option Nat:=if 0≤i∧i < n then some i.toNat else none
def lim:Nat:=2 ^ 36
def K4 (n:Int):Option Nat:=if 0≤n∧n≤lim then some n.toNat else none
def app {α : Type} (l r:List α):Option (List α):=if l.length+r.length≤lim then some (l++r) else none
def aC (k:IntKind) (a b:Int):Int:=k.wrap (a+b)
def cQ (k:IntKind) (a b:Int):Int:=k.wrap (a - b)
def jS (k:IntKind) (a b:Int):Int:=k.wrap (a * b)
def i7 (k:IntKind) (a b:Int):Int:=k.wrap (a.tdiv b)
def kO (a b:Int):Int:=a.tmod b
def KA (k:IntKind) (a b:Int):Int:=k.wrap ((BitVec.ofInt k.bits a &&& BitVec.ofInt k.bits b).toNat)
def orI (k:IntKind) (a b:Int):Int:=k.wrap ((BitVec.ofInt k.bits a ||| BitVec.ofInt k.bits b).toNat)
def s6 (k:IntKind) (a b:Int):Int:=k.wrap ((BitVec.ofInt k.bits a ^^^ BitVec.ofInt k.bits b).toNat)
def eqI (a b:Int):Bool:=a == b
def neI (a b:Int):Bool:=a != b
def ltI (a b:Int):Bool:=decide (a < b)
def leI (a b:Int):Bool:=decide (a≤b)
def gtI (a b:Int):Bool:=decide (a > b)
def geI (a b:Int):Bool:=decide (a ≥ b)
def eqS (a b:ByteArray):Bool:=a.toList == b.toList
def neS (a b:ByteArray):Bool:=!(a.toList == b.toList)
def eqB (a b:Bool):Bool:=a == b
def neB (a b:Bool):Bool:=!(a == b)
def kr (a b:Int):Int:=if b < a then b else a
def maxI (a b:Int):Int:=if b > a then b else a
def Jo (a b:ByteArray):Option ByteArray:=if a.size+b.size≤lim then some (a++b) else none
def Aj {α : Type} (f : α→α→Option Bool):List α→List α→Option Bool
 | a :: l,b :: r=>match f a b with
  | some p=>match Aj f l r with
   | some q=>some (p && q)
   | none=>none
  | none=>none
 | [],[]=>some true
 | _,_=>none
def eqT:(τ : Ty)→τ.den→τ.den→Option Bool
 | .int _,a,b=>some (eqI a b)
 | .bool,a,b=>some (eqB a b)
 | .str,a,b=>some (eqS a b)
 | .prod a b,x,y=>match eqT a x.1 y.1 with
  | some p=>match eqT b x.2 y.2 with
   | some q=>some (p && q)
   | none=>none
  | none=>none
 | .unit,_,_=>some true
 | .arr _ e,x,y=>Aj (eqT e) x y
 | _,_,_=>none
def eqK (k:Ty) (x y:k.den):Bool:=match eqT k x y with
 | some b=>b
 | none=>false
def cT (k v:Ty) (x:k.den):List (k.den×v.den)→Option Nat
 | []=>none
 | p :: l=>cond (eqK k x p.1) (some 0) ((cT k v x l).map (·+1))
def dm (k v:Ty) (x:k.den):List (k.den×v.den)→Option v.den
 | []=>none
 | p :: l=>cond (eqK k x p.1) (some p.2) (dm k v x l)
def gF (k v:Ty) (x:k.den) (y:v.den):List (k.den×v.den)→List (k.den×v.den)
 | []=>[(x,y)]
 | p :: l=>cond (eqK k x p.1) ((p.1,y) :: l) (p :: gF k v x y l)
def lB:List (Nat×(Ty×Ty))→Nat→Option (Ty×Ty)
 | [],_=>none
 | (t,p) :: r,i=>cond (A8 t i) (some p) (lB r i)
def nO (k v k' v':Ty) (l:List (k'.den×v'.den)):Option (List (k.den×v.den)) :=
 if h:k'=k∧v'=v then some (h.1 ▸ h.2 ▸ l) else none
@[reducible] def K5:Ty:=.prod .str (.int .i64)
def KN:(k v:Ty)→List (k.den×v.den)→Option (ByteArray×Int)
 | .unit,.prod .str (.int .i64),[x]=>some x.2
 | _,_,_=>none
def Kn (p:ByteArray×Int):Bool:=ltI p.2 p.1.size
def Kw (p:ByteArray×Int):Int:=(Utf8.decode p.1 p.2.toNat).1
def KT (p:ByteArray×Int):ByteArray×Int:=(p.1,p.2+((Utf8.decode p.1 p.2.toNat).2:Int))
open Classical in
noncomputable def ya {α : Type} (a b:Option α):Option α:=if a=b then a else none
def AQ (op:BinOp) (k:IntKind) (a b:Int):Option Atom :=
 match op with
 | .add=>some (.val (.int k) (aC k a b))
 | .sub=>some (.val (.int k) (cQ k a b))
 | .mul=>some (.val (.int k) (jS k a b))
 | .and=>some (.val (.int k) (KA k a b))
 | .or=>some (.val (.int k) (orI k a b))
 | .xor=>some (.val (.int k) (s6 k a b))
 | .eql=>some (.val .bool (eqI a b))
 | .neq=>some (.val .bool (neI a b))
 | .lss=>some (.val .bool (ltI a b))
 | .leq=>some (.val .bool (leI a b))
 | .gtr=>some (.val .bool (gtI a b))
 | .geq=>some (.val .bool (geI a b))
 | _=>none
def HR (op:BinOp) (a b:ByteArray):Option Atom :=
 match op with
 | .eql=>some (.val .bool (eqS a b))
 | .neq=>some (.val .bool (neS a b))
 | _=>none
end Go.Vm

/-
 The abstract machine's steps: one operation, a region, a body of code; in the form of continuations.
-/
namespace Go.Vm
def az:(τ : Ty)→τ.den
 | .int _=>0
 | .bool=>false
 | .str=>ByteArray.empty
 | .slice _=>[]
 | .prod a b=>(az a,az b)
 | .unit=>()
 | .arr n e=>A6 n (az e)
 | .ptr e=>az e
 | .clo _ e=>az e
def zeroCells:(τ : Ty)→List Atom
 | .prod a b=>zeroCells a++zeroCells b
 | .unit=>[]
 | .int k=>[.val (.int k) 0]
 | .bool=>[.val .bool false]
 | .str=>[.val .str ByteArray.empty]
 | .slice _=>[.nils]
 | .arr n e=>(A6 n (zeroCells e)).flatten
 | .ptr _=>[.u]
 | .clo _ _=>[.u]
def aG (dst:Option Nat) (v:SV) (s:St):St :=
 match dst with
 | some d=>{ env:=(d,v) :: s.env,G:=s.G }
 | none=>s
def cv {R:Type} (s:St) (site:Nat) (o:Obj) (K:Nat→St→Option R):Option R :=
 cond (s.G.has (aO 8 s.G site)) none (K (aO 8 s.G site) { env:=s.env,G:=(aO 8 s.G site,o) :: s.G })
def setObj (i:Nat) (o:Obj) (s:St):St:={ env:=s.env,G:=(i,o) :: s.G }
def bf:Atom→List Nat
 | .own i=>[i]
 | .view i _ _=>[i]
 | .ownd i=>[i]
 | .sub i _ _=>[i]
 | .ownm i=>[i]
 | _=>[]
def bD:SV→List Nat
 | .av a=>bf a
 | .agg l=>l.flatMap bf
 | .tup l=>l.flatMap fun p=>p.2.flatMap bf
def am:List Nat→Heap→Heap
 | [],G=>G
 | i :: r,G=>am r ((i,.dead) :: G)
def fL:Bool→Ty→Nat→Atom
 | true,.slice _,i=>.ownd i
 | _,_,i=>.own i
def iW:Bool→(e:Ty)→List e.den→Obj
 | true,.slice σ,x=>.deep 0 σ x none
 | _,e,x=>.arr e x
def ba (d:Bool):(τ : Ty)→τ.den→Nat→Heap→Option (List Atom×Heap)
 | .prod a b,x,site,G=>match ba d a x.1 site G with
  | some p=>match ba d b x.2 site p.2 with
   | some q=>some (p.1++q.1,q.2)
   | none=>none
  | none=>none
 | .unit,_,_,G=>some ([],G)
 | .slice e,x,site,G=>cond (G.has (aO 8 G site)) none (some ([fL d e (aO 8 G site)],(aO 8 G site,iW d e x) :: G))
 | .int k,x,_,G=>some ([.val (.int k) x],G)
 | .bool,x,_,G=>some ([.val .bool x],G)
 | .str,x,_,G=>some ([.val .str x],G)
 | .arr _ _,_,_,_=>none
 | .ptr _,_,_,_=>none
 | .clo _ _,_,_,_=>none
def dT (d:Bool):(outs:List (Bool×Ty))→(aB (outs.map (·.2))).den→Nat→Heap→Option (List (Bool×List Atom)×Heap)
 | [],_,_,G=>some ([],G)
 | p :: r,x,site,G=>match cond p.1 (ba d p.2 x.1 site G) (some (eh p.2 x.1,G)) with
  | some c=>match dT d r x.2 site c.2 with
   | some q=>some ((p.2.isAgg,c.1) :: q.1,q.2)
   | none=>none
  | none=>none
def Ty.isSl:Ty→Bool
 | .slice _=>true
 | _=>false
def fe (deep:Bool):Atom→Bool
 | .own _=>!deep
 | .nils=>true
 | .view _ _ _=>!deep
 | .ownd _=>deep
 | _=>false
def dJ (k:List Nat) (o:Nat):Nat:=k.getD o 0
def ct (own:Bool) (k:List Nat):Nat→List Atom→List Nat
 | _,[]=>[]
 | o,a :: l=>cond (A8 (dJ k o) 0) (cond own [] (bf a)) (cond own (bf a) [])++ct own k (o+1) l
def cG (own:Bool) (k:List Nat) (G:Heap):SV→List Nat
 | .av (.ptr i _)=>match G.get i with
  | some (.box l)=>cond own (i :: ct true k 0 l) (ct false k 0 l)
  | _=>[]
 | _=>[]
def fI (k:List Nat):(o:Nat)→(τ : Ty)→τ.den→Nat→Heap→Option (List Atom×Heap)
 | o,.prod a b,x,site,G=>match fI k o a x.1 site G with
  | some p=>match fI k (o+a.size) b x.2 site p.2 with
   | some q=>some (p.1++q.1,q.2)
   | none=>none
  | none=>none
 | o,.slice e,x,site,G=>cond (A8 (dJ k o) 0) (some ([.val (.slice e) x],G))
  (cond (G.has (aO 8 G (100000 * (o+1)+site))) none (some ([fL (A8 (dJ k o) 2) e (aO 8 G (100000 * (o+1)+site))],(aO 8 G (100000 * (o+1)+site),iW (A8 (dJ k o) 2) e x) :: G)))
 | _,.unit,_,_,G=>some ([],G)
 | _,.int k,x,_,G=>some ([.val (.int k) x],G)
 | _,.bool,x,_,G=>some ([.val .bool x],G)
 | _,.str,x,_,G=>some ([.val .str x],G)
 | _,_,_,_,_=>none
def bH:(ins:List (Mode×Ty))→List SV→(aB (aY ins)).den→Nat→Heap→Option Heap
 | [],_,_,_,G=>some G
 | (.rd,_) :: r,_ :: vs,x,site,G=>bH r vs x site G
 | (.take,_) :: r,_ :: vs,x,site,G=>bH r vs x site G
 | (.upd,_) :: r,_ :: vs,x,site,G=>bH r vs x.2 site G
 | (.box k,.ptr T) :: r,v :: vs,x,site,G=>match v with
  | .av (.ptr id 0)=>match fI k 0 T x.1 site G with
   | some p=>bH r vs x.2 site ((id,.box p.1) :: p.2)
   | none=>none
  | _=>none
 | _,_,_,_,_=>none
def jo (k:List Nat):(o:Nat)→(τ : Ty)→List Atom→Bool×List Atom
 | o,.prod a b,l=>let p:=jo k o a l; let q:=jo k (o+a.size) b p.2; (p.1 && q.1,q.2)
 | _,.unit,l=>(true,l)
 | o,.slice e,a :: l=>(cond (A8 (dJ k o) 0) true (fe (A8 (dJ k o) 2 && e.isSl) a),l)
 | _,.int _,_ :: l=>(true,l)
 | _,.bool,_ :: l=>(true,l)
 | _,.str,_ :: l=>(true,l)
 | _,_,_=>(false,[])
def ep:(outs:List Ty)→(m:List Ty)→(aB (outs++m)).den→(aB outs).den×(aB m).den
 | [],_,x=>((),x)
 | _ :: r,m,x=>let p:=ep r m x.2; ((x.1,p.1),p.2)
def yi (l:List (Bool×List Atom)):SV :=
 match l with
 | [(true,c)]=>.agg c
 | [(false,[a])]=>.av a
 | l=>.tup l
def dD (G:Heap):(ins:List (Mode×Ty))→List SV→Option (aB (ins.map (·.2))).den
 | [],[]=>some ()
 | p :: r,v :: vs=>match aW G p.2 v with
  | some x=>match dD G r vs with
   | some y=>some (x,y)
   | none=>none
  | none=>none
 | _,_=>none
def iO (G:Heap) (i:Nat):List Nat:=match G.get i with
 | some (.box l)=>l.flatMap bf
 | _=>[]
def eH (G:Heap):SV→List Nat
 | .av (.ptr i _)=>i :: iO G i
 | .av (.clo _ c)=>c.flatMap fun i=>i :: iO G i
 | v=>bD v
def aP (G:Heap):List (Mode×Ty)→List SV→List Nat×List Nat
 | (.rd,_) :: r,v :: vs=>let p:=aP G r vs; (eH G v++p.1,p.2)
 | (.box k,_) :: r,v :: vs=>let p:=aP G r vs; (cG false k G v++p.1,cG true k G v++p.2)
 | (_,_) :: r,v :: vs=>let p:=aP G r vs; (p.1,bD v++p.2)
 | _,_=>([],[])
def aK:List Nat→Bool
 | []=>true
 | a :: l=>!(l.any fun b=>A8 a b) && aK l
def e9 (l r:List Nat):Bool:=!(l.any fun i=>r.any fun j=>A8 i j)
def cM (G:Heap):List (Mode×Ty)→List SV→Bool
 | (.box k,.ptr T) :: r,v :: vs=>(match v with
  | .av (.ptr id 0)=>match G.get id with
   | some (.box l)=>(jo k 0 T l).1 && (jo k 0 T l).2.isEmpty
   | _=>false
  | _=>false) && cM G r vs
 | (.box _,_) :: _,_=>false
 | _ :: r,_ :: vs=>cM G r vs
 | _,_=>true
def bk (G:Heap):List (Mode×Ty)→List SV→List Nat
 | (.box k,_) :: r,v :: vs=>(cG true k G v).tail++bk G r vs
 | _ :: r,_ :: vs=>bk G r vs
 | _,_=>[]
def ac:(ins:List (Mode×Ty))→List SV→(aB (aY ins)).den→Heap→Option Heap
 | [],[],_,G=>some G
 | (.rd,_) :: r,_ :: vs,x,G=>ac r vs x G
 | (.take,_) :: r,v :: vs,x,G=>match v with
  | .av .nils=>ac r vs x G
  | .av (.own id)=>ac r vs x ((id,.dead) :: G)
  | .av (.view id _ _)=>ac r vs x ((id,.dead) :: G)
  | _=>none
 | (.upd,.slice e) :: r,v :: vs,x,G=>match v with
  | .av .nils=>ac r vs x.2 G
  | .av (.own id)=>ac r vs x.2 ((id,.arr e x.1) :: G)
  | _=>none
 | (.box _,.ptr T) :: r,v :: vs,x,G=>match v with
  | .av (.ptr id 0)=>ac r vs x.2 ((id,.box (A6 T.size .u)) :: G)
  | _=>none
 | _,_,_,_=>none
def kM (G:Heap) (e:Ty):List SV→Option (List e.den)
 | []=>some []
 | v :: vs=>match aW G e v with
  | some x=>match kM G e vs with
   | some y=>some (x :: y)
   | none=>none
  | none=>none
def Ty.part:Ty→Nat→Option (Nat×Ty)
 | .arr _ e,i=>some (i * e.size,e)
 | τ,i=>τ.field i
def gS (τ : Ty):List (Nat×SV)→List Atom→Option (List Atom)
 | [],l=>some l
 | (i,v) :: r,l=>match τ.part i with
  | some (o,t)=>match gO t v with
   | some c=>cond (A8 c.length t.size) (match qz o c l with
    | some l'=>gS τ r l'
    | none=>none) none
   | none=>none
  | none=>none
def dA:(τ : Ty)→τ.den→List Nat→(σ : Ty)→σ.den→Option τ.den
 | τ,_,[],σ,y=>bG τ σ y
 | .prod a b,x,0 :: p,σ,y=>match dA a x.1 p σ y with
  | some x'=>some (x',x.2)
  | none=>none
 | .prod a b,x,(i+1) :: p,σ,y=>match dA b x.2 (i :: p) σ y with
  | some x'=>some (x.1,x')
  | none=>none
 | _,_,_ :: _,_,_=>none
def cF {α : Type} (l:List α) (lo hi:Int):Option (List α):=if 0≤lo∧lo≤hi∧hi≤l.length then some ((l.take hi.toNat).drop lo.toNat) else none
def Du (s:ByteArray) (lo hi:Int):Option ByteArray:=if 0≤lo∧lo≤hi∧hi≤s.size then some (s.extract lo.toNat hi.toNat) else none
def kN (n:Nat) (lo hi:Int):Option (Nat×Nat):=if 0≤lo∧lo≤hi∧hi≤n then some (lo.toNat,hi.toNat - lo.toNat) else none
def Kb (s:ByteArray):List Int:=s.data.toList.map fun b=>(b.toNat:Int)
def Ke (l:List Int):ByteArray:=⟨(l.map fun n=>UInt8.ofNat n.toNat).toArray⟩
def eV (e:Ty) (n c:Int):Option (List e.den):=if 0≤n∧n≤c∧c≤lim then some (A6 n.toNat (az e)) else none
noncomputable section
variable {R:Type} (C:Ctx)
def asI:SV→(Int→Option R)→Option R
 | .av (.val (.int _) n),K=>K n
 | _,_=>none
def mq:SV→(Int→Option R)→Option R
 | .av (.val (.int .i64) n),K=>K n
 | _,_=>none
def Ce (e:Env) (d:Int):Option Operand→(Int→Option R)→Option R
 | none,K=>K d
 | some x,K=>asI (ap C e x) K
def indexAt (s:St) (t:Nat) (x:SV) (i:Int) (K:Atom→Option R):Option R :=
 match x with
 | .av (.val (.slice e) l)=>(aL l i).bind fun y=>K (.val (.ptr e) y)
 | .av (.own id)=>match s.G.get id with
  | some (.arr _ l)=>(aQ l.length i).bind fun j=>K (.aptr id j [])
  | _=>none
 | .av (.view id off len)=>match s.G.get id with
  | some (.arr _ _)=>(aQ len i).bind fun j=>K (.aptr id (off+j) [])
  | _=>none
 | .av (.cut id off len)=>match s.G.get id with
  | some (.arr _ _)=>(aQ len i).bind fun j=>K (.aptr id (off+j) [])
  | _=>none
 | .av (.ownd id)=>match s.G.get id with
  | some (.deep _ _ l _)=>(aQ l.length i).bind fun j=>K (.aptr id j [])
  | _=>none
 | .av (.sub id ver j)=>match s.G.get id with
  | some (.deep ver' _ l none)=>cond (A8 ver ver') ((aQ (aZ l j).length i).bind fun k=>K (.saptr id ver j k)) none
  | _=>none
 | .av (.val (.ptr (.arr _ e)) l)=>(aL l i).bind fun y=>K (.val (.ptr e) y)
 | .av (.ptr id off)=>match C.tab.get t with
  | some (.arr n e)=>if 0≤i∧i < n then K (.ptr id (off+i.toNat * e.size)) else none
  | _=>none
 | _=>none
def jr:List Atom→Option (List (Σ t:Ty,t.den))
 | []=>some []
 | .val τ x :: r=>(jr r).bind fun q=>some (⟨τ,x⟩ :: q)
 | _ :: _=>none
def zQ {R:Type}:Nat→Nat→List Atom→Int→Nat→(List Atom→Option R)→Option R
 | 0,_,_,_,_,_=>none
 | k+1,sz,l,i,j,K=>cond (eqI i j) (match pu sz l with | some c=>K c | none=>none) (zQ k sz (l.drop sz) i (j+1) K)
def fS (t:Nat) (G:Heap) (x:SV):Bool:=match C.tab.get t,x with
 | some (.slice e),.av (.val (.slice e') _)=>decide (e=e')
 | some (.slice e),.av (.own id)=>match G.get id with
  | some (.arr e' _)=>decide (e=e')
  | _=>false
 | some (.slice e),.av (.view id _ _)=>match G.get id with
  | some (.arr e' _)=>decide (e=e')
  | _=>false
 | some (.slice e),.av (.cut id _ _)=>match G.get id with
  | some (.arr e' _)=>decide (e=e')
  | _=>false
 | some (.slice e),.av (.ownd id)=>match G.get id with
  | some (.deep _ e' _ _)=>decide (e=.slice e')
  | _=>false
 | some (.slice e),.av (.sub id _ _)=>match G.get id with
  | some (.deep _ e' _ _)=>decide (e=e')
  | _=>false
 | some (.arr n e),.av (.val (.ptr (.arr n' e')) _)=>decide (e=e') && A8 n n' && Lh 2 n
 | some (.arr n _),.av (.ptr i _)=>match G.get i with
  | some (.box _)=>Lh 2 n
  | _=>false
 | _,_=>false
def fQ (t:Nat) (G:Heap) (x:SV):Bool:=match C.tab.get t,x with
 | some .str,.av (.val .str _)=>true
 | some (.slice e),.av (.val (.slice e') _)=>decide (e=e')
 | some (.slice _),.av .nils=>true
 | some (.slice e),.av (.own id)=>match G.get id with
  | some (.arr e' _)=>decide (e=e')
  | _=>false
 | some (.slice e),.av (.view id _ _)=>match G.get id with
  | some (.arr e' _)=>decide (e=e')
  | _=>false
 | _,_=>false
def loadAt (s:St) (τ : Ty) (p:Atom) (K:SV→Option R):Option R :=
 match p with
 | .ptr id off=>match s.G.get id with
  | some (.box l)=>match pu τ.size (l.drop off) with
   | some c=>K (lU τ c)
   | none=>none
  | _=>none
 | .aptr id j p=>match s.G.get id with
  | some (.arr σ l)=>(l[j]?).bind fun x=>match oc σ x p with
   | some ⟨t,y⟩=>match bG τ t y with
    | some z=>K (.av (.val τ z))
    | none=>none
   | none=>none
  | some (.deep ver σ l none)=>cond (decide (τ=.slice σ) && p.isEmpty) (K (.av (.sub id ver j))) none
  | _=>none
 | .saptr id ver j k=>match s.G.get id with
  | some (.deep ver' σ l none)=>cond (A8 ver ver') (((aZ l j)[k]?).bind fun y=>match bG τ σ y with
   | some z=>K (.av (.val τ z))
   | none=>none) none
  | _=>none
 | .val (.ptr σ) x=>match bG τ σ x with
  | some z=>K (.av (.val τ z))
  | none=>none
 | _=>none
def qi (G:Heap) (σ : Ty):SV→Option (List σ.den×List Nat)
 | .av .nils=>some ([],[])
 | .av (.own id)=>match G.get id with
  | some (.arr τ l)=>match bG (.slice σ) (.slice τ) l with
   | some x=>some (x,[id])
   | none=>none
  | _=>none
 | _=>none
def xl (hole:Option Nat) (j:Nat) (K:Option R):Option R:=match hole with
 | none=>K
 | some h=>if h=j then K else none
def storeAt (s:St) (τ : Ty) (p:Atom) (v:SV) (K:St→Option R):Option R :=
 match p with
 | .ptr id off=>match s.G.get id with
  | some (.box l)=>match gO τ v with
   | some c=>cond (A8 c.length τ.size) (match qz off c l with
    | some l'=>K (setObj id (.box l') s)
    | none=>none) none
   | none=>none
  | _=>none
 | .aptr id j p=>match s.G.get id with
  | some (.arr σ l)=>match aW s.G τ v with
   | some y=>(l[j]?).bind fun x=>match dA σ x p τ y with
    | some z=>cond ((bD v).contains id) none (K (setObj id (.arr σ (l.set j z)) { env:=s.env,G:=am (bD v) s.G }))
    | none=>none
   | none=>none
  | some (.deep ver σ l hole)=>cond (decide (τ=.slice σ) && p.isEmpty) (match qi s.G σ v with
   | some x=>xl hole j (K (setObj id (.deep (ver+1) σ (l.set j x.1) none) { env:=s.env,G:=am x.2 s.G }))
   | none=>none) none
  | _=>none
 | .saptr id ver j k=>match s.G.get id with
  | some (.deep ver' σ l none)=>cond (A8 ver ver' && decide (τ=σ) && !(bD v).contains id) (match aW s.G σ v with
   | some y=>K (setObj id (.deep ver σ (l.set j ((aZ l j).set k y)) none) { env:=s.env,G:=am (bD v) s.G })
   | none=>none) none
  | _=>none
 | _=>none
def lenOf (s:St):SV→(Int→Option R)→Option R
 | .av (.val (.slice _) l),K=>K (l.length:Nat)
 | .av (.val .str b),K=>K (b.size:Nat)
 | .av .nils,K=>K 0
 | .av (.own id),K=>match s.G.get id with
  | some (.arr _ l)=>K (l.length:Nat)
  | _=>none
 | .av (.view id _ n),K=>match s.G.get id with
  | some (.arr _ _)=>K (n:Nat)
  | _=>none
 | .av (.cut id _ n),K=>match s.G.get id with
  | some (.arr _ _)=>K (n:Nat)
  | _=>none
 | .av (.ownd id),K=>match s.G.get id with
  | some (.deep _ _ l _)=>K (l.length:Nat)
  | _=>none
 | .av (.sub id ver j),K=>match s.G.get id with
  | some (.deep ver' _ l none)=>cond (A8 ver ver') (K ((aZ l j).length:Nat)) none
  | _=>none
 | _,_=>none
def AS (τ : Option Ty) (v:SV):Bool:=match τ,v with
 | some .str,.av (.val .str _)=>true
 | some (.slice _),.av (.val (.slice _) _)=>true
 | some (.slice _),.av .nils=>true
 | some (.slice _),.av (.own _)=>true
 | some (.slice _),.av (.view _ _ _)=>true
 | some (.slice _),.av (.cut _ _ _)=>true
 | some (.slice _),.av (.ownd _)=>true
 | some (.slice _),.av (.sub _ _ _)=>true
 | _,_=>false
def lj (mx:Bool):Int→List SV→(Int→Option R)→Option R
 | a,[],K=>K a
 | a,v :: r,K=>mq v fun b=>lj mx (cond mx (maxI a b) (kr a b)) r K
def rv:SV→Bool
 | .av (.ownd _)=>true
 | _=>false
def gA (s:St) (e:Ty):SV→Option (List e.den×List Nat)
 | .av .nils=>some ([],[])
 | .av (.own id)=>match s.G.get id with
  | some (.arr σ l)=>match bG (.slice e) (.slice σ) l with
   | some l'=>some (l',[id])
   | none=>none
  | _=>none
 | .av (.view id off len)=>match s.G.get id with
  | some (.arr σ l)=>match bG (.slice e) (.slice σ) l with
   | some l'=>some ((l'.drop off).take len,[id])
   | none=>none
  | _=>none
 | _=>none
def KI (σ : Ty) (l:List σ.den) (off len:Nat):List σ.den:=l.take off++(A6 len (az σ)++l.drop (off+len))
def Eg (s:St) (e:Ty):SV→Option (List e.den)
 | .av (.cut id off len)=>match s.G.get id with
  | some (.arr σ l)=>match bG (.slice e) (.slice σ) l with
   | some l'=>some ((l'.drop off).take len)
   | none=>none
  | _=>none
 | _=>none
def fc (s:St) (x:SV) (lo:Int) (hi:Option Int) (mx:Option Int) (K:SV→Option R):Option R :=
 match x,mx with
 | .av (.val .str b),none=>(Du b lo (hi.getD b.size)).bind fun r=>K (.av (.val .str r))
 | .av (.val (.slice e) l),none=>(cF l lo (hi.getD l.length)).bind fun r=>K (.av (.val (.slice e) r))
 | .av (.val (.slice _) _),some 0=>if lo=0∧hi=some 0 then K (.av .nils) else none
 | .av .nils,none=>if lo=0∧hi.getD 0=0 then K (.av .nils) else none
 | .av (.own id),none=>match s.G.get id with
  | some (.arr _ l)=>(kN l.length lo (hi.getD l.length)).bind fun p=>K (.av (.view id p.1 p.2))
  | _=>none
 | .av (.view id off len),none=>(kN len lo (hi.getD len)).bind fun p=>K (.av (.view id (off+p.1) p.2))
 | .av (.own id),some mx=>match s.G.get id with
  | some (.arr _ l)=>(kN l.length lo mx).bind fun p=>if hi=some mx∧lo < mx then K (.av (.cut id p.1 p.2)) else none
  | _=>none
 | _,_=>none
def qF (G:Heap):List SV→Option (List Nat)
 | []=>some []
 | .av (.ptr i 0) :: r=>match G.get i with
  | some (.box _)=>match qF G r with
   | some l=>some (i :: l)
   | none=>none
  | _=>none
 | _=>none
def lO (G:Heap):List SV→Option ((Σ t:Ty,t.den)×List Nat)
 | []=>some (⟨.unit,()⟩,[])
 | .av (.val (.ptr e) x) :: r=>match lO G r with
  | some q=>some (⟨.prod (.ptr e) q.1.1,(x,q.1.2)⟩,q.2)
  | none=>none
 | .av (.ptr i 0) :: r=>match G.get i with
  | some (.box [.val τ x])=>cond τ.isAgg none (match lO G r with
   | some q=>some (⟨.prod (.ptr τ) q.1.1,(x,q.1.2)⟩,i :: q.2)
   | none=>none)
  | _=>none
 | _=>none
def cj:(τ : Ty)→τ.den→Option (List SV)
 | .prod (.ptr a) b,x=>match cj b x.2 with
  | some l=>some (.av (.val (.ptr a) x.1) :: l)
  | none=>none
 | .unit,_=>some []
 | _,_=>none
def Ty.flat:Ty→Bool
 | .int _=>true
 | .bool=>true
 | .str=>true
 | .prod a b=>a.flat && b.flat
 | .unit=>true
 | .arr _ e=>e.flat
 | _=>false
def Ty.shallow:Ty→Bool
 | .int _=>true
 | .bool=>true
 | .str=>true
 | .prod a b=>a.shallow && b.shallow
 | .unit=>true
 | .slice e=>e.flat
 | _=>false
def Ty.shallowD:Ty→Bool
 | .int _=>true
 | .bool=>true
 | .str=>true
 | .prod a b=>a.shallowD && b.shallowD
 | .unit=>true
 | .slice (.slice e)=>e.flat
 | .slice e=>e.flat
 | _=>false
def tF (k:List Nat):(o:Nat)→(τ : Ty)→Bool
 | o,.prod a b=>tF k o a && tF k (o+a.size) b
 | o,.slice e=>!A8 (dJ k o) 0 && cond (A8 (dJ k o) 2) (Ty.slice e).shallowD (Ty.slice e).shallow
 | _,.unit=>true
 | _,.int _=>true
 | _,.bool=>true
 | _,.str=>true
 | _,_=>false
def ij:List (Mode×Ty)→Bool
 | []=>true
 | (.upd,τ) :: r=>τ.shallow && ij r
 | (.box k,.ptr T) :: r=>tF k 0 T && ij r
 | (.box _,_) :: _=>false
 | (_,_) :: r=>ij r
def nN (c:Con):Bool:=(c.outs.all fun p=>p.1 && cond c.deep p.2.shallowD p.2.shallow) && ij c.ins
def bM (site:Nat) (G:Heap):SV→SV×Heap
 | .av (.sub id ver j)=>match G.get id with
  | some (.deep ver' σ l none)=>cond (A8 ver ver' && !G.has (aO 8 G site)) (.av (.own (aO 8 G site)),(aO 8 G site,.arr σ (aZ l j)) :: (id,.deep (ver+1) σ l (some j)) :: G) (.av (.sub id ver j),G)
  | _=>(.av (.sub id ver j),G)
 | v=>(v,G)
def cd (site:Nat):List (Mode×Ty)→List SV→Heap→List SV×Heap
 | (.take,_) :: r,v :: vs,G=>((bM site G v).1 :: (cd site r vs (bM site G v).2).1,(cd site r vs (bM site G v).2).2)
 | _ :: r,v :: vs,G=>(v :: (cd site r vs G).1,(cd site r vs G).2)
 | _,vs,G=>(vs,G)
def jq (G:Heap) (σ : Ty):List SV→Option (List (List σ.den)×List Nat)
 | []=>some ([],[])
 | v :: vs=>match qi G σ v with
  | some x=>match jq G σ vs with
   | some p=>some (x.1 :: p.1,x.2++p.2)
   | none=>none
  | none=>none
def oP (G:Heap) (σ : Ty):SV→Option (List (List σ.den)×List Nat)
 | .av .nils=>some ([],[])
 | .av (.ownd id)=>match G.get id with
  | some (.deep _ τ l none)=>match bG (.slice (.slice σ)) (.slice (.slice τ)) l with
   | some x=>some (x,[id])
   | none=>none
  | _=>none
 | _=>none
def jD (s:St) (site f:Nat) (vs:List SV) (K:SV→St→Option R):Option R :=
 match C.con f site with
 | some c=>match dD s.G c.ins vs with
  | some x=>(c.fn x).bind fun r =>
   cond (aK (aP s.G c.ins vs).2 && e9 (aP s.G c.ins vs).1 (aP s.G c.ins vs).2 && cM s.G c.ins vs) (
    match ac c.ins vs (ep (c.outs.map (·.2)) (aY c.ins) r).2 s.G with
    | some G' =>
     match dT c.deep c.outs (ep (c.outs.map (·.2)) (aY c.ins) r).1 site (cond (nN c) (am (bk s.G c.ins vs) G') (am (aP s.G c.ins vs).1 (am (bk s.G c.ins vs) G'))) with
     | some q=>match bH c.ins vs (ep (c.outs.map (·.2)) (aY c.ins) r).2 site q.2 with
      | some G2=>K (yi q.1) { env:=s.env,G:=G2 }
      | none=>none
     | none=>none
    | none=>none) none
  | none=>none
 | none=>none
def gE (s:St) (site f:Nat) (vs:List SV) (K:SV→St→Option R):Option R :=
 match C.con f site with
 | some c=>jD C { env:=s.env,G:=(cd site c.ins vs s.G).2 } site f (cd site c.ins vs s.G).1 K
 | none=>none
def np:Operand→Bool
 | .const _=>true
 | _=>false
def qJ:Option Ty→Bool
 | some .bool=>true
 | _=>false
def oL:Option Ty→Bool
 | some (.slice _)=>true
 | _=>false
def aA (o:Oper) (s:St) (K:St→Option R):Option R :=
 let ev:=ap C s.env
 let ret (v:SV):Option R:=K (aG o.dst v s)
 let site:=o.dst.getD 0
 match o.op with
 | .move x=>ret (ev x)
 | .assign x=>ret (ev x)
 | .pick c a b=>match ev c with
  | .av (.val .bool t)=>cond t (ret (ev a)) (ret (ev b))
  | _=>none
 | .alloc t=>match C.tab.get t with
  | some τ=>cv s site (.box (zeroCells τ)) fun i s2=>K (aG o.dst (.av (.ptr i 0)) s2)
  | none=>none
 | .box t x=>match C.tab.get t with
  | some τ=>match gO τ (ev x) with
   | some c=>cv s site (.box c) fun i s2=>K (aG o.dst (.av (.ptr i 0)) s2)
   | none=>none
  | none=>none
 | .build t parts=>match C.tab.get t with
  | some τ=>cond τ.isAgg (match gS τ (parts.toList.map fun p=>(p.1,ev p.2)) (zeroCells τ) with
   | some c=>ret (.agg c)
   | none=>none) none
  | none=>none
 | .buildSlice t n parts=>match C.tab.get t with
  | some (.slice e)=>cond (A8 n parts.size && Lh n 16777216 && Lh (n * e.size) 16777216 && (parts.toList.zipIdx.all fun p=>A8 p.1.1 p.2)) (cond (C.deep.any fun d=>A8 d site) (match e with
   | .slice σ=>match jq s.G σ (parts.toList.map fun p=>ev p.2) with
    | some x=>cond (aK x.2) (cv { env:=s.env,G:=am x.2 s.G } site (.deep 0 σ x.1 none) fun i s2=>K (aG o.dst (.av (.ownd i)) s2)) none
    | none=>none
   | _=>none) <| match kM s.G e (parts.toList.map fun p=>ev p.2) with
   | some l=>cv { env:=s.env,G:=am (parts.toList.flatMap fun p=>eH s.G (ev p.2)) s.G } site (.arr e l) fun i s2=>K (aG o.dst (.av (.own i)) s2)
   | none=>none) none
  | _=>none
 | .load t a=>match C.tab.get t,ev a with
  | some τ,.av p=>loadAt s τ p ret
  | _,_=>none
 | .store t a x=>match C.tab.get t,ev a with
  | some τ,.av p=>storeAt s τ p (ev x) fun s'=>K (aG o.dst (.av .undef) s')
  | _,_=>none
 | .nilCheck x=>match ev x with
  | .av (.ptr i j)=>match s.G.get i with
   | some (.box _)=>ret (.av (.ptr i j))
   | _=>none
  | .av (.aptr i j p)=>match s.G.get i with
   | some (.arr _ _)=>ret (.av (.aptr i j p))
   | some (.deep _ _ _ _)=>ret (.av (.aptr i j p))
   | _=>none
  | .av (.val (.ptr t) y)=>ret (.av (.val (.ptr t) y))
  | .av (.val (.clo g t) y)=>ret (.av (.val (.clo g t) y))
  | .av (.clo f c)=>ret (.av (.clo f c))
  | _=>none
 | .binOp op xt x y _=>match ev x,ev y with
  | .av (.val (.int k) a),.av (.val (.int k') b)=>cond (decide (k=k')) (match op with
   | .quo=>cond (eqI b 0) none (ret (.av (.val (.int k) (i7 k a b))))
   | .rem=>cond (eqI b 0) none (ret (.av (.val (.int k) (kO a b))))
   | _=>match AQ op k a b with
    | some r=>ret (.av r)
    | none=>none) none
  | .av (.val .str a),.av (.val .str b)=>match op with
   | .add=>(Jo a b).bind fun r=>ret (.av (.val .str r))
   | _=>match HR op a b with
    | some r=>ret (.av r)
    | none=>none
  | .av (.val .bool a),.av (.val .bool b)=>cond (qJ (C.tab.get xt)) (match op with
   | .eql=>ret (.av (.val .bool (eqB a b)))
   | .neq=>ret (.av (.val .bool (neB a b)))
   | _=>none) none
  | .av (.val (.slice _) l),.av .nils=>cond (np y && oL (C.tab.get xt)) (match op with
   | .eql=>cond l.isEmpty (ya (ret (.av (.val .bool true))) (ret (.av (.val .bool false)))) (ret (.av (.val .bool false)))
   | .neq=>cond l.isEmpty (ya (ret (.av (.val .bool true))) (ret (.av (.val .bool false)))) (ret (.av (.val .bool true)))
   | _=>none) none
  | u,v=>match C.tab.get xt with
   | some τ=>cond (τ.isAgg && C.eqs.any fun e=>A8 e xt) (match aW s.G τ u,aW s.G τ v with
    | some a,some b=>match eqT τ a b with
     | some r=>match op with
      | .eql=>ret (.av (.val .bool r))
      | .neq=>ret (.av (.val .bool (!r)))
      | _=>none
     | none=>none
    | _,_=>none) none
   | none=>none
 | .unOp op _ x=>match op,ev x with
  | .not,.av (.val .bool b)=>ret (.av (.val .bool (!b)))
  | .neg,.av (.val (.int k) n)=>ret (.av (.val (.int k) (cQ k 0 n)))
  | _,_=>none
 | .makeSlice t n c=>match C.tab.get t with
  | some (.slice e)=>asI (ev n) fun a=>asI (ev c) fun b=>(eV e a b).bind fun l=>cv s site (iW (C.deep.any fun d=>A8 d site) e l) fun i s2=>K (aG o.dst (.av (fL (C.deep.any fun d=>A8 d site) e i)) s2)
  | _=>none
 | .slice t x lo hi mx=>Ce C s.env 0 lo fun l=>cond (!fQ C t s.G (ev x)) none <| match hi,mx with
  | none,none=>fc s (ev x) l none none ret
  | some h,none=>asI (ev h) fun h'=>fc s (ev x) l (some h') none ret
  | some h,some m=>asI (ev h) fun h'=>asI (ev m) fun m'=>fc s (ev x) l (some h') (some m') ret
  | none,some _=>none
 | .fieldAddr t x f=>match ev x with
  | .av (.ptr id off)=>match s.G.get id,C.tab.get t with
   | some (.box _),some τ=>match τ.field f with
    | some (o',t')=>cond (Lh 1 t'.size) (ret (.av (.ptr id (off+o')))) none
    | none=>none
   | _,_=>none
  | .av (.aptr id j p)=>match s.G.get id,C.tab.get t with
   | some (.arr σ _),some τ=>match dj σ p with
    | some (_,τ')=>cond (decide (τ'=τ)) (match τ.field f with
     | some (_,t')=>cond (Lh 1 t'.size) (ret (.av (.aptr id j (p++[f])))) none
     | none=>none) none
    | none=>none
   | _,_=>none
  | .av (.val (.ptr τ) y)=>match C.tab.get t with
   | some τ'=>cond (decide (τ=τ')) (match cO τ y f with
    | some ⟨t',z⟩=>cond (Lh 1 t'.size) (ret (.av (.val (.ptr t') z))) none
    | none=>none) none
   | none=>none
  | _=>none
 | .indexAddr t x ix=>asI (ev ix) fun i=>cond (fS C t s.G (ev x)) (indexAt C s t (ev x) i fun a=>ret (.av a)) none
 | .extract x i=>match ev x with
  | .tup l=>match l[i]? with
   | some (true,c)=>ret (.agg c)
   | some (false,[a])=>ret (.av a)
   | _=>none
  | _=>none
 | .makeMap t none=>match lB C.maps t with
  | some p=>cv s site (.map p.1 p.2 []) fun i s2=>K (aG o.dst (.av (.ownm i)) s2)
  | none=>none
 | .lookup t x ix ok=>match lB C.maps t,ev x with
  | some p,.av (.ownm id)=>match s.G.get id with
   | some (.map k v l)=>(nO p.1 p.2 k v l).bind fun l'=>match aW s.G p.1 (ev ix) with
    | some key=>cond ok
     (ret (.tup [(p.2.isAgg,eh p.2 ((dm p.1 p.2 key l').getD (az p.2))),(false,[.val .bool (dm p.1 p.2 key l').isSome])]))
     (ret (.av (.val p.2 ((dm p.1 p.2 key l').getD (az p.2)))))
    | none=>none
   | _=>none
  | _,_=>none
 | .mapUpdate t m key x=>match lB C.maps t,ev m with
  | some p,.av (.ownm id)=>match s.G.get id with
   | some (.map k v l)=>(nO p.1 p.2 k v l).bind fun l'=>match aW s.G p.1 (ev key),aW s.G p.2 (ev x) with
    | some key,some y=>K (aG o.dst (.av .undef) (setObj id (.map p.1 p.2 (gF p.1 p.2 key y l')) s))
    | _,_=>none
   | _=>none
  | _,_=>none
 | .makeFunc (.func f) first caps=>match first.toList,qF s.G (caps.toList.map ev) with
  | [],some l=>ret (.av (.clo f l))
  | [x],some []=>match ev x with
   | .agg l=>(jr l).bind fun q=>ret (.av (.bnd f q))
   | _=>none
  | [],none=>match lO s.G (caps.toList.map ev) with
   | some q=>K (aG o.dst (.av (.val (.clo f q.1.1) q.1.2)) { env:=s.env,G:=am q.2 s.G })
   | none=>none
  | _,_=>none
 | .call { callee:=.builtin .len,args,argTypes }=>match args.toList with
  | [x]=>cond (AS (C.tab.get (argTypes.getD 0 0)) (ev x) && Lh 1 argTypes.size) (lenOf s (ev x) fun n=>ret (.av (.val (.int .i64) n))) none
  | _=>none
 | .call { callee:=.builtin .min,args,.. }=>match args.toList.map ev with
  | v :: r=>mq v fun a=>lj false a r fun n=>ret (.av (.val (.int .i64) n))
  | []=>none
 | .call { callee:=.builtin .max,args,.. }=>match args.toList.map ev with
  | v :: r=>mq v fun a=>lj true a r fun n=>ret (.av (.val (.int .i64) n))
  | []=>none
 | .call { callee:=.builtin .append,args,argTypes }=>match argTypes.toList,args.toList with
  | [t,t'],[b,x]=>match C.tab.get t with
   | some (.slice e)=>cond (A8 t t') (cond (rv (ev x)) (match e with
   | .slice σ=>match oP s.G σ (ev b),oP s.G σ (ev x) with
    | some l,some xs=>(app l.1 xs.1).bind fun r=>cond (aK (l.2++xs.2)) (cv { env:=s.env,G:=am (l.2++xs.2) s.G } site (.deep 0 σ r none) fun i s2=>K (aG o.dst (.av (.ownd i)) s2)) none
    | _,_=>none
   | _=>none) <| match Eg s e (ev b),aW s.G (.slice e) (ev x) with
   | some l,some (y :: xs)=>(app l (y :: xs)).bind fun r =>
    cv s site (.arr e r) fun i s2=>K (aG o.dst (.av (.own i)) s2)
   | some _,_=>none
   | none,_=>match gA { env:=s.env,G:=(bM site s.G (ev b)).2 } e (bM site s.G (ev b)).1,aW s.G (.slice e) (ev x) with
    | some (l,ids),some xs=>(app l xs).bind fun r =>
     cv { env:=s.env,G:=am ids (bM site s.G (ev b)).2 } site (.arr e r) fun i s2=>K (aG o.dst (.av (.own i)) s2)
    | _,_=>none) none
   | _=>none
  | _,_=>none
 | .call { callee:=.value g,args,.. }=>match ev g with
  | .av (.clo f caps)=>gE C s site f (args.toList.map ev++caps.map fun i=>.av (.ptr i 0)) fun v s'=>K (aG o.dst v s')
  | .av (.bnd f q)=>gE C s site f (.agg (q.map fun p=>.val p.1 p.2) :: args.toList.map ev) fun v s'=>K (aG o.dst v s')
  | .av (.val (.clo f τ) y)=>match cj τ y with
   | some l=>gE C s site f (args.toList.map ev++l) fun v s'=>K (aG o.dst v s')
   | none=>none
  | _=>none
 | _=>none
def fl (ops:List Oper) (j:Nat):Option Nat:=match ops[j]? with
 | some o=>o.dst
 | none=>none
def eN (G:Heap) (ids:List Nat):Atom→Atom
 | .own i=>cond (ids.any fun j=>A8 i j) (match G.get i with
  | some (.arr τ l)=>.val (.slice τ) l
  | _=>.own i) (.own i)
 | .view i off len=>cond (ids.any fun j=>A8 i j) (match G.get i with
  | some (.arr τ l)=>.val (.slice τ) ((l.drop off).take len)
  | _=>.view i off len) (.view i off len)
 | .ownd i=>cond (ids.any fun j=>A8 i j) (match G.get i with
  | some (.deep _ τ l none)=>.val (.slice (.slice τ)) l
  | _=>.ownd i) (.ownd i)
 | .sub i ver j=>cond (ids.any fun j=>A8 i j) (match G.get i with
  | some (.deep ver' τ l none)=>cond (A8 ver ver') (.val (.slice τ) (aZ l j)) (.sub i ver j)
  | _=>.sub i ver j) (.sub i ver j)
 | a=>a
def Ep (G:Heap) (ids:List Nat):SV→SV
 | .av a=>.av (eN G ids a)
 | .agg l=>.agg (l.map (eN G ids))
 | .tup l=>.tup (l.map fun p=>(p.1,p.2.map (eN G ids)))
def m9 (G:Heap) (ids:List Nat):Obj→Obj
 | .box l=>.box (l.map (eN G ids))
 | o=>o
def vM (ids:List Nat) (s:St):St :=
 { env:=s.env.map fun p=>(p.1,Ep s.G ids p.2),G:=am ids (s.G.map fun p=>(p.1,m9 s.G ids p.2)) }
def IA (o:Oper) (s:St):List Nat :=
 let ev:=ap C s.env
 match o.op with
 | .call { callee:=.value g,args,.. }=>match ev g with
  | .av (.clo f [])=>(match C.con f (o.dst.getD 0) with
   | some c=>cond (nN c) [] ((aP s.G c.ins (args.toList.map ev)).1.filter fun i=>match s.G.get i with | some (.arr _ _)=>true | some (.deep _ _ _ none)=>true | _=>false)
   | none=>[])
  | _=>[]
 | .buildSlice _ _ parts=>cond (C.deep.any fun d=>A8 d (o.dst.getD 0)) [] ((parts.toList.flatMap fun p=>eH s.G (ev p.2)).filter fun i=>match s.G.get i with | some (.arr _ _)=>true | some (.deep _ _ _ none)=>true | _=>false)
 | _=>[]
def na (o:Oper) (s:St):St:=match IA C o s with
 | []=>s
 | l=>vM l s
def gw (all:List Oper):List Oper→St→(St→Option R)→Option R
 | [],s,K=>K s
 | o :: r,s,K=>match o.guard with
  | none=>aA C o (na C o s) fun s'=>gw all r s' K
  | some (j,want)=>match fl all j with
   | none=>none
   | some d=>match s.env.get d with
    | .av (.val .bool b) =>
     cond b
      (cond want (aA C o (na C o { env:=(d,.av (.val .bool true)) :: s.env,G:=s.G }) fun s'=>gw all r s' K)
       (gw all r (aG o.dst (.av .undef) { env:=(d,.av (.val .bool true)) :: s.env,G:=s.G }) K))
      (cond want (gw all r (aG o.dst (.av .undef) { env:=(d,.av (.val .bool false)) :: s.env,G:=s.G }) K)
       (aA C o (na C o { env:=(d,.av (.val .bool false)) :: s.env,G:=s.G }) fun s'=>gw all r s' K))
    | .av .undef=>gw all r (aG o.dst (.av .undef) s) K
    | _=>none
def gg:List Oper→List Nat→List Nat
 | [],acc=>acc
 | o :: r,acc=>gg r (acc++[o.after.toList.foldl (fun m e=>cond (Region.binds .any e) (m ||| 2 ^ e.on ||| acc.getD e.on 0) m) 0])
def bit (m j:Nat):Bool:=A8 (1 &&& (m >>> j)) 1
def bw (m:Nat) (N:List (Nat×Heap)) (B:Heap):Heap :=
 N.foldr (fun p G=>cond (bit m p.1) (p.2++G) G) B
def Jj:Operand→List Nat
 | .tmp t=>[t]
 | _=>[]
def looks (all:List Oper) (o:Oper):List Nat :=
 o.op.operands.toList.flatMap Jj++(match o.guard with
 | some (j,_)=>(match fl all j with | some d=>[d] | none=>[])
 | none=>[])
def ed (all:List Oper) (o:Oper) (e:Env):Env:=(looks all o).map fun t=>(t,e.get t)
def la (o:Oper) (e:Env):Bool:=match o.op with
 | .binOp _ _ _ y _=>!np y || (match ap C e y with | .av .nils=>false | _=>true)
 | _=>true
def cK (G:Heap):Atom→Bool
 | .own i=>G.has i
 | .view i _ _=>G.has i
 | .ptr i _=>G.has i
 | .aptr i _ _=>G.has i
 | .clo _ c=>c.all fun i=>G.has i
 | .cut i _ _=>G.has i
 | .ownd i=>G.has i
 | .sub i _ _=>G.has i
 | .saptr i _ _ _=>G.has i
 | .ownm i=>G.has i
 | _=>true
def px (G:Heap):SV→Bool
 | .av a=>cK G a
 | .agg l=>l.all fun a=>cK G a
 | .tup l=>l.all fun p=>p.2.all fun a=>cK G a
def sH (G N:Heap):Bool:=N.all fun p=>match p.2 with
 | .box l=>l.all fun a=>cK G a
 | _=>true
def yZ (dst:Option Nat) (v:SV) (e:Env):Env:=match dst with
 | some d=>(d,v) :: e
 | none=>e
def jG (o:Oper) (e:Env):Bool:=match o.op with
 | .fieldAddr _ x _=>(match ap C e x with | .av (.ptr id _)=>!C.vr id | _=>false)
 | .load _ x=>(match ap C e x with | .av (.ptr id _)=>!C.vr id | _=>false)
 | .binOp _ _ x y _=>(match ap C e x,ap C e y with | .av (.val (.int _) _),.av (.val (.int _) _)=>true | _,_=>false)
 | _=>false
def lh (G G':Heap):Bool:=(G'.take (G'.length - G.length)).all fun p=>match G.get p.1 with
 | some (.box _)=>C.vr p.1
 | _=>true
def yu (all:List Oper) (ms:List Nat) (nd:Nat→Bool):Nat→List Oper→Env→List (Nat×Heap)→Heap→(Env→List (Nat×Heap)→Option R)→Option R
 | _,[],e,N,_,K=>K e N
 | i,o :: r,e,N,B,K =>
  let G:=bw (ms.getD i 0) N B
  let run (e':Env):Option R:=cond (la C o (ed all o e') && ((ed all o e').all fun p=>px G p.2) && (N.all fun p=>!(bit (ms.getD i 0) p.1) || sH G p.2) && (!nd i || jG C o (ed all o e')))
   (aA C o { env:=ed all o e',G:=G } fun s' =>
    yu all ms nd (i+1) r (yZ o.dst (s'.env.get (o.dst.getD 0)) e') ((i,s'.G.take (s'.G.length - G.length)) :: N) B K) none
  let skip (e':Env):Option R:=yu all ms nd (i+1) r (yZ o.dst (.av .undef) e') N B K
  match o.guard with
  | none=>run e
  | some (j,want)=>match fl all j with
   | none=>none
   | some d=>match e.get d with
    | .av (.val .bool b) =>
     cond b
      (cond want (run ((d,.av (.val .bool true)) :: e)) (skip ((d,.av (.val .bool true)) :: e)))
      (cond want (skip ((d,.av (.val .bool false)) :: e)) (run ((d,.av (.val .bool false)) :: e)))
    | .av .undef=>skip e
    | _=>none
def yo (all:List Oper) (kd:Nat→Bool):Nat→List Oper→Env→Heap→(Env→Heap→Option R)→Option R
 | _,[],e,G,K=>K e G
 | i,o :: r,e,G,K =>
  let run (e':Env):Option R:=cond (la C o (ed all o e')) (aA C o { env:=ed all o e',G:=G } fun s' =>
   cond (!kd i || lh C G s'.G) (yo all kd (i+1) r (aG o.dst (s'.env.get (o.dst.getD 0)) { env:=e',G:=[] }).env s'.G K) none) none
  let skip (e':Env):Option R:=yo all kd (i+1) r (aG o.dst (.av .undef) { env:=e',G:=[] }).env G K
  match o.guard with
  | none=>run e
  | some (j,want)=>match fl all j with
   | none=>none
   | some d=>match e.get d with
    | .av (.val .bool b) =>
     cond b
      (cond want (run ((d,.av (.val .bool true)) :: e)) (skip ((d,.av (.val .bool true)) :: e)))
      (cond want (skip ((d,.av (.val .bool false)) :: e)) (run ((d,.av (.val .bool false)) :: e)))
    | .av .undef=>skip e
    | _=>none
def gh (o:Oper):Bool:=match o.op with
 | .move _=>true
 | .assign _=>true
 | .pick _ _ _=>true
 | .extract _ _=>true
 | .unOp _ _ _=>true
 | .build _ _=>true
 | _=>false
def vl (o:Oper):Bool:=match o.op with
 | .fieldAddr _ _ _=>true
 | .load _ _=>true
 | .binOp op _ _ _ _=>(match op with | .add=>true | .sub=>true | .mul=>true | _=>false)
 | _=>false
def iD (all:List Oper) (j:Nat):Bool:=match all[j]? with
 | some o=>vl o
 | none=>false
def fD (lt:Bool) (m:Nat):Nat→List Oper→Bool
 | _,[]=>true
 | j,o :: r=>(bit m j || gh o || (lt && vl o)) && fD lt m (j+1) r
def je (lt:Bool) (all:List Oper) (ms:List Nat):Nat→Nat
 | 0=>0
 | n+1=>cond (fD (lt && !iD all n) (ms.getD n 0) 0 (all.take n)) (je lt all ms n+1) 0
def wY (lt:Bool) (all:List Oper) (ms:List Nat) (k j:Nat):Bool:=lt && iD all j && (Le all.length).any fun i=>Lh k i && !bit (ms.getD i 0) j
def F5 (lt:Bool) (all:List Oper) (ms:List Nat) (k i:Nat):Bool:=lt && (Le k).any fun j=>iD all j && !bit (ms.getD i 0) j
def vg (all:List Oper) (ms:List Nat) (k:Nat):Bool:=(Le all.length).all fun i=>NC i k || (Le i).all fun j=>NC j k || bit (ms.getD i 0) j || !iD all j
def Jy (o:Oper):Nat:=o.dst.getD 0 % 1000
def kX (l:List Oper):List Nat:=l.map Jy
def okA (lt:Bool) (all:List Oper) (ms:List Nat) (k:Nat):Bool :=
 (!lt || vg all ms k) &&
 (all.zipIdx.all fun p=>p.1.after.toList.all fun e=>!(Region.binds .any e) || NC e.on p.2) &&
 aK (kX (all.take k)) &&
 (all.zipIdx.all fun p=>(looks all p.1).all fun t=>all.zipIdx.all fun q=>cond (match q.1.dst with | some d=>A8 d t | none=>false) (bit (ms.getD p.2 0) q.2 || bit (ms.getD q.2 0) p.2) true) &&
 aK (all.filterMap fun o=>o.dst)
def okN (all:List Oper) (ms:List Nat) (k:Nat) (N:List (Nat×Heap)) (B:Heap):Bool :=
 N.all fun p=>p.2.all fun x=>!(B.has x.1) &&
  (A8 (x.1 % 1000) ((kX all).getD p.1 0) || (Le p.1).any fun j=>bit (ms.getD p.1 0) j && A8 (x.1 % 1000) ((kX all).getD j 0)) &&
  N.all fun q=>A8 p.1 q.1 || !(q.2.any fun y=>A8 (x.1 % 1000) (y.1 % 1000)) ||
   ((bit (ms.getD p.1 0) q.1 || bit (ms.getD q.1 0) p.1) &&
    (Le k).all fun i=>!(bit (ms.getD i 0) p.1) || A8 i q.1 || bit (ms.getD i 0) q.1 || bit (ms.getD q.1 0) i)
def qf (lt:Bool) (all:List Oper) (s:St) (K:St→Option R):Option R :=
 let ms:=gg all []
 let k:=all.length - je lt all ms all.length
 cond (okA lt all ms k) (yu C all ms (wY lt all ms k) 0 (all.take k) s.env [] s.G fun e N =>
  cond (okN all ms k N s.G) (yo C all (F5 lt all ms k) k (all.drop k) e (N.foldr (fun p G=>p.2++G) s.G) fun e' G'=>K { env:=e',G:=G' }) none) none
def IV (G:Heap):List Nat:=(G.map (·.1)).filter fun i=>match G.get i with
 | some (.arr _ _)=>true
 | some (.deep _ _ _ none)=>true
 | _=>false
def ve (id:Nat) (s:St):St:=cond (C.frz.any fun i=>A8 i id) (vM ((IV s.G).filter fun i=>!(C.hold.any fun p=>A8 p.1 id && A8 p.2 i)) s) s
inductive Ex where
 | normal
 | exit (id:Nat)
 | ret
abbrev Loops:=Nat→(R:Type)→St→(Ex→St→Option R)→Option R
def fU:Code→Nat
 | .region id _ _=>id
 | .seq a _=>fU a
 | .block _ c=>fU c
 | .scope c=>fU c
 | .loop c=>fU c
 | _=>0
def dd (L:Loops):Code→(Ex→St→Option R)→St→Option R
 | .skip,K,s=>K .normal s
 | .region id ops d,K,s=>cond d (qf C (C.light.any fun i=>A8 i id) ops.toList (ve C id s) (K .normal)) (gw C ops.toList ops.toList s (K .normal))
 | .seq a b,K,s=>dd L a (fun e s'=>match e with
  | .normal=>dd L b K s'
  | .exit i=>K (.exit i) s'
  | .ret=>K .ret s') s
 | .cond c x y,K,s=>match ap C s.env c with
  | .av (.val .bool b)=>cond b (dd L x K s) (dd L y K s)
  | _=>none
 | .block id c,K,s=>dd L c (fun e s'=>match e with
  | .exit i=>cond (A8 i id) (K .normal s') (K (.exit i) s')
  | .normal=>K .normal s'
  | .ret=>K .ret s') s
 | .loop c,K,s=>L (fU c) R s K
 | .exit id,K,s=>K (.exit id) s
 | .ret,K,s=>K .ret s
 | _,_,_=>none
end
inductive SpA where
 | u
 | undef
 | nils
 | val (τ : Ty)
 | own (id:Nat)
 | ptr (id off:Nat)
 | clo (f:Nat) (caps:List Nat)
 | ownd (id:Nat)
 | ownm (id:Nat)
inductive SpS where
 | av (a:SpA)
 | agg (l:List SpA)
 | sub (id:Nat)
 | view (id:Nat)
inductive SpO where
 | arr (τ : Ty)
 | box (l:List SpA)
 | deep (τ : Ty)
 | map (k v:Ty)
structure Shape where
 env:List (Nat×SpS)
 objs:List (Nat×SpO)
 pins:List Nat:=[]
@[reducible] def SpA.tys (a:SpA) (r:Ty):Ty:=match a with
 | .val τ=>.prod τ r
 | _=>r
@[reducible] def SpA.tysL:List SpA→Ty→Ty
 | [],r=>r
 | a :: l,r=>a.tys (SpA.tysL l r)
@[reducible] def SpS.tys (a:SpS) (r:Ty):Ty:=match a with
 | .av a=>a.tys r
 | .agg l=>SpA.tysL l r
 | .sub _=>.prod (.int .i64) r
 | .view _=>.prod (.int .i64) (.prod (.int .i64) r)
@[reducible] def SpO.tys (a:SpO) (r:Ty):Ty:=match a with
 | .arr τ=>.prod (.slice τ) r
 | .deep τ=>.prod (.slice (.slice τ)) r
 | .map k v=>.prod (.slice (.prod k v)) r
 | .box l=>SpA.tysL l r
@[reducible] def iP:List (Nat×SpS)→Ty
 | []=>.unit
 | p :: l=>p.2.tys (iP l)
@[reducible] def nh:List (Nat×SpO)→Ty→Ty
 | [],r=>r
 | p :: l,r=>p.2.tys (nh l r)
@[reducible] def Shape.ty (sh:Shape):Ty:=nh sh.objs (iP sh.env)
def SpA.inj (a:SpA) (r:Ty) (x:(a.tys r).den):Atom×r.den:=match a,x with
 | .val τ,x=>(.val τ x.1,x.2)
 | .u,x=>(.u,x)
 | .undef,x=>(.undef,x)
 | .nils,x=>(.nils,x)
 | .own i,x=>(.own i,x)
 | .ptr i j,x=>(.ptr i j,x)
 | .clo f c,x=>(.clo f c,x)
 | .ownd i,x=>(.ownd i,x)
 | .ownm i,x=>(.ownm i,x)
def SpA.injL:(l:List SpA)→(r:Ty)→(SpA.tysL l r).den→List Atom×r.den
 | [],_,x=>([],x)
 | a :: l,r,x =>
  let p:=a.inj (SpA.tysL l r) x
  let q:=SpA.injL l r p.2
  (p.1 :: q.1,q.2)
def SpS.inj (a:SpS) (r:Ty) (x:(a.tys r).den):SV×r.den:=match a,x with
 | .av a,x=>let p:=a.inj r x; (.av p.1,p.2)
 | .agg l,x=>let p:=SpA.injL l r x; (.agg p.1,p.2)
 | .sub i,x=>(.av (.sub i 0 x.1.toNat),x.2)
 | .view i,x=>(.av (.view i x.1.toNat x.2.1.toNat),x.2.2)
def SpO.inj (a:SpO) (r:Ty) (x:(a.tys r).den):Obj×r.den:=match a,x with
 | .arr τ,x=>(.arr τ x.1,x.2)
 | .deep τ,x=>(.deep 0 τ x.1 none,x.2)
 | .map k v,x=>(.map k v x.1,x.2)
 | .box l,x=>let p:=SpA.injL l r x; (.box p.1,p.2)
def uU:(l:List (Nat×SpS))→(iP l).den→Env
 | [],_=>[]
 | p :: l,x=>let q:=p.2.inj (iP l) x; (p.1,q.1) :: uU l q.2
def nY:(l:List (Nat×SpO))→(r:Ty)→(nh l r).den→Heap×r.den
 | [],_,x=>([],x)
 | p :: l,r,x =>
  let q:=p.2.inj (nh l r) x
  let z:=nY l r q.2
  ((p.1,q.1) :: z.1,z.2)
def Shape.inj (sh:Shape) (x:sh.ty.den):St :=
 let p:=nY sh.objs (iP sh.env) x
 { env:=uU sh.env p.2,G:=p.1 }
inductive Src where
 | nil
 | own (id:Nat)
 | view (id off len:Nat)
 | nild
abbrev Ren:=List (Nat×Src)
def Ren.get:Ren→Nat→Option Src
 | [],_=>none
 | (k,v) :: r,t=>cond (A8 k t) (some v) (Ren.get r t)
def Src.same:Src→Src→Bool
 | .own i,.own j=>A8 i j
 | _,_=>false
def Ren.add (m:Ren) (i:Nat) (s:Src):Option Ren:=match m.get i with
 | none=>some ((i,s) :: m)
 | some s'=>cond (s'.same s) (some m) none
def Ren.addCaps:List Nat→Ren→Option Ren
 | [],m=>some m
 | i :: r,m=>match m.add i (.own i) with
  | some m'=>Ren.addCaps r m'
  | none=>none
def SpA.ren (a:SpA) (b:Atom) (m:Ren):Option Ren:=match a,b with
 | .own i,.own j=>m.add i (.own j)
 | .own i,.nils=>m.add i .nil
 | .own i,.view j o n=>m.add i (.view j o n)
 | .ptr i o,.ptr j o'=>cond (A8 o o') (m.add i (.own j)) none
 | .ownd i,.ownd j=>m.add i (.own j)
 | .ownd i,.nils=>m.add i .nild
 | .ownm i,.ownm j=>m.add i (.own j)
 | .clo _ c,_=>Ren.addCaps c m
 | .own _,_=>none
 | .ownd _,_=>none
 | .ownm _,_=>none
 | .ptr _ _,_=>none
 | _,_=>some m
def SpA.renL:List SpA→List Atom→Ren→Option Ren
 | [],[],m=>some m
 | a :: l,b :: r,m=>match a.ren b m with
  | some m'=>SpA.renL l r m'
  | none=>none
 | _,_,_=>none
def SpS.ren (a:SpS) (b:SV) (m:Ren):Option Ren:=match a,b with
 | .av a,.av b=>a.ren b m
 | .agg l,.agg r=>SpA.renL l r m
 | .av .u,_=>some m
 | .av (.val _),_=>some m
 | .sub _,_=>some m
 | .view _,_=>some m
 | _,_=>none
def rN (e:Env):List (Nat×SpS)→Ren→Option Ren
 | [],m=>some m
 | p :: l,m=>match p.2.ren (e.get p.1) m with
  | some m'=>rN e l m'
  | none=>none
def iG (G:Heap):List (Nat×SpO)→Ren→Option Ren
 | [],m=>some m
 | (_,.arr _) :: l,m=>iG G l m
 | (_,.deep _) :: l,m=>iG G l m
 | (_,.map _ _) :: l,m=>iG G l m
 | (i,.box s) :: l,m=>match m.get i with
  | some (.own j)=>match G.get j with
   | some (.box c)=>match SpA.renL s c m with
    | some m'=>iG G l m'
    | none=>none
   | _=>none
  | _=>none
def SpA.ext (G:Heap) (a:SpA) (b:Atom) (r:Ty) (k:Option r.den):Option (a.tys r).den:=match a with
 | .val τ=>match aE G τ b,k with
  | some x,some y=>some (x,y)
  | _,_=>none
 | .u=>k
 | .undef=>match b with | .undef=>k | _=>none
 | .nils=>match b with | .nils=>k | _=>none
 | .own _=>k
 | .ownd _=>k
 | .ownm _=>k
 | .ptr _ _=>k
 | .clo f c=>match b with | .clo f' c'=>cond (A8 f f' && decide (c=c')) k none | _=>none
def SpA.extL (G:Heap):(l:List SpA)→List Atom→(r:Ty)→Option r.den→Option (SpA.tysL l r).den
 | [],_,_,k=>k
 | a :: l,b :: bs,r,k=>a.ext G b (SpA.tysL l r) (SpA.extL G l bs r k)
 | _ :: _,[],_,_=>none
def SpS.ext (G:Heap) (a:SpS) (b:SV) (r:Ty) (k:Option r.den):Option (a.tys r).den:=match a,b with
 | .av (.val τ),v=>match aW G τ v,k with
  | some x,some y=>some (x,y)
  | _,_=>none
 | .av .u,_=>k
 | .av a,.av b=>a.ext G b r k
 | .agg l,.agg bs=>SpA.extL G l bs r k
 | .sub _,.av (.sub _ _ j)=>match k with
  | some y=>some ((j:Int),y)
  | none=>none
 | .view _,.av (.view _ o n)=>match k with
  | some y=>some ((o:Int),(n:Int),y)
  | none=>none
 | _,_=>none
def vi (G:Heap) (e:Env):(l:List (Nat×SpS))→Option (iP l).den
 | []=>some ()
 | p :: l=>p.2.ext G (e.get p.1) (iP l) (vi G e l)
def cY (G:Heap) (τ : Ty):Option Src→Option (List τ.den)
 | some .nil=>some []
 | some (.own j)=>match G.get j with
  | some (.arr σ l)=>bG (.slice τ) (.slice σ) l
  | _=>none
 | some (.view j o n)=>match G.get j with
  | some (.arr σ l)=>bG (.slice τ) (.slice σ) ((l.drop o).take n)
  | _=>none
 | _=>none
def cm (G:Heap) (τ : Ty):Option Src→Option (List (List τ.den))
 | some .nild=>some []
 | some (.own j)=>match G.get j with
  | some (.deep _ σ l none)=>bG (.slice (.slice τ)) (.slice (.slice σ)) l
  | _=>none
 | _=>none
def fR (G:Heap) (k v:Ty):Option Src→Option (List (k.den×v.den))
 | some (.own j)=>match G.get j with
  | some (.map k' v' l)=>nO k v k' v' l
  | _=>none
 | _=>none
def SpO.ext (G:Heap) (m:Ren) (i:Nat) (a:SpO) (r:Ty) (k:Option r.den):Option (a.tys r).den:=match a with
 | .arr τ=>match cY G τ (m.get i),k with
  | some x,some y=>some (x,y)
  | _,_=>none
 | .deep τ=>match cm G τ (m.get i),k with
  | some x,some y=>some (x,y)
  | _,_=>none
 | .map κ v=>match fR G κ v (m.get i),k with
  | some x,some y=>some (x,y)
  | _,_=>none
 | .box l=>match m.get i with
  | some (.own j)=>match G.get j with
   | some (.box c)=>SpA.extL G l c r k
   | _=>none
  | _=>none
def qx (G:Heap) (m:Ren):(l:List (Nat×SpO))→(r:Ty)→Option r.den→Option (nh l r).den
 | [],_,k=>k
 | p :: l,r,k=>p.2.ext G m p.1 (nh l r) (qx G m l r k)
def Src.ids:Src→List Nat
 | .nil=>[]
 | .nild=>[]
 | .own i=>[i]
 | .view i _ _=>[i]
def Ren.ids (m:Ren):List Nat:=m.flatMap fun p=>p.2.ids
def SpA.froz (a:SpA) (b:Atom):List Nat:=match a with
 | .val _=>bf b
 | _=>[]
def SpA.frozL:List SpA→List Atom→List Nat
 | a :: l,b :: r=>a.froz b++SpA.frozL l r
 | _,_=>[]
def SpS.froz (G:Heap) (a:SpS) (b:SV):List Nat:=match a,b with
 | .av (.val _),v=>eH G v
 | .agg l,.agg r=>SpA.frozL l r
 | _,_=>[]
def lT (G:Heap) (e:Env):List (Nat×SpS)→List Nat
 | []=>[]
 | p :: l=>p.2.froz G (e.get p.1)++lT G e l
def SpO.kind:SpO→Nat
 | .arr _=>0
 | .box _=>1
 | .deep _=>2
 | .map _ _=>3
def fk (kind:Nat) (i:Nat) (l:List (Nat×SpO)):Bool:=l.any fun p=>A8 p.1 i && A8 p.2.kind kind
def SpA.wf (l:List (Nat×SpO)):SpA→Bool
 | .own i=>fk 0 i l
 | .ptr i _=>fk 1 i l
 | .clo _ c=>c.all fun i=>fk 1 i l
 | .ownd i=>fk 2 i l
 | .ownm i=>fk 3 i l
 | .val τ=>!τ.isAgg
 | _=>true
def SpS.wf (l:List (Nat×SpO)):SpS→Bool
 | .av (.val _)=>true
 | .av a=>a.wf l
 | .agg as=>as.all fun a=>a.wf l
 | .sub i=>fk 2 i l
 | .view i=>fk 0 i l
def SpS.look (G:Heap) (R:Ren) (a:SpS) (b:SV):Bool:=match a,b with
 | .sub i,.av (.sub id ver _)=>(match R.get i with
  | some (.own j)=>A8 id j
  | _=>false) && (match G.get id with
  | some (.deep ver' _ _ none)=>A8 ver ver'
  | _=>false)
 | .view i,.av (.view id _ _)=>match R.get i with
  | some (.own j)=>A8 id j
  | _=>false
 | .sub _,_=>false
 | .view _,_=>false
 | _,_=>true
def pinned (R:Ren) (l:List Nat):Bool:=l.all fun i=>match R.get i with
 | some (.own j)=>A8 i j
 | _=>false
def Shape.wf (sh:Shape):Bool:=(sh.pins.all fun i=>fk 0 i sh.objs || fk 1 i sh.objs) && (sh.env.all fun p=>p.2.wf sh.objs) && (sh.objs.all fun p=>match p.2 with | .arr _=>true | .deep _=>true | .map _ _=>true | .box l=>l.all fun a=>a.wf sh.objs) && aK (sh.objs.map (·.1))
def er (G:Heap) (m:Ren):List (Nat×SpO)→List Nat
 | []=>[]
 | (_,.arr _) :: l=>er G m l
 | (_,.deep _) :: l=>er G m l
 | (_,.map _ _) :: l=>er G m l
 | (i,.box s) :: l=>(match m.get i with
  | some (.own j)=>match G.get j with
   | some (.box c)=>SpA.frozL s c
   | _=>[]
  | _=>[])++er G m l
def Shape.ext (sh:Shape) (s:St):Option sh.ty.den:=match rN s.env sh.env [] with
 | none=>none
 | some m0=>match iG s.G sh.objs m0 with
  | none=>none
  | some m=>cond (sh.wf && pinned m sh.pins && aK m.ids && !(m.ids.any fun i=>((lT s.G s.env sh.env)++(er s.G m sh.objs)).any fun j=>A8 i j)
    && (sh.objs.all fun p=>(m.get p.1).isSome) && (sh.env.all fun p=>p.2.look s.G m (s.env.get p.1)))
    (qx s.G m sh.objs (iP sh.env) (vi s.G s.env sh.env)) none
@[reducible] def kK:List (Ex×Shape)→Type
 | []=>Empty
 | p :: l=>p.2.ty.den⊕kK l
structure Ann where
 head:Shape
 exits:List (Ex×Shape)
 fn:head.ty.den→Option (kK exits)
def lQ {R:Type} (K:Ex→St→Option R):(l:List (Ex×Shape))→kK l→Option R
 | [],_=>none
 | p :: l,x=>K8 (fun y=>K p.1 (p.2.inj y)) (fun z=>lQ K l z) x
abbrev Anns:=List (Nat×Ann)
def Anns.get:Anns→Nat→Option Ann
 | [],_=>none
 | (k,v) :: r,t=>cond (A8 k t) (some v) (Anns.get r t)
noncomputable def qj (A:Anns):Loops:=fun key _ s K=>match A.get key with
 | none=>none
 | some a=>match a.head.ext s with
  | none=>none
  | some x=>(a.fn x).bind fun r=>lQ K a.exits r
def Ex.same:Ex→Ex→Bool
 | .normal,.normal=>true
 | .exit i,.exit j=>A8 i j
 | .ret,.ret=>true
 | _,_=>false
def jf:(l:List (Ex×Shape))→Ex→St→Option (kK l)
 | [],_,_=>none
 | p :: l,e,s=>cond (Ex.same p.1 e) ((p.2.ext s).bind fun x=>some (.inl x)) ((jf l e s).bind fun x=>some (.inr x))
noncomputable def round (C:Ctx) (A:Anns) (a:Ann) (body:Code) (x:a.head.ty.den):Option (a.head.ty.den⊕kK a.exits) :=
 dd C (qj A) body (fun e s=>match e with
  | .normal=>(a.head.ext s).bind fun y=>some (.inl y)
  | .exit i=>(jf a.exits (.exit i) s).bind fun y=>some (.inr y)
  | .ret=>(jf a.exits .ret s).bind fun y=>some (.inr y)) (a.head.inj x)
abbrev oF:=List (ResultVar×Bool×Ty)
def ig (s:St):ResultVar→Ty→Option SV
 | .tmp t,_=>some (s.env.get t)
 | .cell t _,τ=>match s.env.get t with
  | .av (.ptr id off)=>match s.G.get id with
   | some (.box l)=>match pu τ.size (l.drop off) with
    | some c=>some (lU τ c)
    | none=>none
   | _=>none
  | _=>none
def results (s:St):(outs:oF)→Option (aB ((outs.map (·.2)).map (·.2))).den
 | []=>some ()
 | p :: r=>match ig s p.1 p.2.2 with
  | some v=>match aW s.G p.2.2 v with
   | some x=>match results s r with
    | some y=>some (x,y)
    | none=>none
   | none=>none
  | none=>none
def aV (s:St) (own:Bool):oF→List Nat
 | []=>[]
 | p :: r=>(match ig s p.1 p.2.2 with
  | some v=>cond (own == p.2.1) (eH s.G v) []
  | none=>[])++aV s own r
def bE (d:Bool):(τ : Ty)→List Atom→Bool×List Atom
 | .prod a b,l=>let p:=bE d a l; let q:=bE d b p.2; (p.1 && q.1,q.2)
 | .unit,l=>(true,l)
 | .slice e,a :: l=>(fe (d && e.isSl) a,l)
 | .int _,_ :: l=>(true,l)
 | .bool,_ :: l=>(true,l)
 | .str,_ :: l=>(true,l)
 | _,_=>(false,[])
def Ty.plain:Ty→Bool
 | .int _=>true
 | .bool=>true
 | .str=>true
 | .prod a b=>a.plain && b.plain
 | .unit=>true
 | _=>false
def By (d:Bool) (τ : Ty):SV→Bool
 | .av (.val σ _)=>σ.plain
 | .av a=>(bE d τ [a]).1
 | .agg l=>(bE d τ l).1
 | .tup _=>false
def ii (d:Bool) (s:St):oF→Bool
 | []=>true
 | p :: r=>cond p.2.1 (match ig s p.1 p.2.2 with
  | some v=>By d p.2.2 v
  | none=>false) true && ii d s r
def ce (s:St):(ins:List (Mode×Ty))→Nat→Option (aB (aY ins)).den
 | [],_=>some ()
 | (.rd,_) :: r,i=>ce s r (i+1)
 | (.take,_) :: r,i=>ce s r (i+1)
 | (.upd,τ) :: r,i=>match τ,s.G.get i with
  | .slice e,some (.arr σ l)=>match bG (.slice e) (.slice σ) l with
   | some x=>match ce s r (i+1) with
    | some y=>some (x,y)
    | none=>none
   | none=>none
  | _,_=>none
 | (.box k,τ) :: r,i=>match τ,s.G.get i with
  | .ptr T,some (.box l)=>cond ((jo k 0 T l).1) (match ay s.G T l with
   | some (x,[])=>match ce s r (i+1) with
    | some y=>some (x,y)
    | none=>none
   | _=>none) none
  | _,_=>none
def kT:List (Mode×Ty)→Nat→List Nat
 | [],_=>[]
 | (.upd,_) :: r,i=>i :: kT r (i+1)
 | (.box _,_) :: r,i=>i :: kT r (i+1)
 | (_,_) :: r,i=>kT r (i+1)
def bQ (own:Bool) (G:Heap):List (Mode×Ty)→Nat→List Nat
 | [],_=>[]
 | (.upd,_) :: r,i=>cond own [i] []++bQ own G r (i+1)
 | (.box k,_) :: r,i=>cG own k G (.av (.ptr i 0))++bQ own G r (i+1)
 | (_,_) :: r,i=>bQ own G r (i+1)
def fh:(ins:List (Mode×Ty))→Nat→(aB (ins.map (·.2))).den→Env
 | [],_,_=>[]
 | (.rd,τ) :: r,i,x=>(i,.av (.val τ x.1)) :: fh r (i+1) x.2
 | (.box _,_) :: r,i,x=>(i,.av (.ptr i 0)) :: fh r (i+1) x.2
 | (_,_) :: r,i,x=>(i,.av (.own i)) :: fh r (i+1) x.2
def aU:(ins:List (Mode×Ty))→Nat→(aB (ins.map (·.2))).den→Heap
 | [],_,_=>[]
 | (.rd,_) :: r,i,x=>aU r (i+1) x.2
 | (.upd,.slice e) :: r,i,x=>(i,.arr e x.1) :: aU r (i+1) x.2
 | (.take,.slice e) :: r,i,x=>(i,.arr e x.1) :: aU r (i+1) x.2
 | (.box _,.ptr T) :: r,i,x=>(i,.box (A6 T.size .u)) :: aU r (i+1) x.2
 | (_,_) :: r,i,x=>aU r (i+1) x.2
def vJ:List (Mode×Ty)→Nat→List SV
 | [],_=>[]
 | _ :: r,i=>.av (.ptr i 0) :: vJ r (i+1)
def jR:(ins:List (Mode×Ty))→(aB (ins.map (·.2))).den→(aB (aY ins)).den
 | [],_=>()
 | (.rd,_) :: r,x=>jR r x.2
 | (.take,_) :: r,x=>jR r x.2
 | (.upd,_) :: r,x=>(x.1,jR r x.2)
 | (.box _,_) :: r,x=>(x.1,jR r x.2)
def kI:(outs:List Ty)→(m:List Ty)→(aB outs).den→(aB m).den→(aB (outs++m)).den
 | [],_,_,y=>y
 | _ :: r,m,x,y=>(x.1,kI r m x.2 y)
def xx (ins:List (Mode×Ty)) (outs:oF) (s:St) (d:Bool:=false):Option (aB ((outs.map (·.2)).map (·.2)++aY ins)).den :=
 cond (ii d s outs && aK (aV s true outs) && e9 (aV s true outs) (aV s false outs)
   && e9 (aV s true outs) (bQ true s.G ins 0) && e9 (aV s false outs) (bQ true s.G ins 0)
   && aK (bQ true s.G ins 0) && e9 (aV s true outs) (bQ false s.G ins 0) && e9 (bQ false s.G ins 0) (bQ true s.G ins 0)) (
  match results s outs with
  | some x=>match ce s ins 0 with
   | some y=>some (kI ((outs.map (·.2)).map (·.2)) (aY ins) x y)
   | none=>none
  | none=>none) none
noncomputable def qP (C:Ctx) (A:Anns) (body:Code) (ins:List (Mode×Ty)) (outs:oF) (x:(aB (ins.map (·.2))).den) (d:Bool:=false):Option (aB ((outs.map (·.2)).map (·.2)++aY ins)).den :=
 match bH ins (vJ ins 0) (jR ins x) 0 (aU ins 0 x) with
 | some G=>dd C (qj A) body (fun e s=>match e with
  | .exit _=>none
  | .normal=>xx ins outs s d
  | .ret=>xx ins outs s d) { env:=fh ins 0 x,G:=G }
 | none=>none
end Go.Vm
namespace Go.Vm
inductive Rounds {σ ρ : Type} (f : σ→Option (σ⊕ρ)) : σ→ρ→Prop
 | last {s : σ} {r : ρ} (h:f s=some (.inr r)):Rounds f s r
 | more {s t : σ} {r : ρ} (h:f s=some (.inl t)) (k:Rounds f t r):Rounds f s r
def wo {σ ρ : Type} (f : σ→Option (σ⊕ρ)):Nat→σ→Option ρ
 | 0,_=>none
 | n+1,s=>match f s with
  | some (.inl t)=>wo f n t
  | some (.inr r)=>some r
  | none=>none
open Classical in
noncomputable def aa {σ ρ : Type} (f : σ→Option (σ⊕ρ)) (s : σ):Option ρ :=
 match wo f 1000000 s with
 | some r=>some r
 | none=>if h:∃ r,Rounds f s r then some h.choose else none
theorem nM {σ ρ : Type} {f : σ→Option (σ⊕ρ)} {r : ρ}:∀ {n:Nat} {s : σ},wo f n s=some r→Rounds f s r
 | 0,_,h=>by simp [wo] at h
 | n+1,s,h=>by
  simp only [wo] at h
  split at h
  ·rename_i t ht; exact .more ht (nM h)
  ·rename_i r' hr; cases h; exact .last hr
  ·cases h
theorem Rounds.det {σ ρ : Type} {f : σ→Option (σ⊕ρ)} {s : σ} {r r' : ρ} (h:Rounds f s r) (h':Rounds f s r'):r=r':=by
 induction h with
 | last h =>
  cases h' with
  | last h2=>rw [h] at h2; simpa using h2
  | more h2 _=>rw [h] at h2; simp at h2
 | more h _ ih =>
  cases h' with
  | last h2=>rw [h] at h2; simp at h2
  | more h2 k2=>rw [h] at h2; simp at h2; subst h2; exact ih k2
theorem dl {σ ρ : Type} {f : σ→Option (σ⊕ρ)} {s : σ} {r : ρ}:aa f s=some r↔Rounds f s r:=by
 unfold aa
 split
 ·rename_i r' hr
  have h':=nM hr
  constructor
  ·intro h; cases h; exact h'
  ·intro h; rw [h'.det h]
 ·constructor
  ·intro h
   split at h
   ·rename_i hx; simp at h; subst h; exact hx.choose_spec
   ·simp at h
  ·intro h
   have hx:∃ r,Rounds f s r:=⟨r,h⟩
   rw [dif_pos hx]
   exact congrArg some (hx.choose_spec.det h)
theorem mG {σ ρ : Type} (f : σ→Option (σ⊕ρ)) (s : σ):aa f s=(f s).bind (K8 (aa f) some):=by
 cases h:f s with
 | none =>
  simp only [Option.bind_none]
  cases hl:aa f s with
  | none=>rfl
  | some r=>have:=dl.1 hl; cases this <;> simp_all
 | some t =>
  simp only [gr]
  cases t with
  | inl t =>
   simp only [Sum.elim_inl]
   cases hl:aa f t with
   | some r=>exact dl.2 (.more h (dl.1 hl))
   | none =>
    cases hs:aa f s with
    | none=>rfl
    | some r =>
     have hr:=dl.1 hs
     cases hr with
     | last h2=>simp_all
     | more h2 k =>
      rw [h] at h2; simp at h2; subst h2
      rw [dl.2 k] at hl; simp at hl
  | inr r=>exact dl.2 (.last h)
def gu (key:Nat):Code→Option Code
 | .seq a b=>match gu key a with
  | some c=>some c
  | none=>gu key b
 | .cond _ a b=>match gu key a with
  | some c=>some c
  | none=>gu key b
 | .block _ c=>gu key c
 | .scope c=>gu key c
 | .loop c=>cond (A8 (fU c) key) (some c) (gu key c)
 | _=>none
def fX (key:Nat) (c:Code):Code:=(gu key c).getD .skip
def ip (f:Func):Code:=f.body.getD .skip
end Go.Vm

/-
 How the abstract machine's values stand in memory.
-/
namespace Go.Vm
def seg (c:Array Value) (o n:Nat):List Value:=(c.toList.drop o).take n
theorem cA (c:Array Value) (o n:Nat) (h:o+n≤c.size):(seg c o n).length=n:=by
 unfold seg; simp; omega
theorem seg_getElem? (c:Array Value) (o n i:Nat) (h:i < n):(seg c o n)[i]?=c[o+i]?:=by
 unfold seg; rw [Ls]; simp [h,L5]
def Rd (w:World) (F:Nat→Prop):(τ : Ty)→List Value→τ.den→Prop
 | .int k,cs,n=>cs=[.int k n]∧k.min≤n∧n≤k.max
 | .bool,cs,b=>cs=[.bool b]
 | .str,cs,s=>cs=[.string s]∧s.size≤maxLen
 | .slice e,cs,l=>∃ a cap,cs=[.slice a l.length cap]∧l.length≤cap∧cap≤maxLen ∧
   (l≠[]→∃ b off c el fz,a=some ⟨b,off,none⟩∧F b∧w.heap[b]?=some (.cells c el fz)∧off+l.length * e.size≤c.size ∧
    ∀ i (h:i < l.length),Rd w F e (seg c (off+i * e.size) e.size) l[i])
 | .prod a b,cs,x=>∃ c1 c2,cs=c1++c2∧Rd w F a c1 x.1∧Rd w F b c2 x.2
 | .unit,cs,_=>cs=[]
 | .arr n e,cs,l=>l.length=n∧cs.length=n * e.size∧∀ i (h:i < l.length),Rd w F e ((cs.drop (i * e.size)).take e.size) l[i]
 | .ptr e,cs,x=>∃ b off c el fz,cs=[.pointer (some ⟨b,off,none⟩)]∧F b∧w.heap[b]?=some (.cells c el fz)∧off+e.size≤c.size ∧
   Rd w F e (seg c off e.size) x
 | .clo g e,cs,x=>∃ vs:List Value,cs=[.func (.func g) #[] vs.toArray]∧Rd w F e vs x
theorem Rd.len {w:World} {F:Nat→Prop}:∀ {τ : Ty} {cs:List Value} {x : τ.den},Rd w F τ cs x→cs.length=τ.size
 | .int _,_,_,h=>by obtain ⟨rfl,_⟩:=h; rfl
 | .bool,_,_,h=>by unfold Rd at h; subst h; rfl
 | .str,_,_,h=>by obtain ⟨rfl,_⟩:=h; rfl
 | .slice _,_,_,h=>by obtain ⟨_,_,rfl,_⟩:=h; rfl
 | .prod a b,_,_,h=>by obtain ⟨c1,c2,rfl,h1,h2⟩:=h; simp [Ty.size,h1.len,h2.len]
 | .unit,_,_,h=>by unfold Rd at h; subst h; rfl
 | .arr n e,_,_,h=>by obtain ⟨_,h,_⟩:=h; simpa [Ty.size] using h
 | .ptr _,_,_,h=>by obtain ⟨_,_,_,_,_,rfl,_⟩:=h; rfl
 | .clo _ _,_,_,h=>by obtain ⟨_,rfl,_⟩:=h; rfl
theorem Rd.mono {w w':World} {F F':Nat→Prop} (hF:∀ b,F b→F' b∧w'.heap[b]?=w.heap[b]?) :
  ∀ {τ : Ty} {cs:List Value} {x : τ.den},Rd w F τ cs x→Rd w' F' τ cs x
 | .int _,_,_,h=>h
 | .bool,_,_,h=>h
 | .str,_,_,h=>h
 | .slice e,_,l,h=>by
  obtain ⟨a,cap,h1,h2,h3,h4⟩:=h
  refine ⟨a,cap,h1,h2,h3,fun hl=>?_⟩
  obtain ⟨b,off,c,el,fz,q1,q2,q3,q4,q5⟩:=h4 hl
  exact ⟨b,off,c,el,fz,q1,(hF b q2).1,by rw [(hF b q2).2]; exact q3,q4,fun i hi=>(q5 i hi).mono hF⟩
 | .prod a b,_,_,h=>by
  obtain ⟨c1,c2,h1,h2,h3⟩:=h
  exact ⟨c1,c2,h1,h2.mono hF,h3.mono hF⟩
 | .unit,_,_,h=>h
 | .arr n e,_,l,h=>by
  obtain ⟨h1,h2,h3⟩:=h
  exact ⟨h1,h2,fun i hi=>(h3 i hi).mono hF⟩
 | .ptr e,_,_,h=>by
  obtain ⟨b,off,c,el,fz,q1,q2,q3,q4,q5⟩:=h
  exact ⟨b,off,c,el,fz,q1,(hF b q2).1,by rw [(hF b q2).2]; exact q3,q4,q5.mono hF⟩
 | .clo g e,_,_,h=>by
  obtain ⟨vs,h1,h2⟩:=h
  exact ⟨vs,h1,h2.mono hF⟩
theorem Rd.one {w:World} {F:Nat→Prop}:∀ {τ : Ty} {cs:List Value} {x : τ.den},Rd w F τ cs x→∀ u∈cs,u.oneCell'=true
 | .int _,_,_,h=>by obtain ⟨rfl,_⟩:=h; simp [Value.oneCell']
 | .bool,_,_,h=>by unfold Rd at h; subst h; simp [Value.oneCell']
 | .str,_,_,h=>by obtain ⟨rfl,_⟩:=h; simp [Value.oneCell']
 | .slice _,_,_,h=>by obtain ⟨_,_,rfl,_⟩:=h; simp [Value.oneCell']
 | .prod a b,_,_,h=>by
  obtain ⟨c1,c2,rfl,h1,h2⟩:=h
  intro u hu
  rcases B1.1 hu with hu | hu
  ·exact h1.one u hu
  ·exact h2.one u hu
 | .unit,_,_,h=>by unfold Rd at h; subst h; simp
 | .arr n e,cs,l,h=>by
  obtain ⟨h1,h2,h3⟩:=h
  intro u hu
  obtain ⟨k,hk,rfl⟩:=Mj hu
  have hs:0 < e.size:=by
   rcases OF e.size with hz | hz
   ·rw [hz] at h2; simp at h2; subst h2; simp at hk
   ·exact hz
  have hkn:k / e.size < n:=by rw [Nat.div_lt_iff_lt_mul hs]; omega
  have hd:=Nat.div_add_mod k e.size
  have hm:=Nat.mod_lt k hs
  refine (h3 (k / e.size) (by omega)).one _ ?_
  rw [LM]
  refine ⟨k % e.size,?_⟩
  rw [Ls,if_pos hm,L5]
  have:k / e.size * e.size+k % e.size=k:=by rw [Nat.mul_comm]; exact hd
  rw [this]; simp
 | .ptr _,_,_,h=>by obtain ⟨_,_,_,_,_,rfl,_⟩:=h; simp [Value.oneCell']
 | .clo _ _,_,_,h=>by obtain ⟨_,rfl,_⟩:=h; simp [Value.oneCell']
def toV (τ : Ty) (cs:List Value):Value:=cond τ.isAgg (.agg cs.toArray) (cs.headD undef)
theorem jm {v:Value} (h:v.oneCell'=true):v.cells=#[v]:=by
 cases v <;> simp_all [Value.oneCell',Value.cells]
theorem gZ {τ : Ty} (h : τ.isAgg=false) : τ.size=1:=by
 cases τ <;> simp_all [Ty.isAgg,Ty.size]
theorem Rd.single {w:World} {F:Nat→Prop} {τ : Ty} {cs:List Value} {x : τ.den} (h:Rd w F τ cs x) (ha : τ.isAgg=false) :
  ∃ v,cs=[v]∧v.oneCell'=true:=by
 have hl:=h.len
 rw [gZ ha] at hl
 match cs,hl with
 | [v],_=>exact ⟨v,rfl,h.one v (by simp)⟩
theorem mf {w:World} {F:Nat→Prop} {τ : Ty} {cs:List Value} {x : τ.den} (h:Rd w F τ cs x):(toV τ cs).cells=cs.toArray:=by
 unfold toV
 cases ha : τ.isAgg with
 | true=>rfl
 | false =>
  obtain ⟨v,rfl,hv⟩:=h.single ha
  simpa using jm hv
structure Mem where
 w:World
 F:Nat→Prop
 ι : Nat→Value
 G:Heap
def HB1:Value→Nat→Prop
 | .slice (some a) _ cap,b=>cap≠0∧a.block=b
 | .pointer (some a),b=>a.block=b
 | .map (some r),b=>r=b
 | _,_=>False
def HB (v:Value) (b:Nat):Prop:=match v with
 | .tuple us=>∃ u∈us.toList,HB1 u b
 | v=>HB1 v b
theorem Es {v:Value} {b:Nat} (h:v.oneCell'=true):HB v b↔HB1 v b:=by
 cases v <;> simp_all [HB,Value.oneCell']
def qY (v0:Value) (size off len:Nat) (v:Value):Prop :=
 ∃ a n cap ad,v0=.slice a n cap∧v=.slice ad len (cap - off)∧(cap≠off→ad=a.map (·.add (off * size)))
def isObj (o:Obj):Bool:=match o with | .dead=>false | _=>true
def isDeep (o:Obj):Bool:=match o with | .deep ..=>true | _=>false
def Rel2 {α β : Type} (r : α→β→Prop):List α→List β→Prop
 | [],[]=>True
 | a :: l,b :: k=>r a b∧Rel2 r l k
 | _,_=>False
theorem Rel2.length {α β : Type} {r : α→β→Prop}:∀ {l:List α} {k:List β},Rel2 r l k→l.length=k.length
 | [],[],_=>rfl
 | _ :: _,_ :: _,h=>by simp [Rel2.length h.2]
theorem Rel2.mono {α β : Type} {r s : α→β→Prop} (hr:∀ a b,r a b→s a b):∀ {l:List α} {k:List β},Rel2 r l k→Rel2 s l k
 | [],[],_=>trivial
 | _ :: _,_ :: _,h=>⟨hr _ _ h.1,Rel2.mono hr h.2⟩
theorem Rel2.append {α β : Type} {r : α→β→Prop}:∀ {l:List α} {k:List β} {l':List α} {k':List β},Rel2 r l k→Rel2 r l' k'→Rel2 r (l++l') (k++k')
 | [],[],_,_,_,h=>h
 | _ :: _,_ :: _,_,_,h,h'=>⟨h.1,Rel2.append h.2 h'⟩
theorem Rel2.get {α β : Type} {r : α→β→Prop}:∀ {l:List α} {k:List β},Rel2 r l k→∀ {i:Nat} {b : β},k[i]?=some b→∃ a,l[i]?=some a∧r a b
 | [],[],_,i,b,hb=>by simp at hb
 | a :: l,b' :: k,h,0,b,hb=>by simp at hb; subst hb; exact ⟨a,rfl,h.1⟩
 | a :: l,b' :: k,h,i+1,b,hb=>by simpa using Rel2.get h.2 (i:=i) (b:=b) (by simpa using hb)
theorem Rel2.drop {α β : Type} {r : α→β→Prop}:∀ (n:Nat) {l:List α} {k:List β},Rel2 r l k→Rel2 r (l.drop n) (k.drop n)
 | 0,_,_,h=>h
 | _+1,[],[],_=>trivial
 | n+1,_ :: _,_ :: _,h=>Rel2.drop n h.2
theorem Rel2.take {α β : Type} {r : α→β→Prop}:∀ (n:Nat) {l:List α} {k:List β},Rel2 r l k→Rel2 r (l.take n) (k.take n)
 | 0,_,_,_=>trivial
 | _+1,[],[],_=>trivial
 | n+1,_ :: _,_ :: _,h=>⟨h.1,Rel2.take n h.2⟩
def ae (m:Mem) (v:Value):Atom→Prop
 | .u=>True
 | .undef=>v=undef
 | .nils=>∃ a,v=.slice a 0 0
 | .val τ x=>Rd m.w m.F τ [v] x∧τ.isAgg=false
 | .own id=>v.oneCell'=true∧∃ o,m.G.get id=some o∧(isObj o=true→v=m.ι id)
 | .view id off len=>v.oneCell'=true∧∃ o,m.G.get id=some o∧(match o with
  | .arr τ l=>off+len≤l.length∧qY (m.ι id) τ.size off len v
  | .dead=>True
  | _=>False)
 | .ptr id off=>v.oneCell'=true∧∃ o,m.G.get id=some o∧(match o with
  | .box _=>∃ b,m.ι id=.pointer (some ⟨b,0,none⟩)∧v=.pointer (some ⟨b,off,none⟩)
  | .dead=>True
  | _=>False)
 | .aptr id j p=>v.oneCell'=true∧∃ o,m.G.get id=some o∧(match o with
  | .arr τ l=>j < l.length∧∃ b off n cap q,m.ι id=.slice (some ⟨b,off,none⟩) n cap∧dj τ p=some q∧v=.pointer (some ⟨b,off+j * τ.size+q.1,none⟩)
  | .deep _ _ l _=>j < l.length∧p=[]∧∃ b off n cap us,m.ι id=.tuple us∧us[0]?=some (.slice (some ⟨b,off,none⟩) n cap)∧v=.pointer (some ⟨b,off+j,none⟩)
  | .dead=>True
  | _=>False)
 | .cut id off len=>v.oneCell'=true∧∃ o,m.G.get id=some o∧(match o with
  | .arr τ l=>off+len≤l.length∧0 < len∧∃ b o' n cap,m.ι id=.slice (some ⟨b,o',none⟩) n cap∧v=.slice (some ⟨b,o'+off * τ.size,none⟩) len len
  | .dead=>True
  | _=>False)
 | .bnd f l=>∃ us:List Value,v=.func (.func f) #[.agg us.toArray] #[]∧(∀ u∈us,u.oneCell'=true)∧Rel2 (fun u (p:Σ t:Ty,t.den)=>Rd m.w m.F p.1 [u] p.2∧p.1.isAgg=false) us l
 | .clo f caps=>∃ vs:List Value,v=.func (.func f) #[] vs.toArray ∧
   Rel2 (fun u c=>∃ o,m.G.get c=some o∧(match o with
    | .box _=>∃ b,m.ι c=.pointer (some ⟨b,0,none⟩)∧u=.pointer (some ⟨b,0,none⟩)
    | .dead=>True
    | _=>False)) vs caps
 | .ownd id=>v.oneCell'=true∧∃ o,m.G.get id=some o∧(match o with
  | .deep ..=>∃ us,m.ι id=.tuple us∧us[0]?=some v
  | .dead=>True
  | _=>False)
 | .sub id ver j=>v.oneCell'=true∧∃ o,m.G.get id=some o∧(match o with
  | .deep ver' _ l hole=>ver≤ver'∧(ver=ver'→j < l.length∧hole=none∧∃ us,m.ι id=.tuple us∧us[j+1]?=some v)
  | .dead=>True
  | _=>False)
 | .saptr id ver j k=>v.oneCell'=true∧∃ o,m.G.get id=some o∧(match o with
  | .deep ver' τ l hole=>ver≤ver'∧(ver=ver'→j < l.length∧hole=none∧∃ us b off n cap,m.ι id=.tuple us∧us[j+1]?=some (.slice (some ⟨b,off,none⟩) n cap)∧k < n∧v=.pointer (some ⟨b,off+k * τ.size,none⟩))
  | .dead=>True
  | _=>False)
 | .ownm id=>v.oneCell'=true∧∃ o,m.G.get id=some o∧(match o with
  | .map ..=>v=m.ι id
  | .dead=>True
  | _=>False)
def gB (m:Mem) (v:Value) (p:Bool×List Atom):Prop :=
 cond p.1 (∃ us:List Value,v=.agg us.toArray∧(∀ u∈us,u.oneCell'=true)∧Rel2 (ae m) us p.2) (∃ a,p.2=[a]∧ae m v a)
def RelSV (m:Mem) (v:Value):SV→Prop
 | .av (.val τ x)=>∃ cs,v=toV τ cs∧Rd m.w m.F τ cs x
 | .av a=>ae m v a
 | .agg l=>∃ us:List Value,v=.agg us.toArray∧(∀ u∈us,u.oneCell'=true)∧Rel2 (ae m) us l
 | .tup l=>∃ us:List Value,v=.tuple us.toArray∧Rel2 (gB m) us l
def d8 (e:Ty) (n:Nat) (fz:Nat×Nat):Prop:=fz.2≤fz.1∨(e=.int .u8∧n≤fz.1)
def HdrW (w:World) (F:Nat→Prop) (u:Value) (e:Ty) (l:List e.den):Prop :=
 ∃ ad cap,u=.slice ad l.length cap∧l.length≤cap∧cap≤maxLen ∧
  (cap≠0→∃ b off c el fz,ad=some ⟨b,off,none⟩∧w.heap[b]?=some (.cells c el fz)∧d8 e c.size fz∧off+cap * e.size≤c.size ∧
   ∀ i (h:i < l.length),Rd w F e (seg c (off+i * e.size) e.size) l[i])
def cz (l:List Value):Prop:=l.Pairwise fun u v=>∀ b,HB u b→HB v b→False
structure DeepW (w:World) (F:Nat→Prop) (u:Value) (hs:List Value) (e:Ty) (l:List (List e.den)) (hole:Option Nat):Prop where
 len:hs.length=l.length
 outer:∃ ad cap,u=.slice ad l.length cap∧l.length≤cap∧cap≤maxLen ∧
  (cap≠0→∃ b off c el fz,ad=some ⟨b,off,none⟩∧w.heap[b]?=some (.cells c el fz)∧d8 (.slice e) c.size fz∧off+cap≤c.size ∧
   ∀ i,i < l.length→hole≠some i→c[off+i]?=hs[i]?)
 inner:∀ i (h:i < l.length) v,hs[i]?=some v→hole≠some i→HdrW w F v e l[i]
 gone:∀ i v,hole=some i→hs[i]?=some v→v=.slice none 0 0
 apart:cz (u :: hs)
def EntsW (w:World) (F:Nat→Prop) (k v:Ty) (es:List MapEntry) (l:List (k.den×v.den)):Prop :=
 es.length=l.length∧∀ i (h:i < es.length) (h':i < l.length),(∃ cs,es[i].key=toV k cs∧Rd w F k cs l[i].1)∧∃ cs,es[i].val=toV v cs∧Rd w F v cs l[i].2
def db (m:Mem) (id:Nat):Obj→Prop
 | .dead=>True
 | .arr τ l=>∃ a cap,m.ι id=.slice a l.length cap∧l.length≤cap∧cap≤maxLen ∧
   (cap≠0→∃ b off c el fz,a=some ⟨b,off,none⟩∧m.w.heap[b]?=some (.cells c el fz)∧d8 τ c.size fz∧off+cap * τ.size≤c.size ∧
    ∀ i (h:i < l.length),Rd m.w m.F τ (seg c (off+i * τ.size) τ.size) l[i])
 | .box l=>∃ b c el,m.ι id=.pointer (some ⟨b,0,none⟩)∧m.w.heap[b]?=some (.cells c el (0,0))∧(∀ u∈c.toList,u.oneCell'=true)∧Rel2 (ae m) c.toList l
 | .deep _ τ l hole=>∃ u hs,m.ι id=.tuple (u :: hs).toArray∧DeepW m.w m.F u hs τ l hole
 | .map k v l=>(k≠.unit∧∃ b es clock,m.ι id=.map (some b)∧m.w.heap[b]?=some (.map es clock)∧EntsW m.w m.F k v es.toList l) ∨
   k=.unit∧∃ b x pos,m.ι id=.pointer (some ⟨b,0,none⟩)∧m.w.heap[b]?=some (.stringIter x pos)∧x.size≤maxLen∧KN k v l=some (x,(pos:Int))
def Alike:Obj→Obj→Prop
 | .arr τ l,.arr τ' l'=>τ=τ'∧l.length=l'.length
 | .box _,.box _=>True
 | .dead,.dead=>True
 | .deep ver τ l hole,.deep ver' τ' l' hole'=>ver=ver'∧τ=τ'∧l.length=l'.length∧hole=hole'
 | .map k v _,.map k' v' _=>k=k'∧v=v'
 | _,_=>False
theorem Alike.refl:∀ o,Alike o o
 | .arr _ _=>⟨rfl,rfl⟩
 | .box _=>trivial
 | .dead=>trivial
 | .deep ..=>⟨rfl,rfl,rfl,rfl⟩
 | .map ..=>⟨rfl,rfl⟩
theorem Alike.trans:∀ {o p q:Obj},Alike o p→Alike p q→Alike o q
 | .arr _ _,.arr _ _,.arr _ _,⟨a,b⟩,⟨c,d⟩=>⟨a.trans c,b.trans d⟩
 | .box _,.box _,.box _,_,_=>trivial
 | .dead,.dead,.dead,_,_=>trivial
 | .deep ..,.deep ..,.deep ..,⟨a,b,c,d⟩,⟨a',b',c',d'⟩=>⟨a.trans a',b.trans b',c.trans c',d.trans d'⟩
 | .map ..,.map ..,.map ..,⟨a,b⟩,⟨c,d⟩=>⟨a.trans c,b.trans d⟩
theorem Alike.isObj:∀ {o p:Obj},Alike o p→isObj p=isObj o
 | .arr _ _,.arr _ _,_=>rfl
 | .box _,.box _,_=>rfl
 | .dead,.dead,_=>rfl
 | .deep ..,.deep ..,_=>rfl
 | .map ..,.map ..,_=>rfl
theorem Alike.isDeep:∀ {o p:Obj},Alike o p→isDeep p=isDeep o
 | .arr _ _,.arr _ _,_=>rfl
 | .box _,.box _,_=>rfl
 | .dead,.dead,_=>rfl
 | .deep ..,.deep ..,_=>rfl
 | .map ..,.map ..,_=>rfl
def my (v v':Value):Obj→Obj→Prop
 | .deep ver τ l _,.deep ver' τ' l' _=>ver < ver'∧τ=τ'∧l.length=l'.length∧∃ us us',v=.tuple us∧v'=.tuple us'∧us[0]?=us'[0]?
 | _,_=>False
def Goon (v v':Value) (o o':Obj):Prop:=(v'=v∧Alike o o')∨my v v' o o'
theorem Goon.refl (v:Value) (o:Obj):Goon v v o o:=.inl ⟨rfl,Alike.refl o⟩
theorem Goon.isObj {v v':Value} {o o':Obj} (h:Goon v v' o o'):isObj o'=isObj o:=by
 rcases h with ⟨_,h⟩ | h
 ·exact h.isObj
 ·cases o <;> cases o' <;> simp_all [my,Go.Vm.isObj]
theorem Goon.isDeep {v v':Value} {o o':Obj} (h:Goon v v' o o'):isDeep o'=isDeep o:=by
 rcases h with ⟨_,h⟩ | h
 ·exact h.isDeep
 ·cases o <;> cases o' <;> simp_all [my,Go.Vm.isDeep]
theorem Goon.same {v v':Value} {o o':Obj} (h:Goon v v' o o') (hd:Go.Vm.isDeep o=false):v'=v∧Alike o o':=by
 rcases h with h | h
 ·exact h
 ·cases o <;> cases o' <;> simp_all [my,Go.Vm.isDeep]
theorem Goon.trans {v v' v'':Value} {o p q:Obj} (h:Goon v v' o p) (k:Goon v' v'' p q):Goon v v'' o q:=by
 rcases h with ⟨rfl,h⟩ | h <;> rcases k with ⟨rfl,k⟩ | k
 ·exact .inl ⟨rfl,h.trans k⟩
 ·refine .inr ?_
  cases o <;> cases p <;> cases q <;> simp only [my,Alike] at h k ⊢ <;> try exact h.elim
  all_goals try exact k.elim
  obtain ⟨rfl,rfl,h3,rfl⟩:=h
  obtain ⟨k1,rfl,k3,k4⟩:=k
  exact ⟨k1,rfl,h3.trans k3,k4⟩
 ·refine .inr ?_
  cases o <;> cases p <;> cases q <;> simp only [my,Alike] at h k ⊢ <;> try exact h.elim
  all_goals try exact k.elim
  obtain ⟨rfl,rfl,k3,rfl⟩:=k
  obtain ⟨h1,rfl,h3,h4⟩:=h
  exact ⟨h1,rfl,h3.trans k3,h4⟩
 ·refine .inr ?_
  cases o <;> cases p <;> cases q <;> simp only [my,Alike] at h k ⊢ <;> try exact h.elim
  all_goals try exact k.elim
  obtain ⟨h1,rfl,h3,us,us',rfl,rfl,h4⟩:=h
  obtain ⟨k1,rfl,k3,vs,vs',hv,rfl,k4⟩:=k
  simp only [Value.tuple.injEq] at hv
  subst hv
  exact ⟨by omega,rfl,h3.trans k3,us,vs',rfl,rfl,h4.trans k4⟩
structure Evo (m m':Mem):Prop where
 fro:∀ b,m.F b→m'.F b∧m'.w.heap[b]?=m.w.heap[b]?
 get:∀ id o,m.G.get id=some o→∃ o',m'.G.get id=some o'∧(o'=.dead∨Goon (m.ι id) (m'.ι id) o o')
theorem Evo.refl (m:Mem):Evo m m:=⟨fun _ h=>⟨h,rfl⟩,fun _ o h=>⟨o,h,.inr (Goon.refl _ o)⟩⟩
theorem iQ {m m':Mem} (he:Evo m m') {id:Nat} {o:Obj} {q:Obj→Prop} (ho:m.G.get id=some o) (hd:q .dead) (hg:∀ o',Goon (m.ι id) (m'.ι id) o o'→q o'):∃ o',m'.G.get id=some o'∧q o':=by
 obtain ⟨o',ho',h | h⟩:=he.get id o ho
 ·subst h; exact ⟨_,ho',hd⟩
 ·exact ⟨o',ho',hg o' h⟩
theorem bC {m m':Mem} (he:Evo m m') {v:Value}:∀ {a:Atom},ae m v a→ae m' v a
 | .u,_=>trivial
 | .undef,h=>h
 | .nils,h=>h
 | .val _ _,h=>⟨h.1.mono he.fro,h.2⟩
 | .own id,h=>by
  obtain ⟨hone,o,ho,hv⟩:=h
  refine ⟨hone,iQ he (q:=fun o=>isObj o=true→v=m'.ι id) ho (by simp [isObj]) ?_⟩
  intro o' hg hi
  rcases hg with ⟨h1,h2⟩ | h2
  ·rw [h1]; exact hv (by rw [← h2.isObj]; exact hi)
  ·cases o <;> cases o' <;> simp only [my] at h2
   obtain ⟨_,_,_,us,us',h3,h4,_⟩:=h2
   have:=hv rfl
   rw [this,h3] at hone
   simp [Value.oneCell'] at hone
 | .view id off len,h=>by
  obtain ⟨hone,o,ho,hv⟩:=h
  refine ⟨hone,iQ he ho trivial ?_⟩
  intro o' hg
  cases o with
  | arr τ l =>
   obtain ⟨hι,ha⟩:=hg.same rfl
   rw [hι]
   cases o' <;> simp_all [Alike]
  | dead =>
   obtain ⟨_,ha⟩:=hg.same rfl
   cases o' <;> simp_all [Alike]
  | _=>exact hv.elim
 | .ptr id off,h=>by
  obtain ⟨hone,o,ho,hv⟩:=h
  refine ⟨hone,iQ he ho trivial ?_⟩
  intro o' hg
  cases o with
  | box l =>
   obtain ⟨hι,ha⟩:=hg.same rfl
   rw [hι]
   cases o' <;> simp_all [Alike]
  | dead =>
   obtain ⟨_,ha⟩:=hg.same rfl
   cases o' <;> simp_all [Alike]
  | _=>exact hv.elim
 | .aptr id j p,h=>by
  obtain ⟨hone,o,ho,hv⟩:=h
  refine ⟨hone,iQ he ho trivial ?_⟩
  intro o' hg
  cases o with
  | arr τ l =>
   obtain ⟨hι,ha⟩:=hg.same rfl
   rw [hι]
   cases o' with
   | arr τ' l' =>
    obtain ⟨rfl,hl⟩:=ha
    exact ⟨hl ▸ hv.1,hv.2⟩
   | _=>exact ha.elim
  | dead =>
   obtain ⟨_,ha⟩:=hg.same rfl
   cases o' <;> simp_all [Alike]
  | deep ver τ l hole =>
   obtain ⟨h1,h2,b,off,n,cap,us,h3,h4,h5⟩:=hv
   rcases hg with ⟨hι,ha⟩ | hm
   ·cases o' with
    | deep ver' τ' l' hole' =>
     obtain ⟨_,rfl,hl,_⟩:=ha
     exact ⟨hl ▸ h1,h2,b,off,n,cap,us,hι ▸ h3,h4,h5⟩
    | _=>exact ha.elim
   ·cases o' with
    | deep ver' τ' l' hole' =>
     obtain ⟨_,rfl,hl,vs,vs',h6,h7,h8⟩:=hm
     rw [h3] at h6
     simp only [Value.tuple.injEq] at h6
     subst h6
     exact ⟨hl ▸ h1,h2,b,off,n,cap,vs',h7,h8 ▸ h4,h5⟩
    | _=>exact hm.elim
  | _=>exact hv.elim
 | .cut id off len,h=>by
  obtain ⟨hone,o,ho,hv⟩:=h
  refine ⟨hone,iQ he ho trivial ?_⟩
  intro o' hg
  cases o with
  | arr τ l =>
   obtain ⟨hι,ha⟩:=hg.same rfl
   rw [hι]
   cases o' with
   | arr τ' l' =>
    obtain ⟨rfl,hl⟩:=ha
    exact ⟨hl ▸ hv.1,hv.2⟩
   | _=>exact ha.elim
  | dead =>
   obtain ⟨_,ha⟩:=hg.same rfl
   cases o' <;> simp_all [Alike]
  | _=>exact hv.elim
 | .bnd f l,h=>by
  obtain ⟨us,h1,h0,h2⟩:=h
  exact ⟨us,h1,h0,h2.mono fun u p hp=>⟨hp.1.mono he.fro,hp.2⟩⟩
 | .clo f caps,h=>by
  obtain ⟨vs,hv,hr⟩:=h
  refine ⟨vs,hv,hr.mono ?_⟩
  rintro u c ⟨o,ho,hv⟩
  refine iQ he ho trivial ?_
  intro o' hg
  cases o with
  | box l =>
   obtain ⟨hι,ha⟩:=hg.same rfl
   rw [hι]
   cases o' <;> simp_all [Alike]
  | dead =>
   obtain ⟨_,ha⟩:=hg.same rfl
   cases o' <;> simp_all [Alike]
  | _=>exact hv.elim
 | .ownd id,h=>by
  obtain ⟨hone,o,ho,hv⟩:=h
  refine ⟨hone,iQ he ho trivial ?_⟩
  intro o' hg
  cases o with
  | dead =>
   obtain ⟨_,ha⟩:=hg.same rfl
   cases o' <;> simp_all [Alike]
  | deep ver τ l hole =>
   obtain ⟨us,h3,h4⟩:=hv
   rcases hg with ⟨hι,ha⟩ | hm
   ·cases o' with
    | deep ver' τ' l' hole'=>exact ⟨us,hι ▸ h3,h4⟩
    | _=>exact ha.elim
   ·cases o' with
    | deep ver' τ' l' hole' =>
     obtain ⟨_,rfl,hl,vs,vs',h6,h7,h8⟩:=hm
     rw [h3] at h6
     simp only [Value.tuple.injEq] at h6
     subst h6
     exact ⟨vs',h7,h8 ▸ h4⟩
    | _=>exact hm.elim
  | _=>exact hv.elim
 | .sub id ver j,h=>by
  obtain ⟨hone,o,ho,hv⟩:=h
  refine ⟨hone,iQ he ho trivial ?_⟩
  intro o' hg
  cases o with
  | dead =>
   obtain ⟨_,ha⟩:=hg.same rfl
   cases o' <;> simp_all [Alike]
  | deep ver1 τ l hole =>
   obtain ⟨h1,h2⟩:=hv
   rcases hg with ⟨hι,ha⟩ | hm
   ·cases o' with
    | deep ver' τ' l' hole' =>
     obtain ⟨rfl,rfl,hl,rfl⟩:=ha
     exact ⟨h1,fun e=>by rw [hι,← hl]; exact h2 e⟩
    | _=>exact ha.elim
   ·cases o' with
    | deep ver' τ' l' hole'=>exact ⟨by have:=hm.1; omega,fun e=>by have:=hm.1; omega⟩
    | _=>exact hm.elim
  | _=>exact hv.elim
 | .saptr id ver j k,h=>by
  obtain ⟨hone,o,ho,hv⟩:=h
  refine ⟨hone,iQ he ho trivial ?_⟩
  intro o' hg
  cases o with
  | dead =>
   obtain ⟨_,ha⟩:=hg.same rfl
   cases o' <;> simp_all [Alike]
  | deep ver1 τ l hole =>
   obtain ⟨h1,h2⟩:=hv
   rcases hg with ⟨hι,ha⟩ | hm
   ·cases o' with
    | deep ver' τ' l' hole' =>
     obtain ⟨rfl,rfl,hl,rfl⟩:=ha
     exact ⟨h1,fun e=>by rw [hι,← hl]; exact h2 e⟩
    | _=>exact ha.elim
   ·cases o' with
    | deep ver' τ' l' hole'=>exact ⟨by have:=hm.1; omega,fun e=>by have:=hm.1; omega⟩
    | _=>exact hm.elim
  | _=>exact hv.elim
 | .ownm id,h=>by
  obtain ⟨hone,o,ho,hv⟩:=h
  refine ⟨hone,iQ he ho trivial ?_⟩
  intro o' hg
  cases o with
  | dead =>
   obtain ⟨_,ha⟩:=hg.same rfl
   cases o' <;> simp_all [Alike]
  | map k x l =>
   obtain ⟨hι,ha⟩:=hg.same rfl
   cases o' with
   | map k' x' l'=>rw [hι]; exact hv
   | _=>exact ha.elim
  | _=>exact hv.elim
theorem dw {m m':Mem} (he:Evo m m') {vs:List Value} {l:List Atom} (h:Rel2 (ae m) vs l):Rel2 (ae m') vs l:=h.mono fun _ _=>bC he
theorem RelSV.of_atom {m:Mem} {v:Value} {a:Atom} (h:ae m v a):RelSV m v (.av a):=by
 cases a with
 | val τ x =>
  obtain ⟨h,ha⟩:=h
  exact ⟨[v],by simp [toV,ha],h⟩
 | _=>exact h
theorem ah {m:Mem} {v:Value} {a:Atom} (h:∀ τ x,a≠.val τ x):RelSV m v (.av a)↔ae m v a:=by
 cases a <;> first | exact Iff.rfl | exact absurd rfl (h _ _)
theorem gC {m m':Mem} (he:Evo m m') {v:Value}:∀ {s:SV},RelSV m v s→RelSV m' v s
 | .av a,h=>by
  cases a with
  | val τ x=>obtain ⟨cs,h1,h2⟩:=h; exact ⟨cs,h1,h2.mono he.fro⟩
  | _=>exact (ah (by intros; simp)).2 (bC he ((ah (by intros; simp)).1 h))
 | .agg l,h=>by obtain ⟨us,h1,h0,h2⟩:=h; exact ⟨us,h1,h0,dw he h2⟩
 | .tup l,h=>by
  obtain ⟨us,h1,h2⟩:=h
  refine ⟨us,h1,h2.mono ?_⟩
  rintro v ⟨b,l⟩ hv
  cases b with
  | true=>obtain ⟨us,h1,h0,h2⟩:=hv; exact ⟨us,h1,h0,dw he h2⟩
  | false=>obtain ⟨a,h1,h2⟩:=hv; exact ⟨a,h1,bC he h2⟩
theorem HdrW.mono {w w':World} {F F':Nat→Prop} {u:Value} {e:Ty} {l:List e.den} (hF:∀ b,F b→F' b∧w'.heap[b]?=w.heap[b]?) (hu:∀ b,HB u b→w'.heap[b]?=w.heap[b]?) (h:HdrW w F u e l):HdrW w' F' u e l:=by
 obtain ⟨ad,cap,rfl,h2,h3,h4⟩:=h
 refine ⟨ad,cap,rfl,h2,h3,fun hc=>?_⟩
 obtain ⟨b,off,c,el,fz,rfl,q2,q3,q4,q5⟩:=h4 hc
 refine ⟨b,off,c,el,fz,rfl,?_,q3,q4,fun i hi=>(q5 i hi).mono hF⟩
 rw [hu b (by simp [HB,HB1,hc])]; exact q2
theorem HdrW.slice {w:World} {F:Nat→Prop} {u:Value} {e:Ty} {l:List e.den} (h:HdrW w F u e l):∃ ad cap,u=.slice ad l.length cap:=by
 obtain ⟨ad,cap,h,_⟩:=h; exact ⟨ad,cap,h⟩
theorem DeepW.mono {w w':World} {F F':Nat→Prop} {u:Value} {hs:List Value} {e:Ty} {l:List (List e.den)} {hole:Option Nat} (hF:∀ b,F b→F' b∧w'.heap[b]?=w.heap[b]?)
  (hu:∀ v∈u :: hs,∀ b,HB v b→w'.heap[b]?=w.heap[b]?) (h:DeepW w F u hs e l hole):DeepW w' F' u hs e l hole:=by
 refine ⟨h.len,?_,fun i hi v hv hne=>(h.inner i hi v hv hne).mono hF (hu v (Ll _ (B2 hv))),h.gone,h.apart⟩
 obtain ⟨ad,cap,rfl,h2,h3,h4⟩:=h.outer
 refine ⟨ad,cap,rfl,h2,h3,fun hc=>?_⟩
 obtain ⟨b,off,c,el,fz,rfl,q2,q3,q4,q5⟩:=h4 hc
 refine ⟨b,off,c,el,fz,rfl,?_,q3,q4,q5⟩
 rw [hu _ (LL ..) b (by simp [HB,HB1,hc])]; exact q2
theorem DeepW.slices {w:World} {F:Nat→Prop} {u:Value} {hs:List Value} {e:Ty} {l:List (List e.den)} {hole:Option Nat} (h:DeepW w F u hs e l hole):∀ v∈u :: hs,∃ ad n cap,v=.slice ad n cap:=by
 intro v hv
 rcases B3.1 hv with rfl | hv
 ·obtain ⟨ad,cap,rfl,_⟩:=h.outer; exact ⟨_,_,_,rfl⟩
 ·obtain ⟨i,hi,rfl⟩:=Mj hv
  by_cases hh:hole=some i
  ·exact ⟨_,_,_,h.gone i _ hh (A2 hi)⟩
  ·obtain ⟨ad,cap,e,_⟩:=h.inner i (h.len ▸ hi) _ (A2 hi) hh
   exact ⟨_,_,_,e⟩
theorem bR {us:List Value} {b:Nat} (h:∀ v∈us,v.oneCell'=true):HB (.tuple us.toArray) b↔∃ v∈us,HB v b:=by
 constructor
 ·rintro ⟨u,hu,hb⟩
  exact ⟨u,by simpa using hu,(Es (h u (by simpa using hu))).2 hb⟩
 ·rintro ⟨u,hu,hb⟩
  exact ⟨u,by simpa using hu,(Es (h u hu)).1 hb⟩
theorem DeepW.one {w:World} {F:Nat→Prop} {u:Value} {hs:List Value} {e:Ty} {l:List (List e.den)} {hole:Option Nat} (h:DeepW w F u hs e l hole):∀ v∈u :: hs,v.oneCell'=true:=fun v hv=>by
 obtain ⟨ad,n,cap,rfl⟩:=h.slices v hv; rfl
theorem EntsW.mono {w w':World} {F F':Nat→Prop} {k v:Ty} {es:List MapEntry} {l:List (k.den×v.den)} (hF:∀ b,F b→F' b∧w'.heap[b]?=w.heap[b]?) (h:EntsW w F k v es l):EntsW w' F' k v es l :=
 ⟨h.1,fun i h1 h2=>by
  obtain ⟨⟨c1,q1,q2⟩,c2,q3,q4⟩:=h.2 i h1 h2
  exact ⟨⟨c1,q1,q2.mono hF⟩,c2,q3,q4.mono hF⟩⟩
theorem co {m m':Mem} (he:Evo m m') {id:Nat} {o:Obj} (hι : m'.ι id=m.ι id) (hb:∀ b,HB (m.ι id) b→m'.w.heap[b]?=m.w.heap[b]?)
  (h:db m id o):db m' id o:=by
 cases o with
 | dead=>trivial
 | arr τ l =>
  have h:HdrW m.w m.F (m.ι id) τ l:=h
  show HdrW m'.w m'.F (m'.ι id) τ l
  rw [hι]
  exact h.mono he.fro hb
 | box l =>
  obtain ⟨b,c,el,h1,h2,h0,h3⟩:=h
  refine ⟨b,c,el,by rw [hι,h1],?_,h0,dw he h3⟩
  rw [hb b (by rw [h1]; simp [HB,HB1])]; exact h2
 | deep ver τ l hole =>
  obtain ⟨u,hs,h1,h2⟩:=h
  refine ⟨u,hs,by rw [hι,h1],h2.mono he.fro fun v hv b hvb=>hb b ?_⟩
  rw [h1,bR h2.one]
  exact ⟨v,hv,hvb⟩
 | map k v l =>
  rcases h with ⟨h0,b,es,clock,h1,h2,h4⟩ | ⟨h0,b,x,pos,h1,h2,h4⟩
  ·refine .inl ⟨h0,b,es,clock,by rw [hι,h1],?_,h4.mono he.fro⟩
   rw [hb b (by rw [h1]; simp [HB,HB1])]; exact h2
  ·refine .inr ⟨h0,b,x,pos,by rw [hι,h1],?_,h4⟩
   rw [hb b (by rw [h1]; simp [HB,HB1])]; exact h2
structure Kept (w0:World) (M:Nat→Prop) (w:World):Prop where
 os:w.os=w0.os
 tape:w.tape=w0.tape
 output:w.output=w0.output
 size:w0.heap.size≤w.heap.size
 block:∀ b,b < w0.heap.size→¬ M b→w.heap[b]?=w0.heap[b]?
theorem Kept.refl (w:World) (M:Nat→Prop):Kept w M w:=⟨rfl,rfl,rfl,A7 _,fun _ _ _=>rfl⟩
structure Own where
 wr:Nat→Prop
 rd:Nat→Prop
 pin:Nat→Option Value
instance : CoeFun Own fun _=>Nat→Prop:=⟨Own.wr⟩
structure Inv (C:Ctx) (w0:World) (M:Own) (m:Mem):Prop where
 kept:Kept w0 M.wr m.w
 objs:∀ id o,m.G.get id=some o→db m id o
 own:∀ id o b,m.G.get id=some o→isObj o=true→HB (m.ι id) b→(w0.heap.size≤b∨M b)∧¬ m.F b∧b < m.w.heap.size
 inj:∀ i j o p b,m.G.get i=some o→isObj o=true→m.G.get j=some p→isObj p=true→HB (m.ι i) b→HB (m.ι j) b→i=j
 fro:∀ b,m.F b→b < m.w.heap.size
 glob:∀ g τ x,eK C.glob g=some ⟨τ,x⟩→Rd m.w m.F (.ptr τ) [.pointer (some ⟨g,0,none⟩)] x
 bnd:∀ b,m.F b→M.rd b∨M.wr b∨w0.heap.size≤b
 pin:∀ i v,M.pin i=some v→∃ o,m.G.get i=some o∧(isObj o=true→m.ι i=v∧isDeep o=false)
theorem cX {m m':Mem} (he:Evo m m') {i:Nat} {v:Value} (h:∃ o,m.G.get i=some o∧(isObj o=true→m.ι i=v∧isDeep o=false)):∃ o,m'.G.get i=some o∧(isObj o=true→m'.ι i=v∧isDeep o=false):=by
 obtain ⟨o,h1,h2⟩:=h
 obtain ⟨o',h3,h4⟩:=he.get i o h1
 refine ⟨o',h3,fun hob=>?_⟩
 rcases h4 with rfl | h5
 ·simp [isObj] at hob
 ·obtain ⟨h6,h7⟩:=h2 (by rw [← h5.isObj]; exact hob)
  exact ⟨(h5.same h7).1.trans h6,by rw [h5.isDeep]; exact h7⟩
structure Sim (C:Ctx) (w0:World) (M:Own) (N:Nat) (a:Act) (m:Mem) (e:Env):Prop where
 inv:Inv C w0 M m
 defers:a.defers=[]
 size:N≤a.tmps.size
 env:∀ t,RelSV m (a.tmps.getD t undef) (e.get t)
theorem Heap.get_cons (i:Nat) (o:Obj) (G:Heap) (j:Nat):Heap.get ((i,o) :: G) j=if i=j then some o else G.get j:=by
 simp only [Heap.get]
 cases h:A8 i j with
 | true=>simp [A5 h]
 | false=>simp [M8 h]
theorem Heap.has_of_get {G:Heap}:∀ {i:Nat} {o:Obj},G.get i=some o→G.has i=true:=by
 induction G with
 | nil=>intro i o h; simp [Heap.get] at h
 | cons p r ih =>
  intro i o h
  obtain ⟨k,v⟩:=p
  simp only [Heap.get] at h
  simp only [Heap.has]
  cases hk:A8 k i with
  | true=>rfl
  | false=>rw [hk] at h; exact ih h
theorem Env.get_cons (i:Nat) (v:SV) (e:Env) (j:Nat):Env.get ((i,v) :: e) j=if i=j then v else e.get j:=by
 simp only [Env.get]
 cases h:A8 i j with
 | true=>simp [A5 h]
 | false=>simp [M8 h]
theorem nr {C:Ctx} {w0:World} {M:Own} {m:Mem} (hi:Inv C w0 M m) {w1:World} (hw:Kept m.w (fun _=>False) w1) {i:Nat} {o:Obj} {h:Value}
  (hn:m.G.get i=none) (hb:∀ b,HB h b→m.w.heap.size≤b∧b < w1.heap.size)
  (ho:db ⟨w1,m.F,fun k=>if k=i then h else m.ι k,(i,o) :: m.G⟩ i o) :
  Inv C w0 M ⟨w1,m.F,fun k=>if k=i then h else m.ι k,(i,o) :: m.G⟩∧Evo m ⟨w1,m.F,fun k=>if k=i then h else m.ι k,(i,o) :: m.G⟩:=by
 have hold:∀ b,b < m.w.heap.size→w1.heap[b]?=m.w.heap[b]?:=fun b hb=>hw.block b hb (fun h=>h)
 have he:Evo m ⟨w1,m.F,fun k=>if k=i then h else m.ι k,(i,o) :: m.G⟩:=by
  refine ⟨fun b hF=>⟨hF,hold b (hi.fro b hF)⟩,fun id p hp=>?_⟩
  have hne:i≠id:=fun e=>by subst e; rw [hn] at hp; cases hp
  refine ⟨p,by rw [Heap.get_cons,if_neg hne]; exact hp,.inr (.inl ⟨by simp [Ne.symm hne],Alike.refl p⟩)⟩
 refine ⟨?_,he⟩
 refine ⟨?_,?_,?_,?_,?_,?_,hi.bnd,fun i v h=>cX he (hi.pin i v h)⟩
 ·refine ⟨hw.os.trans hi.kept.os,hw.tape.trans hi.kept.tape,hw.output.trans hi.kept.output,LQ hi.kept.size hw.size,fun b hb hM=>?_⟩
  have:=hi.kept.size
  exact (hold b (by omega)).trans (hi.kept.block b hb hM)
 ·intro id p hp
  rw [Heap.get_cons] at hp
  split at hp
  ·rename_i e; subst e; simp at hp; subst hp; exact ho
  ·rename_i hne
   by_cases hop:isObj p=true
   ·refine co he (by simp [Ne.symm hne]) (fun b hb=>hold b (hi.own id p b hp hop hb).2.2) (hi.objs id p hp)
   ·cases p <;> simp_all [isObj,db]
 ·intro id p b hp hop hbl
  rw [Heap.get_cons] at hp
  split at hp
  ·rename_i e; subst e
   have hbl':HB h b:=by simpa using hbl
   obtain ⟨h1,h2⟩:=hb b hbl'
   have:=hi.kept.size
   exact ⟨.inl (by omega),fun hF=>by have:=hi.fro b hF; omega,h2⟩
  ·rename_i hne
   have hbl':HB (m.ι id) b:=by simpa [Ne.symm hne] using hbl
   obtain ⟨h1,h2,h3⟩:=hi.own id p b hp hop hbl'
   exact ⟨h1,h2,LA h3 hw.size⟩
 ·intro j k p q b hp hop hq hoq hj hk
  rw [Heap.get_cons] at hp hq
  split at hp <;> split at hq
  ·omega
  ·rename_i e hne; subst e
   have h1:HB h b:=by simpa using hj
   have h2:HB (m.ι k) b:=by simpa [Ne.symm hne] using hk
   have:=(hi.own k q b hq hoq h2).2.2
   have:=(hb b h1).1
   omega
  ·rename_i hne e; subst e
   have h1:HB h b:=by simpa using hk
   have h2:HB (m.ι j) b:=by simpa [Ne.symm hne] using hj
   have:=(hi.own j p b hp hop h2).2.2
   have:=(hb b h1).1
   omega
  ·rename_i n1 n2
   exact hi.inj j k p q b hp hop hq hoq (by simpa [Ne.symm n1] using hj) (by simpa [Ne.symm n2] using hk)
 ·intro b hF; exact LA (hi.fro b hF) hw.size
 ·intro g τ x hg
  exact (hi.glob g τ x hg).mono he.fro
theorem Cf {C:Ctx} {w0:World} {M:Own} {m:Mem} (hi:Inv C w0 M m) {i:Nat} {o:Obj} (hg:m.G.get i=some o) :
  let m':Mem:=⟨m.w,fun b=>m.F b∨(isObj o=true∧HB (m.ι i) b),m.ι,(i,.dead) :: m.G⟩
  Inv C w0 M m'∧Evo m m':=by
 intro m'
 have he:Evo m m':=by
  refine ⟨fun b hF=>⟨.inl hF,rfl⟩,fun id p hp=>?_⟩
  by_cases e:i=id
  ·exact ⟨.dead,by show Heap.get ((i,.dead) :: m.G) id=_; rw [Heap.get_cons,if_pos e],.inl rfl⟩
  ·exact ⟨p,by show Heap.get ((i,.dead) :: m.G) id=_; rw [Heap.get_cons,if_neg e]; exact hp,.inr (Goon.refl _ p)⟩
 refine ⟨⟨hi.kept,?_,?_,?_,?_,?_,?_,fun i v h=>cX he (hi.pin i v h)⟩,he⟩
 ·intro id p hp
  change Heap.get ((i,.dead) :: m.G) id=_ at hp
  rw [Heap.get_cons] at hp
  split at hp
  ·simp at hp; subst hp; trivial
  ·exact co he rfl (fun _ _=>rfl) (hi.objs id p hp)
 ·intro id p b hp hop hbl
  change Heap.get ((i,.dead) :: m.G) id=_ at hp
  rw [Heap.get_cons] at hp
  split at hp
  ·simp at hp; subst hp; simp [isObj] at hop
  ·rename_i hne
   obtain ⟨h1,h2,h3⟩:=hi.own id p b hp hop hbl
   refine ⟨h1,?_,h3⟩
   rintro (hF | ⟨hio,hbi⟩)
   ·exact h2 hF
   ·exact hne (hi.inj i id o p b hg hio hp hop hbi hbl)
 ·intro j k p q b hp hop hq hoq hj hk
  change Heap.get ((i,.dead) :: m.G) _=_ at hp hq
  rw [Heap.get_cons] at hp hq
  split at hp
  ·simp at hp; subst hp; simp [isObj] at hop
  ·split at hq
   ·simp at hq; subst hq; simp [isObj] at hoq
   ·exact hi.inj j k p q b hp hop hq hoq hj hk
 ·rintro b (hF | ⟨hio,hbi⟩)
  ·exact hi.fro b hF
  ·exact (hi.own i o b hg hio hbi).2.2
 ·intro g τ x hx
  exact (hi.glob g τ x hx).mono he.fro
 ·rintro b (hF | ⟨hio,hbi⟩)
  ·exact hi.bnd b hF
  ·rcases (hi.own i o b hg hio hbi).1 with h | h
   ·exact .inr (.inr h)
   ·exact .inr (.inl h)
end Go.Vm

/-
 The table of types against the program's; the model's loads and stores at a typed place.
-/
namespace Go.Vm
def zeroIs:Ty→List Value→Option (List Value)
 | .int k,.int k' n :: r=>cond (decide (k'=k) && decide (n=0)) (some r) none
 | .bool,.bool b :: r=>cond b none (some r)
 | .str,.string s :: r=>cond (A8 s.size 0) (some r) none
 | .slice _,.slice none 0 0 :: r=>some r
 | .prod a b,l=>match zeroIs a l with
  | some r=>zeroIs b r
  | none=>none
 | .unit,l=>some l
 | .arr n e,l=>repO (zeroIs e) n l
 | _,_=>none
where
 repO (f:List Value→Option (List Value)):Nat→List Value→Option (List Value)
  | 0,l=>some l
  | k+1,l=>match f l with
   | some r=>repO f k r
   | none=>none
def ke (P:Program) (τ : Ty) (t:TypeId):Bool:=match P.info? t with
 | some i=>A8 i.size τ.size && decide (i.bytes≤2048) && (match i.zero with
  | some z=>(match zeroIs τ z.cells.toList with | some []=>true | _=>false) && (match z with | .agg _=>τ.isAgg | .tuple _=>false | _=>!τ.isAgg)
  | none=>false)
 | none=>false
def chk (P:Program):Ty→Option (List Field×Nat)→TypeId→Bool
 | .int k,none,t=>ke P (.int k) t && (match P.underlying t with | some (.int k')=>decide (k'=k) | _=>false)
 | .bool,none,t=>ke P .bool t && (match P.underlying t with | some .bool=>true | _=>false)
 | .str,none,t=>ke P .str t && (match P.underlying t with | some .string=>true | _=>false)
 | .slice e,none,t=>ke P (.slice e) t && (match P.underlying t with | some (.slice et)=>chk P e none et | _=>false)
 | .arr n e,none,t=>ke P (.arr n e) t && (match P.underlying t with | some (.array n' et)=>A8 n' n && chk P e none et | _=>false)
 | .prod a b,none,t=>ke P (.prod a b) t && (match P.underlying t with
  | some (.struct fs)=>(match fs.toList with
   | f :: r=>A8 f.offset 0 && chk P a none f.type && chk P b (some (r,a.size)) 0
   | []=>false)
  | _=>false)
 | .unit,none,t=>ke P .unit t && (match P.underlying t with
  | some (.struct fs)=>(match fs.toList with | []=>true | _=>false)
  | _=>false)
 | .prod a b,some (f :: r,o),_=>A8 f.offset o && chk P a none f.type && chk P b (some (r,o+a.size)) 0
 | .unit,some ([],_),_=>true
 | _,_,_=>false
def dX (P:Program) (T:Tab):Bool:=T.all fun p=>chk P p.2 none p.1
theorem ak {P:Program} {T:Tab} (h:dX P T=true) {t:Nat} {τ : Ty} (hg:T.get t=some τ):chk P τ none t=true:=by
 induction T with
 | nil=>simp [Tab.get] at hg
 | cons p r ih =>
  obtain ⟨k,v⟩:=p
  simp only [dX,List.all_cons,A4] at h
  simp only [Tab.get] at hg
  cases hk:A8 k t with
  | true=>rw [hk] at hg; simp at hg; subst hg; rw [← A5 hk]; exact h.1
  | false=>rw [hk] at hg; exact ih h.2 hg
section
variable {P:Program}
theorem Fz {τ : Ty} {t:TypeId} (h:chk P τ none t=true):ke P τ t=true:=by
 cases τ <;> simp only [chk,A4,LR] at h <;> first | exact h.1 | exact h.elim
theorem eI {τ : Ty} {t:TypeId} (h:chk P τ none t=true) :
  ∃ i z,P.info? t=some i∧i.size=τ.size∧i.bytes≤2048∧i.zero=some z∧zeroIs τ z.cells.toList=some []∧(τ.isAgg=true→∃ c,z=.agg c)∧(τ.isAgg=false→z.cells=#[z]):=by
 have hi:=Fz h
 unfold ke at hi
 cases hp:P.info? t with
 | none=>rw [hp] at hi; simp at hi
 | some i =>
  rw [hp] at hi
  simp only [A4,decide_eq_true_eq] at hi
  obtain ⟨⟨h1,h2⟩,h3⟩:=hi
  cases hz:i.zero with
  | none=>rw [hz] at h3; simp at h3
  | some z =>
   rw [hz] at h3
   simp only [A4] at h3
   obtain ⟨h3,h4⟩:=h3
   refine ⟨i,z,rfl,A5 h1,h2,hz,?_,?_,?_⟩
   ·split at h3 <;> simp_all
   ·intro ha; cases z <;> simp_all
   ·intro ha; cases z <;> simp_all [Value.cells]
theorem bK {τ : Ty} {t:TypeId} (h:chk P τ none t=true) (w:World):(sizeOf t).run P w=.ok τ.size w:=by
 obtain ⟨i,z,h1,h2,_⟩:=eI h
 simp [sizeOf,typeInfo,h1,h2]
theorem tR {τ : Ty} {t:TypeId} (h:chk P τ none t=true):∃ z,zeroIs τ z.cells.toList=some []∧(τ.isAgg=true→∃ c,z=.agg c)∧(τ.isAgg=false→z.cells=#[z])∧∀ w,(zeroValue t).run P w=.ok z w:=by
 obtain ⟨i,z,h1,_,_,h4,h5,h6,h7⟩:=eI h
 exact ⟨z,h5,h6,h7,fun w=>by simp [zeroValue,typeInfo,h1,h4]⟩
theorem kY {τ : Ty} {t:TypeId} (h:chk P τ none t=true):∃ d,P.underlying t=some d∧(match d with | .struct _ | .array _ _=>true | _=>false)=τ.isAgg:=by
 cases τ <;> simp only [chk,A4,LR] at h
 all_goals first
  | exact h.elim
  | (obtain ⟨_,h⟩:=h
     cases hu:P.underlying t with
     | none=>rw [hu] at h; simp at h
     | some d =>
     rw [hu] at h
     refine ⟨d,rfl,?_⟩
     cases d <;> simp_all [Ty.isAgg])
theorem fJ {τ : Ty} {t:TypeId} (h:chk P τ none t=true) (w:World):(isAgg t).run P w=.ok τ.isAgg w:=by
 obtain ⟨d,hu,hd⟩:=kY h
 unfold isAgg
 rw [Sem.run_bind,run_underlying hu w]
 cases d <;> simp_all
theorem bc {e:Ty} {t:TypeId} (h:chk P (.slice e) none t=true):∃ et,P.underlying t=some (.slice et)∧chk P e none et=true:=by
 simp only [chk,A4] at h
 obtain ⟨_,h⟩:=h
 split at h
 ·rename_i et hu; exact ⟨et,hu,h⟩
 ·simp at h
theorem rC {n:Nat} {e:Ty} {t:TypeId} (h:chk P (.arr n e) none t=true):∃ et,P.underlying t=some (.array n et)∧chk P e none et=true:=by
 simp only [chk,A4] at h
 obtain ⟨_,h⟩:=h
 split at h
 ·rename_i n' et hu
  simp only [A4] at h
  have:=A5 h.1
  subst this
  exact ⟨et,hu,h.2⟩
 ·simp at h
theorem rO {k:IntKind} {t:TypeId} (h:chk P (.int k) none t=true):P.underlying t=some (.int k):=by
 simp only [chk,A4] at h
 obtain ⟨_,h⟩:=h
 split at h
 ·rename_i k' hu; simp at h; subst h; exact hu
 ·simp at h
theorem mg {t:TypeId} (h:chk P .bool none t=true):P.underlying t=some .bool:=by
 simp only [chk,A4] at h
 obtain ⟨_,h⟩:=h
 split at h
 ·rename_i hu; exact hu
 ·simp at h
theorem mJ {t:TypeId} (h:chk P .str none t=true):P.underlying t=some .string:=by
 simp only [chk,A4] at h
 obtain ⟨_,h⟩:=h
 split at h
 ·rename_i hu; exact hu
 ·simp at h
theorem tB:∀ {b:Ty} {r:List Field} {o:Nat},chk P b (some (r,o)) 0=true→∀ {f o':Nat} {σ : Ty},b.field f=some (o',σ) →
  ∃ fd,r[f]?=some fd∧fd.offset=o+o'∧chk P σ none fd.type=true
 | .prod a b,r,o,h,f,o',σ,hf=>by
  cases r with
  | nil=>simp [chk] at h
  | cons fd r =>
   simp only [chk,A4] at h
   obtain ⟨⟨h1,h2⟩,h3⟩:=h
   cases f with
   | zero=>simp [Ty.field] at hf; obtain ⟨rfl,rfl⟩:=hf; exact ⟨fd,rfl,by simpa using A5 h1,h2⟩
   | succ f =>
    simp only [Ty.field] at hf
    split at hf
    ·rename_i o1 t1 hb
     simp at hf
     obtain ⟨rfl,rfl⟩:=hf
     obtain ⟨fd',q1,q2,q3⟩:=tB h3 hb
     exact ⟨fd',by simpa using q1,by omega,q3⟩
    ·simp at hf
 | .unit,_,_,_,_,_,_,hf=>by simp [Ty.field] at hf
 | .int _,_,_,h,_,_,_,_=>by simp [chk] at h
 | .bool,_,_,h,_,_,_,_=>by simp [chk] at h
 | .str,_,_,h,_,_,_,_=>by simp [chk] at h
 | .slice _,_,_,h,_,_,_,_=>by simp [chk] at h
 | .arr _ _,_,_,h,_,_,_,_=>by simp [chk] at h
 | .ptr _,_,_,h,_,_,_,_=>by simp [chk] at h
 | .clo _ _,_,_,h,_,_,_,_=>by simp [chk] at h
theorem E8 {τ : Ty} {t:TypeId} (h:chk P τ none t=true) {f o:Nat} {σ : Ty} (hf : τ.field f=some (o,σ)) :
  ∃ fs fd,P.underlying t=some (.struct fs)∧fs[f]?=some fd∧fd.offset=o∧chk P σ none fd.type=true:=by
 cases τ with
 | prod a b =>
  simp only [chk,A4] at h
  obtain ⟨_,h⟩:=h
  split at h
  ·rename_i fs hu
   split at h
   ·rename_i fd r hfs
    simp only [A4] at h
    obtain ⟨⟨h1,h2⟩,h3⟩:=h
    cases f with
    | zero =>
     simp [Ty.field] at hf; obtain ⟨rfl,rfl⟩:=hf
     refine ⟨fs,fd,hu,?_,A5 h1,h2⟩
     rw [← LO,hfs]; rfl
    | succ f =>
     simp only [Ty.field] at hf
     split at hf
     ·rename_i o1 t1 hb
      simp at hf
      obtain ⟨rfl,rfl⟩:=hf
      obtain ⟨fd',q1,q2,q3⟩:=tB h3 hb
      refine ⟨fs,fd',hu,?_,by omega,q3⟩
      rw [← LO,hfs]; simpa using q1
     ·simp at hf
   ·simp at h
  ·simp at h
 | _=>simp [Ty.field] at hf
theorem bd (b off j:Nat):(⟨b,off,none⟩ : Addr).add j=⟨b,off+j,none⟩:=by unfold Addr.add; split <;> simp_all
theorem bO {w:World} {b:Nat} {c:Array Value} {el:TypeId} {fz:Nat×Nat} (h:w.heap[b]?=some (.cells c el fz)) (j:Nat):w.cell? ⟨b,j,none⟩=c[j]?:=by
 simp [World.cell?,h]
theorem dQ {τ : Ty} {t:TypeId} (h:chk P τ none t=true) {w:World} {b off:Nat} {c:Array Value} {el:TypeId} {fz:Nat×Nat} (hh:w.heap[b]?=some (.cells c el fz))
  (hs:off+τ.size≤c.size):(loadVar t ⟨b,off,none⟩).run P w=.ok (toV τ (seg c off τ.size)) w:=by
 have hlen:=cA c off τ.size hs
 cases ha : τ.isAgg with
 | true =>
  have hl:=run_loadCells_list (P:=P) w ⟨b,off,none⟩ (seg c off τ.size) (fun j v hv=>by
   rw [bd,bO hh]
   have hj:j < τ.size:=by have:=(A3.1 hv).1; omega
   rw [← seg_getElem? c off τ.size j hj]; exact hv)
  rw [hlen] at hl
  simp [loadVar,Sem.run_bind,fJ h,ha,bK h,hl,toV]
 | false =>
  rw [gZ ha] at hs hlen ⊢
  have h0:c[off]?=some c[off]:=Array.getElem?_eq_getElem (by omega)
  have hd:(seg c off 1).headD undef=c[off]:=by
   have:=seg_getElem? c off 1 0 (by omega)
   rw [L7,h0] at this
   match hq:seg c off 1,hlen with
   | [v],_=>rw [hq] at this; simpa using this
  simp only [loadVar,Sem.run_bind,fJ h,ha,Result.andThen_ok,LR,if_false,run_load,bO hh,h0,toV,cond_false,hd]
theorem fb {te:Ty} {w:World} {b:Nat} {c:Array Value} {el:TypeId} {fz:Nat×Nat} (h:w.heap[b]?=some (.cells c el fz)) (hc:d8 te c.size fz) (j:Nat) (hj:j < c.size) :
  w.frozen? ⟨b,j,none⟩=false:=by
 obtain ⟨lo,hi⟩:=fz
 simp only [World.frozen?,h]
 rcases hc with hc | hc <;> simp at hc ⊢ <;> omega
theorem cH {te:Ty} (g o:Nat) (t:TypeId) (fz:Nat×Nat):∀ (vs:List Value) (i:Nat) (cur:Array Value) (w:World),w.heap[g]?=some (.cells cur t fz)→d8 te cur.size fz →
  o+i+vs.length≤cur.size→(∀ v∈vs,v.oneCell'=true) →
  (storeCells ⟨g,o,none⟩ vs i).run P w=.ok () (w.setRow g (cur.toList.take (o+i)++vs++cur.toList.drop (o+i+vs.length)).toArray)
 | [],i,cur,w,hg,_,_,_=>by
  simp only [storeCells,LU,LG,L7,List.take_append_drop,Array.toArray_toList]
  rw [setRow_self w g cur t fz hg]
  rfl
 | v :: rest,i,cur,w,hg,hc,hl,h1=>by
  have hi:o+i < cur.size:=by simp at hl; omega
  have hcell:w.cell? ⟨g,o+i,none⟩=some cur[o+i]:=by simp [World.cell?,hg,hi]
  have hfro:=fb hg hc (o+i) hi
  have hst:(store ((⟨g,o,none⟩ : Addr).add i) v).run P w=.ok () (w.setRow g (cur.setIfInBounds (o+i) v)):=by
   rw [bd,run_store P w _ v _ (h1 v (by simp)),hcell]
   simp [hfro,setCell_eq_setRow w g (o+i) cur t fz v hg]
  have ih:=cH g o t fz rest (i+1) (cur.setIfInBounds (o+i) v) (w.setRow g (cur.setIfInBounds (o+i) v)) (setRow_heap w g cur _ t _ hg) (by simpa using hc) (by simp at hl ⊢; omega) (fun x hx=>h1 x (by simp [hx]))
  simp only [storeCells,Sem.run_bind,hst,Result.andThen_ok,ih,setRow_setRow]
  congr 3
  have e:=list_seg_step cur.toList (o+i) v rest (by simp at hl ⊢; omega)
  simpa [Array.toList_setIfInBounds,Lo] using e
def aF (c:Array Value) (o:Nat) (vs:List Value):Array Value:=(c.toList.take o++vs++c.toList.drop (o+vs.length)).toArray
theorem fT {te:Ty} {τ : Ty} {t:TypeId} (h:chk P τ none t=true) {w:World} {b off:Nat} {c:Array Value} {el:TypeId} {fz:Nat×Nat} (hh:w.heap[b]?=some (.cells c el fz))
  (hc:d8 te c.size fz) (hs:off+τ.size≤c.size) {v:Value} (hv:v.cells.size=τ.size) (h1:∀ u∈v.cells.toList,u.oneCell'=true) :
  (storeVar t ⟨b,off,none⟩ v).run P w=.ok () (w.setRow b (aF c off v.cells.toList)):=by
 have:=cH (P:=P) b off el fz v.cells.toList 0 c w hh hc (by simp; omega) h1
 simp only [L7] at this
 simp [storeVar,Sem.run_bind,bK h,hv,this,aF]
theorem bt (c:Array Value) (o:Nat) (vs:List Value) (h:o+vs.length≤c.size):(aF c o vs).size=c.size:=by
 unfold aF; simp; omega
theorem cB (c:Array Value) (o:Nat) (vs:List Value) (h:o+vs.length≤c.size) (j:Nat) :
  (aF c o vs)[j]?=if o≤j∧j < o+vs.length then vs[j - o]? else c[j]?:=by
 unfold aF
 simp only [Lv,Ol,Lu,Mt,LJ,Ls,L5]
 have h1:min o c.size=o:=by omega
 rw [h1]
 by_cases a:j < o
 ·have h2:j < o+vs.length:=by omega
  have h3:¬ (o≤j∧j < o+vs.length):=by omega
  rw [if_neg h3]; simp [a,h2]
 ·by_cases b:j < o+vs.length
  ·have h3:(o≤j∧j < o+vs.length):=by omega
   simp [a,b,h3]
  ·have h3:¬ (o≤j∧j < o+vs.length):=by omega
   have h4:o+vs.length+(j - (o+vs.length))=j:=by omega
   simp [b,h4]
theorem Hb {c c':Array Value} {o o' n:Nat} (h:∀ i,i < n→c[o+i]?=c'[o'+i]?):seg c o n=seg c' o' n:=by
 apply MA
 intro i
 by_cases hi:i < n
 ·rw [seg_getElem? _ _ _ _ hi,seg_getElem? _ _ _ _ hi]; exact h i hi
 ·unfold seg; rw [Ls,Ls]; simp [hi]
theorem kj (c:Array Value) (o:Nat) (vs:List Value) (h:o+vs.length≤c.size):seg (aF c o vs) o vs.length=vs:=by
 apply MA
 intro i
 by_cases hi:i < vs.length
 ·rw [seg_getElem? _ _ _ _ hi,cB c o vs h,if_pos (by omega)]; congr 1; omega
 ·rw [Ml (Nat.le_of_not_lt hi)]
  unfold seg; rw [Ls]; simp [hi]
theorem dS (c:Array Value) (o:Nat) (vs:List Value) (h:o+vs.length≤c.size) (o' n:Nat) (ha:o'+n≤o∨o+vs.length≤o'):seg (aF c o vs) o' n=seg c o' n:=by
 apply Hb
 intro i hi
 rw [cB c o vs h,if_neg (by omega)]
end
end Go.Vm

/-
 The machine's operations against the model's: values.
-/
namespace Go.Vm
def Does (P:Program) (o:Oper) (a:Act) (w:World) (R:Value→World→Prop):Prop :=
 ∀ (K:Act→World→Prop) (Q:Exit→Act→World→Prop),(∀ v w',R v w'→K (a.put o.dst v) w')→o.wp P a w K Q
theorem Does.value {P:Program} {o:Oper} {a:Act} {w w':World} {R:Value→World→Prop} {v:Value}
  (h:(execOp a.eval o).run P w=.ok (.value v) w') (hR:R v w'):Does P o a w R:=by
 intro K Q hK
 unfold Oper.wp
 rw [h]
 exact hK v w' hR
theorem Does.skip {P:Program} {o:Oper} {a:Act} {w w':World} {R:Value→World→Prop}
  (h:(execOp a.eval o).run P w=.ok .skip w') (hR:R undef w'):Does P o a w R:=by
 intro K Q hK
 unfold Oper.wp
 rw [h]
 exact hK undef w' hR
theorem Does.call {P:Program} {o:Oper} {a:Act} {w w':World} {R:Value→World→Prop} {f:FuncId} {args:Array Value}
  (h:(execOp a.eval o).run P w=.ok (.enter f args) w') (hc:Calls P f args w' fun e w''=>∃ v,e=.returned v∧R v w''):Does P o a w R:=by
 intro K Q hK
 unfold Oper.wp
 rw [h]
 refine Calls.mono hc ?_
 rintro e w'' ⟨v,rfl,hR⟩
 exact hK v w'' hR
def Res (C:Ctx) (w0:World) (M:Own) (m:Mem) (s s':St) (dst:Option Nat) (v:Value) (w':World):Prop :=
 ∃ m' sv,m'.w=w'∧s'=aG dst sv { env:=s.env,G:=m'.G }∧Inv C w0 M m'∧Evo m m'∧RelSV m' v sv
section
variable {P:Program} {C:Ctx} {w0:World} {M:Own} {o:Oper} {a:Act} {m:Mem} {s s':St}
theorem aH (hi:Inv C w0 M m) (hG:m.G=s.G) {v:Value} {sv:SV} (hrun:(execOp a.eval o).run P m.w=.ok (.value v) m.w) (hv:RelSV m v sv)
  (hs:some (aG o.dst sv s)=some s'):Does P o a m.w (Res C w0 M m s s' o.dst):=by
 refine Does.value hrun ⟨m,sv,rfl,?_,hi,Evo.refl m,hv⟩
 simp only [A1] at hs
 rw [← hs,hG]
theorem rel_int {v:Value} {k:IntKind} {n:Int} (h:RelSV m v (.av (.val (.int k) n))):v=.int k n∧k.min≤n∧n≤k.max:=by
 obtain ⟨cs,h1,h2,h3⟩:=h
 subst h2
 exact ⟨by simpa [toV,Ty.isAgg] using h1,h3⟩
theorem rel_bool {v:Value} {b:Bool} (h:RelSV m v (.av (.val .bool b))):v=.bool b:=by
 obtain ⟨cs,h1,h2⟩:=h
 unfold Rd at h2
 subst h2
 simpa [toV,Ty.isAgg] using h1
theorem qa {v:Value} {b:ByteArray} (h:RelSV m v (.av (.val .str b))):v=.string b∧b.size≤maxLen:=by
 obtain ⟨cs,h1,h2,h3⟩:=h
 subst h2
 exact ⟨by simpa [toV,Ty.isAgg] using h1,h3⟩
theorem eE {v:Value} {e:Ty} {x:e.den} (h:RelSV m v (.av (.val (.ptr e) x))) :
  ∃ b off c el fz,v=.pointer (some ⟨b,off,none⟩)∧m.F b∧m.w.heap[b]?=some (.cells c el fz)∧off+e.size≤c.size∧Rd m.w m.F e (seg c off e.size) x:=by
 obtain ⟨cs,h1,b,off,c,el,fz,h2,h3⟩:=h
 subst h2
 exact ⟨b,off,c,el,fz,by simpa [toV,Ty.isAgg] using h1,h3⟩
theorem gW {v:Value} {e:Ty} {l:List e.den} (h:RelSV m v (.av (.val (.slice e) l))) :
  ∃ ad cap,v=.slice ad l.length cap∧l.length≤cap∧cap≤maxLen∧(l≠[]→∃ b off c el fz,ad=some ⟨b,off,none⟩∧m.F b∧m.w.heap[b]?=some (.cells c el fz)∧off+l.length * e.size≤c.size ∧
    ∀ i (h:i < l.length),Rd m.w m.F e (seg c (off+i * e.size) e.size) l[i]):=by
 obtain ⟨cs,h1,ad,cap,h2,h3⟩:=h
 subst h2
 exact ⟨ad,cap,by simpa [toV,Ty.isAgg] using h1,h3⟩
theorem Ae {τ : Ty} {cs:List Value} {x : τ.den} (h:Rd m.w m.F τ cs x):RelSV m (toV τ cs) (.av (.val τ x)):=⟨cs,rfl,h⟩
theorem kU {k:IntKind} {n:Int} (h:k.min≤n∧n≤k.max):RelSV m (.int k n) (.av (.val (.int k) n)):=⟨[.int k n],rfl,rfl,h⟩
theorem fu {b:Bool}:RelSV m (.bool b) (.av (.val .bool b)):=⟨[.bool b],rfl,rfl⟩
theorem AA {b:ByteArray} (h:b.size≤maxLen):RelSV m (.string b) (.av (.val .str b)):=⟨[.string b],rfl,rfl,h⟩
theorem GX {n:Nat} (h:n≤maxLen):IntKind.i64.min≤(n:Int)∧(n:Int)≤IntKind.i64.max:=by
 unfold maxLen at h
 simp [IntKind.min,IntKind.max,IntKind.signed,IntKind.bits]
 omega
theorem CY (v:Value):RelSV m v (.av (mi v)):=by
 unfold mi
 split
 ·rename_i k n
  cases h:(decide (k.min≤n) && decide (n≤k.max)) with
  | true=>simp only [A4,decide_eq_true_eq] at h; exact kU h
  | false=>trivial
 ·exact fu
 ·rename_i b
  cases h:Lh b.size 1000000 with
  | true=>have:=B7 h; exact AA (by unfold maxLen; omega)
  | false=>trivial
 ·exact ⟨none,rfl⟩
 ·trivial
theorem rJ (hi:Inv C w0 M m) (he:∀ t,RelSV m (a.tmps.getD t undef) (s.env.get t)) (x:Operand):RelSV m (a.eval x) (ap C s.env x):=by
 cases x with
 | tmp t=>exact he t
 | const v=>exact CY v
 | global g =>
  simp only [ap,Act.eval]
  cases hg:eK C.glob g with
  | none=>trivial
  | some p =>
   obtain ⟨t,x⟩:=p
   exact ⟨[.pointer (some ⟨g,0,none⟩)],rfl,hi.glob g t x hg⟩
 | func f=>exact ⟨[],rfl,trivial⟩
theorem au {τ σ : Ty} {x : σ.den} {y : τ.den} (h:bG τ σ x=some y):∃ e : σ=τ,e ▸ x=y:=by
 unfold bG at h
 split at h
 ·rename_i e; exact ⟨e,by simpa using h⟩
 ·simp at h
theorem BR {x:Operand} (hi:Inv C w0 M m) (hG:m.G=s.G) (hS:∀ x,RelSV m (a.eval x) (ap C s.env x)) (ho:o.op=.move x∨o.op=.assign x)
  (h:aA C o s some=some s'):Does P o a m.w (Res C w0 M m s s' o.dst):=by
 rcases ho with ho | ho <;>
 ·simp only [aA,ho] at h
  exact aH hi hG (v:=a.eval x) (by simp [execOp,ho]) (hS x) h
theorem GT {c x y:Operand} (hi:Inv C w0 M m) (hG:m.G=s.G) (hS:∀ x,RelSV m (a.eval x) (ap C s.env x)) (ho:o.op=.pick c x y)
  (h:aA C o s some=some s'):Does P o a m.w (Res C w0 M m s s' o.dst):=by
 simp only [aA,ho] at h
 have hc:=hS c
 split at h
 ·rename_i t ht
  rw [ht] at hc
  have hb:=rel_bool hc
  cases t with
  | true=>exact aH hi hG (v:=a.eval x) (by simp [execOp,ho,hb,asBool]) (hS x) h
  | false=>exact aH hi hG (v:=a.eval y) (by simp [execOp,ho,hb,asBool]) (hS y) h
 ·simp at h
theorem Gc {op:UnOp} {t:TypeId} {x:Operand} (hi:Inv C w0 M m) (hG:m.G=s.G) (hS:∀ x,RelSV m (a.eval x) (ap C s.env x)) (ho:o.op=.unOp op t x)
  (h:aA C o s some=some s'):Does P o a m.w (Res C w0 M m s s' o.dst):=by
 simp only [aA,ho] at h
 have hx:=hS x
 split at h
 ·rename_i b hb
  rw [hb] at hx
  have:=rel_bool hx
  exact aH hi hG (v:=.bool (!b)) (by simp [execOp,ho,this,Op.unary]) fu h
 ·rename_i k n hb
  rw [hb] at hx
  have:=(rel_int hx).1
  exact aH hi hG (v:=.int k (cQ k 0 n)) (by simp [execOp,ho,this,Op.unary,Op.intArith,cQ]) (kU (wrap_within k _)) h
 ·simp at h
theorem zi {k:IntKind} {x y:Int} (h1:k.min≤x) (h2:x≤k.max):k.min≤x.tmod y∧x.tmod y≤k.max:=by
 have hmin:k.min≤0:=by cases k <;> simp [IntKind.min,IntKind.signed,IntKind.bits]
 have hmax:0≤k.max:=by cases k <;> simp [IntKind.max,IntKind.signed,IntKind.bits]
 have hn:(x.tmod y).natAbs≤x.natAbs:=by rw [Int.natAbs_tmod]; exact Nat.mod_le _ _
 rcases Int.le_total 0 x with hx | hx
 ·have a1:=OS y hx
  omega
 ·have a1:=OS y (show 0≤-x by omega)
  rw [Int.neg_tmod] at a1
  omega
theorem zO (op:BinOp) (t:TypeId) (k:IntKind) (x y:Int) {r:Atom} (h:AQ op k x y=some r) (w:World) :
  ∃ v,(binOp op t (.int k x) (.int k y)).run P w=.ok v w∧RelSV m v (.av r):=by
 cases op <;> simp only [AQ,A1] at h <;> try (simp at h; done)
 all_goals subst h
 all_goals first
  | exact ⟨_,by simp [binOp,Op.intArith,Op.intBits,Op.intCmp]; rfl,kU (wrap_within k _)⟩
  | exact ⟨_,by simp [binOp,Op.intArith,Op.intBits,Op.intCmp]; rfl,fu⟩
theorem cJ (op:BinOp) (t:TypeId) (x y:Operand) {u v:Value} (hu:(∃ k n,u=.int k n)∨(∃ b,u=.bool b)∨(∃ b,u=.string b)∨(∃ q n c,u=.slice q n c)) (w:World) :
  (eqGuard op t x y u v).run P w=.ok () w:=by
 unfold eqGuard
 rcases hu with ⟨k,n,rfl⟩ | ⟨b,rfl⟩ | ⟨b,rfl⟩ | ⟨q,n,c,rfl⟩ <;> cases op <;> simp
theorem size_append (x y:ByteArray):(x++y).size=x.size+y.size:=ByteArray.size_append
end
end Go.Vm

/-
 Slots read as values, values laid as cells.
-/
namespace Go.Vm
def Blk (m:Mem) (id b:Nat):Prop:=∃ o,m.G.get id=some o∧isObj o=true∧HB (m.ι id) b
def Thru (m:Mem) (ids:List Nat) (b:Nat):Prop:=m.F b∨∃ id∈ids,Blk m id b
theorem Thru.mono {m:Mem} {l r:List Nat} (h:∀ i∈l,i∈r) {b:Nat} (hb:Thru m l b):Thru m r b:=by
 rcases hb with hb | ⟨i,hi,hb⟩
 ·exact .inl hb
 ·exact .inr ⟨i,h i hi,hb⟩
theorem qk {m:Mem} {l r:List Nat} (h:∀ i∈l,i∈r) {τ : Ty} {cs:List Value} {x : τ.den} (hr:Rd m.w (Thru m l) τ cs x):Rd m.w (Thru m r) τ cs x :=
 hr.mono fun _ hb=>⟨hb.mono h,rfl⟩
theorem If {m:Mem} {r:List Nat} {τ : Ty} {cs:List Value} {x : τ.den} (hr:Rd m.w m.F τ cs x):Rd m.w (Thru m r) τ cs x :=
 hr.mono fun _ hb=>⟨.inl hb,rfl⟩
section
variable {C:Ctx} {w0:World} {M:Own} {m:Mem}
theorem zq {w:World} {F F':Nat→Prop} {u:Value} {e:Ty} {l:List e.den} (h:HdrW w F u e l) (hF:∀ b,F b→F' b) (hu:∀ b,HB u b→F' b):Rd w F' (.slice e) [u] l:=by
 obtain ⟨ad,cap,rfl,h2,h3,h4⟩:=h
 refine ⟨ad,cap,rfl,h2,h3,fun hl=>?_⟩
 have hc:cap≠0:=by
  intro e; subst e
  cases l with
  | nil=>exact hl rfl
  | cons _ _=>simp at h2
 obtain ⟨b,off,c,el,fz,rfl,q2,q3,q4,q5⟩:=h4 hc
 refine ⟨b,off,c,el,fz,rfl,hu b (by simp [HB,HB1,hc]),q2,?_,fun i hi'=>(q5 i hi').mono fun b hb=>⟨hF b hb,rfl⟩⟩
 have:=K9 e.size h2; omega
theorem Au (hi:Inv C w0 M m) {id:Nat} {τ : Ty} {l:List τ.den} (hg:m.G.get id=some (.arr τ l)):Rd m.w (Thru m [id]) (.slice τ) [m.ι id] l :=
 zq (hi.objs id _ hg:HdrW m.w m.F (m.ι id) τ l) (fun _ h=>.inl h) fun b hb=>.inr ⟨id,by simp,_,hg,rfl,hb⟩
theorem BX {id ver:Nat} {τ : Ty} {l:List (List τ.den)} {hole:Option Nat} {u:Value} {hs:List Value} (h1:m.ι id=.tuple (u :: hs).toArray) (h2:DeepW m.w m.F u hs τ l hole) {v:Value} (hv:v∈u :: hs) {b:Nat} (hb:HB v b):HB (m.ι id) b:=by
 rw [h1,bR h2.one]; exact ⟨v,hv,hb⟩
theorem Gw (hi:Inv C w0 M m) {id ver:Nat} {τ : Ty} {l:List (List τ.den)} (hg:m.G.get id=some (.deep ver τ l none)) {u:Value} (hu:∃ us,m.ι id=.tuple us∧us[0]?=some u):Rd m.w (Thru m [id]) (.slice (.slice τ)) [u] l:=by
 obtain ⟨u',hs,h1,h2⟩:=hi.objs id _ hg
 obtain ⟨us,h3,h4⟩:=hu
 have hb:∀ v∈u' :: hs,∀ b,HB v b→Thru m [id] b:=fun v hv b hb=>.inr ⟨id,by simp,_,hg,rfl,BX (ver:=ver) h1 h2 hv hb⟩
 rw [h1] at h3
 simp only [Value.tuple.injEq] at h3
 subst h3
 simp only [Lv,Lt,A1] at h4
 subst h4
 obtain ⟨ad,cap,rfl,q2,q3,q4⟩:=h2.outer
 refine ⟨ad,cap,rfl,q2,q3,fun hl=>?_⟩
 have hc:cap≠0:=by
  intro e; subst e
  cases l with
  | nil=>exact hl rfl
  | cons _ _=>simp at q2
 obtain ⟨b,off,c,el,fz,rfl,r2,r3,r4,r5⟩:=q4 hc
 refine ⟨b,off,c,el,fz,rfl,hb _ (LL ..) b ⟨hc,rfl⟩,r2,by simp only [Ty.size,M4]; omega,fun i hi'=>?_⟩
 have hlt:i < hs.length:=by rw [h2.len]; exact hi'
 have hseg:seg c (off+i * (Ty.slice τ).size) (Ty.slice τ).size=[hs[i]]:=by
  have e:=r5 i hi' (by simp)
  rw [A2 hlt] at e
  obtain ⟨hlt',e'⟩:=Lw.1 e
  simp only [Ty.size,M4,seg]
  rw [Nk (by simpa using hlt')]
  simp [e']
 rw [hseg]
 exact zq (h2.inner i hi' hs[i] (A2 hlt) (by simp)) (fun b h=>.inl h) fun b hb'=>hb _ (Ll _ (List.getElem_mem hlt)) b hb'
theorem IS (hi:Inv C w0 M m) {id ver j:Nat} {τ : Ty} {l:List (List τ.den)} (hg:m.G.get id=some (.deep ver τ l none)) {u:Value} (hu:∃ us,m.ι id=.tuple us∧us[j+1]?=some u) (hj:j < l.length):Rd m.w (Thru m [id]) (.slice τ) [u] l[j]:=by
 obtain ⟨u',hs,h1,h2⟩:=hi.objs id _ hg
 obtain ⟨us,h3,h4⟩:=hu
 rw [h1] at h3
 simp only [Value.tuple.injEq] at h3
 subst h3
 simp only [Lv,Lp] at h4
 exact zq (h2.inner j hj u h4 (by simp)) (fun b h=>.inl h) fun b hb=>.inr ⟨id,by simp,_,hg,rfl,BX (ver:=ver) h1 h2 (Ll _ (B2 h4)) hb⟩
theorem BN {w:World} {F:Nat→Prop} {τ : Ty} {l:List τ.den} {v u:Value} (h:Rd w F (.slice τ) [v] l) {off len:Nat} (hl:off+len≤l.length) (hv:qY v τ.size off len u) :
  Rd w F (.slice τ) [u] ((l.drop off).take len):=by
 obtain ⟨ad,cap,h1,h2,h3,h4⟩:=h
 obtain ⟨a',n',cap',ad',v1,rfl,v3⟩:=hv
 simp only [Mx,and_true] at h1
 rw [h1] at v1
 simp only [Value.slice.injEq] at v1
 obtain ⟨rfl,rfl,rfl⟩:=v1
 have hlen:((l.drop off).take len).length=len:=by simp; omega
 refine ⟨ad',cap - off,by rw [hlen],by rw [hlen]; omega,by omega,fun hne=>?_⟩
 have hlpos:l≠[]:=by intro e; subst e; simp at hne
 obtain ⟨b,o,c,el,fz,q1,q2,q3,q4,q5⟩:=h4 hlpos
 have hlen0:0 < len:=by
  rcases OF len with hz | hz
  ·subst hz; simp at hne
  ·exact hz
 refine ⟨b,o+off * τ.size,c,el,fz,?_,q2,q3,?_,fun i hi=>?_⟩
 ·rw [v3 (by omega),q1]; simp [bd]
 ·rw [hlen]
  have:=K9 τ.size hl
  rw [Lf] at this
  omega
 ·rw [hlen] at hi
  have hq:=q5 (off+i) (by omega)
  rw [show o+off * τ.size+i * τ.size=o+(off+i) * τ.size by rw [Lf]; omega]
  simpa using hq
theorem Rd.nil_slice {w:World} {F:Nat→Prop} {e:Ty} (ad:Option Addr):Rd w F (.slice e) [.slice ad 0 0] ([]:List e.den) :=
 ⟨ad,0,rfl,by simp,by unfold maxLen; omega,fun h=>absurd rfl h⟩
theorem dn (hi:Inv C w0 M m) {τ : Ty} {a:Atom} {x : τ.den} {u:Value} (h:aE m.G τ a=some x) (hr:ae m u a):Rd m.w (Thru m (bf a)) τ [u] x:=by
 cases a with
 | val σ y =>
  obtain ⟨e,hy⟩:=au h
  subst e; subst hy
  exact If hr.1
 | nils =>
  cases τ <;> simp [aE] at h
  subst h
  obtain ⟨ad,rfl⟩:=hr
  exact Rd.nil_slice ad
 | own id =>
  obtain ⟨_,o,ho,hv⟩:=hr
  cases τ <;> simp only [aE] at h <;> try (simp at h; done)
  rename_i e
  rw [ho] at h
  cases o with
  | arr σ l =>
   simp only at h
   obtain ⟨e',hy⟩:=au h
   simp only [Ty.slice.injEq] at e'
   subst e'; subst hy
   rw [hv rfl]
   exact Au hi ho
  | _=>simp at h
 | view id off len =>
  obtain ⟨_,o,ho,hv⟩:=hr
  cases τ <;> simp only [aE] at h <;> try (simp at h; done)
  rename_i e
  rw [ho] at h
  cases o with
  | arr σ l =>
   simp only at h hv
   obtain ⟨e',hy⟩:=au h
   simp only [Ty.slice.injEq] at e'
   subst e'; subst hy
   exact BN (Au hi ho) hv.1 hv.2
  | _=>simp at h
 | ownd id =>
  obtain ⟨_,o,ho,hv⟩:=hr
  cases τ <;> simp only [aE] at h <;> try (simp at h; done)
  rename_i e
  rw [ho] at h
  cases o with
  | deep ver σ l hole =>
   cases hole with
   | some _=>simp at h
   | none =>
    simp only at h
    obtain ⟨e',hy⟩:=au h
    simp only [Ty.slice.injEq] at e'
    subst e'; subst hy
    exact Gw hi ho hv
  | _=>simp at h
 | sub id ver j =>
  obtain ⟨_,o,ho,hv⟩:=hr
  cases τ <;> simp only [aE] at h <;> try (simp at h; done)
  rename_i e
  rw [ho] at h
  cases o with
  | deep ver' σ l hole =>
   cases hole with
   | some _=>simp at h
   | none =>
    simp only at h hv
    cases hb:A8 ver ver' with
    | false=>rw [hb] at h; simp at h
    | true =>
     rw [hb] at h
     have:=A5 hb
     subst this
     obtain ⟨hj,_,hu⟩:=hv.2 rfl
     rw [fP hj] at h
     simp only [cond_true] at h
     obtain ⟨e',hy⟩:=au h
     simp only [Ty.slice.injEq] at e'
     subst e'; subst hy
     exact IS hi ho hu hj
  | _=>simp at h
 | _=>simp [aE] at h
theorem pK {α : Type} {f:List Atom→Option (α×List Atom)} {ids:List Nat} {size:Nat} {r:List Value→α→Prop}
  (hf:∀ {us:List Value} {l rest:List Atom} {x : α},Rel2 (ae m) us l→f l=some (x,rest)→(∀ i∈l.flatMap bf,i∈ids) →
   ∃ c us',us=c++us'∧c.length=size∧r c x∧Rel2 (ae m) us' rest∧(∀ i∈rest.flatMap bf,i∈ids)) :
  ∀ (n:Nat) {us:List Value} {l rest:List Atom} {xs:List α},Rel2 (ae m) us l→ks f n l=some (xs,rest)→(∀ i∈l.flatMap bf,i∈ids) →
   ∃ c us',us=c++us'∧xs.length=n∧c.length=n * size∧(∀ i (h:i < xs.length),r ((c.drop (i * size)).take size) xs[i])∧Rel2 (ae m) us' rest∧(∀ i∈rest.flatMap bf,i∈ids)
 | 0,us,l,rest,xs,hr,h,hids=>by
  simp [ks] at h
  obtain ⟨rfl,rfl⟩:=h
  exact ⟨[],us,rfl,rfl,by simp,fun i h=>by simp at h,hr,hids⟩
 | n+1,us,l,rest,xs,hr,h,hids=>by
  simp only [ks] at h
  split at h
  ·rename_i x r1 h1
   obtain ⟨c1,us1,rfl,hc1,hx,hr1,hi1⟩:=hf hr h1 hids
   split at h
   ·rename_i ys r2 h2
    simp only [A1,Ld] at h
    obtain ⟨rfl,rfl⟩:=h
    obtain ⟨c2,us2,rfl,hn,hc2,hys,hr2,hi2⟩:=pK hf n hr1 h2 hi1
    refine ⟨c1++c2,us2,by simp,by simp [hn],by simp [hc1,hc2,Lf]; omega,?_,hr2,hi2⟩
    intro i hi'
    cases i with
    | zero =>
     simp only [O4,ND,List.getElem_cons_zero]
     rw [MK (by omega),MI (by omega)]
     exact hx
    | succ i =>
     simp only [Nt]
     have:=hys i (by simpa using hi')
     rw [show (i+1) * size=c1.length+i * size by rw [Lf,hc1]; omega,Np,MJ (by omega),LW]
     simpa using this
   ·simp at h
  ·simp at h
theorem gf (hi:Inv C w0 M m) {ids:List Nat}:∀ {τ : Ty} {us:List Value} {l rest:List Atom} {x : τ.den},Rel2 (ae m) us l→ay m.G τ l=some (x,rest)→(∀ i∈l.flatMap bf,i∈ids) →
   ∃ c us',us=c++us'∧c.length=τ.size∧Rd m.w (Thru m ids) τ c x∧Rel2 (ae m) us' rest∧(∀ i∈rest.flatMap bf,i∈ids)
 | .prod a b,us,l,rest,x,hr,h,hids=>by
  simp only [ay] at h
  split at h
  ·rename_i y r1 h1
   obtain ⟨c1,us1,rfl,hc1,hx,hr1,hi1⟩:=gf hi hr h1 hids
   split at h
   ·rename_i z r2 h2
    simp only [A1,Ld] at h
    obtain ⟨rfl,rfl⟩:=h
    obtain ⟨c2,us2,rfl,hc2,hy,hr2,hi2⟩:=gf hi hr1 h2 hi1
    exact ⟨c1++c2,us2,by simp,by simp [Ty.size,hc1,hc2],⟨c1,c2,rfl,hx,hy⟩,hr2,hi2⟩
   ·simp at h
  ·simp at h
 | .unit,us,l,rest,x,hr,h,hids=>by
  simp [ay] at h
  subst h
  exact ⟨[],us,rfl,rfl,rfl,hr,hids⟩
 | .arr n e,us,l,rest,x,hr,h,hids=>by
  simp only [ay] at h
  obtain ⟨c,us',h1,h2,h3,h4,h5,h6⟩:=pK (r:=fun c x=>Rd m.w (Thru m ids) e c x) (size:=e.size) (fun hr h hids=>gf hi hr h hids) n hr h hids
  exact ⟨c,us',h1,h3,⟨h2,h3,h4⟩,h5,h6⟩
 | .int k,us,l,rest,x,hr,h,hids=>atomic hi (by rfl) hr (by cases l with | nil=>simp [ay] at h | cons a l=>(simp only [ay] at h; split at h <;> simp_all)) hids
 | .bool,us,l,rest,x,hr,h,hids=>atomic hi (by rfl) hr (by cases l with | nil=>simp [ay] at h | cons a l=>(simp only [ay] at h; split at h <;> simp_all)) hids
 | .str,us,l,rest,x,hr,h,hids=>atomic hi (by rfl) hr (by cases l with | nil=>simp [ay] at h | cons a l=>(simp only [ay] at h; split at h <;> simp_all)) hids
 | .slice e,us,l,rest,x,hr,h,hids=>atomic hi (by rfl) hr (by cases l with | nil=>simp [ay] at h | cons a l=>(simp only [ay] at h; split at h <;> simp_all)) hids
 | .ptr e,us,l,rest,x,hr,h,hids=>atomic hi (by rfl) hr (by cases l with | nil=>simp [ay] at h | cons a l=>(simp only [ay] at h; split at h <;> simp_all)) hids
 | .clo g e,us,l,rest,x,hr,h,hids=>atomic hi (by rfl) hr (by cases l with | nil=>simp [ay] at h | cons a l=>(simp only [ay] at h; split at h <;> simp_all)) hids
where
 atomic (hi:Inv C w0 M m) {ids:List Nat} {τ : Ty} (hs : τ.size=1) {us:List Value} {l rest:List Atom} {x : τ.den} (hr:Rel2 (ae m) us l)
   (h:∃ a,l=a :: rest∧aE m.G τ a=some x) (hids:∀ i∈l.flatMap bf,i∈ids) :
   ∃ c us',us=c++us'∧c.length=τ.size∧Rd m.w (Thru m ids) τ c x∧Rel2 (ae m) us' rest∧(∀ i∈rest.flatMap bf,i∈ids):=by
  obtain ⟨a,rfl,ha⟩:=h
  match us,hr with
  | u :: us,hr =>
   refine ⟨[u],us,rfl,hs.symm,qk ?_ (dn hi ha hr.1),hr.2,fun i hi=>hids i (by simp only [MM,B1]; exact .inr hi)⟩
   intro i hi'
   exact hids i (by simp only [MM,B1]; exact .inl hi')
theorem bP {u:Value}:∀ {a:Atom},ae m u a→(∀ (_:a=.u),False)→(∀ (_:a=.undef),False)→u.oneCell'=true
 | .u,_,h,_=>(h rfl).elim
 | .undef,_,_,h=>(h rfl).elim
 | .nils,h,_,_=>by obtain ⟨_,rfl⟩:=h; rfl
 | .val _ _,h,_,_=>h.1.one u (by simp)
 | .own _,h,_,_=>h.1
 | .view _ _ _,h,_,_=>h.1
 | .ptr _ _,h,_,_=>h.1
 | .aptr _ _ _,h,_,_=>h.1
 | .cut _ _ _,h,_,_=>h.1
 | .clo _ _,h,_,_=>by obtain ⟨_,rfl,_⟩:=h; rfl
 | .bnd _ _,h,_,_=>by obtain ⟨_,rfl,_⟩:=h; rfl
 | .ownd _,h,_,_=>h.1
 | .sub _ _ _,h,_,_=>h.1
 | .saptr _ _ _ _,h,_,_=>h.1
 | .ownm _,h,_,_=>h.1
theorem nk {τ : Ty} (h : τ.isAgg=false) (u:Value):toV τ [u]=u:=by simp [toV,h]
theorem AL (hi:Inv C w0 M m) {id off:Nat} {e:Ty} {x:e.den} {u:Value} (h:jC m.G e id off=some x) (hr:ae m u (.ptr id off)) :
  Rd m.w (Thru m (id :: iO m.G id)) (.ptr e) [u] x:=by
 obtain ⟨_,o,ho,hv⟩:=hr
 unfold jC at h
 rw [ho] at h
 cases o with
 | box l =>
  simp only at h hv
  obtain ⟨b,hι,hu⟩:=hv
  cases hle:Lh (off+e.size) l.length with
  | false=>rw [hle] at h; simp at h
  | true =>
   rw [hle] at h
   simp only [cond_true] at h
   have hle':=B7 hle
   split at h
   ·rename_i y rest hc
    simp only [A1] at h
    subst h
    obtain ⟨b',c,el,h1,h2,_,h3⟩:=hi.objs id _ ho
    rw [hι] at h1
    simp only [Value.pointer.injEq,A1,Addr.mk.injEq,and_true] at h1
    subst h1
    obtain ⟨c1,us',q1,q2,q3,_,_⟩:=gf hi (ids:=id :: iO m.G id) (h3.drop off) hc (fun i hi'=>by
     simp only [B3]
     right
     unfold iO
     rw [ho]
     simp only [List.mem_flatMap] at hi' ⊢
     obtain ⟨a,ha,hia⟩:=hi'
     exact ⟨a,MB ha,hia⟩)
    have hlen:=h3.length
    simp only [LJ] at hlen
    refine ⟨b,off,c,el,(0,0),by rw [hu],.inr ⟨id,by simp,_,ho,rfl,by rw [hι]; rfl⟩,h2,by omega,?_⟩
    have:seg c off e.size=c1:=by
     unfold seg
     rw [q1,← q2,MY]
    rw [this]
    exact q3
   ·simp at h
 | _=>simp at h
theorem AR (hi:Inv C w0 M m) {ids:List Nat}:∀ {e:Ty} {x:e.den} {vs:List Value} {caps:List Nat},bY m.G e caps=some x →
  Rel2 (fun u c=>∃ o,m.G.get c=some o∧(match o with
    | .box _=>∃ b,m.ι c=.pointer (some ⟨b,0,none⟩)∧u=.pointer (some ⟨b,0,none⟩)
    | .dead=>True
    | _=>False)) vs caps→(∀ i∈caps.flatMap (fun i=>i :: iO m.G i),i∈ids)→Rd m.w (Thru m ids) e vs x
 | .prod (.ptr a) b,x,vs,i :: r,h,hr,hids=>by
  simp only [bY] at h
  split at h
  ·rename_i y hy
   split at h
   ·rename_i z hz
    simp only [A1] at h
    subst h
    match vs,hr with
    | u :: us,hr =>
     obtain ⟨⟨o,ho,hv⟩,hr2⟩:=hr
     have hids1:∀ j∈i :: iO m.G i,j∈ids:=fun j hj=>hids j (by simp only [MM,B1]; exact .inl hj)
     have hids2:∀ j∈r.flatMap (fun i=>i :: iO m.G i),j∈ids:=fun j hj=>hids j (by simp only [MM,B1]; exact .inr hj)
     refine ⟨[u],us,rfl,qk hids1 (AL hi hy ?_),AR hi hz hr2 hids2⟩
     cases o with
     | box l =>
      obtain ⟨bb,h1,h2⟩:=hv
      exact ⟨by rw [h2]; rfl,_,ho,bb,h1,h2⟩
     | _=>simp [jC,ho] at hy
   ·simp at h
  ·simp at h
 | .unit,x,vs,[],h,hr,_=>by
  match vs,hr with
  | [],_=>rfl
 | .unit,_,_,_ :: _,h,_,_=>by simp [bY] at h
 | .prod (.ptr _) _,_,_,[],h,_,_=>by simp [bY] at h
 | .prod (.int _) _,_,_,_,h,_,_=>by simp [bY] at h
 | .prod .bool _,_,_,_,h,_,_=>by simp [bY] at h
 | .prod .str _,_,_,_,h,_,_=>by simp [bY] at h
 | .prod (.slice _) _,_,_,_,h,_,_=>by simp [bY] at h
 | .prod (.prod _ _) _,_,_,_,h,_,_=>by simp [bY] at h
 | .prod .unit _,_,_,_,h,_,_=>by simp [bY] at h
 | .prod (.arr _ _) _,_,_,_,h,_,_=>by simp [bY] at h
 | .prod (.clo _ _) _,_,_,_,h,_,_=>by simp [bY] at h
 | .int _,_,_,_,h,_,_=>by simp [bY] at h
 | .bool,_,_,_,h,_,_=>by simp [bY] at h
 | .str,_,_,_,h,_,_=>by simp [bY] at h
 | .slice _,_,_,_,h,_,_=>by simp [bY] at h
 | .arr _ _,_,_,_,h,_,_=>by simp [bY] at h
 | .ptr _,_,_,_,h,_,_=>by simp [bY] at h
 | .clo _ _,_,_,_,h,_,_=>by simp [bY] at h
theorem dF (hi:Inv C w0 M m) {τ : Ty} {v:SV} {x : τ.den} {u:Value} (h:aW m.G τ v=some x) (hr:RelSV m u v) :
  ∃ cs,u=toV τ cs∧Rd m.w (Thru m (eH m.G v)) τ cs x:=by
 have atom {a:Atom} (h:cond τ.isAgg none (aE m.G τ a)=some x) (hr:ae m u a):∃ cs,u=toV τ cs∧Rd m.w (Thru m (bf a)) τ cs x:=by
  cases ha : τ.isAgg with
  | true=>rw [ha] at h; simp at h
  | false =>
   rw [ha] at h
   exact ⟨[u],(nk ha u).symm,dn hi h hr⟩
 cases v with
 | av a =>
  cases a with
  | val σ y =>
   obtain ⟨e,hy⟩:=au h
   subst e; subst hy
   obtain ⟨cs,h1,h2⟩:=hr
   exact ⟨cs,h1,If h2⟩
  | ptr id off =>
   cases τ <;> simp only [aW] at h <;> try (simp at h; done)
   exact ⟨[u],by simp [toV,Ty.isAgg],AL hi h hr⟩
  | clo f caps =>
   cases τ <;> simp only [aW] at h <;> try (simp at h; done)
   rename_i g e
   cases hf:A8 f g with
   | false=>rw [hf] at h; simp at h
   | true =>
    rw [hf] at h
    simp only [cond_true] at h
    have:=A5 hf
    subst this
    obtain ⟨vs,rfl,hr⟩:=hr
    exact ⟨[_],by simp [toV,Ty.isAgg],vs,rfl,AR hi h hr (fun i hi=>hi)⟩
  | u=>exact atom h hr
  | undef=>exact atom h hr
  | nils=>exact atom h hr
  | own _=>exact atom h hr
  | view _ _ _=>exact atom h hr
  | aptr _ _ _=>exact atom h hr
  | cut _ _ _=>exact atom h hr
  | bnd _ _=>exact atom h hr
  | ownd _=>exact atom h hr
  | sub _ _ _=>exact atom h hr
  | saptr _ _ _ _=>exact atom h hr
  | ownm _=>exact atom h hr
 | agg l =>
  obtain ⟨us,rfl,_,hr⟩:=hr
  simp only [aW] at h
  cases ha : τ.isAgg with
  | false=>rw [ha] at h; simp at h
  | true =>
   rw [ha] at h
   simp only [cond_true] at h
   split at h
   ·rename_i y hc
    simp only [A1] at h
    subst h
    obtain ⟨c,us',q1,q2,q3,q4,_⟩:=gf hi (ids:=l.flatMap bf) hr hc (fun i hi=>hi)
    match us',q4 with
    | [],_ =>
     rw [LU] at q1
     subst q1
     exact ⟨us,by simp [toV,ha],q3⟩
   ·simp at h
 | tup l=>simp [aW] at h
end
end Go.Vm

/-
 Values laid as cells; parts of values.
-/
namespace Go.Vm
section
variable {m:Mem}
theorem bA:∀ {τ : Ty} {cs:List Value} {x : τ.den},Rd m.w m.F τ cs x→Rel2 (ae m) cs (eh τ x)
 | .int _,_,_,h=>by have h':=h; obtain ⟨rfl,_⟩:=h'; exact ⟨⟨h,rfl⟩,trivial⟩
 | .bool,_,_,h=>by have h':=h; unfold Rd at h'; subst h'; exact ⟨⟨h,rfl⟩,trivial⟩
 | .str,_,_,h=>by have h':=h; obtain ⟨rfl,_⟩:=h'; exact ⟨⟨h,rfl⟩,trivial⟩
 | .slice _,_,_,h=>by have h':=h; obtain ⟨_,_,rfl,_⟩:=h'; exact ⟨⟨h,rfl⟩,trivial⟩
 | .ptr _,_,_,h=>by have h':=h; obtain ⟨_,_,_,_,_,rfl,_⟩:=h'; exact ⟨⟨h,rfl⟩,trivial⟩
 | .clo _ _,_,_,h=>by have h':=h; obtain ⟨_,rfl,_⟩:=h'; exact ⟨⟨h,rfl⟩,trivial⟩
 | .prod a b,_,x,h=>by
  obtain ⟨c1,c2,rfl,h1,h2⟩:=h
  exact (bA h1).append (bA h2)
 | .unit,_,_,h=>by unfold Rd at h; subst h; trivial
 | .arr n e,cs,l,h=>by
  obtain ⟨h1,h2,h3⟩:=h
  have key:∀ k,k≤n→Rel2 (ae m) (cs.take (k * e.size)) ((Le k).flatMap fun i=>match l[i]? with
    | some y=>eh e y
    | none=>A6 e.size .u):=by
   intro k
   induction k with
   | zero=>intro _; simp [Rel2]
   | succ k ih =>
    intro hk
    rw [List.range_succ,List.flatMap_append,Lf,Nat.one_mul,List.take_add]
    refine (ih (by omega)).append ?_
    have hl:l[k]?=some l[k]:=A2 (by omega)
    simp only [MM,List.flatMap_nil,LU,hl]
    exact bA (h3 k (by omega))
  have:=key n (A7 n)
  rw [MI (by omega)] at this
  exact this
theorem lJ {τ : Ty} {v:SV} {l:List Atom} {u:Value} (h:gO τ v=some l) (hr:RelSV m u v) :
  Rel2 (ae m) u.cells.toList l∧∀ c∈u.cells.toList,c.oneCell'=true:=by
 have atom {a:Atom} (h:cond τ.isAgg none (some [a])=some l) (hr:ae m u a) (hu:u.oneCell'=true):Rel2 (ae m) u.cells.toList l∧∀ c∈u.cells.toList,c.oneCell'=true:=by
  cases ha : τ.isAgg with
  | true=>rw [ha] at h; simp at h
  | false =>
   rw [ha] at h
   simp at h
   subst h
   rw [jm hu]
   exact ⟨⟨hr,trivial⟩,by simp [hu]⟩
 cases v with
 | av a =>
  cases a with
  | val σ x =>
   simp only [gO] at h
   split at h
   ·rename_i e
    subst e
    simp only [A1] at h
    subst h
    obtain ⟨cs,rfl,hr⟩:=hr
    rw [mf hr]
    exact ⟨by simpa using bA hr,by simpa using hr.one⟩
   ·simp at h
  | u=>simp [gO] at h
  | undef=>simp [gO] at h
  | nils=>exact atom h hr (bP (m:=m) (a:=.nils) hr (by simp) (by simp))
  | own _=>exact atom h hr (bP (m:=m) (a:=.own _) hr (by simp) (by simp))
  | view _ _ _=>exact atom h hr (bP (m:=m) (a:=.view _ _ _) hr (by simp) (by simp))
  | ptr _ _=>exact atom h hr (bP (m:=m) (a:=.ptr _ _) hr (by simp) (by simp))
  | aptr _ _ _=>exact atom h hr (bP (m:=m) (a:=.aptr _ _ _) hr (by simp) (by simp))
  | clo _ _=>exact atom h hr (bP (m:=m) (a:=.clo _ _) hr (by simp) (by simp))
  | cut _ _ _=>exact atom h hr (bP (m:=m) (a:=.cut _ _ _) hr (by simp) (by simp))
  | bnd _ _=>exact atom h hr (bP (m:=m) (a:=.bnd _ _) hr (by simp) (by simp))
  | ownd _=>exact atom h hr (bP (m:=m) (a:=.ownd _) hr (by simp) (by simp))
  | sub _ _ _=>exact atom h hr (bP (m:=m) (a:=.sub _ _ _) hr (by simp) (by simp))
  | saptr _ _ _ _=>exact atom h hr (bP (m:=m) (a:=.saptr _ _ _ _) hr (by simp) (by simp))
  | ownm _=>exact atom h hr (bP (m:=m) (a:=.ownm _) hr (by simp) (by simp))
 | agg l' =>
  simp [gO] at h
  subst h
  obtain ⟨us,rfl,h1,h2⟩:=hr
  exact ⟨by simpa [Value.cells] using h2,by simpa [Value.cells] using h1⟩
 | tup _=>simp [gO] at h
theorem pU {τ : Ty} {l:List Atom} {us:List Value} (h1:∀ u∈us,u.oneCell'=true) (hr:Rel2 (ae m) us l):RelSV m (toV τ us) (lU τ l):=by
 unfold lU toV
 cases τ.isAgg with
 | true=>exact ⟨us,rfl,h1,hr⟩
 | false =>
  simp only [cond_false]
  split
  ·rename_i a
   match us,hr with
   | [u],hr=>exact RelSV.of_atom hr.1
  ·trivial
theorem mF:∀ {n:Nat} {l r:List Atom},pu n l=some r→r=l.take n∧n≤l.length
 | 0,l,r,h=>by simp [pu] at h; subst h; simp
 | n+1,a :: l,r,h=>by
  simp only [pu] at h
  split at h
  ·rename_i r' hr
   simp at h; subst h
   obtain ⟨rfl,h2⟩:=mF hr
   simp [h2]
  ·simp at h
 | n+1,[],r,h=>by simp [pu] at h
theorem lP:∀ {n:Nat} {xs l r:List Atom},qz n xs l=some r→r=l.take n++xs++l.drop (n+xs.length)∧n+xs.length≤l.length
 | 0,[],l,r,h=>by simp [qz] at h; subst h; simp
 | 0,x :: xs,[],r,h=>by simp [qz] at h
 | 0,x :: xs,a :: l,r,h=>by
  simp only [qz] at h
  split at h
  ·rename_i r' hr
   simp at h; subst h
   obtain ⟨h1,h2⟩:=lP hr
   simp at h1
   subst h1
   refine ⟨by simp,by simp at h2 ⊢; omega⟩
  ·simp at h
 | n+1,xs,a :: l,r,h=>by
  simp only [qz] at h
  split at h
  ·rename_i r' hr
   simp at h; subst h
   obtain ⟨rfl,h2⟩:=lP hr
   refine ⟨by simp [Nat.add_right_comm n 1],by simp; omega⟩
  ·simp at h
 | n+1,[],[],r,h=>by simp [qz] at h
 | n+1,_ :: _,[],r,h=>by simp [qz] at h
theorem lG {w:World} {F:Nat→Prop}:∀ {τ : Ty} {x : τ.den} {f:Nat} {σ : Ty} {y : σ.den} {cs:List Value},cO τ x f=some ⟨σ,y⟩→Rd w F τ cs x →
  ∃ o,τ.field f=some (o,σ)∧o+σ.size≤τ.size∧Rd w F σ ((cs.drop o).take σ.size) y
 | .prod a b,x,0,σ,y,cs,h,hr=>by
  simp only [cO,A1,Sigma.mk.injEq] at h
  obtain ⟨rfl,hy⟩:=h
  simp only [heq_eq_eq] at hy
  subst hy
  obtain ⟨c1,c2,rfl,h1,h2⟩:=hr
  refine ⟨0,rfl,by simp [Ty.size],?_⟩
  rw [ND,← h1.len,MY]
  exact h1
 | .prod a b,x,f+1,σ,y,cs,h,hr=>by
  simp only [cO] at h
  obtain ⟨c1,c2,rfl,h1,h2⟩:=hr
  obtain ⟨o,q1,q2,q3⟩:=lG h h2
  refine ⟨a.size+o,by simp [Ty.field,q1],by simp [Ty.size]; omega,?_⟩
  rw [← h1.len,Np,MJ (by omega),LW,Of]
  exact q3
 | .unit,_,_,_,_,_,h,_=>by simp [cO] at h
 | .int _,_,_,_,_,_,h,_=>by simp [cO] at h
 | .bool,_,_,_,_,_,h,_=>by simp [cO] at h
 | .str,_,_,_,_,_,h,_=>by simp [cO] at h
 | .slice _,_,_,_,_,_,h,_=>by simp [cO] at h
 | .arr _ _,_,_,_,_,_,h,_=>by simp [cO] at h
 | .ptr _,_,_,_,_,_,h,_=>by simp [cO] at h
 | .clo _ _,_,_,_,_,_,h,_=>by simp [cO] at h
theorem ew (cs:List Value) (o n o' n':Nat) (h:o'+n'≤n):(((cs.drop o).take n).drop o').take n'=(cs.drop (o+o')).take n':=by
 rw [List.drop_take,List.drop_drop,List.take_take]
 congr 1
 omega
theorem sD {w:World} {F:Nat→Prop}:∀ {p:List Nat} {τ : Ty} {x : τ.den} {σ : Ty} {y : σ.den} {cs:List Value},oc τ x p=some ⟨σ,y⟩→Rd w F τ cs x →
  ∃ o,dj τ p=some (o,σ)∧o+σ.size≤τ.size∧Rd w F σ ((cs.drop o).take σ.size) y
 | [],τ,x,σ,y,cs,h,hr=>by
  simp only [oc,A1,Sigma.mk.injEq] at h
  obtain ⟨rfl,hy⟩:=h
  simp only [heq_eq_eq] at hy
  subst hy
  refine ⟨0,rfl,by simp,?_⟩
  rw [ND,MI (by rw [hr.len]; exact A7 _)]
  exact hr
 | f :: p,τ,x,σ,y,cs,h,hr=>by
  simp only [oc] at h
  split at h
  ·rename_i t z hz
   obtain ⟨o1,q1,q2,q3⟩:=lG hz hr
   obtain ⟨o2,r1,r2,r3⟩:=sD h q3
   refine ⟨o1+o2,by simp [dj,q1,r1],by omega,?_⟩
   rw [ew _ _ _ _ _ r2] at r3
   exact r3
  ·simp at h
theorem og:∀ {p:List Nat} {τ σ ρ : Ty} {o q f:Nat},dj τ p=some (o,σ)→σ.field f=some (q,ρ)→dj τ (p++[f])=some (o+q,ρ)
 | [],τ,σ,ρ,o,q,f,h,hf=>by
  simp only [dj,A1,Ld] at h
  obtain ⟨rfl,rfl⟩:=h
  simp [dj,hf]
 | i :: p,τ,σ,ρ,o,q,f,h,hf=>by
  simp only [dj] at h
  split at h
  ·rename_i o1 t h1
   split at h
   ·rename_i q1 u h2
    simp only [A1,Ld] at h
    obtain ⟨rfl,rfl⟩:=h
    simp [dj,h1,og h2 hf,Lo]
   ·simp at h
  ·simp at h
theorem mO {w:World} {F:Nat→Prop}:∀ {τ : Ty} {x : τ.den} {p:List Nat} {σ : Ty} {y : σ.den} {z : τ.den} {cs us:List Value},dA τ x p σ y=some z→Rd w F τ cs x→Rd w F σ us y →
  ∃ o,dj τ p=some (o,σ)∧o+σ.size≤τ.size∧Rd w F τ (cs.take o++us++cs.drop (o+us.length)) z
 | τ,x,[],σ,y,z,cs,us,h,hr,hu=>by
  have h:bG τ σ y=some z:=by cases τ <;> exact h
  obtain ⟨e,hz⟩:=au h
  subst e; subst hz
  refine ⟨0,rfl,by simp,?_⟩
  simp only [Oe,LW,Nat.zero_add]
  rw [MJ (by rw [hu.len,hr.len]; exact A7 _),LU]
  exact hu
 | .prod a b,x,0 :: p,σ,y,z,cs,us,h,hr,hu=>by
  simp only [dA] at h
  split at h
  ·rename_i x' hx
   simp only [A1] at h
   subst h
   obtain ⟨c1,c2,rfl,h1,h2⟩:=hr
   obtain ⟨o,q1,q2,q3⟩:=mO hx h1 hu
   have hl:=h1.len
   have hul:=hu.len
   refine ⟨o,by simp [dj,Ty.field,q1],by simp [Ty.size]; omega,?_⟩
   refine ⟨c1.take o++us++c1.drop (o+us.length),c2,?_,q3,h2⟩
   rw [MK (by omega),List.drop_append_of_le_length (by omega)]
   simp
  ·simp at h
 | .prod a b,x,(f+1) :: p,σ,y,z,cs,us,h,hr,hu=>by
  simp only [dA] at h
  split at h
  ·rename_i x' hx
   simp only [A1] at h
   subst h
   obtain ⟨c1,c2,rfl,h1,h2⟩:=hr
   obtain ⟨o,q1,q2,q3⟩:=mO hx h2 hu
   have hl:=h1.len
   refine ⟨a.size+o,?_,by simp [Ty.size]; omega,?_⟩
   ·simp only [dj] at q1 ⊢
    simp only [Ty.field]
    cases hf:b.field f with
    | none=>rw [hf] at q1; simp at q1
    | some z =>
     obtain ⟨o1,t⟩:=z
     rw [hf] at q1
     simp only at q1 ⊢
     cases hp:dj t p with
     | none=>rw [hp] at q1; simp at q1
     | some z =>
      obtain ⟨q,u⟩:=z
      rw [hp] at q1
      simp only [A1,Ld] at q1
      obtain ⟨rfl,rfl⟩:=q1
      simp [Lo]
   ·refine ⟨c1,c2.take o++us++c2.drop (o+us.length),?_,h1,q3⟩
    rw [List.take_append,MI (by omega),Np,MJ (by omega),← hl]
    simp [Lo]
  ·simp at h
 | .unit,_,_ :: _,_,_,_,_,_,h,_,_=>by simp [dA] at h
 | .int _,_,_ :: _,_,_,_,_,_,h,_,_=>by simp [dA] at h
 | .bool,_,_ :: _,_,_,_,_,_,h,_,_=>by simp [dA] at h
 | .str,_,_ :: _,_,_,_,_,_,h,_,_=>by simp [dA] at h
 | .slice _,_,_ :: _,_,_,_,_,_,h,_,_=>by simp [dA] at h
 | .arr _ _,_,_ :: _,_,_,_,_,_,h,_,_=>by simp [dA] at h
 | .ptr _,_,_ :: _,_,_,_,_,_,h,_,_=>by simp [dA] at h
 | .clo _ _,_,_ :: _,_,_,_,_,_,h,_,_=>by simp [dA] at h
theorem cD:∀ {τ : Ty} {l r:List Value},zeroIs τ l=some r→∃ c,l=c++r∧Rd m.w m.F τ c (az τ)∧Rel2 (ae m) c (zeroCells τ)
 | .int k,l,r,h=>by
  match l with
  | .int k' n :: t =>
   simp only [zeroIs] at h
   cases hc:(decide (k'=k) && decide (n=0)) with
   | false=>rw [hc] at h; simp at h
   | true =>
    rw [hc] at h
    simp at h hc
    obtain ⟨rfl,rfl⟩:=hc
    subst h
    have hr:Rd m.w m.F (.int k') [.int k' 0] (az (.int k')):=⟨rfl,by cases k' <;> simp [az,IntKind.min,IntKind.max,IntKind.signed,IntKind.bits]⟩
    exact ⟨[.int k' 0],rfl,hr,⟨hr,rfl⟩,trivial⟩
  | []=>simp [zeroIs] at h
  | .bool _ :: _ | .float _ _ :: _ | .complex _ _ _ :: _ | .string _ :: _ | .pointer _ :: _ | .slice _ _ _ :: _ | .map _ :: _ | .chan _ :: _ | .func _ _ _ :: _ | .nilFunc :: _ | .iface _ _ :: _ | .nilIface :: _ | .agg _ :: _ | .tuple _ :: _=>simp [zeroIs] at h
 | .bool,l,r,h=>by
  match l with
  | .bool b :: t =>
   cases b <;> simp [zeroIs] at h
   subst h
   exact ⟨[.bool false],rfl,rfl,⟨rfl,rfl⟩,trivial⟩
  | []=>simp [zeroIs] at h
  | .int _ _ :: _ | .float _ _ :: _ | .complex _ _ _ :: _ | .string _ :: _ | .pointer _ :: _ | .slice _ _ _ :: _ | .map _ :: _ | .chan _ :: _ | .func _ _ _ :: _ | .nilFunc :: _ | .iface _ _ :: _ | .nilIface :: _ | .agg _ :: _ | .tuple _ :: _=>simp [zeroIs] at h
 | .str,l,r,h=>by
  match l with
  | .string s :: t =>
   simp only [zeroIs] at h
   cases hc:A8 s.size 0 with
   | false=>rw [hc] at h; simp at h
   | true =>
    rw [hc] at h
    simp at h
    subst h
    have h0:=A5 hc
    have:s=ByteArray.empty:=by
     cases s with
     | mk d =>
      have:d=#[]:=Array.eq_empty_of_size_eq_zero h0
      subst this; rfl
    subst this
    have hr:Rd m.w m.F .str [.string ByteArray.empty] (az .str):=⟨rfl,by simp [az,maxLen]⟩
    exact ⟨[.string ByteArray.empty],rfl,hr,⟨hr,rfl⟩,trivial⟩
  | []=>simp [zeroIs] at h
  | .int _ _ :: _ | .float _ _ :: _ | .complex _ _ _ :: _ | .bool _ :: _ | .pointer _ :: _ | .slice _ _ _ :: _ | .map _ :: _ | .chan _ :: _ | .func _ _ _ :: _ | .nilFunc :: _ | .iface _ _ :: _ | .nilIface :: _ | .agg _ :: _ | .tuple _ :: _=>simp [zeroIs] at h
 | .slice e,l,r,h=>by
  match l with
  | .slice none 0 0 :: t =>
   simp only [zeroIs,A1] at h
   subst h
   exact ⟨[.slice none 0 0],rfl,Rd.nil_slice none,⟨none,rfl⟩,trivial⟩
  | []=>simp [zeroIs] at h
  | .slice (some _) _ _ :: _=>simp [zeroIs] at h
  | .slice none (_+1) _ :: _=>simp [zeroIs] at h
  | .slice none 0 (_+1) :: _=>simp [zeroIs] at h
  | .int _ _ :: _ | .float _ _ :: _ | .complex _ _ _ :: _ | .bool _ :: _ | .pointer _ :: _ | .string _ :: _ | .map _ :: _ | .chan _ :: _ | .func _ _ _ :: _ | .nilFunc :: _ | .iface _ _ :: _ | .nilIface :: _ | .agg _ :: _ | .tuple _ :: _=>simp [zeroIs] at h
 | .prod a b,l,r,h=>by
  simp only [zeroIs] at h
  split at h
  ·rename_i r1 h1
   obtain ⟨c1,rfl,q1,p1⟩:=cD h1
   obtain ⟨c2,rfl,q2,p2⟩:=cD h
   exact ⟨c1++c2,by simp,⟨c1,c2,rfl,q1,q2⟩,p1.append p2⟩
  ·simp at h
 | .unit,l,r,h=>by simp [zeroIs] at h; subst h; exact ⟨[],rfl,rfl,trivial⟩
 | .arr n e,l,r,h=>by
  simp only [zeroIs] at h
  have key:∀ (n:Nat) {l r:List Value},zeroIs.repO (zeroIs e) n l=some r→∃ c,l=c++r∧c.length=n * e.size∧(∀ i,i < n→Rd m.w m.F e ((c.drop (i * e.size)).take e.size) (az e))∧Rel2 (ae m) c (A6 n (zeroCells e)).flatten:=by
   intro n
   induction n with
   | zero=>intro l r h; simp [zeroIs.repO] at h; subst h; exact ⟨[],rfl,by simp,fun i hi=>by omega,trivial⟩
   | succ n ih =>
    intro l r h
    simp only [zeroIs.repO] at h
    split at h
    ·rename_i r1 h1
     obtain ⟨c1,rfl,q1,p1⟩:=cD h1
     obtain ⟨c2,rfl,q2,q3,p2⟩:=ih h
     have hl:=q1.len
     refine ⟨c1++c2,by simp,by simp [q2,hl,Lf]; omega,?_,by rw [List.replicate_succ,List.flatten_cons]; exact p1.append p2⟩
     intro i hi
     cases i with
     | zero =>
      simp only [O4,ND]
      rw [MK (by omega),MI (by omega)]
      exact q1
     | succ i =>
      rw [show (i+1) * e.size=c1.length+i * e.size by rw [Lf,hl]; omega,Np,MJ (by omega),LW,Of]
      exact q3 i (by omega)
    ·simp at h
  obtain ⟨c,h1,h2,h3,h4⟩:=key n h
  exact ⟨c,h1,⟨by simp [az],h2,fun i hi=>by simpa [az] using h3 i (by simpa [az] using hi)⟩,h4⟩
 | .ptr _,l,r,h=>by cases l <;> simp [zeroIs] at h
 | .clo _ _,l,r,h=>by cases l <;> simp [zeroIs] at h
end
end Go.Vm

/-
 Writes into an object's block; objects given up.
-/
namespace Go.Vm
section
variable {P:Program} {C:Ctx} {w0:World} {M:Own} {m:Mem}
structure Wrote (w:World) (b:Nat) (w1:World):Prop where
 os:w1.os=w.os
 tape:w1.tape=w.tape
 output:w1.output=w.output
 size:w1.heap.size=w.heap.size
 block:∀ k,k≠b→w1.heap[k]?=w.heap[k]?
theorem bX (w:World) (b:Nat) (c:Array Value):Wrote w b (w.setRow b c) :=
 ⟨rfl,rfl,rfl,size_setRow w b c,fun k hk=>setRow_other w b k c hk⟩
theorem gX (hi:Inv C w0 M m) {id:Nat} {o o':Obj} {b:Nat} (hg:m.G.get id=some o) (hob:isObj o=true) (hbl:HB (m.ι id) b) (hal:Alike o o')
  {w1:World} (hw:Wrote m.w b w1) (ho:Evo m ⟨w1,m.F,m.ι,(id,o') :: m.G⟩→db ⟨w1,m.F,m.ι,(id,o') :: m.G⟩ id o') :
  Inv C w0 M ⟨w1,m.F,m.ι,(id,o') :: m.G⟩∧Evo m ⟨w1,m.F,m.ι,(id,o') :: m.G⟩:=by
 obtain ⟨hb1,hb2,hb3⟩:=hi.own id o b hg hob hbl
 have hob':isObj o'=true:=by rw [hal.isObj]; exact hob
 have he:Evo m ⟨w1,m.F,m.ι,(id,o') :: m.G⟩:=by
  refine ⟨fun k hF=>⟨hF,hw.block k (fun e=>hb2 (e ▸ hF))⟩,fun k p hp=>?_⟩
  by_cases e:id=k
  ·subst e
   rw [hg] at hp
   simp only [A1] at hp
   subst hp
   exact ⟨o',by rw [Heap.get_cons,if_pos rfl],.inr (.inl ⟨rfl,hal⟩)⟩
  ·exact ⟨p,by rw [Heap.get_cons,if_neg e]; exact hp,.inr (Goon.refl _ p)⟩
 refine ⟨⟨?_,?_,?_,?_,?_,?_,hi.bnd,fun i v h=>cX he (hi.pin i v h)⟩,he⟩
 ·refine ⟨hw.os.trans hi.kept.os,hw.tape.trans hi.kept.tape,hw.output.trans hi.kept.output,by rw [hw.size]; exact hi.kept.size,fun k hk hM=>?_⟩
  refine (hw.block k ?_).trans (hi.kept.block k hk hM)
  intro e; subst e
  rcases hb1 with hb1 | hb1
  ·omega
  ·exact hM hb1
 ·intro k p hp
  rw [Heap.get_cons] at hp
  split at hp
  ·rename_i e; subst e
   simp only [A1] at hp
   subst hp
   exact ho he
  ·rename_i hne
   by_cases hop:isObj p=true
   ·refine co he rfl (fun b' hb'=>hw.block b' ?_) (hi.objs k p hp)
    intro e; subst e
    exact hne (hi.inj id k o p b' hg hob hp hop hbl hb')
   ·cases p <;> simp_all [isObj,db]
 ·intro k p b' hp hop hbl'
  rw [Heap.get_cons] at hp
  have:(w0.heap.size≤b'∨M b')∧¬ m.F b'∧b' < m.w.heap.size:=by
   split at hp
   ·rename_i e; subst e
    exact hi.own id o b' hg hob hbl'
   ·exact hi.own k p b' hp hop hbl'
  exact ⟨this.1,this.2.1,by show b' < w1.heap.size; rw [hw.size]; exact this.2.2⟩
 ·intro i j p q b' hp hop hq hoq h1 h2
  rw [Heap.get_cons] at hp hq
  split at hp <;> split at hq
  ·omega
  ·rename_i e hne; subst e; exact hi.inj id j o q b' hg hob hq hoq h1 h2
  ·rename_i hne e; subst e; exact hi.inj i id p o b' hp hop hg hob h1 h2
  ·exact hi.inj i j p q b' hp hop hq hoq h1 h2
 ·intro b' hF; show b' < w1.heap.size; rw [hw.size]; exact hi.fro b' hF
 ·intro g τ x hx; exact (hi.glob g τ x hx).mono he.fro
theorem Evo.trans {m m1 m2:Mem} (a5:Evo m m1) (b5:Evo m1 m2):Evo m m2:=by
 refine ⟨fun b hb=>?_,fun k p hp=>?_⟩
 ·obtain ⟨c1,c2⟩:=a5.fro b hb
  obtain ⟨d1,d2⟩:=b5.fro b c1
  exact ⟨d1,d2.trans c2⟩
 ·obtain ⟨p1,c1,c2⟩:=a5.get k p hp
  obtain ⟨p2,d1,d2⟩:=b5.get k p1 c1
  refine ⟨p2,d1,?_⟩
  rcases d2 with rfl | d2
  ·exact .inl rfl
  ·rcases c2 with rfl | c2
   ·refine .inl ?_
    obtain ⟨_,d3⟩:=d2.same rfl
    cases p2 <;> simp_all [Alike]
   ·exact .inr (c2.trans d2)
theorem cS:∀ (ids:List Nat) {m:Mem},Inv C w0 M m →
  ∃ m',m'.w=m.w∧m'.ι=m.ι∧m'.G=am ids m.G∧Inv C w0 M m'∧Evo m m'∧∀ b,Thru m ids b→m'.F b
 | [],m,hi=>⟨m,rfl,rfl,rfl,hi,Evo.refl m,fun b hb=>by
   rcases hb with hb | ⟨i,hi,_⟩
   ·exact hb
   ·simp at hi⟩
 | i :: r,m,hi=>by
  have one:∃ m1:Mem,m1.w=m.w∧m1.ι=m.ι∧m1.G=(i,.dead) :: m.G∧Inv C w0 M m1∧Evo m m1∧∀ b,(m.F b∨Blk m i b)→m1.F b:=by
   cases hg:m.G.get i with
   | some o =>
    obtain ⟨h1,h2⟩:=Cf hi hg
    refine ⟨⟨m.w,fun b=>m.F b∨(isObj o=true∧HB (m.ι i) b),m.ι,(i,.dead) :: m.G⟩,rfl,rfl,rfl,h1,h2,?_⟩
    rintro b (hb | ⟨o',ho',ha,hb⟩)
    ·exact .inl hb
    ·rw [hg] at ho'
     simp only [A1] at ho'
     subst ho'
     exact .inr ⟨ha,hb⟩
   | none =>
    have he:Evo m ⟨m.w,m.F,m.ι,(i,.dead) :: m.G⟩:=by
     refine ⟨fun b hb=>⟨hb,rfl⟩,fun k p hp=>?_⟩
     have hne:i≠k:=fun e=>by subst e; rw [hg] at hp; cases hp
     exact ⟨p,by rw [Heap.get_cons,if_neg hne]; exact hp,.inr (Goon.refl _ p)⟩
    refine ⟨⟨m.w,m.F,m.ι,(i,.dead) :: m.G⟩,rfl,rfl,rfl,⟨hi.kept,?_,?_,?_,hi.fro,fun g τ x hx=>(hi.glob g τ x hx).mono he.fro,hi.bnd,fun i v h=>cX he (hi.pin i v h)⟩,he,?_⟩
    ·intro k p hp
     rw [Heap.get_cons] at hp
     split at hp
     ·simp at hp; subst hp; trivial
     ·exact co he rfl (fun _ _=>rfl) (hi.objs k p hp)
    ·intro k p b hp hop hb
     rw [Heap.get_cons] at hp
     split at hp
     ·simp at hp; subst hp; simp [isObj] at hop
     ·exact hi.own k p b hp hop hb
    ·intro j k p q b hp hop hq hoq h1 h2
     rw [Heap.get_cons] at hp hq
     split at hp
     ·simp at hp; subst hp; simp [isObj] at hop
     ·split at hq
      ·simp at hq; subst hq; simp [isObj] at hoq
      ·exact hi.inj j k p q b hp hop hq hoq h1 h2
    ·rintro b (hb | ⟨o',ho',_⟩)
     ·exact hb
     ·rw [hg] at ho'; cases ho'
  obtain ⟨m1,a1,a2,a3,a4,a5,a6⟩:=one
  obtain ⟨m2,b1,b2,b3,b4,b5,b6⟩:=cS r a4
  refine ⟨m2,b1.trans a1,b2.trans a2,by rw [b3,a3]; rfl,b4,a5.trans b5,?_⟩
  ·rintro b (hb | ⟨k,hk,hb⟩)
   ·exact b6 b (.inl (a6 b (.inl hb)))
   ·by_cases e:k=i
    ·subst e
     exact b6 b (.inl (a6 b (.inr hb)))
    ·rcases B3.1 hk with hk | hk
     ·exact absurd hk e
     ·obtain ⟨o,ho,h1,h2⟩:=hb
      refine b6 b (.inr ⟨k,hk,o,?_,h1,by rw [a2]; exact h2⟩)
      rw [a3,Heap.get_cons,if_neg (Ne.symm e)]
      exact ho
theorem Cg (hi:Inv C w0 M m) {w1:World} (hw:Kept m.w (fun _=>False) w1):Inv C w0 M ⟨w1,m.F,m.ι,m.G⟩∧Evo m ⟨w1,m.F,m.ι,m.G⟩:=by
 have hold:∀ b,b < m.w.heap.size→w1.heap[b]?=m.w.heap[b]?:=fun b hb=>hw.block b hb (fun h=>h)
 have he:Evo m ⟨w1,m.F,m.ι,m.G⟩:=⟨fun b hF=>⟨hF,hold b (hi.fro b hF)⟩,fun _ o h=>⟨o,h,.inr (Goon.refl _ o)⟩⟩
 refine ⟨⟨?_,?_,?_,hi.inj,?_,?_,hi.bnd,fun i v h=>cX he (hi.pin i v h)⟩,he⟩
 ·refine ⟨hw.os.trans hi.kept.os,hw.tape.trans hi.kept.tape,hw.output.trans hi.kept.output,LQ hi.kept.size hw.size,fun b hb hM=>?_⟩
  have:=hi.kept.size
  exact (hold b (by omega)).trans (hi.kept.block b hb hM)
 ·intro id p hp
  by_cases hop:isObj p=true
  ·exact co he rfl (fun b hb=>hold b (hi.own id p b hp hop hb).2.2) (hi.objs id p hp)
  ·cases p <;> simp_all [isObj,db]
 ·intro id p b hp hop hbl
  obtain ⟨h1,h2,h3⟩:=hi.own id p b hp hop hbl
  exact ⟨h1,h2,LA h3 hw.size⟩
 ·intro b hF; exact LA (hi.fro b hF) hw.size
 ·intro g τ x hx; exact (hi.glob g τ x hx).mono he.fro
end
end Go.Vm

/-
 Arrays of arrays that are owned to the bottom: what becomes of them in memory.
-/
namespace Go.Vm
section
variable {P:Program} {C:Ctx} {w0:World} {M:Own} {m:Mem}
theorem dE {i:Nat} {l:List Nat} (h:aK (i :: l)=true):i∉l∧aK l=true:=by
 simp only [aK,A4,Lz,L4] at h
 exact ⟨fun hi=>h.1 i hi (Nat.beq_refl i),h.2⟩
theorem jP:∀ {l r:List Nat},aK l=true→aK r=true→(∀ i∈l,i∉r)→aK (l++r)=true
 | [],_,_,h,_=>h
 | a :: l,r,h1,h2,h3=>by
  obtain ⟨n1,n2⟩:=dE h1
  have:=jP n2 h2 fun i hi=>h3 i (by simp [hi])
  simp only [List.cons_append,aK,this,Bool.and_true,Lz,L4]
  intro b hb e
  have e:=A5 (by simpa using e)
  subst e
  rcases B1.1 hb with hb | hb
  ·exact n1 hb
  ·exact h3 a (by simp) hb
theorem aT:∀ {l r:List Nat},aK (l++r)=true→aK l=true∧aK r=true∧∀ i∈l,i∉r
 | [],r,h=>⟨rfl,h,by simp⟩
 | a :: l,r,h=>by
  obtain ⟨h1,h2⟩:=dE (l:=l++r) h
  obtain ⟨h3,h4,h5⟩:=aT h2
  refine ⟨?_,h4,?_⟩
  ·simp only [aK,A4,Lz]
   refine ⟨?_,h3⟩
   rw [L4]
   intro b hb hab
   have:=A5 hab
   subst this
   exact h1 (by simp [hb])
  ·intro i hi
   rcases B3.1 hi with rfl | hi
   ·intro hr; exact h1 (by simp [hr])
   ·exact h5 i hi
theorem bq {w:World} {F:Nat→Prop} {u:Value} {e:Ty} {l:List e.den} (h:HdrW w F u e l):u.oneCell'=true:=by
 obtain ⟨ad,cap,rfl,_⟩:=h; rfl
theorem GP {w:World} {F:Nat→Prop} {u:Value} {σ : Ty} {l:List σ.den} (h:HdrW w F u σ l) {k:Nat} (hk:k < l.length) {cs:List Value} {y : σ.den} (hy:Rd w F σ cs y) :
  ∃ b off cap c el fz,u=.slice (some ⟨b,off,none⟩) l.length cap∧cap≠0∧w.heap[b]?=some (.cells c el fz)∧d8 σ c.size fz∧off+k * σ.size+σ.size≤c.size∧Rd w F σ (seg c (off+k * σ.size) σ.size) l[k] ∧
   ∀ (w1:World) (F1:Nat→Prop),(∀ b',F b'→F1 b'∧w1.heap[b']?=w.heap[b']?)→w1.heap[b]?=some (.cells (aF c (off+k * σ.size) cs) el fz)→HdrW w1 F1 u σ (l.set k y):=by
 obtain ⟨ad,cap,rfl,h2,h3,h4⟩:=h
 have hc:cap≠0:=by omega
 obtain ⟨b,off,c,el,fz,rfl,q2,q3,q4,q5⟩:=h4 hc
 have hlen:=hy.len
 have hle:(k+1) * σ.size≤cap * σ.size:=K9 _ (by omega)
 rw [Lf] at hle
 have hfit:off+k * σ.size+cs.length≤c.size:=by omega
 refine ⟨b,off,cap,c,el,fz,rfl,hc,q2,q3,by omega,q5 k hk,fun w1 F1 hF hb=>?_⟩
 refine ⟨some ⟨b,off,none⟩,cap,by simp,by simpa using h2,h3,fun _=>⟨b,off,_,el,fz,rfl,hb,by rw [bt _ _ _ hfit]; exact q3,by rw [bt _ _ _ hfit]; exact q4,fun i hi'=>?_⟩⟩
 simp only [LF] at hi'
 by_cases hij:k=i
 ·subst hij
  have e:=kj c (off+k * σ.size) cs hfit
  rw [hlen] at e
  rw [M2,e]
  exact hy.mono hF
 ·rw [MD hij,dS _ _ _ hfit]
  ·exact (q5 i hi').mono hF
  ·rcases NN hij with hlt | hgt
   ·right
    have:(k+1) * σ.size≤i * σ.size:=K9 _ hlt
    rw [Lf] at this; omega
   ·left
    have:(i+1) * σ.size≤k * σ.size:=K9 _ hgt
    rw [Lf] at this; omega
theorem BV {w:World} {F:Nat→Prop} {u:Value} {σ : Ty} {l:List σ.den} (h:HdrW w F u σ l) {k:Nat} (hk:k < l.length) :
  ∃ b off cap c el fz,u=.slice (some ⟨b,off,none⟩) l.length cap∧cap≠0∧w.heap[b]?=some (.cells c el fz)∧d8 σ c.size fz∧off+k * σ.size+σ.size≤c.size∧Rd w F σ (seg c (off+k * σ.size) σ.size) l[k]:=by
 obtain ⟨ad,cap,rfl,h2,h3,h4⟩:=h
 have hc:cap≠0:=by omega
 obtain ⟨b,off,c,el,fz,rfl,q2,q3,q4,q5⟩:=h4 hc
 have hle:(k+1) * σ.size≤cap * σ.size:=K9 _ (by omega)
 rw [Lf] at hle
 exact ⟨b,off,cap,c,el,fz,rfl,hc,q2,q3,by omega,q5 k hk⟩
theorem cg (hi:Inv C w0 M m) {id ver:Nat} {τ : Ty} {l:List (List τ.den)} {hole:Option Nat} (hg:m.G.get id=some (.deep ver τ l hole)) :
  ∃ u hs,m.ι id=.tuple (u :: hs).toArray∧DeepW m.w m.F u hs τ l hole:=hi.objs id _ hg
theorem ov {w:World} {F:Nat→Prop} {u:Value} {hs:List Value} {τ : Ty} {l:List (List τ.den)} {hole:Option Nat} (h:DeepW w F u hs τ l hole) {j:Nat} (hj:j < l.length) :
  ∃ b off cap c el fz v,u=.slice (some ⟨b,off,none⟩) l.length cap∧cap≠0∧w.heap[b]?=some (.cells c el fz)∧d8 (.slice τ) c.size fz∧off+cap≤c.size∧l.length≤cap∧hs[j]?=some v ∧
   (hole≠some j→c[off+j]?=some v∧HdrW w F v τ l[j]):=by
 obtain ⟨ad,cap,rfl,h2,h3,h4⟩:=h.outer
 have hc:cap≠0:=by omega
 obtain ⟨b,off,c,el,fz,rfl,q2,q3,q4,q5⟩:=h4 hc
 have hlt:j < hs.length:=by rw [h.len]; exact hj
 have hv:hs[j]?=some hs[j]:=A2 hlt
 exact ⟨b,off,cap,c,el,fz,hs[j],rfl,hc,q2,q3,q4,h2,hv,fun hne=>⟨by rw [q5 j hj hne,hv],h.inner j hj _ hv hne⟩⟩
theorem jt {l:List Value} (h:cz l) {i j:Nat} {u v:Value} (hij:i≠j) (hu:l[i]?=some u) (hv:l[j]?=some v) {b:Nat} (h1:HB u b) (h2:HB v b):False:=by
 obtain ⟨hi,rfl⟩:=A3.1 hu
 obtain ⟨hj,rfl⟩:=A3.1 hv
 rcases NN hij with hlt | hgt
 ·exact Mw.1 h i j hi hj hlt b h1 h2
 ·exact Mw.1 h j i hj hi hgt b h2 h1
theorem Ay {w w1:World} {F F1:Nat→Prop} {u:Value} {hs:List Value} {τ : Ty} {l:List (List τ.den)} {hole:Option Nat} (h:DeepW w F u hs τ l hole) {j:Nat} (hj:j < l.length) {v:Value} (hv:hs[j]?=some v)
  {b:Nat} (hb:HB v b) (hF:∀ b',F b'→F1 b'∧w1.heap[b']?=w.heap[b']?) (hw:∀ k,k≠b→w1.heap[k]?=w.heap[k]?) {y:List τ.den} (hy:hole≠some j→HdrW w1 F1 v τ y) (hh:hole≠some j) :
  DeepW w1 F1 u hs τ (l.set j y) hole:=by
 have hnb:∀ k v',(u :: hs)[k]?=some v'→k≠j+1→∀ b',HB v' b'→w1.heap[b']?=w.heap[b']?:=by
  intro k v' hk hkj b' hb'
  refine hw b' (fun e=>?_)
  subst e
  exact jt h.apart hkj hk (by simpa using hv) hb' hb
 refine ⟨by simpa using h.len,?_,fun i hi' v' hv' hne=>?_,h.gone,h.apart⟩
 ·obtain ⟨ad,cap,rfl,h2,h3,h4⟩:=h.outer
  refine ⟨ad,cap,by simp,by simpa using h2,h3,fun hc=>?_⟩
  obtain ⟨b1,off,c,el,fz,rfl,q2,q3,q4,q5⟩:=h4 hc
  exact ⟨b1,off,c,el,fz,rfl,by rw [hnb 0 _ rfl (by omega) b1 ⟨hc,rfl⟩]; exact q2,q3,q4,fun i hi'=>q5 i (by simpa using hi')⟩
 ·by_cases e:j=i
  ·subst e
   rw [hv] at hv'
   cases hv'
   rw [M2]
   exact hy hh
  ·rw [MD e]
   exact (h.inner i (by simpa using hi') v' hv' hne).mono hF (hnb (i+1) v' (by simpa using hv') (by omega))
def cZ (w0:World) (M:Own) (m:Mem) (u:Value):Prop :=
 ∀ b,HB u b→(w0.heap.size≤b∨M b)∧¬ m.F b∧b < m.w.heap.size∧∀ id o,m.G.get id=some o→isObj o=true→¬ HB (m.ι id) b
theorem Cx (hi:Inv C w0 M m) {id:Nat} {o:Obj} (hg:m.G.get id=some o) :
  Inv C w0 M ⟨m.w,m.F,m.ι,(id,.dead) :: m.G⟩∧Evo m ⟨m.w,m.F,m.ι,(id,.dead) :: m.G⟩∧(isObj o=true→∀ b,HB (m.ι id) b→(w0.heap.size≤b∨M b)∧¬ m.F b∧b < m.w.heap.size∧∀ k p,Heap.get ((id,.dead) :: m.G) k=some p→isObj p=true→¬ HB (m.ι k) b):=by
 have he:Evo m ⟨m.w,m.F,m.ι,(id,.dead) :: m.G⟩:=by
  refine ⟨fun b hF=>⟨hF,rfl⟩,fun k p hp=>?_⟩
  by_cases e:id=k
  ·exact ⟨.dead,by rw [Heap.get_cons,if_pos e],.inl rfl⟩
  ·exact ⟨p,by rw [Heap.get_cons,if_neg e]; exact hp,.inr (Goon.refl _ p)⟩
 refine ⟨⟨hi.kept,?_,?_,?_,hi.fro,fun g τ x hg=>hi.glob g τ x hg,hi.bnd,fun i v h=>cX he (hi.pin i v h)⟩,he,?_⟩
 ·intro k p hp
  rw [Heap.get_cons] at hp
  split at hp
  ·simp at hp; subst hp; trivial
  ·exact co he rfl (fun _ _=>rfl) (hi.objs k p hp)
 ·intro k p b hp hop hb
  rw [Heap.get_cons] at hp
  split at hp
  ·simp at hp; subst hp; simp [isObj] at hop
  ·exact hi.own k p b hp hop hb
 ·intro j k p q b hp hop hq hoq h1 h2
  rw [Heap.get_cons] at hp hq
  split at hp
  ·simp at hp; subst hp; simp [isObj] at hop
  ·split at hq
   ·simp at hq; subst hq; simp [isObj] at hoq
   ·exact hi.inj j k p q b hp hop hq hoq h1 h2
 ·intro hob b hb
  obtain ⟨k1,k2,k3⟩:=hi.own id o b hg hob hb
  refine ⟨k1,k2,k3,fun k p hp hop hb'=>?_⟩
  rw [Heap.get_cons] at hp
  split at hp
  ·simp at hp; subst hp; simp [isObj] at hop
  ·rename_i hne
   exact hne (hi.inj id k o p b hg hob hp hop hb hb')
theorem CZ {id:Nat} {u:Value} (h:cZ w0 M m u):cZ w0 M ⟨m.w,m.F,m.ι,(id,.dead) :: m.G⟩ u:=by
 intro b hb
 obtain ⟨k1,k2,k3,k4⟩:=h b hb
 refine ⟨k1,k2,k3,fun k p hp hop=>?_⟩
 change Heap.get ((id,.dead) :: m.G) k=_ at hp
 rw [Heap.get_cons] at hp
 split at hp
 ·simp at hp; subst hp; simp [isObj] at hop
 ·exact k4 k p hp hop
theorem jN:∀ (ids:List Nat) {m:Mem},Inv C w0 M m→(∀ i∈ids,∃ o,m.G.get i=some o) →
  Inv C w0 M ⟨m.w,m.F,m.ι,am ids m.G⟩∧Evo m ⟨m.w,m.F,m.ι,am ids m.G⟩∧(∀ u,cZ w0 M m u→cZ w0 M ⟨m.w,m.F,m.ι,am ids m.G⟩ u) ∧
   ∀ i∈ids,∀ o,m.G.get i=some o→isObj o=true→∀ b,HB (m.ι i) b→(w0.heap.size≤b∨M b)∧¬ m.F b∧b < m.w.heap.size∧∀ k p,(am ids m.G).get k=some p→isObj p=true→¬ HB (m.ι k) b
 | [],m,hi,_=>⟨hi,Evo.refl m,fun _ h=>h,fun i hi=>by simp at hi⟩
 | i :: r,m,hi,hex=>by
  obtain ⟨o,ho⟩:=hex i (by simp)
  obtain ⟨a1,a2,a3⟩:=Cx hi ho
  obtain ⟨b1,b2,b3,b4⟩:=jN r a1 (fun k hk=>by
   obtain ⟨p,hp⟩:=hex k (by simp [hk])
   show ∃ o,Heap.get ((i,.dead) :: m.G) k=some o
   rw [Heap.get_cons]
   split
   ·exact ⟨_,rfl⟩
   ·exact ⟨p,hp⟩)
  refine ⟨b1,a2.trans b2,fun u hu=>b3 u (CZ hu),fun k hk p hp hop b hb=>?_⟩
  by_cases e:i=k
  ·subst e
   rw [ho] at hp
   cases hp
   have hf:cZ w0 M ⟨m.w,m.F,m.ι,(i,.dead) :: m.G⟩ (m.ι i):=fun b hb=>a3 hop b hb
   exact b3 _ hf b hb
  ·have hk':k∈r:=by
    rcases B3.1 hk with h | h
    ·exact absurd h.symm e
    ·exact h
   exact b4 k hk' p (by show Heap.get ((i,.dead) :: m.G) k=_; rw [Heap.get_cons,if_neg e]; exact hp) hop b hb
theorem tq (hi:Inv C w0 M m) {w1:World} {Mc:Nat→Prop} (hk:Kept m.w Mc w1) (hMc:∀ b,Mc b→(w0.heap.size≤b∨M b)∧¬ m.F b∧∀ id o,m.G.get id=some o→isObj o=true→¬ HB (m.ι id) b) :
  Inv C w0 M ⟨w1,m.F,m.ι,m.G⟩∧Evo m ⟨w1,m.F,m.ι,m.G⟩:=by
 have he:Evo m ⟨w1,m.F,m.ι,m.G⟩:=⟨fun b hF=>⟨hF,hk.block b (hi.fro b hF) (fun h=>(hMc b h).2.1 hF)⟩,fun _ o h=>⟨o,h,.inr (Goon.refl _ o)⟩⟩
 refine ⟨⟨?_,?_,?_,hi.inj,?_,?_,hi.bnd,fun i v h=>cX he (hi.pin i v h)⟩,he⟩
 ·refine ⟨hk.os.trans hi.kept.os,hk.tape.trans hi.kept.tape,hk.output.trans hi.kept.output,LQ hi.kept.size hk.size,fun b hb hM=>?_⟩
  have:=hi.kept.size
  refine (hk.block b (by omega) (fun h=>?_)).trans (hi.kept.block b hb hM)
  rcases (hMc b h).1 with h | h
  ·omega
  ·exact hM h
 ·intro id p hp
  by_cases hop:isObj p=true
  ·exact co he rfl (fun b hb=>hk.block b (hi.own id p b hp hop hb).2.2 (fun h=>(hMc b h).2.2 id p hp hop hb)) (hi.objs id p hp)
  ·cases p <;> simp_all [isObj,db]
 ·intro id p b hp hop hbl
  obtain ⟨h1,h2,h3⟩:=hi.own id p b hp hop hbl
  exact ⟨h1,h2,LA h3 hk.size⟩
 ·intro b hF; exact LA (hi.fro b hF) hk.size
 ·intro g τ x hx; exact (hi.glob g τ x hx).mono he.fro
theorem yP (hi:Inv C w0 M m) {i:Nat} (hn:m.G.get i=none) {h:Value} {o:Obj} (ho:db ⟨m.w,m.F,fun k=>if k=i then h else m.ι k,(i,o) :: m.G⟩ i o) (hf:cZ w0 M m h) :
  Inv C w0 M ⟨m.w,m.F,fun k=>if k=i then h else m.ι k,(i,o) :: m.G⟩∧Evo m ⟨m.w,m.F,fun k=>if k=i then h else m.ι k,(i,o) :: m.G⟩:=by
 have he:Evo m ⟨m.w,m.F,fun k=>if k=i then h else m.ι k,(i,o) :: m.G⟩:=by
  refine ⟨fun b hF=>⟨hF,rfl⟩,fun id p hp=>?_⟩
  have hne:i≠id:=fun e=>by subst e; rw [hn] at hp; cases hp
  exact ⟨p,by rw [Heap.get_cons,if_neg hne]; exact hp,.inr (.inl ⟨by simp [Ne.symm hne],Alike.refl p⟩)⟩
 refine ⟨⟨hi.kept,?_,?_,?_,hi.fro,fun g τ x hg=>hi.glob g τ x hg,hi.bnd,fun i v h=>cX he (hi.pin i v h)⟩,he⟩
 ·intro id p hp
  rw [Heap.get_cons] at hp
  split at hp
  ·rename_i e0
   subst e0
   simp only [A1] at hp
   subst hp
   exact ho
  ·rename_i hne
   exact co he (by simp [Ne.symm hne]) (fun _ _=>rfl) (hi.objs id p hp)
 ·intro id p b hp hop hbl
  rw [Heap.get_cons] at hp
  split at hp
  ·rename_i e0
   subst e0
   obtain ⟨h1,h2,h3,_⟩:=hf b (by simpa using hbl)
   exact ⟨h1,h2,h3⟩
  ·rename_i hne
   exact hi.own id p b hp hop (by simpa [Ne.symm hne] using hbl)
 ·intro j k p q b hp hop hq hoq hj hk
  rw [Heap.get_cons] at hp hq
  split at hp <;> split at hq
  ·omega
  ·rename_i e0 hne; subst e0
   exact absurd (by simpa [Ne.symm hne] using hk) ((hf b (by simpa using hj)).2.2.2 k q hq hoq)
  ·rename_i hne e0; subst e0
   exact absurd (by simpa [Ne.symm hne] using hj) ((hf b (by simpa using hk)).2.2.2 j p hp hop)
  ·rename_i n1 n2
   exact hi.inj j k p q b hp hop hq hoq (by simpa [Ne.symm n1] using hj) (by simpa [Ne.symm n2] using hk)
theorem Aq {us:List Value} (h1:∀ v∈us,v.oneCell'=true) (h:∀ v∈us,cZ w0 M m v):cZ w0 M m (.tuple us.toArray):=by
 intro b hb
 obtain ⟨v,hv,hb⟩:=(bR h1).1 hb
 exact h v hv b hb
theorem ia (hi:Inv C w0 M m) {i:Nat} (hn:m.G.get i=none) {u:Value} {hs:List Value} {τ : Ty} {l:List (List τ.den)} (hd:DeepW m.w m.F u hs τ l none) (hf:∀ v∈u :: hs,cZ w0 M m v) :
  ∃ m',m'.w=m.w∧m'.F=m.F∧m'.G=(i,.deep 0 τ l none) :: m.G∧m'.ι=(fun k=>if k=i then .tuple (u :: hs).toArray else m.ι k)∧Inv C w0 M m'∧Evo m m'∧ae m' u (.ownd i):=by
 obtain ⟨g1,g2⟩:=yP hi hn (h:=.tuple (u :: hs).toArray) (o:=.deep 0 τ l none) ⟨u,hs,by simp,hd⟩ (Aq hd.one hf)
 exact ⟨⟨m.w,m.F,fun k=>if k=i then .tuple (u :: hs).toArray else m.ι k,(i,.deep 0 τ l none) :: m.G⟩,rfl,rfl,rfl,rfl,g1,g2,hd.one u (by simp),.deep 0 τ l none,by rw [Heap.get_cons,if_pos rfl],(u :: hs).toArray,by simp,by simp⟩
theorem zT (hi:Inv C w0 M m) {id ver j i:Nat} {τ : Ty} {l:List (List τ.den)} (hg:m.G.get id=some (.deep ver τ l none)) (hj:j < l.length) (hn:m.G.get i=none) {v:Value} (hv:∃ us,m.ι id=.tuple us∧us[j+1]?=some v) :
  ∃ m',m'.w=m.w∧m'.F=m.F∧m'.G=(i,.arr τ l[j]) :: (id,.deep (ver+1) τ l (some j)) :: m.G∧Inv C w0 M m'∧Evo m m'∧ae m' v (.own i):=by
 obtain ⟨u,hs,h1,h2⟩:=cg hi hg
 obtain ⟨us,h3,h4⟩:=hv
 rw [h1] at h3
 simp only [Value.tuple.injEq] at h3
 subst h3
 simp only [Lv,Lp] at h4
 have hne:i≠id:=fun e=>by subst e; rw [hn] at hg; cases hg
 have hjs:j < hs.length:=by rw [h2.len]; exact hj
 have hvH:=h2.inner j hj v h4 (by simp)
 obtain ⟨ι',hι'⟩ : ∃ ι':Nat→Value,ι'=fun k=>if k=i then v else if k=id then .tuple (u :: hs.set j (.slice none 0 0)).toArray else m.ι k:=⟨_,rfl⟩
 have hιi : ι' i=v:=by rw [hι']; simp
 have hιd : ι' id=.tuple (u :: hs.set j (.slice none 0 0)).toArray:=by rw [hι']; simp [Ne.symm hne]
 have hιo:∀ k,k≠i→k≠id→ι' k=m.ι k:=fun k a b=>by rw [hι']; simp [a,b]
 have hd':DeepW m.w m.F u (hs.set j (.slice none 0 0)) τ l (some j):=by
  refine ⟨by simpa using h2.len,?_,fun k hk v' hv' hne'=>?_,fun k v' hk hv'=>?_,?_⟩
  ·obtain ⟨ad,cap,rfl,q2,q3,q4⟩:=h2.outer
   refine ⟨ad,cap,rfl,q2,q3,fun hc=>?_⟩
   obtain ⟨b,off,c,el,fz,rfl,r2,r3,r4,r5⟩:=q4 hc
   refine ⟨b,off,c,el,fz,rfl,r2,r3,r4,fun k hk hne'=>?_⟩
   rw [r5 k hk (by simp),Mz (by intro e; exact hne' (by rw [e]))]
  ·rw [Mz (by intro e; exact hne' (by rw [e]))] at hv'
   exact h2.inner k hk v' hv' (by simp)
  ·cases hk
   rw [MX hjs] at hv'
   cases hv'; rfl
  ·have hnil:∀ b,¬ HB (.slice none 0 0) b:=fun b hb=>by simp [HB,HB1] at hb
   rw [cz,Mw]
   intro p q hp hq hpq b hb1 hb2
   have get:∀ k (hk:k < (u :: hs.set j (.slice none 0 0)).length),(u :: hs.set j (.slice none 0 0))[k]=.slice none 0 0∨(u :: hs)[k]?=some (u :: hs.set j (.slice none 0 0))[k]:=by
    intro k hk
    cases k with
    | zero=>right; simp
    | succ k =>
     simp only [Nt,Lp]
     by_cases e:j=k
     ·subst e; left; simp
     ·right
      simp only [La,LF] at hk
      rw [MD e,A2]
   rcases get p hp with e | e
   ·rw [e] at hb1; exact hnil b hb1
   ·rcases get q hq with e' | e'
    ·rw [e'] at hb2; exact hnil b hb2
    ·exact jt h2.apart (by omega) e e' hb1 hb2
 have get3:∀ k,Heap.get ((i,.arr τ l[j]) :: (id,.deep (ver+1) τ l (some j)) :: m.G) k=if i=k then some (.arr τ l[j]) else if id=k then some (.deep (ver+1) τ l (some j)) else m.G.get k:=by
  intro k; rw [Heap.get_cons,Heap.get_cons]
 have he:Evo m ⟨m.w,m.F,ι',(i,.arr τ l[j]) :: (id,.deep (ver+1) τ l (some j)) :: m.G⟩:=by
  refine ⟨fun b hb=>⟨hb,rfl⟩,fun k p hp=>?_⟩
  have hik:i≠k:=fun e=>by subst e; rw [hn] at hp; cases hp
  by_cases e:id=k
  ·subst e
   rw [hg] at hp
   cases hp
   refine ⟨_,by rw [get3,if_neg hik,if_pos rfl],.inr (.inr ?_)⟩
   show my (m.ι id) (ι' id) _ _
   rw [h1,hιd]
   exact ⟨Mf _,rfl,rfl,_,_,rfl,rfl,by simp⟩
  ·refine ⟨p,by rw [get3,if_neg hik,if_neg e]; exact hp,.inr (.inl ⟨hιo k (Ne.symm hik) (Ne.symm e),Alike.refl p⟩)⟩
 have hbv:∀ b,HB v b→HB (m.ι id) b:=fun b hb=>by rw [h1,bR h2.one]; exact ⟨v,Ll _ (B2 h4),hb⟩
 have hbd:∀ b,HB (ι' id) b→HB (m.ι id) b∧¬ HB v b:=by
  intro b hb
  rw [hιd,bR hd'.one] at hb
  obtain ⟨v',hv',hb⟩:=hb
  obtain ⟨k,hk⟩:=LM.1 hv'
  have key:k≠j+1∧(u :: hs)[k]?=some v':=by
   cases k with
   | zero=>exact ⟨by omega,hk⟩
   | succ k =>
    simp only [Lp] at hk ⊢
    by_cases e:j=k
    ·subst e
     rw [MX hjs] at hk
     cases hk
     simp [HB,HB1] at hb
    ·rw [Mz e] at hk
     exact ⟨by omega,hk⟩
  refine ⟨?_,fun hbv'=>jt h2.apart key.1 key.2 (by simpa using h4) hb hbv'⟩
  rw [h1,bR h2.one]
  exact ⟨v',B2 key.2,hb⟩
 -- whose block it is
 have src:∀ k p b,Heap.get ((i,.arr τ l[j]) :: (id,.deep (ver+1) τ l (some j)) :: m.G) k=some p→isObj p=true→HB (ι' k) b →
   (k=i∧HB v b)∨(k=id∧HB (m.ι id) b∧¬ HB v b)∨(k≠i∧k≠id∧m.G.get k=some p∧HB (m.ι k) b):=by
  intro k p b hp hop hb
  rw [get3] at hp
  split at hp
  ·rename_i e; subst e
   rw [hιi] at hb
   exact .inl ⟨rfl,hb⟩
  ·rename_i hik
   split at hp
   ·rename_i e; subst e
    exact .inr (.inl ⟨rfl,hbd b hb⟩)
   ·rename_i hid
    rw [hιo k (Ne.symm hik) (Ne.symm hid)] at hb
    exact .inr (.inr ⟨Ne.symm hik,Ne.symm hid,hp,hb⟩)
 refine ⟨⟨m.w,m.F,ι',(i,.arr τ l[j]) :: (id,.deep (ver+1) τ l (some j)) :: m.G⟩,rfl,rfl,rfl,⟨hi.kept,?_,?_,?_,hi.fro,fun g τ x hg=>hi.glob g τ x hg,hi.bnd,fun i v h=>cX he (hi.pin i v h)⟩,he,?_⟩
 ·intro k p hp
  change Heap.get ((i,.arr τ l[j]) :: (id,.deep (ver+1) τ l (some j)) :: m.G) k=_ at hp
  rw [get3] at hp
  split at hp
  ·rename_i e; subst e
   cases hp
   show HdrW m.w m.F (ι' i) τ l[j]
   rw [hιi]; exact hvH
  ·rename_i hik
   split at hp
   ·rename_i e; subst e
    cases hp
    exact ⟨u,_,hιd,hd'⟩
   ·rename_i hid
    exact co he (hιo k (Ne.symm hik) (Ne.symm hid)) (fun _ _=>rfl) (hi.objs k p hp)
 ·intro k p b hp hop hb
  rcases src k p b hp hop hb with ⟨_,h⟩ | ⟨_,h,_⟩ | ⟨_,_,h,h'⟩
  ·exact hi.own id _ b hg rfl (hbv b h)
  ·exact hi.own id _ b hg rfl h
  ·exact hi.own k p b h hop h'
 ·intro k k' p q b hp hop hq hoq hb hb'
  rcases src k p b hp hop hb with ⟨e,h⟩ | ⟨e,h,hnv⟩ | ⟨n1,n2,h,h'⟩ <;> rcases src k' q b hq hoq hb' with ⟨e',g⟩ | ⟨e',g,gnv⟩ | ⟨n3,n4,g,g'⟩
  ·rw [e,e']
  ·exact absurd h gnv
  ·exact absurd (hi.inj id k' _ q b hg rfl g hoq (hbv b h) g') (Ne.symm n4)
  ·exact absurd g hnv
  ·rw [e,e']
  ·exact absurd (hi.inj id k' _ q b hg rfl g hoq h g') (Ne.symm n4)
  ·exact absurd (hi.inj k id p _ b h hop hg rfl h' (hbv b g)) n2
  ·exact absurd (hi.inj k id p _ b h hop hg rfl h' g) n2
  ·exact hi.inj k k' p q b h hop g hoq h' g'
 ·exact ⟨bq hvH,.arr τ l[j],by rw [get3,if_pos rfl],fun _=>hιi.symm⟩
theorem Dw (hi:Inv C w0 M m) {id ver j:Nat} {τ : Ty} {l:List (List τ.den)} {hole:Option Nat} (hg:m.G.get id=some (.deep ver τ l hole)) (hj:j < l.length) (hh:hole=none∨hole=some j)
  {v:Value} {x:List τ.den} (hx:HdrW m.w m.F v τ x) (hf:cZ w0 M m v) {w1:World} {b off cap:Nat} {c:Array Value} {el:TypeId} {fz:Nat×Nat} {us:Array Value} (hu:m.ι id=.tuple us) (hu0:us[0]?=some (.slice (some ⟨b,off,none⟩) l.length cap)) (hc0:cap≠0)
  (hb:m.w.heap[b]?=some (.cells c el fz)) (hw:Wrote m.w b w1) (hb1:w1.heap[b]?=some (.cells (aF c (off+j) [v]) el fz)) :
  ∃ m',m'.w=w1∧m'.F=m.F∧m'.G=(id,.deep (ver+1) τ (l.set j x) none) :: m.G∧Inv C w0 M m'∧Evo m m':=by
 obtain ⟨u,hs,h1,h2⟩:=cg hi hg
 rw [h1] at hu
 simp only [Value.tuple.injEq] at hu
 subst hu
 simp only [Lv,Lt,A1] at hu0
 subst hu0
 have hjs:j < hs.length:=by rw [h2.len]; exact hj
 have hbo:HB (m.ι id) b:=by rw [h1,bR h2.one]; exact ⟨_,LL ..,hc0,rfl⟩
 obtain ⟨o1,o2,o3⟩:=hi.own id _ b hg rfl hbo
 have hvb:¬ HB v b:=fun h=>(hf b h).2.2.2 id _ hg rfl hbo
 have hF:∀ b',m.F b'→m.F b'∧w1.heap[b']?=m.w.heap[b']?:=fun b' hb'=>⟨hb',hw.block b' (fun e=>o2 (e ▸ hb'))⟩
 obtain ⟨ι',hι'⟩ : ∃ ι':Nat→Value,ι'=fun k=>if k=id then .tuple (.slice (some ⟨b,off,none⟩) l.length cap :: hs.set j v).toArray else m.ι k:=⟨_,rfl⟩
 have hιd : ι' id=.tuple (.slice (some ⟨b,off,none⟩) l.length cap :: hs.set j v).toArray:=by rw [hι']; simp
 have hιo:∀ k,k≠id→ι' k=m.ι k:=fun k a=>by rw [hι']; simp [a]
 have hd':DeepW w1 m.F (.slice (some ⟨b,off,none⟩) l.length cap) (hs.set j v) τ (l.set j x) none:=by
  obtain ⟨ad,cap',e1,q2,q3,q4⟩:=h2.outer
  simp only [Value.slice.injEq,true_and] at e1
  obtain ⟨rfl,rfl⟩:=e1
  obtain ⟨b',off',c',el',fz',e2,r2,r3,r4,r5⟩:=q4 hc0
  cases e2
  rw [hb] at r2
  cases r2
  have hfit:off+j+[v].length≤c.size:=by simp; omega
  refine ⟨by simpa using h2.len,⟨_,cap,by simp,by simpa using q2,q3,fun _=>⟨b,off,_,el,fz,rfl,hb1,by rw [bt _ _ _ hfit]; exact r3,by rw [bt _ _ _ hfit]; exact r4,fun k hk _=>?_⟩⟩,fun k hk v' hv' _=>?_,fun k v' hk=>(by cases hk),?_⟩
  ·simp only [LF] at hk
   rw [cB _ _ _ hfit]
   by_cases e:j=k
   ·subst e
    rw [if_pos (by simp),MX hjs]
    simp
   ·rw [if_neg (by simp only [La,LG]; omega),Mz e]
    exact r5 k hk (by rcases hh with rfl | rfl <;> simp [e])
  ·simp only [LF] at hk
   by_cases e:j=k
   ·subst e
    rw [MX hjs] at hv'
    cases hv'
    rw [M2]
    exact hx.mono hF (fun b' hb'=>hw.block b' (fun e=>by subst e; exact hvb hb'))
   ·rw [Mz e] at hv'
    rw [MD e]
    refine (h2.inner k hk v' hv' (by rcases hh with rfl | rfl <;> simp [e])).mono hF (fun b' hb'=>hw.block b' (fun e=>?_))
    subst e
    exact jt h2.apart (i:=0) (j:=k+1) (by omega) rfl (by simpa using hv') ⟨hc0,rfl⟩ hb'
  ·have old:∀ k v',(Value.slice (some ⟨b,off,none⟩) l.length cap :: hs)[k]?=some v'→∀ b',HB v' b'→HB (m.ι id) b':=fun k v' hk b' hb'=>by rw [h1,bR h2.one]; exact ⟨v',B2 hk,hb'⟩
   have get:∀ k (hk:k < (Value.slice (some ⟨b,off,none⟩) l.length cap :: hs.set j v).length),(k=j+1∧(Value.slice (some ⟨b,off,none⟩) l.length cap :: hs.set j v)[k]=v)∨(k≠j+1∧(Value.slice (some ⟨b,off,none⟩) l.length cap :: hs)[k]?=some (Value.slice (some ⟨b,off,none⟩) l.length cap :: hs.set j v)[k]):=by
    intro k hk
    cases k with
    | zero=>right; simp
    | succ k =>
     simp only [Nt,Lp]
     by_cases e:j=k
     ·subst e; left; simp
     ·right
      simp only [La,LF] at hk
      refine ⟨by omega,?_⟩
      rw [MD e,A2]
   rw [cz,Mw]
   intro p q hp hq hpq b' hb1' hb2'
   rcases get p hp with ⟨e0,e⟩ | ⟨_,e⟩ <;> rcases get q hq with ⟨e0',e'⟩ | ⟨_,e'⟩
   ·omega
   ·rw [e] at hb1'; exact (hf b' hb1').2.2.2 id _ hg rfl (old q _ e' b' hb2')
   ·rw [e'] at hb2'; exact (hf b' hb2').2.2.2 id _ hg rfl (old p _ e b' hb1')
   ·exact jt h2.apart (by omega) e e' hb1' hb2'
 have hbd:∀ b',HB (ι' id) b'→HB (m.ι id) b'∨HB v b':=by
  intro b' hb'
  rw [hιd,bR hd'.one] at hb'
  obtain ⟨v',hv',hb'⟩:=hb'
  rcases B3.1 hv' with rfl | hv'
  ·left; rw [h1,bR h2.one]; exact ⟨_,LL ..,hb'⟩
  ·rcases List.mem_or_eq_of_mem_set hv' with hv' | rfl
   ·left; rw [h1,bR h2.one]; exact ⟨_,Ll _ hv',hb'⟩
   ·exact .inr hb'
 have he:Evo m ⟨w1,m.F,ι',(id,.deep (ver+1) τ (l.set j x) none) :: m.G⟩:=by
  refine ⟨hF,fun k p hp=>?_⟩
  by_cases e:id=k
  ·subst e
   rw [hg] at hp
   cases hp
   refine ⟨_,by rw [Heap.get_cons,if_pos rfl],.inr (.inr ?_)⟩
   show my (m.ι id) (ι' id) _ _
   rw [h1,hιd]
   exact ⟨Mf _,rfl,by simp,_,_,rfl,rfl,by simp⟩
  ·exact ⟨p,by rw [Heap.get_cons,if_neg e]; exact hp,.inr (.inl ⟨hιo k (Ne.symm e),Alike.refl p⟩)⟩
 refine ⟨⟨w1,m.F,ι',(id,.deep (ver+1) τ (l.set j x) none) :: m.G⟩,rfl,rfl,rfl,⟨?_,?_,?_,?_,?_,?_,hi.bnd,fun i v h=>cX he (hi.pin i v h)⟩,he⟩
 ·refine ⟨hw.os.trans hi.kept.os,hw.tape.trans hi.kept.tape,hw.output.trans hi.kept.output,by show _≤w1.heap.size; rw [hw.size]; exact hi.kept.size,fun k hk hM=>?_⟩
  refine (hw.block k ?_).trans (hi.kept.block k hk hM)
  intro e; subst e
  rcases o1 with o1 | o1
  ·omega
  ·exact hM o1
 ·intro k p hp
  change Heap.get ((id,.deep (ver+1) τ (l.set j x) none) :: m.G) k=_ at hp
  rw [Heap.get_cons] at hp
  split at hp
  ·rename_i e; subst e
   cases hp
   exact ⟨_,_,hιd,hd'⟩
  ·rename_i hne
   by_cases hop:isObj p=true
   ·refine co he (hιo k (Ne.symm hne)) (fun b' hb'=>hw.block b' ?_) (hi.objs k p hp)
    intro e; subst e
    exact hne (hi.inj id k _ p b' hg rfl hp hop hbo hb')
   ·cases p <;> simp_all [isObj,db]
 ·intro k p b' hp hop hb'
  change Heap.get ((id,.deep (ver+1) τ (l.set j x) none) :: m.G) k=_ at hp
  rw [Heap.get_cons] at hp
  have:(w0.heap.size≤b'∨M b')∧¬ m.F b'∧b' < m.w.heap.size:=by
   split at hp
   ·rename_i e; subst e
    rcases hbd b' hb' with h | h
    ·exact hi.own id _ b' hg rfl h
    ·obtain ⟨k1,k2,k3,_⟩:=hf b' h
     exact ⟨k1,k2,k3⟩
   ·rename_i hne
    exact hi.own k p b' hp hop (by rw [← hιo k (Ne.symm hne)]; exact hb')
  exact ⟨this.1,this.2.1,by show b' < w1.heap.size; rw [hw.size]; exact this.2.2⟩
 ·intro k k' p q b' hp hop hq hoq hb hb'
  change Heap.get ((id,.deep (ver+1) τ (l.set j x) none) :: m.G) _=_ at hp hq
  rw [Heap.get_cons] at hp hq
  split at hp <;> split at hq
  ·omega
  ·rename_i e hne; subst e
   have hb':HB (m.ι k') b':=by rw [← hιo k' (Ne.symm hne)]; exact hb'
   rcases hbd b' hb with h | h
   ·exact hi.inj id k' _ q b' hg rfl hq hoq h hb'
   ·exact absurd hb' ((hf b' h).2.2.2 k' q hq hoq)
  ·rename_i hne e; subst e
   have hb:HB (m.ι k) b':=by rw [← hιo k (Ne.symm hne)]; exact hb
   rcases hbd b' hb' with h | h
   ·exact hi.inj k id p _ b' hp hop hg rfl hb h
   ·exact absurd hb ((hf b' h).2.2.2 k p hp hop)
  ·rename_i n1 n2
   exact hi.inj k k' p q b' hp hop hq hoq (by rw [← hιo k (Ne.symm n1)]; exact hb) (by rw [← hιo k' (Ne.symm n2)]; exact hb')
 ·intro b' hF'; show b' < w1.heap.size; rw [hw.size]; exact hi.fro b' hF'
 ·intro g τ x hx; exact (hi.glob g τ x hx).mono he.fro
end
end Go.Vm

/-
 The machine's operations against the model's: memory.
-/
namespace Go.Vm
section
variable {P:Program} {C:Ctx} {w0:World} {M:Own} {o:Oper} {a:Act} {m:Mem} {s s':St}
theorem iq {R:Type} {v:SV} {K:Int→Option R} {r:R} (h:asI v K=some r):∃ (k:IntKind) (n:Int),v=.av (.val (.int k) n)∧K n=some r:=by
 unfold asI at h
 split at h
 ·exact ⟨_,_,rfl,h⟩
 ·simp at h
theorem pm (hi:Inv C w0 M m) {id:Nat} {τ : Ty} {l:List τ.den} (hg:m.G.get id=some (.arr τ l)) {j:Nat} (hj:j < l.length) :
  ∃ b off cap c el fz,m.ι id=.slice (some ⟨b,off,none⟩) l.length cap∧l.length≤cap∧cap≠0∧m.w.heap[b]?=some (.cells c el fz)∧d8 τ c.size fz∧off+cap * τ.size≤c.size ∧
   off+j * τ.size+τ.size≤c.size∧(∀ i (h:i < l.length),Rd m.w m.F τ (seg c (off+i * τ.size) τ.size) l[i])∧cap≤maxLen:=by
 obtain ⟨ad,cap,h1,h2,h3,h4⟩:=hi.objs id _ hg
 have hc:cap≠0:=by omega
 obtain ⟨b,off,c,el,fz,rfl,q2,q3,q4,q5⟩:=h4 hc
 refine ⟨b,off,cap,c,el,fz,h1,h2,hc,q2,q3,q4,?_,q5,h3⟩
 have:(j+1) * τ.size≤cap * τ.size:=K9 _ (by omega)
 rw [Lf] at this
 omega
theorem Gu {t:TypeId} {x:Operand} (hT:dX P C.tab=true) (hi:Inv C w0 M m) (hG:m.G=s.G) (hS:∀ x,RelSV m (a.eval x) (ap C s.env x)) (ho:o.op=.load t x)
  (h:aA C o s some=some s'):Does P o a m.w (Res C w0 M m s s' o.dst):=by
 simp only [aA,ho] at h
 have hx:=hS x
 have fin {v:Value} {ad:Addr} {sv:SV} (hv:a.eval x=.pointer (some ad)) (hl:(loadVar t ad).run P m.w=.ok v m.w) (hr:RelSV m v sv) (hs:some (aG o.dst sv s)=some s') :
   Does P o a m.w (Res C w0 M m s s' o.dst) :=
  aH hi hG (v:=v) (by simp [execOp,ho,hv,Instr.loadAt,Instr.sureAddr,hl]) hr hs
 split at h
 ·rename_i τ p ht hp
  have hck:=ak hT ht
  rw [hp] at hx
  unfold loadAt at h
  split at h
  ·rename_i id off
   obtain ⟨_,ob,hob,hv⟩:=(ah (m:=m) (a:=.ptr id off) (by intros; simp)).1 hx
   rw [hG] at hob
   split at h
   ·rename_i l hl
    rw [hl] at hob
    simp only [A1] at hob
    subst hob
    obtain ⟨b,hι,hv⟩:=hv
    obtain ⟨b',c,el,h1,h2,h3,h4⟩:=hi.objs id _ (hG ▸ hl)
    rw [hι] at h1
    simp only [Value.pointer.injEq,A1,Addr.mk.injEq,and_true] at h1
    subst h1
    split at h
    ·rename_i cs hcs
     obtain ⟨rfl,hle⟩:=mF hcs
     have hlen:=h4.length
     simp only [LJ,List.length_drop] at hlen hle
     by_cases hz:off+τ.size≤c.size
     ·refine fin hv (dQ hck h2 hz) (pU ?_ ((h4.drop off).take τ.size)) h
      intro u hu
      exact h3 u (MB (Nb hu))
     ·have hz0 : τ.size=0:=by omega
      cases ha : τ.isAgg with
      | false=>have:=gZ ha; omega
      | true =>
       refine fin (v:=.agg #[]) (sv:=lU τ ((l.drop off).take τ.size)) hv ?_ ?_ h
       ·simp [loadVar,fJ hck,ha,bK hck,hz0,loadCells,loadCellsFrom]
       ·rw [hz0]; simp only [Oe,lU,ha,cond_true]; exact ⟨[],rfl,by simp,trivial⟩
    ·simp at h
   ·simp at h
  ·rename_i id j p'
   obtain ⟨_,ob,hob,hv⟩:=(ah (m:=m) (a:=.aptr id j p') (by intros; simp)).1 hx
   rw [hG] at hob
   split at h
   ·rename_i σ l hl
    rw [hl] at hob
    simp only [A1] at hob
    subst hob
    obtain ⟨hj,b,off,n,cap,q,hι,hq,hv⟩:=hv
    obtain ⟨b',off',cap',c,el,fz,h1,h2,h3,h4,h5,h6,h7,h8,h9⟩:=pm hi (hG ▸ hl) hj
    rw [hι] at h1
    simp only [Value.slice.injEq,A1,Addr.mk.injEq,and_true] at h1
    obtain ⟨⟨rfl,rfl⟩,rfl,rfl⟩:=h1
    rw [A2 hj] at h
    simp only [gr] at h
    split at h
    ·rename_i t' y hy
     obtain ⟨o',r1,r2,r3⟩:=sD hy (h8 j hj)
     rw [r1] at hq
     simp only [A1] at hq
     subst hq
     split at h
     ·rename_i z hz
      obtain ⟨e,hz⟩:=au hz
      subst e; subst hz
      have hseg:((seg c (off+j * σ.size) σ.size).drop o').take t'.size=seg c (off+j * σ.size+o') t'.size:=by
       unfold seg; rw [ew _ _ _ _ _ r2]
      rw [hseg] at r3
      exact fin hv (dQ hck h4 (by simp only; omega)) (Ae r3) h
     ·simp at h
    ·simp at h
   ·rename_i ver σ l hl
    rw [hl] at hob
    simp only [A1] at hob
    subst hob
    obtain ⟨hj,rfl,b,off,n,cap,us,hι,h0,hv⟩:=hv
    by_cases hτ : τ=.slice σ
    ·subst hτ
     simp only [decide_true,OL,OX,cond_true] at h
     obtain ⟨u,hs,h1,h2⟩:=cg hi (hG ▸ hl)
     obtain ⟨b',off',cap',c,el,fz,v,q1,q2,q3,q4,q5,q6,q7,q8⟩:=ov h2 hj
     obtain ⟨q8,q9⟩:=q8 (by simp)
     rw [h1] at hι
     simp only [Value.tuple.injEq] at hι
     subst hι
     simp only [Lv,Lt,A1] at h0
     rw [h0] at q1
     simp only [Value.slice.injEq,A1,Addr.mk.injEq,and_true] at q1
     obtain ⟨⟨rfl,rfl⟩,rfl,rfl⟩:=q1
     have hlt:off+j < c.size:=by omega
     have hld:=dQ hck q3 (off:=off+j) (by simp only [Ty.size]; omega)
     have hseg:seg c (off+j) (Ty.slice σ).size=[v]:=by
      obtain ⟨_,e⟩:=Lw.1 q8
      simp only [Ty.size,seg]
      rw [Nk (by simpa using hlt)]
      simp [e]
     rw [hseg] at hld
     refine fin (sv:=.av (.sub id ver j)) hv hld ?_ h
     exact (ah (m:=m) (v:=v) (a:=.sub id ver j) (by intros; simp)).2 ⟨bq q9,.deep ver σ l none,hG ▸ hl,A7 _,fun _=>⟨hj,rfl,_,h1,by simpa using q7⟩⟩
    ·simp [hτ] at h
   ·simp at h
  ·rename_i id ver j k
   obtain ⟨_,ob,hob,hv⟩:=(ah (m:=m) (a:=.saptr id ver j k) (by intros; simp)).1 hx
   rw [hG] at hob
   split at h
   ·rename_i ver' σ l hl
    rw [hl] at hob
    simp only [A1] at hob
    subst hob
    cases hb:A8 ver ver' with
    | false=>rw [hb] at h; simp at h
    | true =>
     rw [hb] at h
     have:=A5 hb
     subst this
     obtain ⟨hj,_,us,b,off,n,cap,hι,h0,hk,hv⟩:=hv.2 rfl
     simp only [cond_true,fP hj] at h
     obtain ⟨y,hy,h⟩:=Option.bind_eq_some_iff.1 h
     obtain ⟨hkl,rfl⟩:=A3.1 hy
     split at h
     ·rename_i z hz
      obtain ⟨e,hz⟩:=au hz
      subst e; subst hz
      obtain ⟨u,hs,h1,h2⟩:=cg hi (hG ▸ hl)
      rw [h1] at hι
      simp only [Value.tuple.injEq] at hι
      subst hι
      simp only [Lv,Lp] at h0
      have q9:=h2.inner j hj _ h0 (by simp)
      obtain ⟨b',off',cap',c,el,fz,q1,q2,q3,q4,q5,q6⟩:=BV q9 hkl
      simp only [Value.slice.injEq,A1,Addr.mk.injEq,and_true] at q1
      obtain ⟨⟨rfl,rfl⟩,rfl,rfl⟩:=q1
      exact fin hv (dQ hck q3 (by omega)) (Ae q6) h
     ·simp at h
   ·simp at h
  ·rename_i σ y
   split at h
   ·rename_i z hz
    obtain ⟨e,hz⟩:=au hz
    subst e; subst hz
    obtain ⟨b,off,c,el,fz,h1,h2,h3,h4,h5⟩:=eE hx
    exact fin h1 (dQ hck h3 h4) (Ae h5) h
   ·simp at h
  ·simp at h
 ·simp at h
theorem nQ {P:Program} {τ : Ty} {t:TypeId} (hck:chk P τ none t=true) {G:Heap} {v:SV} {x : τ.den} (h:aW G τ v=some x):eH G v=bD v:=by
 cases v with
 | av a =>
  cases a with
  | ptr _ _=>cases τ <;> simp [aW] at h; simp [chk] at hck
  | clo _ _=>cases τ <;> simp [aW] at h; simp [chk] at hck
  | _=>rfl
 | agg _=>rfl
 | tup _=>rfl
theorem bu:∀ (ids:List Nat) (G:Heap) (i:Nat),i∉ids→(am ids G).get i=G.get i
 | [],_,_,_=>rfl
 | j :: r,G,i,h=>by
  simp only [B3,not_or] at h
  show (am r ((j,.dead) :: G)).get i=_
  rw [bu r _ i h.2,Heap.get_cons,if_neg (Ne.symm h.1)]
theorem pN (hi:Inv C w0 M m) {σ : Ty} {v:SV} {u:Value} {x:List σ.den×List Nat} (h:qi m.G σ v=some x) (hr:RelSV m u v) :
  HdrW m.w m.F u σ x.1∧((x.2=[]∧∀ b,¬ HB u b)∨∃ id,x.2=[id]∧m.G.get id=some (.arr σ x.1)∧u=m.ι id):=by
 unfold qi at h
 split at h
 ·cases h
  obtain ⟨ad,rfl⟩:=hr
  exact ⟨⟨ad,0,rfl,by simp,by unfold maxLen; omega,fun h=>absurd rfl h⟩,.inl ⟨rfl,fun b hb=>by cases ad <;> simp [HB,HB1] at hb⟩⟩
 ·rename_i id
  split at h
  ·rename_i τ l hg
   split at h
   ·rename_i y hy
    cases h
    obtain ⟨e,hy⟩:=au hy
    simp only [Ty.slice.injEq] at e
    subst e; subst hy
    obtain ⟨_,ob,hob,hv⟩:=hr
    rw [hg] at hob
    cases hob
    have hv:=hv rfl
    subst hv
    exact ⟨hi.objs id _ hg,.inr ⟨id,rfl,hg,rfl⟩⟩
   ·simp at h
  ·simp at h
 ·simp at h
theorem C5 {R:Type} {hole:Option Nat} {j:Nat} {K:Option R} {r:R} (h:xl hole j K=some r):(hole=none∨hole=some j)∧K=some r:=by
 unfold xl at h
 split at h
 ·exact ⟨.inl rfl,h⟩
 ·split at h
  ·rename_i e; subst e; exact ⟨.inr rfl,h⟩
  ·simp at h
theorem Dk {t:TypeId} {x y:Operand} (hT:dX P C.tab=true) (hi:Inv C w0 M m) (hG:m.G=s.G) (hS:∀ x,RelSV m (a.eval x) (ap C s.env x)) (ho:o.op=.store t x y)
  (h:aA C o s some=some s'):Does P o a m.w (Res C w0 M m s s' o.dst):=by
 simp only [aA,ho] at h
 have hx:=hS x
 have hy:=hS y
 split at h
 ·rename_i τ p ht hp
  have hck:=ak hT ht
  rw [hp] at hx
  unfold storeAt at h
  split at h
  ·rename_i id off
   obtain ⟨_,ob,hob,hv⟩:=(ah (m:=m) (a:=.ptr id off) (by intros; simp)).1 hx
   rw [hG] at hob
   split at h
   ·rename_i l hl
    rw [hl] at hob
    simp only [A1] at hob
    subst hob
    obtain ⟨b,hι,hv⟩:=hv
    obtain ⟨b',c,el,h1,h2,h3,h4⟩:=hi.objs id _ (hG ▸ hl)
    rw [hι] at h1
    simp only [Value.pointer.injEq,A1,Addr.mk.injEq,and_true] at h1
    subst h1
    split at h
    ·rename_i cs hcs
     obtain ⟨k1,k2⟩:=lJ hcs hy
     cases hb:A8 cs.length τ.size with
     | false=>rw [hb] at h; simp at h
     | true =>
      rw [hb] at h
      simp only [cond_true] at h
      have hcl:=A5 hb
      split at h
      ·rename_i l' hl'
       obtain ⟨rfl,hle⟩:=lP hl'
       have hlen:=h4.length
       have hlen2:=k1.length
       simp only [LJ] at hlen hlen2
       have hst:=fT (te:=.unit) hck h2 (.inl (A7 _)) (off:=off) (by omega) (v:=a.eval y) (by omega) k2
       obtain ⟨g1,g2⟩:=gX hi (id:=id) (o:=.box l) (o':=.box (l.take off++cs++l.drop (off+cs.length))) (b:=b) (hG ▸ hl) rfl (by rw [hι]; rfl) trivial
        (w1:=m.w.setRow b (aF c off (a.eval y).cells.toList)) (bX _ _ _) (fun he=>by
         refine ⟨b,_,el,hι,setRow_heap m.w b c _ el _ h2,?_,?_⟩
         ·intro u hu
          simp only [aF,B1] at hu
          rcases hu with (hu | hu) | hu
          ·exact h3 u (Nb hu)
          ·exact k2 u hu
          ·exact h3 u (MB hu)
         ·have e1:=dw he h4
          have e2:=dw he k1
          have hsp:(aF c off (a.eval y).cells.toList).toList=c.toList.take off++(a.eval y).cells.toList++c.toList.drop (off+cs.length):=by
           simp only [aF,← hlen2,LJ]
          rw [hsp]
          exact ((e1.take off).append e2).append (e1.drop _))
       refine Does.skip (w':=m.w.setRow b (aF c off (a.eval y).cells.toList)) (by simp [execOp,ho,hv,Instr.storeAt,Instr.sureAddr,hst]) ⟨_,.av .undef,rfl,?_,g1,g2,rfl⟩
       simp only [A1] at h
       rw [← h,hG]
       rfl
      ·simp at h
    ·simp at h
   ·simp at h
  ·rename_i id j p'
   obtain ⟨_,ob,hob,hv⟩:=(ah (m:=m) (a:=.aptr id j p') (by intros; simp)).1 hx
   rw [hG] at hob
   split at h
   ·rename_i σ l hl
    rw [hl] at hob
    simp only [A1] at hob
    subst hob
    obtain ⟨hj,b,off,n,cap,q,hι,hq,hv⟩:=hv
    split at h
    ·rename_i z hz
     rw [A2 hj] at h
     simp only [gr] at h
     split at h
     ·rename_i x' hx'
      cases hc:(bD (ap C s.env y)).contains id with
      | true=>rw [hc] at h; simp at h
      | false =>
       rw [hc] at h
       simp only [cond_false,A1] at h
       have hnot:id∉bD (ap C s.env y):=by simpa using hc
       rw [← hG] at hz
       obtain ⟨cs,hcs,hrd⟩:=dF hi hz hy
       rw [nQ hck hz] at hrd
       obtain ⟨m1,a1,a2,a3,a4,a5,a6⟩:=cS (bD (ap C s.env y)) hi
       have hrd1:Rd m1.w m1.F τ cs z:=hrd.mono (fun b hb=>⟨a6 b hb,by rw [a1]⟩)
       have hg1:m1.G.get id=some (.arr σ l):=by rw [a3,bu _ _ _ hnot,hG]; exact hl
       obtain ⟨b',off',cap',c,el,fz,h1,h2,h3,h4,h5,h6,h7,h8,h9⟩:=pm a4 hg1 hj
       rw [a2,hι] at h1
       simp only [Value.slice.injEq,A1,Addr.mk.injEq,and_true] at h1
       obtain ⟨⟨rfl,rfl⟩,rfl,rfl⟩:=h1
       obtain ⟨o',r1,r2,r3⟩:=mO hx' (h8 j hj) hrd1
       rw [r1] at hq
       simp only [A1] at hq
       subst hq
       have hvc:(a.eval y).cells=cs.toArray:=by rw [hcs]; exact mf hrd1
       have hlen:=hrd1.len
       rw [a1] at h4
       have hst:=fT hck h4 h5 (off:=off+j * σ.size+o') (by omega) (v:=a.eval y) (by rw [hvc]; simpa using hlen) (by rw [hvc]; simpa using hrd1.one)
       rw [hvc] at hst
       simp only at hst
       have hfit:off+j * σ.size+o'+cs.length≤c.size:=by omega
       obtain ⟨g1,g2⟩:=gX a4 (id:=id) (o:=.arr σ l) (o':=.arr σ (l.set j x')) (b:=b) hg1 rfl (by rw [a2,hι]; simp [HB,HB1,h3]) ⟨rfl,by simp⟩
        (w1:=m.w.setRow b (aF c (off+j * σ.size+o') cs)) (by rw [a1]; exact bX _ _ _) (fun he=>by
         refine ⟨some ⟨b,off,none⟩,cap,by simp only [a2,hι,LF],by simpa using h2,h9,fun _=>?_⟩
         refine ⟨b,off,_,el,fz,rfl,setRow_heap m.w b c _ el _ h4,by rw [bt _ _ _ hfit]; exact h5,by rw [bt _ _ _ hfit]; exact h6,fun i hi'=>?_⟩
         simp only [LF] at hi'
         by_cases hij:j=i
         ·subst hij
          rw [M2]
          refine Rd.mono (fun b hb=>⟨hb,(he.fro b hb).2⟩) (w:=m1.w) (F:=m1.F) ?_
          have:seg (aF c (off+j * σ.size+o') cs) (off+j * σ.size) σ.size=(seg c (off+j * σ.size) σ.size).take o'++cs++(seg c (off+j * σ.size) σ.size).drop (o'+cs.length):=by
           apply MA
           intro k
           have hsl:=cA c (off+j * σ.size) σ.size (by omega)
           by_cases hk:k < σ.size
           ·rw [seg_getElem? _ _ _ _ hk,cB _ _ _ hfit]
            simp only [Ol,Lu,Mt,hsl,Ls,L5]
            have hmin:min o' σ.size=o':=by omega
            rw [hmin]
            by_cases k1:k < o'
            ·rw [if_neg (by omega),if_pos (by omega),if_pos k1,if_pos k1,seg_getElem? _ _ _ _ hk]
            ·by_cases k2:k < o'+cs.length
             ·rw [if_pos (by omega),if_pos k2,if_neg k1]; congr 1; omega
             ·rw [if_neg (by omega),if_neg k2,seg_getElem? _ _ _ _ (by omega)]; congr 1; omega
           ·have e1:(seg (aF c (off+j * σ.size+o') cs) (off+j * σ.size) σ.size)[k]?=none:=by
             apply Ml
             rw [cA _ _ _ (by rw [bt _ _ _ hfit]; omega)]; omega
            have e2:((seg c (off+j * σ.size) σ.size).take o'++cs++(seg c (off+j * σ.size) σ.size).drop (o'+cs.length))[k]?=none:=by
             apply Ml
             simp [hsl]; omega
            rw [e1,e2]
          rw [this]
          exact r3
         ·rw [MD hij]
          refine Rd.mono (fun b hb=>⟨hb,(he.fro b hb).2⟩) (w:=m1.w) (F:=m1.F) ?_
          rw [dS _ _ _ hfit]
          ·exact h8 i hi'
          ·rcases NN hij with hlt | hgt
           ·right
            have:(j+1) * σ.size≤i * σ.size:=K9 _ hlt
            rw [Lf] at this; omega
           ·left
            have:(i+1) * σ.size≤j * σ.size:=K9 _ hgt
            rw [Lf] at this; omega)
       refine Does.skip (w':=m.w.setRow b (aF c (off+j * σ.size+o') cs)) (by simp [execOp,ho,hv,Instr.storeAt,Instr.sureAddr,hst]) ⟨_,.av .undef,rfl,?_,g1,a5.trans g2,rfl⟩
       rw [← h,a3,hG]
       rfl
     ·simp at h
    ·simp at h
   ·rename_i ver σ l hole hl
    rw [hl] at hob
    simp only [A1] at hob
    subst hob
    obtain ⟨hj,rfl,b,off,n,cap,us,hι,h0,hv⟩:=hv
    by_cases hτ : τ=.slice σ
    ·subst hτ
     simp only [decide_true,OL,OX,cond_true] at h
     split at h
     ·rename_i x hx'
      obtain ⟨hh,h⟩:=C5 h
      simp only [A1] at h
      rw [← hG] at hx'
      obtain ⟨k1,k2⟩:=pN hi hx' hy
      obtain ⟨u,hs,h1,h2⟩:=cg hi (hG ▸ hl)
      obtain ⟨b',off',cap',c,el,fz,v,q1,q2,q3,q4,q5,q6,q7,q8⟩:=ov h2 hj
      rw [h1] at hι
      simp only [Value.tuple.injEq] at hι
      subst hι
      simp only [Lv,Lt,A1] at h0
      rw [h0] at q1
      simp only [Value.slice.injEq,A1,Addr.mk.injEq,and_true] at q1
      obtain ⟨⟨rfl,rfl⟩,rfl,rfl⟩:=q1
      have hone:=bq k1
      have hcells:=jm hone
      have hst:=fT hck q3 q4 (off:=off+j) (by simp only [Ty.size]; omega) (v:=a.eval y) (by rw [hcells]; rfl) (by rw [hcells]; simpa using hone)
      rw [hcells] at hst
      have hids:∀ i∈x.2,∃ o,m.G.get i=some o:=by
       intro i hi'
       rcases k2 with ⟨e,_⟩ | ⟨id2,e,hg2,_⟩
       ·rw [e] at hi'; simp at hi'
       ·rw [e] at hi'; simp at hi'; subst hi'; exact ⟨_,hg2⟩
      have hnot:id∉x.2:=by
       intro hi'
       rcases k2 with ⟨e,_⟩ | ⟨id2,e,hg2,_⟩
       ·rw [e] at hi'; simp at hi'
       ·rw [e] at hi'; simp at hi'; subst hi'
        rw [hG,hl] at hg2; cases hg2
      obtain ⟨d1,d2,d3,d4⟩:=jN x.2 hi hids
      have hf:cZ w0 M ⟨m.w,m.F,m.ι,am x.2 m.G⟩ (a.eval y):=by
       intro b' hb'
       rcases k2 with ⟨_,e⟩ | ⟨id2,e,hg2,e2⟩
       ·exact absurd hb' (e b')
       ·exact d4 id2 (by rw [e]; simp) _ hg2 rfl b' (by rw [← e2]; exact hb')
      obtain ⟨m',p1,p2,p3,p4,p5⟩:=Dw (m:=⟨m.w,m.F,m.ι,am x.2 m.G⟩) d1 (id:=id) (ver:=ver) (j:=j) (by show (am x.2 m.G).get id=_; rw [bu _ _ _ hnot,hG]; exact hl) hj hh k1 hf h1 (by simp [h0]) q2 q3 (bX m.w b (aF c (off+j) [a.eval y])) (setRow_heap m.w b c _ el _ q3)
      refine Does.skip (w':=m.w.setRow b (aF c (off+j) [a.eval y])) (by simp [execOp,ho,hv,Instr.storeAt,Instr.sureAddr,hst]) ⟨m',.av .undef,p1,?_,p4,d2.trans p5,rfl⟩
      rw [← h,p3,hG]
      rfl
     ·simp at h
    ·simp [hτ] at h
   ·simp at h
  ·rename_i id ver j k
   obtain ⟨_,ob,hob,hv⟩:=(ah (m:=m) (a:=.saptr id ver j k) (by intros; simp)).1 hx
   rw [hG] at hob
   split at h
   ·rename_i ver' σ l hl
    rw [hl] at hob
    simp only [A1] at hob
    subst hob
    cases hc:(A8 ver ver' && decide (τ=σ) && !(bD (ap C s.env y)).contains id) with
    | false=>rw [hc] at h; simp at h
    | true =>
     rw [hc] at h
     simp only [cond_true] at h
     simp only [A4,Lz,decide_eq_true_eq] at hc
     obtain ⟨⟨hver,rfl⟩,hc⟩:=hc
     have:=A5 hver
     subst this
     have hnot:id∉bD (ap C s.env y):=by simpa using hc
     obtain ⟨hj,_,us,b,off,n,cap,hι,h0,hk,hv⟩:=hv.2 rfl
     split at h
     ·rename_i z hz
      simp only [fP hj,A1] at h
      rw [← hG] at hz
      obtain ⟨cs,hcs,hrd⟩:=dF hi hz hy
      rw [nQ hck hz] at hrd
      obtain ⟨m1,a1,a2,a3,a4,a5,a6⟩:=cS (bD (ap C s.env y)) hi
      have hrd1:Rd m1.w m1.F τ cs z:=hrd.mono (fun b hb=>⟨a6 b hb,by rw [a1]⟩)
      have hg1:m1.G.get id=some (.deep ver τ l none):=by rw [a3,bu _ _ _ hnot,hG]; exact hl
      obtain ⟨u,hs,h1,h2⟩:=cg a4 hg1
      rw [a2] at h1
      rw [h1] at hι
      simp only [Value.tuple.injEq] at hι
      subst hι
      simp only [Lv,Lp] at h0
      have q9:=h2.inner j hj _ h0 (by simp)
      have hkl:k < l[j].length:=by
       obtain ⟨ad,cap1,e1,_⟩:=q9
       simp only [Value.slice.injEq] at e1
       omega
      obtain ⟨b',off',cap',c,el,fz,q1,q2,q3,q4,q5,q6,q7⟩:=GP q9 hkl hrd1
      simp only [Value.slice.injEq,A1,Addr.mk.injEq,and_true] at q1
      obtain ⟨⟨rfl,rfl⟩,rfl,rfl⟩:=q1
      have hvc:(a.eval y).cells=cs.toArray:=by rw [hcs]; exact mf hrd1
      have hlen:=hrd1.len
      rw [a1] at q3
      have hst:=fT hck q3 q4 (off:=off+k * τ.size) (by omega) (v:=a.eval y) (by rw [hvc]; simpa using hlen) (by rw [hvc]; simpa using hrd1.one)
      rw [hvc] at hst
      simp only at hst
      have hbi:HB (.slice (some ⟨b,off,none⟩) l[j].length cap) b:=⟨q2,rfl⟩
      have hbd:HB (m1.ι id) b:=by rw [a2,h1,bR h2.one]; exact ⟨_,Ll _ (B2 h0),hbi⟩
      obtain ⟨g1,g2⟩:=gX a4 (id:=id) (o:=.deep ver τ l none) (o':=.deep ver τ (l.set j (l[j].set k z)) none) (b:=b) hg1 rfl hbd ⟨rfl,rfl,by simp,rfl⟩
       (w1:=m.w.setRow b (aF c (off+k * τ.size) cs)) (by rw [a1]; exact bX _ _ _) (fun he=>by
        refine ⟨u,hs,by show m1.ι id=_; rw [a2]; exact h1,?_⟩
        refine Ay h2 hj h0 hbi he.fro (fun k' hk'=>?_) (fun _=>q7 _ _ he.fro (setRow_heap m.w b c _ el _ q3)) (by simp)
        rw [a1]
        exact (bX m.w b (aF c (off+k * τ.size) cs)).block k' hk')
      refine Does.skip (w':=m.w.setRow b (aF c (off+k * τ.size) cs)) (by simp [execOp,ho,hv,Instr.storeAt,Instr.sureAddr,hst]) ⟨_,.av .undef,rfl,?_,g1,a5.trans g2,rfl⟩
      rw [← h,a3,hG]
      rfl
     ·simp at h
   ·simp at h
  ·simp at h
 ·simp at h
end
end Go.Vm

