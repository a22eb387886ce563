/-
 A machine on typed values, small enough to be reckoned by the kernel, and the proof that it goes with the model: part 1 of 5. What it computes for a function is that function's contract. No condition of its own.
-/
import Derived.Calls
import GoSem.Core.Utf8
import Derived.WalkKit
import Derived.Laws.Closers25b
open Option.some renaming injEq->aw
open Bool renaming and_eq_true->np,false_eq_true->JS
open List renaming getElem?_eq_getElem->A1,mem_append->A4,replicate->A5,mem_cons->A8,mem_cons_of_mem->Jq,mem_of_getElem?->Jv,getElem?_toArray->Jy,append_nil->Jz,getElem?_take->JC,mem_cons_self->JH,range->JZ,getElem?_drop->J2,ext_getElem?->Kk,nil_append->Kw,take_of_length_le->Kz,drop_eq_nil_of_le->KA,take_append_of_le_length->KE,take_left->KF,flatMap_cons->KI,flatten_cons->KL,getElem_of_mem->K1,drop_zero->K6,drop_append->Le,replicate_succ->Lw
open Nat renaming eq_of_beq_eq_true->A3,beq->A7,mul_le_mul_right->B1,le_refl->B2,add_mul->B8,le_of_ble_eq_true->JF,ble->JK,lt_of_lt_of_le->JQ,add_assoc->JX,add_zero->JY,mul_one->Km,eq_zero_or_pos->Ku,le_trans->Lv,blt->Lx,add_sub_cancel_left->LM,ne_of_beq_eq_false->LP,zero_mul->MH
open Sum renaming elim->A9
open Prod.mk renaming injEq->B3
open Array renaming length_toList->JD,getElem?_toList->JN
open List.cons renaming injEq->KJ
open Int renaming tmod_nonneg->Mu
set_option linter.unusedVariables false
set_option linter.unusedSimpArgs false
/-
 A small abstract machine over typed values: definitions. Slices that are only read are lists; what a call makes itself is an object with a number.
-/
theorem UA{α:Sort _}(a b:α):cond true a b=a:=rfl
theorem UB{α:Sort _}(a b:α):cond false a b=b:=rfl
namespace Go.Vm
inductive Ty where
 |int (k:IntKind)
 |bool
 |str
 |slice (e:Ty)
 |prod (a b:Ty)
 |unit
 |arr (n:Nat) (e:Ty)
 |ptr (e:Ty)
 |clo (g:Nat) (e:Ty)
 deriving DecidableEq
@[reducible] def Ty.den:Ty->Type
 |.int _=>Int
 |.bool=>Bool
 |.str=>ByteArray
 |.slice e=>List e.den
 |.prod a b=>a.den×b.den
 |.unit=>Unit
 |.arr _ e=>List e.den
 |.ptr e=>e.den
 |.clo _ e=>e.den
def Ty.size:Ty->Nat
 |.int _=>1
 |.bool=>1
 |.str=>1
 |.slice _=>1
 |.prod a b=>a.size+b.size
 |.unit=>0
 |.arr n e=>n*e.size
 |.ptr _=>1
 |.clo _ _=>1
def Ty.isAgg:Ty->Bool
 |.prod _ _=>true
 |.unit=>true
 |.arr _ _=>true
 |_=>false
def Ty.noPC:Ty->Bool
 |.ptr _=>false
 |.clo _ _=>false
 |.prod a b=>a.noPC&&b.noPC
 |.arr _ e=>e.noPC
 |_=>true
def Ty.isPC:Ty->Bool
 |.ptr _=>true
 |.clo _ _=>true
 |_=>false
def Ty.isClo:Ty->Bool
 |.clo _ _=>true
 |_=>false
def Ty.field:Ty->Nat->Option (Nat×Ty)
 |.prod a _,0=>some (0,a)
 |.prod a b,i+1=>match b.field i with
  |some (o,t)=>some (a.size+o,t)
  |none=>none
 |_,_=>none
def cX:(τ:Ty)->List Nat->Option (Nat×Ty)
 | τ,[]=>some (0,τ)
 | τ,i::p=>match τ.field i with
  |some (o,t)=>match cX t p with
   |some (q,u)=>some (o+q,u)
   |none=>none
  |none=>none
def bW:(τ:Ty)->τ.den->Nat->Option (Σ t:Ty,t.den)
 |.prod a _,x,0=>some ⟨a,x.1⟩
 |.prod _ b,x,i+1=>bW b x.2 i
 |_,_,_=>none
inductive Atom where
 |u
 |undef
 |nils (d:Bool)
 |val (τ:Ty) (x:τ.den)
 |own (id:Nat)
 |view (id off len:Nat)
 |ptr (id off:Nat)
 |aptr (id idx:Nat) (path:List Nat)
 |clo (f:Nat) (caps:List Nat)
 |cut (id off len:Nat)
 |bnd (f:Nat) (l:List (Σ t:Ty,t.den))
 |ownd (id:Nat)
 |sub (id ver j:Nat)
 |saptr (id ver j k:Nat)
 |ownm (id:Nat)
 |iptr (id off n idx w:Nat)
inductive SV where
 |av (a:Atom)
 |agg (l:List Atom)
 |tup (l:List (Bool×List Atom))
inductive Obj where
 |arr (τ:Ty) (l:List τ.den)
 |box (l:List Atom)
 |dead
 |deep (ver:Nat) (τ:Ty) (l:List (List τ.den)) (hole:Option Nat)
 |map (k v:Ty) (l:List (k.den×v.den))
abbrev Env:=List (Nat×SV)
abbrev Heap:=List (Nat×Obj)
structure St where
 env:Env
 G:Heap
noncomputable def Env.get(e:Env)(t:Nat):SV:=List.rec (motive:=λ_=>SV) (.av .u) (λp _ ih=>Prod.rec (motive:=λ_=>SV) (λk v=>Bool.rec (motive:=λ_=>SV) ih v (A7 k t)) p) e
theorem Env.get_nil0(t:Nat):Env.get [] t=.av .u:=rfl
theorem Env.get_pair(k:Nat)(v:SV)(r:Env)(t:Nat):Env.get ((k,v)::r) t=cond (A7 k t) v (Env.get r t):=by unfold Env.get;dsimp only;cases A7 k t<;>rfl
noncomputable def Heap.get(G:Heap)(t:Nat):Option Obj:=List.rec (motive:=λ_=>Option Obj) none (λp _ ih=>Prod.rec (motive:=λ_=>Option Obj) (λk v=>Bool.rec (motive:=λ_=>Option Obj) ih (some v) (A7 k t)) p) G
theorem Heap.get_nil0(t:Nat):Heap.get [] t=none:=rfl
theorem Heap.get_pair(k:Nat)(v:Obj)(r:Heap)(t:Nat):Heap.get ((k,v)::r) t=cond (A7 k t) (some v) (Heap.get r t):=by unfold Heap.get;dsimp only;cases A7 k t<;>rfl
noncomputable def Heap.has(G:Heap)(t:Nat):Bool:=List.rec (motive:=λ_=>Bool) false (λp _ ih=>Prod.rec (motive:=λ_=>Bool) (λk _=>Bool.rec (motive:=λ_=>Bool) ih true (A7 k t)) p) G
theorem Heap.has_nil0(t:Nat):Heap.has [] t=false:=rfl
theorem Heap.has_pair(k:Nat)(v:Obj)(r:Heap)(t:Nat):Heap.has ((k,v)::r) t=cond (A7 k t) true (Heap.has r t):=by unfold Heap.has;dsimp only;cases A7 k t<;>rfl
noncomputable section
def ar:Nat->Heap->Nat->Nat
 |0,_,i=>i
 |n+1,G,i=>cond (Heap.has G i) (ar n G (i+1000)) i
abbrev Tab:=List (Nat×Ty)
def Tab.get:Tab->Nat->Option Ty
 |[],_=>none
 |(k,v)::r,t=>cond (A7 k t) (some v) (Tab.get r t)
@[reducible] def ac(l:List Ty):Ty:=l.foldr Ty.prod Ty.unit
inductive Mode where
 |rd
 |upd
 |take
 |box (k:List Nat)
@[reducible] def aN:List (Mode×Ty)->List Ty
 |[]=>[]
 |(.upd,τ)::l=>τ::aN l
 |(.box _,τ)::l=>τ::aN l
 |(_,_)::l=>aN l
structure Con where
 ins:List (Mode×Ty)
 outs:List (Bool×Ty)
 fn:(ac (ins.map (·.2))).den->Option (ac (outs.map (·.2)++aN ins)).den
 deep:Bool:=false
abbrev Hk:=Nat->Nat->Option Con
structure Ctx where
 tab:Tab
 con:Hk
 glob:List (Nat×(Σ t:Ty,t.den))
 eqs:List Nat
 frz:List Nat:=[]
 deep:List Nat:=[]
 maps:List (Nat×(Ty×Ty)):=[]
 light:List Nat:=[]
 hold:List (Nat×Nat):=[]
 vars:List Nat:=[]
 min:Bool:=false
 bfrz:List (Nat×Nat×Ty):=[]
 inl:Nat->Option (Heap->List SV->Option (SV×Heap)):=λ_=>none
def Ctx.vr(C:Ctx)(id:Nat):Bool:=C.vars.any λi=>A7 i id
def fJ:List (Nat×(Σ t:Ty,t.den))->Nat->Option (Σ t:Ty,t.den)
 |[],_=>none
 |(k,v)::r,t=>cond (A7 k t) (some v) (fJ r t)
def nx:Value->Atom
 |.int k n=>cond (decide (k.min<=n)&&decide (n<=k.max)) (.val (.int k) n) .u
 |.bool b=>.val .bool b
 |.string s=>cond (JK s.size 1000000) (.val .str s) .u
 |.slice none 0 0=>.nils true
 |_=>.u
def ah(C:Ctx)(e:Env):Operand->SV
 |.tmp t=>e.get t
 |.const v=>.av (nx v)
 |.global g=>match fJ C.glob g with
  |some ⟨t,x⟩=>.av (.val (.ptr t) x)
  |none=>.av .u
 |.func f=>.av (.clo f [])
def bC(τ:Ty)(σ:Ty)(x:σ.den):Option τ.den:=
 if h:σ=τ then some (h▸x)else none
def aJ{α:Type}(l:List (List α))(j:Nat):List α:=(l[j]?).getD []
theorem jZ{α:Type}{l:List (List α)}{j:Nat}(h:j<l.length):aJ l j=l[j]:=by unfold aJ;rw[A1 h];rfl
def aF(G:Heap)(τ:Ty)(a:Atom):Option τ.den:=
 match a with
 |.val σ x=>bC τ σ x
 |.nils _=>match τ with
  |.slice _=>some []
  |_=>none
 |.own id=>match τ,G.get id with
  |.slice e,some (.arr σ l)=>bC (.slice e) (.slice σ) l
  |_,_=>none
 |.view id off len=>match τ,G.get id with
  |.slice e,some (.arr σ l)=>bC (.slice e) (.slice σ) ((l.drop off).take len)
  |_,_=>none
 |.ownd id=>match τ,G.get id with
  |.slice e,some (.deep _ σ l none)=>bC (.slice e) (.slice (.slice σ)) l
  |_,_=>none
 |.sub id ver j=>match τ,G.get id with
  |.slice e,some (.deep ver' σ l none)=>cond (A7 ver ver') (bC (.slice e) (.slice σ) (aJ l j)) none
  |_,_=>none
 |.clo f []=>match τ with
  |.clo g .unit=>cond (A7 f g) (some ()) none
  |_=>none
 |_=>none
def kv{α:Type}(f:List Atom->Option (α×List Atom)):Nat->List Atom->Option (List α×List Atom)
 |0,l=>some ([],l)
 |k+1,l=>match f l with
  |some (x,r)=>match kv f k r with
   |some (xs,r')=>some (x::xs,r')
   |none=>none
  |none=>none
def aA(G:Heap):(τ:Ty)->List Atom->Option (τ.den×List Atom)
 |.prod a b,l=>match aA G a l with
  |some (x,r)=>match aA G b r with
   |some (y,r')=>some ((x,y),r')
   |none=>none
  |none=>none
 |.unit,l=>some ((),l)
 |.arr n e,l=>kv (aA G e) n l
 |.int k,a::l=>match aF G (.int k) a with
  |some x=>some (x,l)
  |none=>none
 |.bool,a::l=>match aF G .bool a with
  |some x=>some (x,l)
  |none=>none
 |.str,a::l=>match aF G .str a with
  |some x=>some (x,l)
  |none=>none
 |.slice e,a::l=>match aF G (.slice e) a with
  |some x=>some (x,l)
  |none=>none
 |.ptr e,a::l=>match aF G (.ptr e) a with
  |some x=>some (x,l)
  |none=>none
 |.clo g e,a::l=>match aF G (.clo g e) a with
  |some x=>some (x,l)
  |none=>none
 |_,[]=>none
def dQ(G:Heap)(τ:Ty)(id off:Nat):Option τ.den:=
 match G.get id with
 |some (.box l)=>cond (JK (off+τ.size) l.length) (match aA G τ (l.drop off)with
  |some (x,_)=>some x
  |none=>none) none
 |_=>none
def jM:Option Obj->Option Nat
 |some (.box [.ptr j 0])=>some j
 |_=>none
def vz(G:Heap):(τ:Ty)->Nat->Option τ.den
 |.ptr e,i=>match jM (G.get i)with
  |some j=>dQ G e j 0
  |none=>dQ G (.ptr e) i 0
 | τ,i=>dQ G τ i 0
def cg(G:Heap):(τ:Ty)->List Nat->Option τ.den
 |.prod (.ptr a) b,i::r=>match vz G a i with
  |some x=>match cg G b r with
   |some y=>some (x,y)
   |none=>none
  |none=>none
 |.unit,[]=>some ()
 |_,_=>none
def aR(G:Heap)(τ:Ty):SV->Option τ.den
 |.av (.val σ x)=>bC τ σ x
 |.av (.ptr id off)=>match τ with
  |.ptr e=>dQ G e id off
  |_=>none
 |.av (.clo f caps)=>match τ with
  |.clo g e=>cond (A7 f g) (cg G e caps) none
  |_=>none
 |.av a=>cond τ.isAgg none (aF G τ a)
 |.agg l=>cond τ.isAgg (match aA G τ l with
  |some (x,[])=>some x
  |_=>none) none
 |.tup _=>none
def da:(τ:Ty)->τ.den->List Atom
 |.prod a b,x=>da a x.1++da b x.2
 |.unit,_=>[]
 |.int k,x=>[.val (.int k) x]
 |.bool,x=>[.val .bool x]
 |.str,x=>[.val .str x]
 |.slice e,x=>[.val (.slice e) x]
 |.arr n e,x=>(JZ n).flatMap λi=>match x[i]? with
  |some y=>da e y
  |none=>A5 e.size .u
 |.ptr e,x=>[.val (.ptr e) x]
 |.clo g e,x=>[.val (.clo g e) x]
def fG(τ:Ty):SV->Option (List Atom)
 |.agg l=>some l
 |.av (.val σ x)=>if h:σ=τ then some (da τ (h▸x))else none
 |.av .u=>none
 |.av .undef=>none
 |.av a=>cond τ.isAgg none (some [a])
 |.tup _=>none
def kl:Nat->List Atom->Option (List Atom)
 |0,_=>some []
 |n+1,a::l=>match kl n l with
  |some r=>some (a::r)
  |none=>none
 |_+1,[]=>none
def pO:Nat->List Atom->List Atom->Option (List Atom)
 |0,[],l=>some l
 |0,a::r,_::l=>match pO 0 r l with
  |some l'=>some (a::l')
  |none=>none
 |n+1,xs,a::l=>match pO n xs l with
  |some l'=>some (a::l')
  |none=>none
 |_,_,_=>none
def d8(τ:Ty)(l:List Atom):SV:=
 cond τ.isAgg (.agg l) (match l with|[a]=>.av a|_=>.av .u)
def mH:(τ:Ty)->τ.den->List Nat->Option (Σ t:Ty,t.den)
 | τ,x,[]=>some ⟨τ,x⟩
 | τ,x,i::p=>match bW τ x i with
  |some ⟨t,y⟩=>mH t y p
  |none=>none
def aL{α:Type}(l:List α)(i:Int):Option α:=if 0<=i then l[i.toNat]? else none
def ay(n:Nat)(i:Int):Option Nat:=if 0<=i/\i<n then some i.toNat else none
def lim:Nat:=2^36
def Jl(n:Int):Option Nat:=if 0<=n/\n<=lim then some n.toNat else none
def app{α:Type}(l r:List α):Option (List α):=if l.length+r.length<=lim then some (l++r)else none
def ap(k:IntKind)(a b:Int):Int:=k.wrap (a+b)
def dK(k:IntKind)(a b:Int):Int:=k.wrap (a-b)
def dl(k:IntKind)(a b:Int):Int:=k.wrap (a*b)
def qP(k:IntKind)(a b:Int):Int:=k.wrap (a.tdiv b)
def n8(a b:Int):Int:=a.tmod b
def p8(a r:Int):Int:=match a with
 |.ofNat _=>r
 |.negSucc _=>r
theorem fN(a r:Int):p8 a r=r:=by cases a<;>rfl
def Er(k:IntKind)(a b:Int):Int:=p8 a (p8 b (k.wrap ((BitVec.ofInt k.bits a &&& BitVec.ofInt k.bits b).toNat)))
def orI(k:IntKind)(a b:Int):Int:=p8 a (p8 b (k.wrap ((BitVec.ofInt k.bits a ||| BitVec.ofInt k.bits b).toNat)))
def Dv(k:IntKind)(a b:Int):Int:=k.wrap ((BitVec.ofInt k.bits a ^^^ BitVec.ofInt k.bits b).toNat)
def o8(k:IntKind)(a b:Int):Int:=p8 a (p8 b (k.wrap ((BitVec.ofInt k.bits a &&& ~~~BitVec.ofInt k.bits b).toNat)))
def GY(k:IntKind)(a b:Int):Int:=p8 a (p8 b (k.wrap (a*2^(min b.toNat k.bits))))
def Eg(k:IntKind)(a b:Int):Int:=p8 a (p8 b (a.fdiv (2^(min b.toNat k.bits))))
theorem wJ(k:IntKind)(a b:Int):Er k a b=k.wrap ((BitVec.ofInt k.bits a &&& BitVec.ofInt k.bits b).toNat):=by unfold Er;rw[fN,fN]
theorem BY(k:IntKind)(a b:Int):orI k a b=k.wrap ((BitVec.ofInt k.bits a ||| BitVec.ofInt k.bits b).toNat):=by unfold orI;rw[fN,fN]
theorem qf(k:IntKind)(a b:Int):o8 k a b=k.wrap ((BitVec.ofInt k.bits a &&& ~~~BitVec.ofInt k.bits b).toNat):=by unfold o8;rw[fN,fN]
theorem yz(k:IntKind)(a b:Int):GY k a b=k.wrap (a*2^(min b.toNat k.bits)):=by unfold GY;rw[fN,fN]
theorem wx(k:IntKind)(a b:Int):Eg k a b=a.fdiv (2^(min b.toNat k.bits)):=by unfold Eg;rw[fN,fN]
def eqI(a b:Int):Bool:=a==b
def neI(a b:Int):Bool:=a != b
def ltI(a b:Int):Bool:=decide (a<b)
def leI(a b:Int):Bool:=decide (a<=b)
def gtI(a b:Int):Bool:=decide (a>b)
def geI(a b:Int):Bool:=decide (a>=b)
def eqS(a b:ByteArray):Bool:=a.toList==b.toList
def neS(a b:ByteArray):Bool:=!(a.toList==b.toList)
def eqB(a b:Bool):Bool:=a==b
def neB(a b:Bool):Bool:=!(a==b)
def de(a b:Int):Int:=if b<a then b else a
def iU(a b:Int):Int:=if b>a then b else a
def Hm(a b:ByteArray):Option ByteArray:=if a.size+b.size<=lim then some (a++b)else none
def vT{α:Type}(f:α->α->Option Bool):List α->List α->Option Bool
 |a::l,b::r=>match f a b with
  |some p=>match vT f l r with
   |some q=>some (p&&q)
   |none=>none
  |none=>none
 |[],[]=>some true
 |_,_=>none
def eqT:(τ:Ty)->τ.den->τ.den->Option Bool
 |.int _,a,b=>some (eqI a b)
 |.bool,a,b=>some (eqB a b)
 |.str,a,b=>some (eqS a b)
 |.prod a b,x,y=>match eqT a x.1 y.1 with
  |some p=>match eqT b x.2 y.2 with
   |some q=>some (p&&q)
   |none=>none
  |none=>none
 |.unit,_,_=>some true
 |.arr _ e,x,y=>vT (eqT e) x y
 |_,_,_=>none
def eqK(k:Ty)(x y:k.den):Bool:=match eqT k x y with
 |some b=>b
 |none=>false
def cS(k v:Ty)(x:k.den):List (k.den×v.den)->Option Nat
 |[]=>none
 |p::l=>cond (eqK k x p.1) (some 0) ((cS k v x l).map (·+1))
def df(k v:Ty)(x:k.den):List (k.den×v.den)->Option v.den
 |[]=>none
 |p::l=>cond (eqK k x p.1) (some p.2) (df k v x l)
def iV(k v:Ty)(x:k.den)(y:v.den):List (k.den×v.den)->List (k.den×v.den)
 |[]=>[(x,y)]
 |p::l=>cond (eqK k x p.1) ((p.1,y)::l) (p::iV k v x y l)
def fg:List (Nat×(Ty×Ty))->Nat->Option (Ty×Ty)
 |[],_=>none
 |(t,p)::r,i=>cond (A7 t i) (some p) (fg r i)
def fO(k v k' v':Ty)(l:List (k'.den×v'.den)):Option (List (k.den×v.den)):=
 if h:k'=k/\v'=v then some (h.1▸h.2▸l)else none
@[reducible] def itTy:Ty:=.prod .str (.int .i64)
def yN:(k v:Ty)->List (k.den×v.den)->Option (ByteArray×Int)
 |.unit,.prod .str (.int .i64),[x]=>some x.2
 |_,_,_=>none
def qh(p:ByteArray×Int):Bool:=ltI p.2 p.1.size
def mw(p:ByteArray×Int):Int:=(Utf8.decode p.1 p.2.toNat).1
def sZ(p:ByteArray×Int):ByteArray×Int:=(p.1,p.2+((Utf8.decode p.1 p.2.toNat).2:Int))
open Classical in
def kF{α:Type}(a b:Option α):Option α:=if a=b then a else none
def yi(op:BinOp)(k:IntKind)(a b:Int):Option Atom:=
 match op with
 |.add=>some (.val (.int k) (ap k a b))
 |.sub=>some (.val (.int k) (dK k a b))
 |.mul=>some (.val (.int k) (dl k a b))
 |.and=>some (.val (.int k) (Er k a b))
 |.or=>some (.val (.int k) (orI k a b))
 |.xor=>some (.val (.int k) (Dv k a b))
 |.andNot=>some (.val (.int k) (o8 k a b))
 |.eql=>some (.val .bool (eqI a b))
 |.neq=>some (.val .bool (neI a b))
 |.lss=>some (.val .bool (ltI a b))
 |.leq=>some (.val .bool (leI a b))
 |.gtr=>some (.val .bool (gtI a b))
 |.geq=>some (.val .bool (geI a b))
 |_=>none
def ln:BinOp->Bool
 |.shl=>true
 |.shr=>true
 |_=>false
def nu(op:BinOp)(k:IntKind)(a b:Int):Int:=match op with
 |.shl=>GY k a b
 |_=>Eg k a b
def AN(op:BinOp)(a b:ByteArray):Option Atom:=
 match op with
 |.eql=>some (.val .bool (eqS a b))
 |.neq=>some (.val .bool (neS a b))
 |_=>none
end
end Go.Vm

/-
 The abstract machine's steps: one operation, a region, a body of code; in the form of continuations.
-/
namespace Go.Vm
noncomputable section
def bk:(τ:Ty)->τ.den
 |.int _=>0
 |.bool=>false
 |.str=>ByteArray.empty
 |.slice _=>[]
 |.prod a b=>(bk a,bk b)
 |.unit=>()
 |.arr n e=>A5 n (bk e)
 |.ptr e=>bk e
 |.clo _ e=>bk e
def zeroCells:(τ:Ty)->List Atom
 |.prod a b=>zeroCells a++zeroCells b
 |.unit=>[]
 |.int k=>[.val (.int k) 0]
 |.bool=>[.val .bool false]
 |.str=>[.val .str ByteArray.empty]
 |.slice _=>[.nils true]
 |.arr n e=>(A5 n (zeroCells e)).flatten
 |.ptr _=>[.u]
 |.clo _ _=>[.u]
def ag(dst:Option Nat)(v:SV)(s:St):St:=
 match dst with
 |some d=>{ env:=(d,v)::s.env,G:=s.G }
 |none=>s
def bj{R:Type}(s:St)(site:Nat)(o:Obj)(K:Nat->St->Option R):Option R:=
 cond (s.G.has (ar 64 s.G site)) none (K (ar 64 s.G site) { env:=s.env,G:=(ar 64 s.G site,o)::s.G })
def setObj(i:Nat)(o:Obj)(s:St):St:={ env:=s.env,G:=(i,o)::s.G }
def atomIds:Atom->List Nat
 |.own i=>[i]
 |.view i _ _=>[i]
 |.ownd i=>[i]
 |.sub i _ _=>[i]
 |.ownm i=>[i]
 |_=>[]
def bJ:SV->List Nat
 |.av a=>atomIds a
 |.agg l=>l.flatMap atomIds
 |.tup l=>l.flatMap λp=>p.2.flatMap atomIds
def aq:List Nat->Heap->Heap
 |[],G=>G
 |i::r,G=>aq r ((i,.dead)::G)
def eQ:Bool->Ty->Nat->Atom
 |true,.slice _,i=>.ownd i
 |_,_,i=>.own i
def gW:Bool->(e:Ty)->List e.den->Obj
 |true,.slice σ,x=>.deep 0 σ x none
 |_,e,x=>.arr e x
def Ty.isSl:Ty->Bool
 |.slice _=>true
 |_=>false
def dE(k:List Nat)(o:Nat):Nat:=k.getD o 0
def dm(d:Bool):Ty->List Nat
 |.prod a b=>dm d a++dm d b
 |.slice e=>[cond (d&&e.isSl) 2 1]
 |.unit=>[]
 |.arr n e=>A5 (n*e.size) 0
 |_=>[0]
def eF(k:List Nat):(o:Nat)->(τ:Ty)->τ.den->Nat->Heap->Option (List Atom×Heap)
 |o,.prod a b,x,site,G=>match eF k o a x.1 site G with
  |some p=>match eF k (o+a.size) b x.2 site p.2 with
   |some q=>some (p.1++q.1,q.2)
   |none=>none
  |none=>none
 |o,.slice e,x,site,G=>cond (A7 (dE k o) 0) (some ([.val (.slice e) x],G))
  (cond (G.has (ar 64 G (100000*(o+1)+site))) none (some ([eQ (A7 (dE k o) 2) e (ar 64 G (100000*(o+1)+site))],(ar 64 G (100000*(o+1)+site),gW (A7 (dE k o) 2) e x)::G)))
 |_,.unit,_,_,G=>some ([],G)
 |_,.int k,x,_,G=>some ([.val (.int k) x],G)
 |_,.bool,x,_,G=>some ([.val .bool x],G)
 |_,.str,x,_,G=>some ([.val .str x],G)
 |_,.ptr e,x,_,G=>some ([.val (.ptr e) x],G)
 |_,_,_,_,_=>none
def bd(d:Bool):(τ:Ty)->τ.den->Nat->Heap->Option (List Atom×Heap)
 |.prod a b,x,site,G=>match bd d a x.1 site G with
  |some p=>match bd d b x.2 site p.2 with
   |some q=>some (p.1++q.1,q.2)
   |none=>none
  |none=>none
 |.unit,_,_,G=>some ([],G)
 |.slice e,x,site,G=>cond (G.has (ar 64 G site)) none (some ([eQ d e (ar 64 G site)],(ar 64 G site,gW d e x)::G))
 |.int k,x,_,G=>some ([.val (.int k) x],G)
 |.bool,x,_,G=>some ([.val .bool x],G)
 |.str,x,_,G=>some ([.val .str x],G)
 |.arr _ _,_,_,_=>none
 |.ptr T,x,site,G=>match eF (dm d T) 0 T x site G with
  |some p=>cond (p.2.has (ar 64 p.2 site)) none (some ([.ptr (ar 64 p.2 site) 0],(ar 64 p.2 site,.box p.1)::p.2))
  |none=>none
 |.clo g .unit,x,_,G=>some ([.val (.clo g .unit) x],G)
 |.clo _ _,_,_,_=>none
def dY(d:Bool):(outs:List (Bool×Ty))->(ac (outs.map (·.2))).den->Nat->Heap->Option (List (Bool×List Atom)×Heap)
 |[],_,_,G=>some ([],G)
 |p::r,x,site,G=>match cond p.1 (bd d p.2 x.1 site G) (some (da p.2 x.1,G))with
  |some c=>match dY d r x.2 site c.2 with
   |some q=>some ((p.2.isAgg,c.1)::q.1,q.2)
   |none=>none
  |none=>none
def eR(deep:Bool):Atom->Bool
 |.own _=>!deep
 |.nils _=>true
 |.view _ _ _=>!deep
 |.ownd _=>deep
 |_=>false
def bR(own:Bool)(k:List Nat):Nat->List Atom->List Nat
 |_,[]=>[]
 |o,a::l=>cond (A7 (dE k o) 0) (cond own [] (atomIds a)) (cond own (atomIds a) [])++bR own k (o+1) l
def cl(own:Bool)(k:List Nat)(G:Heap):SV->List Nat
 |.av (.ptr i _)=>match G.get i with
  |some (.box l)=>cond own (i::bR true k 0 l) (bR false k 0 l)
  |_=>[]
 |_=>[]
def bH:(ins:List (Mode×Ty))->List SV->(ac (aN ins)).den->Nat->Heap->Option Heap
 |[],_,_,_,G=>some G
 |(.rd,_)::r,_::vs,x,site,G=>bH r vs x site G
 |(.take,_)::r,_::vs,x,site,G=>bH r vs x site G
 |(.upd,_)::r,_::vs,x,site,G=>bH r vs x.2 site G
 |(.box k,.ptr T)::r,v::vs,x,site,G=>match v with
  |.av (.ptr id 0)=>match eF k 0 T x.1 site G with
   |some p=>bH r vs x.2 site ((id,.box p.1)::p.2)
   |none=>none
  |_=>none
 |_,_,_,_,_=>none
def gG(k:List Nat):(o:Nat)->(τ:Ty)->List Atom->Bool×List Atom
 |o,.prod a b,l=>let p:=gG k o a l;let q:=gG k (o+a.size) b p.2;(p.1&&q.1,q.2)
 |_,.unit,l=>(true,l)
 |o,.slice e,a::l=>(cond (A7 (dE k o) 0) true (eR (A7 (dE k o) 2&&e.isSl) a),l)
 |_,.int _,_::l=>(true,l)
 |_,.bool,_::l=>(true,l)
 |_,.str,_::l=>(true,l)
 |_,.ptr _,_::l=>(true,l)
 |_,_,_=>(false,[])
def ef:(outs:List Ty)->(m:List Ty)->(ac (outs++m)).den->(ac outs).den×(ac m).den
 |[],_,x=>((),x)
 |_::r,m,x=>let p:=ef r m x.2;((x.1,p.1),p.2)
def th(l:List (Bool×List Atom)):SV:=
 match l with
 |[(true,c)]=>.agg c
 |[(false,[a])]=>.av a
 |l=>.tup l
def dG(G:Heap):(ins:List (Mode×Ty))->List SV->Option (ac (ins.map (·.2))).den
 |[],[]=>some ()
 |p::r,v::vs=>match aR G p.2 v with
  |some x=>match dG G r vs with
   |some y=>some (x,y)
   |none=>none
  |none=>none
 |_,_=>none
def c9(G:Heap)(i:Nat):List Nat:=match G.get i with
 |some (.box l)=>l.flatMap atomIds
 |_=>[]
def fV(G:Heap)(i:Nat):List Nat:=i::(c9 G i++match jM (G.get i)with
 |some j=>j::c9 G j
 |none=>[])
def cP(G:Heap):SV->List Nat
 |.av (.ptr i _)=>i::c9 G i
 |.av (.clo _ c)=>c.flatMap (fV G)
 |v=>bJ v
def aV(G:Heap):List (Mode×Ty)->List SV->List Nat×List Nat
 |(.rd,_)::r,v::vs=>let p:=aV G r vs;(cP G v++p.1,p.2)
 |(.box k,_)::r,v::vs=>let p:=aV G r vs;(cl false k G v++p.1,cl true k G v++p.2)
 |(_,_)::r,v::vs=>let p:=aV G r vs;(p.1,bJ v++p.2)
 |_,_=>([],[])
def aH:List Nat->Bool
 |[]=>true
 |a::l=>!(l.any λb=>A7 a b)&&aH l
def eU(l r:List Nat):Bool:=!(l.any λi=>r.any λj=>A7 i j)
def cK(G:Heap):List (Mode×Ty)->List SV->Bool
 |(.box k,.ptr T)::r,v::vs=>(match v with
  |.av (.ptr id 0)=>match G.get id with
   |some (.box l)=>(gG k 0 T l).1&&(gG k 0 T l).2.isEmpty
   |_=>false
  |_=>false)&&cK G r vs
 |(.box _,_)::_,_=>false
 |_::r,_::vs=>cK G r vs
 |_,_=>true
def bz(G:Heap):List (Mode×Ty)->List SV->List Nat
 |(.box k,_)::r,v::vs=>(cl true k G v).tail++bz G r vs
 |_::r,_::vs=>bz G r vs
 |_,_=>[]
def am:(ins:List (Mode×Ty))->List SV->(ac (aN ins)).den->Heap->Option Heap
 |[],[],_,G=>some G
 |(.rd,_)::r,_::vs,x,G=>am r vs x G
 |(.take,_)::r,v::vs,x,G=>match v with
  |.av (.nils _)=>am r vs x G
  |.av (.own id)=>am r vs x ((id,.dead)::G)
  |.av (.view id _ _)=>am r vs x ((id,.dead)::G)
  |_=>none
 |(.upd,.slice e)::r,v::vs,x,G=>match v with
  |.av (.nils _)=>am r vs x.2 G
  |.av (.own id)=>am r vs x.2 ((id,.arr e x.1)::G)
  |_=>none
 |(.box _,.ptr T)::r,v::vs,x,G=>match v with
  |.av (.ptr id 0)=>am r vs x.2 ((id,.box (A5 T.size .u))::G)
  |_=>none
 |_,_,_,_=>none
def jf(G:Heap)(e:Ty):List SV->Option (List e.den)
 |[]=>some []
 |v::vs=>match aR G e v with
  |some x=>match jf G e vs with
   |some y=>some (x::y)
   |none=>none
  |none=>none
def Ty.part:Ty->Nat->Option (Nat×Ty)
 |.arr _ e,i=>some (i*e.size,e)
 | τ,i=>τ.field i
def fF(τ:Ty):List (Nat×SV)->List Atom->Option (List Atom)
 |[],l=>some l
 |(i,v)::r,l=>match τ.part i with
  |some (o,t)=>match fG t v with
   |some c=>cond (A7 c.length t.size) (match pO o c l with
    |some l'=>fF τ r l'
    |none=>none) none
   |none=>none
  |none=>none
def dH:(τ:Ty)->τ.den->List Nat->(σ:Ty)->σ.den->Option τ.den
 | τ,_,[],σ,y=>bC τ σ y
 |.prod a b,x,0::p,σ,y=>match dH a x.1 p σ y with
  |some x'=>some (x',x.2)
  |none=>none
 |.prod a b,x,(i+1)::p,σ,y=>match dH b x.2 (i::p) σ y with
  |some x'=>some (x.1,x')
  |none=>none
 |_,_,_::_,_,_=>none
def iO{α:Type}(l:List α)(lo hi:Int):Option (List α):=if 0<=lo/\lo<=hi/\hi<=l.length then some ((l.take hi.toNat).drop lo.toNat)else none
def Du(s:ByteArray)(lo hi:Int):Option ByteArray:=if 0<=lo/\lo<=hi/\hi<=s.size then some (s.extract lo.toNat hi.toNat)else none
def dF(n:Nat)(lo hi:Int):Option (Nat×Nat):=if 0<=lo/\lo<=hi/\hi<=n then some (lo.toNat,hi.toNat-lo.toNat)else none
def iH(s:ByteArray):List Int:=s.data.toList.map λb=>(b.toNat:Int)
def mF(l:List Int):ByteArray:=⟨(l.map λn=>UInt8.ofNat n.toNat).toArray⟩
def bG(e:Ty)(n c:Int):Option (List e.den):=if 0<=n/\n<=c/\c<=lim then some (A5 n.toNat (bk e))else none
def CB(C:Ctx)(t:Nat):Bool:=match fg C.maps t with
 |some (.int .i64,.int .i64)=>true
 |_=>false
def c14(C:Ctx):List Oper->Bool
 |[⟨some 50,.move (.tmp 11),_,_,_,none⟩,⟨some 51,.range t (.tmp 50),_,_,_,none⟩]=>CB C t
 |_=>false
def c15:List Oper->Bool
 |[⟨some 52,.next (.tmp 51) false,_,_,_,none⟩,⟨some 53,.extract (.tmp 52) 0,_,_,_,none⟩]=>true
 |_=>false
def c16:List Oper->Bool
 |[⟨some 54,.entry (.tmp 51),_,_,_,none⟩,⟨some 55,.extract (.tmp 54) 1,_,_,_,none⟩,⟨some 16,.assign (.tmp 55),_,_,_,none⟩]=>true
 |_=>false
def c17:List Oper->Bool
 | [⟨some 56,.move (.tmp 14),_,_,_,none⟩,⟨some 57,.unOp .not _ (.tmp 56),_,_,_,none⟩,⟨some 58,.move (.tmp 57),_,_,_,none⟩,
   ⟨some 59,.move (.tmp 16),_,_,_,some (2,false)⟩,⟨some 60,.move (.tmp 13),_,_,_,some (2,false)⟩,⟨some 61,.binOp .lss t (.tmp 59) (.tmp 60) _,_,_,_,some (2,false)⟩,
   ⟨some 62,.pick (.tmp 58) (.const (.bool true)) (.tmp 61),_,_,_,none⟩]=>true
 |_=>false
def c18:List Oper->Bool
 |[⟨some 63,.move (.tmp 16),_,_,_,none⟩,⟨some 13,.assign (.tmp 63),_,_,_,none⟩,⟨some 14,.assign (.const (.bool true)),_,_,_,none⟩]=>true
 |_=>false
def mh(C:Ctx):Code->Code->Bool
 |.region _ o14 false,.block k (.loop (.seq (.region _ o15 false) (.seq (.cond (.tmp 53) .skip (.exit k')) (.block _ (.seq (.region _ o16 false) (.seq (.region _ o17 false) (.cond (.tmp 62) (.region _ o18 false) .skip)))))))=>
  A7 k k'&&(c14 C o14.toList&&(c15 o15.toList&&(c16 o16.toList&&(c17 o17.toList&&c18 o18.toList))))
 |_,_=>false
def Ao:List Nat:=[50,51,52,53,54,55,16,56,57,58,59,60,61,62,63]
def uv:List Nat:=13::14::Ao
def jB:List (Int×Int)->Option Int
 |[]=>none
 |p::r=>match jB r with
  |none=>some p.2
  |some m=>some (cond (decide (p.2<=m)) p.2 m)
def pE:List Nat->Env->Env
 |[],e=>e
 |d::l,e=>(d,.av .u)::pE l e
def pG(C:Ctx)(a b:Code)(s:St):Option St:=cond (mh C a b) (match s.env.get 11,s.env.get 13,s.env.get 14 with
 |.av (.ownm id),.av (.val (.int .i64) _),.av (.val .bool false)=>match s.G.get id with
  |some (.map k v l)=>(fO (.int .i64) (.int .i64) k v l).bind λl'=>match jB l' with
   |some n=>some { env:=(13,.av (.val (.int .i64) n))::(14,.av (.val .bool true))::pE Ao s.env,G:=s.G }
   |none=>none
  |_=>none
 |_,_,_=>none) none
noncomputable section
variable {R:Type}(C:Ctx)
def asI:SV->(Int->Option R)->Option R
 |.av (.val (.int _) n),K=>K n
 |_,_=>none
def kn:SV->(Int->Option R)->Option R
 |.av (.val (.int .i64) n),K=>K n
 |_,_=>none
def vo(e:Env)(d:Int):Option Operand->(Int->Option R)->Option R
 |none,K=>K d
 |some x,K=>asI (ah C e x) K
def indexAt(s:St)(t:Nat)(x:SV)(i:Int)(K:Atom->Option R):Option R:=
 match x with
 |.av (.val (.slice e) l)=>(aL l i).bind λy=>K (.val (.ptr e) y)
 |.av (.own id)=>match s.G.get id with
  |some (.arr _ l)=>(ay l.length i).bind λj=>K (.aptr id j [])
  |_=>none
 |.av (.view id off len)=>match s.G.get id with
  |some (.arr _ _)=>(ay len i).bind λj=>K (.aptr id (off+j) [])
  |_=>none
 |.av (.cut id off len)=>match s.G.get id with
  |some (.arr _ _)=>(ay len i).bind λj=>K (.aptr id (off+j) [])
  |_=>none
 |.av (.ownd id)=>match s.G.get id with
  |some (.deep _ _ l _)=>(ay l.length i).bind λj=>K (.aptr id j [])
  |_=>none
 |.av (.sub id ver j)=>match s.G.get id with
  |some (.deep ver' _ l none)=>cond (A7 ver ver') ((ay (aJ l j).length i).bind λk=>K (.saptr id ver j k)) none
  |_=>none
 |.av (.val (.ptr (.arr _ e)) l)=>(aL l i).bind λy=>K (.val (.ptr e) y)
 |.av (.ptr id off)=>match C.tab.get t with
  |some (.arr n e)=>if 0<=i/\i<n then cond (JK 16 (n*e.size)) (K (.iptr id off (n*e.size) (i.toNat*e.size) e.size)) (K (.ptr id (off+i.toNat*e.size)))else none
  |_=>none
 |.av (.iptr id off cnt idx _)=>match C.tab.get t with
  |some (.arr n e)=>if 0<=i/\i<n then K (.iptr id off cnt (idx+i.toNat*e.size) e.size)else none
  |_=>none
 |_=>none
def ia:List Atom->Option (List (Σ t:Ty,t.den))
 |[]=>some []
 |.val τ x::r=>(ia r).bind λq=>some (⟨τ,x⟩::q)
 |_::_=>none
def gO{R:Type}:Nat->Nat->List Atom->Int->Nat->(List Atom->Option R)->Option R
 |0,_,_,_,_,_=>none
 |k+1,sz,l,i,j,K=>cond (eqI i j) (match kl sz l with|some c=>K c|none=>none) (gO k sz (l.drop sz) i (j+1) K)
def du(t:Nat)(G:Heap)(x:SV):Bool:=match C.tab.get t,x with
 |some (.slice e),.av (.val (.slice e') _)=>decide (e=e')
 |some (.slice e),.av (.own id)=>match G.get id with
  |some (.arr e' _)=>decide (e=e')
  |_=>false
 |some (.slice e),.av (.view id _ _)=>match G.get id with
  |some (.arr e' _)=>decide (e=e')
  |_=>false
 |some (.slice e),.av (.cut id _ _)=>match G.get id with
  |some (.arr e' _)=>decide (e=e')
  |_=>false
 |some (.slice e),.av (.ownd id)=>match G.get id with
  |some (.deep _ e' _ _)=>decide (e=.slice e')
  |_=>false
 |some (.slice e),.av (.sub id _ _)=>match G.get id with
  |some (.deep _ e' _ _)=>decide (e=e')
  |_=>false
 |some (.arr n e),.av (.val (.ptr (.arr n' e')) _)=>decide (e=e')&&A7 n n'&&JK 2 n
 |some (.arr n _),.av (.ptr i _)=>match G.get i with
  |some (.box _)=>JK 2 n
  |_=>false
 |some (.arr n e),.av (.iptr i _ _ _ w)=>match G.get i with
  |some (.box _)=>JK 2 n&&A7 w (n*e.size)
  |_=>false
 |_,_=>false
def eV(t:Nat)(G:Heap)(x:SV):Bool:=match C.tab.get t,x with
 |some .str,.av (.val .str _)=>true
 |some (.slice e),.av (.val (.slice e') _)=>decide (e=e')
 |some (.slice _),.av (.nils _)=>true
 |some (.slice e),.av (.own id)=>match G.get id with
  |some (.arr e' _)=>decide (e=e')
  |_=>false
 |some (.slice e),.av (.view id _ _)=>match G.get id with
  |some (.arr e' _)=>decide (e=e')
  |_=>false
 |_,_=>false
def jc(k:IntKind):List Atom->Option (List Int)
 |[]=>some []
 |.val (.int k') x::r=>cond (decide (k'=k)) (match jc k r with|some xs=>some (x::xs)|none=>none) none
 |_=>none
def setCells(k:IntKind)(idx:Nat)(y:Int):Nat->List Int->List Atom
 |_,[]=>[]
 |j,x::xs=>.val (.int k) (cond (A7 idx j) y x)::setCells k idx y (j+1) xs
def loadAt(s:St)(τ:Ty)(p:Atom)(K:SV->Option R):Option R:=
 match p with
 |.ptr id off=>match s.G.get id with
  |some (.box l)=>match kl τ.size (l.drop off)with
   |some c=>K (d8 τ c)
   |none=>none
  |_=>none
 |.aptr id j p=>match s.G.get id with
  |some (.arr σ l)=>(l[j]?).bind λx=>match mH σ x p with
   |some ⟨t,y⟩=>match bC τ t y with
    |some z=>K (.av (.val τ z))
    |none=>none
   |none=>none
  |some (.deep ver σ l none)=>cond (decide (τ=.slice σ)&&p.isEmpty) (K (.av (.sub id ver j))) none
  |_=>none
 |.saptr id ver j k=>match s.G.get id with
  |some (.deep ver' σ l none)=>cond (A7 ver ver') (((aJ l j)[k]?).bind λy=>match bC τ σ y with
   |some z=>K (.av (.val τ z))
   |none=>none) none
  |_=>none
 |.val (.ptr σ) x=>match bC τ σ x with
  |some z=>K (.av (.val τ z))
  |none=>none
 |.iptr id off cnt idx w=>match s.G.get id,τ with
  |some (.box l),.int k=>match jc k ((l.drop off).take cnt)with
   |some xs=>cond (A7 w 1&&A7 xs.length cnt) (K (.av (.val (.int k) (xs.getD idx 0)))) none
   |none=>none
  |_,_=>none
 |_=>none
def oY(G:Heap)(σ:Ty):SV->Option (List σ.den×List Nat)
 |.av (.nils _)=>some ([],[])
 |.av (.own id)=>match G.get id with
  |some (.arr τ l)=>match bC (.slice σ) (.slice τ) l with
   |some x=>some (x,[id])
   |none=>none
  |_=>none
 |_=>none
def um(hole:Option Nat)(j:Nat)(K:Option R):Option R:=match hole with
 |none=>K
 |some h=>if h=j then K else none
def storeAt(s:St)(τ:Ty)(p:Atom)(v:SV)(K:St->Option R):Option R:=
 match p with
 |.ptr id off=>match s.G.get id with
  |some (.box l)=>match fG τ v with
   |some c=>cond (A7 c.length τ.size) (match pO off c l with
    |some l'=>K (setObj id (.box l') s)
    |none=>none) none
   |none=>none
  |_=>none
 |.aptr id j p=>match s.G.get id with
  |some (.arr σ l)=>match aR s.G τ v with
   |some y=>(l[j]?).bind λx=>match dH σ x p τ y with
    |some z=>cond ((bJ v).contains id||τ.isPC) none (K (setObj id (.arr σ (l.set j z)) { env:=s.env,G:=aq (bJ v) s.G }))
    |none=>none
   |none=>none
  |some (.deep ver σ l hole)=>cond (decide (τ=.slice σ)&&p.isEmpty) (match oY s.G σ v with
   |some x=>um hole j (K (setObj id (.deep (ver+1) σ (l.set j x.1) none) { env:=s.env,G:=aq x.2 s.G }))
   |none=>none) none
  |_=>none
 |.saptr id ver j k=>match s.G.get id with
  |some (.deep ver' σ l none)=>cond (A7 ver ver'&&decide (τ=σ) && !((bJ v).contains id||τ.isPC)) (match aR s.G σ v with
   |some y=>K (setObj id (.deep ver σ (l.set j ((aJ l j).set k y)) none) { env:=s.env,G:=aq (bJ v) s.G })
   |none=>none) none
  |_=>none
 |.iptr id off cnt idx w=>match s.G.get id,τ,v with
  |some (.box l),.int k,.av (.val (.int k') y)=>match jc k ((l.drop off).take cnt)with
   |some xs=>cond (A7 w 1&&A7 xs.length cnt&&decide (k'=k)) (K (setObj id (.box (l.take off++(setCells k idx y 0 xs++l.drop (off+cnt)))) s)) none
   |none=>none
  |_,_,_=>none
 |_=>none
def lenOf(s:St):SV->(Int->Option R)->Option R
 |.av (.val (.slice _) l),K=>K (l.length:Nat)
 |.av (.val .str b),K=>K (b.size:Nat)
 |.av (.nils _),K=>K 0
 |.av (.own id),K=>match s.G.get id with
  |some (.arr _ l)=>K (l.length:Nat)
  |_=>none
 |.av (.view id _ n),K=>match s.G.get id with
  |some (.arr _ _)=>K (n:Nat)
  |_=>none
 |.av (.cut id _ n),K=>match s.G.get id with
  |some (.arr _ _)=>K (n:Nat)
  |_=>none
 |.av (.ownd id),K=>match s.G.get id with
  |some (.deep _ _ l _)=>K (l.length:Nat)
  |_=>none
 |.av (.sub id ver j),K=>match s.G.get id with
  |some (.deep ver' _ l none)=>cond (A7 ver ver') (K ((aJ l j).length:Nat)) none
  |_=>none
 |_,_=>none
def rv(τ:Option Ty)(v:SV):Bool:=match τ,v with
 |some .str,.av (.val .str _)=>true
 |some (.slice _),.av (.val (.slice _) _)=>true
 |some (.slice _),.av (.nils _)=>true
 |some (.slice _),.av (.own _)=>true
 |some (.slice _),.av (.view _ _ _)=>true
 |some (.slice _),.av (.cut _ _ _)=>true
 |some (.slice _),.av (.ownd _)=>true
 |some (.slice _),.av (.sub _ _ _)=>true
 |_,_=>false
def iL(mx:Bool):Int->List SV->(Int->Option R)->Option R
 |a,[],K=>K a
 |a,v::r,K=>kn v λb=>iL mx (cond mx (iU a b) (de a b)) r K
def ka:SV->Bool
 |.av (.ownd _)=>true
 |_=>false
def fE(s:St)(e:Ty):SV->Option (List e.den×List Nat)
 |.av (.nils _)=>some ([],[])
 |.av (.own id)=>match s.G.get id with
  |some (.arr σ l)=>match bC (.slice e) (.slice σ) l with
   |some l'=>some (l',[id])
   |none=>none
  |_=>none
 |.av (.view id off len)=>match s.G.get id with
  |some (.arr σ l)=>match bC (.slice e) (.slice σ) l with
   |some l'=>some ((l'.drop off).take len,[id])
   |none=>none
  |_=>none
 |_=>none
def fw(σ:Ty)(l:List σ.den)(off len:Nat):List σ.den:=l.take off++(A5 len (bk σ)++l.drop (off+len))
def kK{α:Type}(l ys:List α):List α:=ys.take l.length++l.drop ys.length
def xT(s:St)(e:Ty):SV->Option (List e.den)
 |.av (.cut id off len)=>match s.G.get id with
  |some (.arr σ l)=>match bC (.slice e) (.slice σ) l with
   |some l'=>some ((l'.drop off).take len)
   |none=>none
  |_=>none
 |_=>none
def dJ(s:St)(x:SV)(lo:Int)(hi:Option Int)(mx:Option Int)(K:SV->Option R):Option R:=
 match x,mx with
 |.av (.val .str b),none=>(Du b lo (hi.getD b.size)).bind λr=>K (.av (.val .str r))
 |.av (.val (.slice e) l),none=>(iO l lo (hi.getD l.length)).bind λr=>K (.av (.val (.slice e) r))
 |.av (.val (.slice _) _),some 0=>if lo=0/\hi=some 0 then K (.av (.nils false))else none
 |.av (.nils d),none=>if lo=0/\hi.getD 0=0 then K (.av (.nils d))else none
 |.av (.own id),none=>match s.G.get id with
  |some (.arr _ l)=>(dF l.length lo (hi.getD l.length)).bind λp=>K (.av (.view id p.1 p.2))
  |_=>none
 |.av (.view id off len),none=>(dF len lo (hi.getD len)).bind λp=>K (.av (.view id (off+p.1) p.2))
 |.av (.own id),some mx=>match s.G.get id with
  |some (.arr _ l)=>(dF l.length lo mx).bind λp=>if hi=some mx/\lo<mx then K (.av (.cut id p.1 p.2))else none
  |_=>none
 |_,_=>none
def oj(G:Heap):List SV->Option (List Nat)
 |[]=>some []
 |.av (.ptr i 0)::r=>match G.get i with
  |some (.box _)=>match oj G r with
   |some l=>some (i::l)
   |none=>none
  |_=>none
 |_=>none
def jX(G:Heap):List SV->Option ((Σ t:Ty,t.den)×List Nat)
 |[]=>some (⟨.unit,()⟩,[])
 |.av (.val (.ptr e) x)::r=>match jX G r with
  |some q=>some (⟨.prod (.ptr e) q.1.1,(x,q.1.2)⟩,q.2)
  |none=>none
 |.av (.ptr i 0)::r=>match G.get i with
  |some (.box [.val τ x])=>cond τ.isAgg none (match jX G r with
   |some q=>some (⟨.prod (.ptr τ) q.1.1,(x,q.1.2)⟩,i::q.2)
   |none=>none)
  |_=>none
 |_=>none
def ce:(τ:Ty)->τ.den->Option (List SV)
 |.prod (.ptr a) b,x=>match ce b x.2 with
  |some l=>some (.av (.val (.ptr a) x.1)::l)
  |none=>none
 |.unit,_=>some []
 |_,_=>none
def Ty.flat:Ty->Bool
 |.int _=>true
 |.bool=>true
 |.str=>true
 |.prod a b=>a.flat&&b.flat
 |.unit=>true
 |.arr _ e=>e.flat
 |_=>false
def Ty.shallow:Ty->Bool
 |.int _=>true
 |.bool=>true
 |.str=>true
 |.prod a b=>a.shallow&&b.shallow
 |.unit=>true
 |.clo _ .unit=>true
 |.slice e=>e.flat
 |_=>false
def Ty.shallowD:Ty->Bool
 |.int _=>true
 |.bool=>true
 |.str=>true
 |.prod a b=>a.shallowD&&b.shallowD
 |.unit=>true
 |.clo _ .unit=>true
 |.slice (.slice e)=>e.flat
 |.slice e=>e.flat
 |_=>false
def pW(k:List Nat):(o:Nat)->(τ:Ty)->Bool
 |o,.prod a b=>pW k o a&&pW k (o+a.size) b
 |o,.slice e=>!A7 (dE k o) 0&&cond (A7 (dE k o) 2) (Ty.slice e).shallowD (Ty.slice e).shallow
 |_,.unit=>true
 |_,.int _=>true
 |_,.bool=>true
 |_,.str=>true
 |_,_=>false
def iy:List (Mode×Ty)->Bool
 |[]=>true
 |(.upd,τ)::r=>τ.shallow&&iy r
 |(.box k,.ptr T)::r=>pW k 0 T&&iy r
 |(.box _,_)::_=>false
 |(_,_)::r=>iy r
def na(c:Con):Bool:=(c.outs.all λp=>p.1&&cond c.deep p.2.shallowD p.2.shallow)&&iy c.ins
def bD(site:Nat)(G:Heap):SV->SV×Heap
 |.av (.sub id ver j)=>match G.get id with
  |some (.deep ver' σ l none)=>cond (A7 ver ver' && !G.has (ar 64 G site)) (.av (.own (ar 64 G site)),(ar 64 G site,.arr σ (aJ l j))::(id,.deep (ver+1) σ l (some j))::G) (.av (.sub id ver j),G)
  |_=>(.av (.sub id ver j),G)
 |v=>(v,G)
def ct(site:Nat):List (Mode×Ty)->List SV->Heap->List SV×Heap
 |(.take,_)::r,v::vs,G=>((bD site G v).1::(ct site r vs (bD site G v).2).1,(ct site r vs (bD site G v).2).2)
 |_::r,v::vs,G=>(v::(ct site r vs G).1,(ct site r vs G).2)
 |_,vs,G=>(vs,G)
def gQ(G:Heap)(σ:Ty):List SV->Option (List (List σ.den)×List Nat)
 |[]=>some ([],[])
 |v::vs=>match oY G σ v with
  |some x=>match gQ G σ vs with
   |some p=>some (x.1::p.1,x.2++p.2)
   |none=>none
  |none=>none
def kC(G:Heap)(σ:Ty):SV->Option (List (List σ.den)×List Nat)
 |.av (.nils _)=>some ([],[])
 |.av (.ownd id)=>match G.get id with
  |some (.deep _ τ l none)=>match bC (.slice (.slice σ)) (.slice (.slice τ)) l with
   |some x=>some (x,[id])
   |none=>none
  |_=>none
 |_=>none
def jH(s:St)(site f:Nat)(vs:List SV)(K:SV->St->Option R):Option R:=
 match C.con f site with
 |some c=>match dG s.G c.ins vs with
  |some x=>(c.fn x).bind λr=>
   cond (aH (aV s.G c.ins vs).2&&eU (aV s.G c.ins vs).1 (aV s.G c.ins vs).2&&cK s.G c.ins vs) (
    match am c.ins vs (ef (c.outs.map (·.2)) (aN c.ins) r).2 s.G with
    |some G'=>
     match dY c.deep c.outs (ef (c.outs.map (·.2)) (aN c.ins) r).1 site (cond (na c) (aq (bz s.G c.ins vs) G') (aq (aV s.G c.ins vs).1 (aq (bz s.G c.ins vs) G')))with
     |some q=>match bH c.ins vs (ef (c.outs.map (·.2)) (aN c.ins) r).2 site q.2 with
      |some G2=>K (th q.1) { env:=s.env,G:=G2 }
      |none=>none
     |none=>none
    |none=>none) none
  |none=>none
 |none=>none
def sQ(G:Heap)(vs:List SV):Bool:=vs.all λv=>match v with
 |.av (.ptr i _)=>(match G.get i with
  |some (.box _)=>true
  |_=>false)
 |_=>true
def eJ(s:St)(site f:Nat)(vs:List SV)(K:SV->St->Option R):Option R:=
 match C.inl f with
 |some r=>cond (sQ s.G vs) ((r s.G vs).bind λp=>K p.1 { env:=s.env,G:=p.2++s.G }) none
 |none=>match C.con f site with
 |some c=>jH C { env:=s.env,G:=(ct site c.ins vs s.G).2 } site f (ct site c.ins vs s.G).1 K
 |none=>none
def lF:Operand->Bool
 |.const _=>true
 |_=>false
def m9:Option Ty->Bool
 |some .bool=>true
 |_=>false
def dW:Option Ty->Bool
 |some (.slice _)=>true
 |_=>false
def aK(o:Oper)(s:St)(K:St->Option R):Option R:=
 let ev:=ah C s.env
 let ret (v:SV):Option R:=K (ag o.dst v s)
 let site:=o.dst.getD 0
 match o.op with
 |.move x=>ret (ev x)
 |.assign x=>ret (ev x)
 |.pick c a b=>match ev c with
  |.av (.val .bool t)=>cond t (ret (ev a)) (ret (ev b))
  |_=>none
 |.alloc t=>match C.tab.get t with
  |some τ=>bj s site (.box (zeroCells τ)) λi s2=>K (ag o.dst (.av (.ptr i 0)) s2)
  |none=>none
 |.box t x=>match C.tab.get t with
  |some τ=>match fG τ (ev x)with
   |some c=>bj s site (.box c) λi s2=>K (ag o.dst (.av (.ptr i 0)) s2)
   |none=>none
  |none=>none
 |.build t parts=>match C.tab.get t with
  |some τ=>cond τ.isAgg (match fF τ (parts.toList.map λp=>(p.1,ev p.2)) (zeroCells τ)with
   |some c=>ret (.agg c)
   |none=>none) none
  |none=>none
 |.buildSlice t n parts=>match C.tab.get t with
  |some (.slice e)=>cond (A7 n parts.size&&JK n 16777216&&JK (n*e.size) 16777216&&(parts.toList.zipIdx.all λp=>A7 p.1.1 p.2)) (cond (C.deep.any λd=>A7 d site) (match e with
   |.slice σ=>match gQ s.G σ (parts.toList.map λp=>ev p.2)with
    |some x=>cond (aH x.2) (bj { env:=s.env,G:=aq x.2 s.G } site (.deep 0 σ x.1 none) λi s2=>K (ag o.dst (.av (.ownd i)) s2)) none
    |none=>none
   |_=>none) <| match jf s.G e (parts.toList.map λp=>ev p.2)with
   |some l=>bj { env:=s.env,G:=aq (parts.toList.flatMap λp=>cP s.G (ev p.2)) s.G } site (.arr e l) λi s2=>K (ag o.dst (.av (.own i)) s2)
   |none=>none) none
  |_=>none
 |.load t a=>match C.tab.get t,ev a with
  |some τ,.av p=>loadAt s τ p ret
  |_,_=>none
 |.store t a x=>match C.tab.get t,ev a with
  |some τ,.av p=>storeAt s τ p (ev x) λs'=>K (ag o.dst (.av .undef) s')
  |_,_=>none
 |.nilCheck x=>match ev x with
  |.av (.ptr i j)=>match s.G.get i with
   |some (.box _)=>ret (.av (.ptr i j))
   |_=>none
  |.av (.aptr i j p)=>match s.G.get i with
   |some (.arr _ _)=>ret (.av (.aptr i j p))
   |some (.deep _ _ _ _)=>ret (.av (.aptr i j p))
   |_=>none
  |.av (.val (.ptr t) y)=>ret (.av (.val (.ptr t) y))
  |.av (.val (.clo g t) y)=>ret (.av (.val (.clo g t) y))
  |.av (.clo f c)=>ret (.av (.clo f c))
  |.av (.iptr i off n idx w)=>match s.G.get i with
   |some (.box _)=>ret (.av (.iptr i off n idx w))
   |_=>none
  |_=>none
 |.binOp op xt x y _=>match ev x,ev y with
  |.av (.val (.int k) a),.av (.val (.int k') b)=>cond (ln op) (cond (ltI b 0) none (ret (.av (.val (.int k) (nu op k a b))))) <| cond (decide (k=k')) (match op with
   |.quo=>cond (eqI b 0) none (ret (.av (.val (.int k) (qP k a b))))
   |.rem=>cond (eqI b 0) none (ret (.av (.val (.int k) (n8 a b))))
   |_=>match yi op k a b with
    |some r=>ret (.av r)
    |none=>none) none
  |.av (.val .str a),.av (.val .str b)=>match op with
   |.add=>(Hm a b).bind λr=>ret (.av (.val .str r))
   |_=>match AN op a b with
    |some r=>ret (.av r)
    |none=>none
  |.av (.val .bool a),.av (.val .bool b)=>cond (m9 (C.tab.get xt)) (match op with
   |.eql=>ret (.av (.val .bool (eqB a b)))
   |.neq=>ret (.av (.val .bool (neB a b)))
   |_=>none) none
  |.av (.val (.slice _) l),.av (.nils true)=>cond (lF y&&dW (C.tab.get xt)) (match op with
   |.eql=>cond l.isEmpty (kF (ret (.av (.val .bool true))) (ret (.av (.val .bool false)))) (ret (.av (.val .bool false)))
   |.neq=>cond l.isEmpty (kF (ret (.av (.val .bool true))) (ret (.av (.val .bool false)))) (ret (.av (.val .bool true)))
   |_=>none) none
  |.av (.nils true),.av (.nils true)=>cond (dW (C.tab.get xt)) (match op with
   |.eql=>ret (.av (.val .bool true))
   |.neq=>ret (.av (.val .bool false))
   |_=>none) none
  |u,.av (.nils true)=>match C.tab.get xt with
   |some (.slice e)=>match aR s.G (.slice e) u with
    |some (_::_)=>(match op with
     |.eql=>ret (.av (.val .bool false))
     |.neq=>ret (.av (.val .bool true))
     |_=>none)
    |_=>none
   |_=>none
  |u,v=>match C.tab.get xt with
   |some τ=>cond (τ.isAgg&&C.eqs.any λe=>A7 e xt) (match aR s.G τ u,aR s.G τ v with
    |some a,some b=>match eqT τ a b with
     |some r=>match op with
      |.eql=>ret (.av (.val .bool r))
      |.neq=>ret (.av (.val .bool (!r)))
      |_=>none
     |none=>none
    |_,_=>none) none
   |none=>none
 |.unOp op _ x=>match op,ev x with
  |.not,.av (.val .bool b)=>ret (.av (.val .bool (!b)))
  |.neg,.av (.val (.int k) n)=>ret (.av (.val (.int k) (dK k 0 n)))
  |_,_=>none
 |.convert a b x=>match C.tab.get a,C.tab.get b,ev x with
  |some (.int _),some (.int k),.av (.val (.int _) n)=>ret (.av (.val (.int k) (k.wrap n)))
  |some .str,some (.slice (.int .u8)),.av (.val .str b)=>bj s site (.arr (.int .u8) (iH b)) λi s2=>K (ag o.dst (.av (.own i)) s2)
  |some (.slice (.int .u8)),some .str,v=>match aR s.G (.slice (.int .u8)) v with
   |some l=>ret (.av (.val .str (mF l)))
   |none=>none
  |some .str,some .str,.av (.val .str b)=>ret (.av (.val .str b))
  |_,_,_=>none
 |.makeSlice t n c=>match C.tab.get t with
  |some (.slice e)=>asI (ev n) λa=>asI (ev c) λb=>(bG e a b).bind λl=>bj s site (gW (C.deep.any λd=>A7 d site) e l) λi s2=>K (ag o.dst (.av (eQ (C.deep.any λd=>A7 d site) e i)) s2)
  |_=>none
 |.slice t x lo hi mx=>vo C s.env 0 lo λl=>cond (!eV C t s.G (ev x)) none <| match hi,mx with
  |none,none=>dJ s (ev x) l none none ret
  |some h,none=>asI (ev h) λh'=>dJ s (ev x) l (some h') none ret
  |some h,some m=>asI (ev h) λh'=>asI (ev m) λm'=>dJ s (ev x) l (some h') (some m') ret
  |none,some _=>none
 |.fieldAddr t x f=>match ev x with
  |.av (.ptr id off)=>match s.G.get id,C.tab.get t with
   |some (.box _),some τ=>match τ.field f with
    |some (o',t')=>cond (JK 1 t'.size) (ret (.av (.ptr id (off+o')))) none
    |none=>none
   |_,_=>none
  |.av (.aptr id j p)=>match s.G.get id,C.tab.get t with
   |some (.arr σ _),some τ=>match cX σ p with
    |some (_,τ')=>cond (decide (τ'=τ)) (match τ.field f with
     |some (_,t')=>cond (JK 1 t'.size) (ret (.av (.aptr id j (p++[f])))) none
     |none=>none) none
    |none=>none
   |_,_=>none
  |.av (.val (.ptr τ) y)=>match C.tab.get t with
   |some τ'=>cond (decide (τ=τ')) (match bW τ y f with
    |some ⟨t',z⟩=>cond (JK 1 t'.size) (ret (.av (.val (.ptr t') z))) none
    |none=>none) none
   |none=>none
  |_=>none
 |.field t x f=>match ev x with
  |.agg l=>match C.tab.get t with
   |some τ=>match τ.field f with
    |some (o',t')=>match kl t'.size (l.drop o')with
     |some c=>ret (d8 t' c)
     |none=>none
    |none=>none
   |none=>none
  |.av (.val τ y)=>match C.tab.get t with
   |some τ'=>cond (decide (τ=τ')) (match bW τ y f with
    |some ⟨t',z⟩=>ret (.av (.val t' z))
    |none=>none) none
   |none=>none
  |_=>none
 |.indexAddr t x ix=>asI (ev ix) λi=>cond (du C t s.G (ev x)) (indexAt C s t (ev x) i λa=>ret (.av a)) none
 |.index t x ix=>asI (ev ix) λi=>match C.tab.get t,ev x with
  |some .str,.av (.val .str b)=>(aL b.data.toList i).bind λc=>ret (.av (.val (.int .u8) (c.toNat:Int)))
  |some (.arr n e),.agg l=>gO n e.size l i 0 λc=>ret (d8 e c)
  |some (.arr n e),.av (.val τ y)=>(bC (.arr n e) τ y).bind λz=>(aL (α:=e.den) z i).bind λy=>ret (.av (.val e y))
  |_,_=>none
 |.extract x i=>match ev x with
  |.tup l=>match l[i]? with
   |some (true,c)=>ret (.agg c)
   |some (false,[a])=>ret (.av a)
   |_=>none
  |_=>none
 |.makeMap t none=>match fg C.maps t with
  |some p=>bj s site (.map p.1 p.2 []) λi s2=>K (ag o.dst (.av (.ownm i)) s2)
  |none=>none
 |.range t x=>match C.tab.get t,ev x with
  |some .str,.av (.val .str b)=>bj s site (.map .unit itTy [((),(b,0))]) λi s2=>K (ag o.dst (.av (.ownm i)) s2)
  |_,_=>none
 |.next x true=>match ev x with
  |.av (.ownm id)=>match s.G.get id with
   |some (.map k v l)=>(yN k v l).bind λp=>cond (qh p)
    (K (ag o.dst (.tup [(false,[.val .bool true]),(false,[.val (.int .i64) p.2]),(false,[.val (.int .i32) (mw p)])]) (setObj id (.map .unit itTy [((),sZ p)]) s)))
    (ret (.tup [(false,[.val .bool false])]))
   |_=>none
  |_=>none
 |.lookup t x ix ok=>match fg C.maps t,ev x with
  |some p,.av (.ownm id)=>match s.G.get id with
   |some (.map k v l)=>(fO p.1 p.2 k v l).bind λl'=>match aR s.G p.1 (ev ix)with
    |some key=>cond ok
     (ret (.tup [(p.2.isAgg,da p.2 ((df p.1 p.2 key l').getD (bk p.2))),(false,[.val .bool (df p.1 p.2 key l').isSome])]))
     (ret (.av (.val p.2 ((df p.1 p.2 key l').getD (bk p.2)))))
    |none=>none
   |_=>none
  |_,_=>none
 |.mapUpdate t m key x=>match fg C.maps t,ev m with
  |some p,.av (.ownm id)=>match s.G.get id with
   |some (.map k v l)=>(fO p.1 p.2 k v l).bind λl'=>match aR s.G p.1 (ev key),aR s.G p.2 (ev x)with
    |some key,some y=>K (ag o.dst (.av .undef) (setObj id (.map p.1 p.2 (iV p.1 p.2 key y l')) s))
    |_,_=>none
   |_=>none
  |_,_=>none
 |.makeFunc (.func f) first caps=>match first.toList,oj s.G (caps.toList.map ev)with
  |[],some l=>ret (.av (.clo f l))
  |[x],some []=>match ev x with
   |.agg l=>(ia l).bind λq=>ret (.av (.bnd f q))
   |_=>none
  |[],none=>match jX s.G (caps.toList.map ev)with
   |some q=>K (ag o.dst (.av (.val (.clo f q.1.1) q.1.2)) { env:=s.env,G:=aq q.2 s.G })
   |none=>none
  |_,_=>none
 |.call { callee:=.builtin .len,args,argTypes }=>match args.toList with
  |[x]=>match ev x,fg C.maps (argTypes.getD 0 0)with
   |.av (.ownm id),some p=>cond (JK 1 argTypes.size) (match s.G.get id with
    |some (.map k v l)=>(fO p.1 p.2 k v l).bind λl'=>cond (JK l'.length 1000000) (ret (.av (.val (.int .i64) (l'.length:Nat)))) none
    |_=>none) none
   |_,_=>cond (rv (C.tab.get (argTypes.getD 0 0)) (ev x)&&JK 1 argTypes.size) (lenOf s (ev x) λn=>ret (.av (.val (.int .i64) n))) none
  |_=>none
 |.call { callee:=.builtin .cap,args,argTypes }=>match args.toList,argTypes.toList with
  |[x],[t]=>match C.tab.get t,ev x with
   |some (.slice _),.av (.nils _)=>ret (.av (.val (.int .i64) 0))
   |_,_=>none
  |_,_=>none
 |.call { callee:=.builtin .min,args,.. }=>match args.toList.map ev with
  |v::r=>kn v λa=>iL false a r λn=>ret (.av (.val (.int .i64) n))
  |[]=>none
 |.call { callee:=.builtin .max,args,.. }=>match args.toList.map ev with
  |v::r=>kn v λa=>iL true a r λn=>ret (.av (.val (.int .i64) n))
  |[]=>none
 |.call { callee:=.builtin .append,args,argTypes }=>match argTypes.toList,args.toList with
  |[t,t'],[b,x]=>match C.tab.get t with
   |some (.slice e)=>cond (A7 t t') (cond (ka (ev x)) (match e with
   |.slice σ=>match kC s.G σ (ev b),kC s.G σ (ev x)with
    |some l,some xs=>(app l.1 xs.1).bind λr=>cond (aH (l.2++xs.2)) (bj { env:=s.env,G:=aq (l.2++xs.2) s.G } site (.deep 0 σ r none) λi s2=>K (ag o.dst (.av (.ownd i)) s2)) none
    |_,_=>none
   |_=>none) <| match xT s e (ev b),aR s.G (.slice e) (ev x)with
   |some l,some (y::xs)=>(app l (y::xs)).bind λr=>
    bj s site (.arr e r) λi s2=>K (ag o.dst (.av (.own i)) s2)
   |some _,_=>none
   |none,_=>match fE { env:=s.env,G:=(bD site s.G (ev b)).2 } e (bD site s.G (ev b)).1,aR s.G (.slice e) (ev x)with
    |some (l,ids),some xs=>(app l xs).bind λr=>
     bj { env:=s.env,G:=aq ids (bD site s.G (ev b)).2 } site (.arr e r) λi s2=>K (ag o.dst (.av (.own i)) s2)
    |_,_=>none) <| match C.tab.get t',ev b,ev x with
    |some (.int .i64),.av (.nils true),.av (.val (.int _) n)=>cond (decide (1<=n)&&decide (n<=1000000)&&JK 1 e.size) (bj s site (.arr e (A5 n.toNat (bk e))) λi s2=>K (ag o.dst (.av (.own i)) s2)) none
    |_,_,_=>none
   |_=>none
  |_,_=>none
 |.call { callee:=.builtin .clear,args,argTypes }=>match argTypes.toList,args.toList with
  |[t],[x]=>match C.tab.get t,ev x with
   |some (.slice e),.av (.view id off len)=>match s.G.get id with
    |some (.arr σ l)=>cond (decide (e=σ)&&JK (off+len) l.length&&JK 1 len) (K (ag o.dst (.tup []) (setObj id (.arr σ (fw σ l off len)) s))) none
    |_=>none
   |_,_=>none
  |_,_=>none
 |.call { callee:=.builtin .copy,args,argTypes }=>match argTypes.toList,args.toList with
  |[t,_],[x,y]=>match C.tab.get t,ev x with
   |some (.slice e),.av (.own id)=>match s.G.get id with
    |some (.arr σ l)=>cond (decide (e=σ) && !ka (ev y)) (match aR s.G (.slice σ) (ev y)with
     |some ys=>K (ag o.dst (.av (.val (.int .i64) (de (ys.length:Nat) (l.length:Nat)))) (setObj id (.arr σ (kK l ys)) s))
     |none=>none) none
    |_=>none
   |_,_=>none
  |_,_=>none
 |.call { callee:=.value g,args,.. }=>match ev g with
  |.av (.clo f caps)=>eJ C s site f (args.toList.map ev++caps.map λi=>.av (.ptr i 0)) λv s'=>K (ag o.dst v s')
  |.av (.bnd f q)=>eJ C s site f (.agg (q.map λp=>.val p.1 p.2)::args.toList.map ev) λv s'=>K (ag o.dst v s')
  |.av (.val (.clo f τ) y)=>match ce τ y with
   |some l=>eJ C s site f (args.toList.map ev++l) λv s'=>K (ag o.dst v s')
   |none=>none
  |_=>none
 |_=>none
def jF(o:Oper)(s:St)(K:St->Option R):Option R:=
 let ev:=ah C s.env
 let ret (v:SV):Option R:=K (ag o.dst v s)
 let site:=o.dst.getD 0
 match o.op with
 |.move x=>ret (ev x)
 |_=>none
def jU(o:Oper)(s:St)(K:St->Option R):Option R:=
 let ev:=ah C s.env
 let ret (v:SV):Option R:=K (ag o.dst v s)
 let site:=o.dst.getD 0
 match o.op with
 |.assign x=>ret (ev x)
 |_=>none
def jR(o:Oper)(s:St)(K:St->Option R):Option R:=
 let ev:=ah C s.env
 let ret (v:SV):Option R:=K (ag o.dst v s)
 let site:=o.dst.getD 0
 match o.op with
 |.pick c a b=>match ev c with
  |.av (.val .bool t)=>cond t (ret (ev a)) (ret (ev b))
  |_=>none
 |_=>none
def js(o:Oper)(s:St)(K:St->Option R):Option R:=
 let ev:=ah C s.env
 let ret (v:SV):Option R:=K (ag o.dst v s)
 let site:=o.dst.getD 0
 match o.op with
 |.alloc t=>match C.tab.get t with
  |some τ=>bj s site (.box (zeroCells τ)) λi s2=>K (ag o.dst (.av (.ptr i 0)) s2)
  |none=>none
 |_=>none
def jo(o:Oper)(s:St)(K:St->Option R):Option R:=
 let ev:=ah C s.env
 let ret (v:SV):Option R:=K (ag o.dst v s)
 let site:=o.dst.getD 0
 match o.op with
 |.box t x=>match C.tab.get t with
  |some τ=>match fG τ (ev x)with
   |some c=>bj s site (.box c) λi s2=>K (ag o.dst (.av (.ptr i 0)) s2)
   |none=>none
  |none=>none
 |_=>none
def jx(o:Oper)(s:St)(K:St->Option R):Option R:=
 let ev:=ah C s.env
 let ret (v:SV):Option R:=K (ag o.dst v s)
 let site:=o.dst.getD 0
 match o.op with
 |.build t parts=>match C.tab.get t with
  |some τ=>cond τ.isAgg (match fF τ (parts.toList.map λp=>(p.1,ev p.2)) (zeroCells τ)with
   |some c=>ret (.agg c)
   |none=>none) none
  |none=>none
 |_=>none
def jz(o:Oper)(s:St)(K:St->Option R):Option R:=
 let ev:=ah C s.env
 let ret (v:SV):Option R:=K (ag o.dst v s)
 let site:=o.dst.getD 0
 match o.op with
 |.buildSlice t n parts=>match C.tab.get t with
  |some (.slice e)=>cond (A7 n parts.size&&JK n 16777216&&JK (n*e.size) 16777216&&(parts.toList.zipIdx.all λp=>A7 p.1.1 p.2)) (cond (C.deep.any λd=>A7 d site) (match e with
   |.slice σ=>match gQ s.G σ (parts.toList.map λp=>ev p.2)with
    |some x=>cond (aH x.2) (bj { env:=s.env,G:=aq x.2 s.G } site (.deep 0 σ x.1 none) λi s2=>K (ag o.dst (.av (.ownd i)) s2)) none
    |none=>none
   |_=>none) <| match jf s.G e (parts.toList.map λp=>ev p.2)with
   |some l=>bj { env:=s.env,G:=aq (parts.toList.flatMap λp=>cP s.G (ev p.2)) s.G } site (.arr e l) λi s2=>K (ag o.dst (.av (.own i)) s2)
   |none=>none) none
  |_=>none
 |_=>none
def jt(o:Oper)(s:St)(K:St->Option R):Option R:=
 let ev:=ah C s.env
 let ret (v:SV):Option R:=K (ag o.dst v s)
 let site:=o.dst.getD 0
 match o.op with
 |.load t a=>match C.tab.get t,ev a with
  |some τ,.av p=>loadAt s τ p ret
  |_,_=>none
 |_=>none
def jI(o:Oper)(s:St)(K:St->Option R):Option R:=
 let ev:=ah C s.env
 let ret (v:SV):Option R:=K (ag o.dst v s)
 let site:=o.dst.getD 0
 match o.op with
 |.store t a x=>match C.tab.get t,ev a with
  |some τ,.av p=>storeAt s τ p (ev x) λs'=>K (ag o.dst (.av .undef) s')
  |_,_=>none
 |_=>none
def jp(o:Oper)(s:St)(K:St->Option R):Option R:=
 let ev:=ah C s.env
 let ret (v:SV):Option R:=K (ag o.dst v s)
 let site:=o.dst.getD 0
 match o.op with
 |.nilCheck x=>match ev x with
  |.av (.ptr i j)=>match s.G.get i with
   |some (.box _)=>ret (.av (.ptr i j))
   |_=>none
  |.av (.aptr i j p)=>match s.G.get i with
   |some (.arr _ _)=>ret (.av (.aptr i j p))
   |some (.deep _ _ _ _)=>ret (.av (.aptr i j p))
   |_=>none
  |.av (.val (.ptr t) y)=>ret (.av (.val (.ptr t) y))
  |.av (.val (.clo g t) y)=>ret (.av (.val (.clo g t) y))
  |.av (.clo f c)=>ret (.av (.clo f c))
  |.av (.iptr i off n idx w)=>match s.G.get i with
   |some (.box _)=>ret (.av (.iptr i off n idx w))
   |_=>none
  |_=>none
 |_=>none
def gz(o:Oper)(s:St)(K:St->Option R):Option R:=
 let ev:=ah C s.env
 let ret (v:SV):Option R:=K (ag o.dst v s)
 let site:=o.dst.getD 0
 match o.op with
 |.binOp op xt x y _=>match ev x,ev y with
  |.av (.val (.int k) a),.av (.val (.int k') b)=>cond (ln op) (cond (ltI b 0) none (ret (.av (.val (.int k) (nu op k a b))))) <| cond (decide (k=k')) (match op with
   |.quo=>cond (eqI b 0) none (ret (.av (.val (.int k) (qP k a b))))
   |.rem=>cond (eqI b 0) none (ret (.av (.val (.int k) (n8 a b))))
   |_=>match yi op k a b with
    |some r=>ret (.av r)
    |none=>none) none
  |.av (.val .str a),.av (.val .str b)=>match op with
   |.add=>(Hm a b).bind λr=>ret (.av (.val .str r))
   |_=>match AN op a b with
    |some r=>ret (.av r)
    |none=>none
  |.av (.val .bool a),.av (.val .bool b)=>cond (m9 (C.tab.get xt)) (match op with
   |.eql=>ret (.av (.val .bool (eqB a b)))
   |.neq=>ret (.av (.val .bool (neB a b)))
   |_=>none) none
  |.av (.val (.slice _) l),.av (.nils true)=>cond (lF y&&dW (C.tab.get xt)) (match op with
   |.eql=>cond l.isEmpty (kF (ret (.av (.val .bool true))) (ret (.av (.val .bool false)))) (ret (.av (.val .bool false)))
   |.neq=>cond l.isEmpty (kF (ret (.av (.val .bool true))) (ret (.av (.val .bool false)))) (ret (.av (.val .bool true)))
   |_=>none) none
  |.av (.nils true),.av (.nils true)=>cond (dW (C.tab.get xt)) (match op with
   |.eql=>ret (.av (.val .bool true))
   |.neq=>ret (.av (.val .bool false))
   |_=>none) none
  |u,.av (.nils true)=>match C.tab.get xt with
   |some (.slice e)=>match aR s.G (.slice e) u with
    |some (_::_)=>(match op with
     |.eql=>ret (.av (.val .bool false))
     |.neq=>ret (.av (.val .bool true))
     |_=>none)
    |_=>none
   |_=>none
  |u,v=>match C.tab.get xt with
   |some τ=>cond (τ.isAgg&&C.eqs.any λe=>A7 e xt) (match aR s.G τ u,aR s.G τ v with
    |some a,some b=>match eqT τ a b with
     |some r=>match op with
      |.eql=>ret (.av (.val .bool r))
      |.neq=>ret (.av (.val .bool (!r)))
      |_=>none
     |none=>none
    |_,_=>none) none
   |none=>none
 |_=>none
def ip(o:Oper)(s:St)(K:St->Option R):Option R:=
 let ev:=ah C s.env
 let ret (v:SV):Option R:=K (ag o.dst v s)
 let site:=o.dst.getD 0
 match o.op with
 |.unOp op _ x=>match op,ev x with
  |.not,.av (.val .bool b)=>ret (.av (.val .bool (!b)))
  |.neg,.av (.val (.int k) n)=>ret (.av (.val (.int k) (dK k 0 n)))
  |_,_=>none
 |_=>none
def iD(o:Oper)(s:St)(K:St->Option R):Option R:=
 let ev:=ah C s.env
 let ret (v:SV):Option R:=K (ag o.dst v s)
 let site:=o.dst.getD 0
 match o.op with
 |.convert a b x=>match C.tab.get a,C.tab.get b,ev x with
  |some (.int _),some (.int k),.av (.val (.int _) n)=>ret (.av (.val (.int k) (k.wrap n)))
  |some .str,some (.slice (.int .u8)),.av (.val .str b)=>bj s site (.arr (.int .u8) (iH b)) λi s2=>K (ag o.dst (.av (.own i)) s2)
  |some (.slice (.int .u8)),some .str,v=>match aR s.G (.slice (.int .u8)) v with
   |some l=>ret (.av (.val .str (mF l)))
   |none=>none
  |some .str,some .str,.av (.val .str b)=>ret (.av (.val .str b))
  |_,_,_=>none
 |_=>none
def iq(o:Oper)(s:St)(K:St->Option R):Option R:=
 let ev:=ah C s.env
 let ret (v:SV):Option R:=K (ag o.dst v s)
 let site:=o.dst.getD 0
 match o.op with
 |.makeSlice t n c=>match C.tab.get t with
  |some (.slice e)=>asI (ev n) λa=>asI (ev c) λb=>(bG e a b).bind λl=>bj s site (gW (C.deep.any λd=>A7 d site) e l) λi s2=>K (ag o.dst (.av (eQ (C.deep.any λd=>A7 d site) e i)) s2)
  |_=>none
 |_=>none
def gA(o:Oper)(s:St)(K:St->Option R):Option R:=
 let ev:=ah C s.env
 let ret (v:SV):Option R:=K (ag o.dst v s)
 let site:=o.dst.getD 0
 match o.op with
 |.slice t x lo hi mx=>vo C s.env 0 lo λl=>cond (!eV C t s.G (ev x)) none <| match hi,mx with
  |none,none=>dJ s (ev x) l none none ret
  |some h,none=>asI (ev h) λh'=>dJ s (ev x) l (some h') none ret
  |some h,some m=>asI (ev h) λh'=>asI (ev m) λm'=>dJ s (ev x) l (some h') (some m') ret
  |none,some _=>none
 |_=>none
def il(o:Oper)(s:St)(K:St->Option R):Option R:=
 let ev:=ah C s.env
 let ret (v:SV):Option R:=K (ag o.dst v s)
 let site:=o.dst.getD 0
 match o.op with
 |.fieldAddr t x f=>match ev x with
  |.av (.ptr id off)=>match s.G.get id,C.tab.get t with
   |some (.box _),some τ=>match τ.field f with
    |some (o',t')=>cond (JK 1 t'.size) (ret (.av (.ptr id (off+o')))) none
    |none=>none
   |_,_=>none
  |.av (.aptr id j p)=>match s.G.get id,C.tab.get t with
   |some (.arr σ _),some τ=>match cX σ p with
    |some (_,τ')=>cond (decide (τ'=τ)) (match τ.field f with
     |some (_,t')=>cond (JK 1 t'.size) (ret (.av (.aptr id j (p++[f])))) none
     |none=>none) none
    |none=>none
   |_,_=>none
  |.av (.val (.ptr τ) y)=>match C.tab.get t with
   |some τ'=>cond (decide (τ=τ')) (match bW τ y f with
    |some ⟨t',z⟩=>cond (JK 1 t'.size) (ret (.av (.val (.ptr t') z))) none
    |none=>none) none
   |none=>none
  |_=>none
 |_=>none
def gT(o:Oper)(s:St)(K:St->Option R):Option R:=
 let ev:=ah C s.env
 let ret (v:SV):Option R:=K (ag o.dst v s)
 let site:=o.dst.getD 0
 match o.op with
 |.field t x f=>match ev x with
  |.agg l=>match C.tab.get t with
   |some τ=>match τ.field f with
    |some (o',t')=>match kl t'.size (l.drop o')with
     |some c=>ret (d8 t' c)
     |none=>none
    |none=>none
   |none=>none
  |.av (.val τ y)=>match C.tab.get t with
   |some τ'=>cond (decide (τ=τ')) (match bW τ y f with
    |some ⟨t',z⟩=>ret (.av (.val t' z))
    |none=>none) none
   |none=>none
  |_=>none
 |_=>none
def gY(o:Oper)(s:St)(K:St->Option R):Option R:=
 let ev:=ah C s.env
 let ret (v:SV):Option R:=K (ag o.dst v s)
 let site:=o.dst.getD 0
 match o.op with
 |.indexAddr t x ix=>asI (ev ix) λi=>cond (du C t s.G (ev x)) (indexAt C s t (ev x) i λa=>ret (.av a)) none
 |_=>none
def ic(o:Oper)(s:St)(K:St->Option R):Option R:=
 let ev:=ah C s.env
 let ret (v:SV):Option R:=K (ag o.dst v s)
 let site:=o.dst.getD 0
 match o.op with
 |.index t x ix=>asI (ev ix) λi=>match C.tab.get t,ev x with
  |some .str,.av (.val .str b)=>(aL b.data.toList i).bind λc=>ret (.av (.val (.int .u8) (c.toNat:Int)))
  |some (.arr n e),.agg l=>gO n e.size l i 0 λc=>ret (d8 e c)
  |some (.arr n e),.av (.val τ y)=>(bC (.arr n e) τ y).bind λz=>(aL (α:=e.den) z i).bind λy=>ret (.av (.val e y))
  |_,_=>none
 |_=>none
def iv(o:Oper)(s:St)(K:St->Option R):Option R:=
 let ev:=ah C s.env
 let ret (v:SV):Option R:=K (ag o.dst v s)
 let site:=o.dst.getD 0
 match o.op with
 |.extract x i=>match ev x with
  |.tup l=>match l[i]? with
   |some (true,c)=>ret (.agg c)
   |some (false,[a])=>ret (.av a)
   |_=>none
  |_=>none
 |_=>none
def gS(o:Oper)(s:St)(K:St->Option R):Option R:=
 let ev:=ah C s.env
 let ret (v:SV):Option R:=K (ag o.dst v s)
 let site:=o.dst.getD 0
 match o.op with
 |.makeMap t none=>match fg C.maps t with
  |some p=>bj s site (.map p.1 p.2 []) λi s2=>K (ag o.dst (.av (.ownm i)) s2)
  |none=>none
 |_=>none
def gD(o:Oper)(s:St)(K:St->Option R):Option R:=
 let ev:=ah C s.env
 let ret (v:SV):Option R:=K (ag o.dst v s)
 let site:=o.dst.getD 0
 match o.op with
 |.range t x=>match C.tab.get t,ev x with
  |some .str,.av (.val .str b)=>bj s site (.map .unit itTy [((),(b,0))]) λi s2=>K (ag o.dst (.av (.ownm i)) s2)
  |_,_=>none
 |_=>none
def ik(o:Oper)(s:St)(K:St->Option R):Option R:=
 let ev:=ah C s.env
 let ret (v:SV):Option R:=K (ag o.dst v s)
 let site:=o.dst.getD 0
 match o.op with
 |.next x true=>match ev x with
  |.av (.ownm id)=>match s.G.get id with
   |some (.map k v l)=>(yN k v l).bind λp=>cond (qh p)
    (K (ag o.dst (.tup [(false,[.val .bool true]),(false,[.val (.int .i64) p.2]),(false,[.val (.int .i32) (mw p)])]) (setObj id (.map .unit itTy [((),sZ p)]) s)))
    (ret (.tup [(false,[.val .bool false])]))
   |_=>none
  |_=>none
 |_=>none
def im(o:Oper)(s:St)(K:St->Option R):Option R:=
 let ev:=ah C s.env
 let ret (v:SV):Option R:=K (ag o.dst v s)
 let site:=o.dst.getD 0
 match o.op with
 |.lookup t x ix ok=>match fg C.maps t,ev x with
  |some p,.av (.ownm id)=>match s.G.get id with
   |some (.map k v l)=>(fO p.1 p.2 k v l).bind λl'=>match aR s.G p.1 (ev ix)with
    |some key=>cond ok
     (ret (.tup [(p.2.isAgg,da p.2 ((df p.1 p.2 key l').getD (bk p.2))),(false,[.val .bool (df p.1 p.2 key l').isSome])]))
     (ret (.av (.val p.2 ((df p.1 p.2 key l').getD (bk p.2)))))
    |none=>none
   |_=>none
  |_,_=>none
 |_=>none
def gL(o:Oper)(s:St)(K:St->Option R):Option R:=
 let ev:=ah C s.env
 let ret (v:SV):Option R:=K (ag o.dst v s)
 let site:=o.dst.getD 0
 match o.op with
 |.mapUpdate t m key x=>match fg C.maps t,ev m with
  |some p,.av (.ownm id)=>match s.G.get id with
   |some (.map k v l)=>(fO p.1 p.2 k v l).bind λl'=>match aR s.G p.1 (ev key),aR s.G p.2 (ev x)with
    |some key,some y=>K (ag o.dst (.av .undef) (setObj id (.map p.1 p.2 (iV p.1 p.2 key y l')) s))
    |_,_=>none
   |_=>none
  |_,_=>none
 |_=>none
def hZ(o:Oper)(s:St)(K:St->Option R):Option R:=
 let ev:=ah C s.env
 let ret (v:SV):Option R:=K (ag o.dst v s)
 let site:=o.dst.getD 0
 match o.op with
 |.makeFunc (.func f) first caps=>match first.toList,oj s.G (caps.toList.map ev)with
  |[],some l=>ret (.av (.clo f l))
  |[x],some []=>match ev x with
   |.agg l=>(ia l).bind λq=>ret (.av (.bnd f q))
   |_=>none
  |[],none=>match jX s.G (caps.toList.map ev)with
   |some q=>K (ag o.dst (.av (.val (.clo f q.1.1) q.1.2)) { env:=s.env,G:=aq q.2 s.G })
   |none=>none
  |_,_=>none
 |_=>none
def gJ(o:Oper)(s:St)(K:St->Option R):Option R:=
 let ev:=ah C s.env
 let ret (v:SV):Option R:=K (ag o.dst v s)
 let site:=o.dst.getD 0
 match o.op with
 |.call { callee:=.builtin .len,args,argTypes }=>match args.toList with
  |[x]=>match ev x,fg C.maps (argTypes.getD 0 0)with
   |.av (.ownm id),some p=>cond (JK 1 argTypes.size) (match s.G.get id with
    |some (.map k v l)=>(fO p.1 p.2 k v l).bind λl'=>cond (JK l'.length 1000000) (ret (.av (.val (.int .i64) (l'.length:Nat)))) none
    |_=>none) none
   |_,_=>cond (rv (C.tab.get (argTypes.getD 0 0)) (ev x)&&JK 1 argTypes.size) (lenOf s (ev x) λn=>ret (.av (.val (.int .i64) n))) none
  |_=>none
 |_=>none
def iz(o:Oper)(s:St)(K:St->Option R):Option R:=
 let ev:=ah C s.env
 let ret (v:SV):Option R:=K (ag o.dst v s)
 let site:=o.dst.getD 0
 match o.op with
 |.call { callee:=.builtin .cap,args,argTypes }=>match args.toList,argTypes.toList with
  |[x],[t]=>match C.tab.get t,ev x with
   |some (.slice _),.av (.nils _)=>ret (.av (.val (.int .i64) 0))
   |_,_=>none
  |_,_=>none
 |_=>none
def ir(o:Oper)(s:St)(K:St->Option R):Option R:=
 let ev:=ah C s.env
 let ret (v:SV):Option R:=K (ag o.dst v s)
 let site:=o.dst.getD 0
 match o.op with
 |.call { callee:=.builtin .min,args,.. }=>match args.toList.map ev with
  |v::r=>kn v λa=>iL false a r λn=>ret (.av (.val (.int .i64) n))
  |[]=>none
 |_=>none
def gZ(o:Oper)(s:St)(K:St->Option R):Option R:=
 let ev:=ah C s.env
 let ret (v:SV):Option R:=K (ag o.dst v s)
 let site:=o.dst.getD 0
 match o.op with
 |.call { callee:=.builtin .max,args,.. }=>match args.toList.map ev with
  |v::r=>kn v λa=>iL true a r λn=>ret (.av (.val (.int .i64) n))
  |[]=>none
 |_=>none
def ib(o:Oper)(s:St)(K:St->Option R):Option R:=
 let ev:=ah C s.env
 let ret (v:SV):Option R:=K (ag o.dst v s)
 let site:=o.dst.getD 0
 match o.op with
 |.call { callee:=.builtin .append,args,argTypes }=>match argTypes.toList,args.toList with
  |[t,t'],[b,x]=>match C.tab.get t with
   |some (.slice e)=>cond (A7 t t') (cond (ka (ev x)) (match e with
   |.slice σ=>match kC s.G σ (ev b),kC s.G σ (ev x)with
    |some l,some xs=>(app l.1 xs.1).bind λr=>cond (aH (l.2++xs.2)) (bj { env:=s.env,G:=aq (l.2++xs.2) s.G } site (.deep 0 σ r none) λi s2=>K (ag o.dst (.av (.ownd i)) s2)) none
    |_,_=>none
   |_=>none) <| match xT s e (ev b),aR s.G (.slice e) (ev x)with
   |some l,some (y::xs)=>(app l (y::xs)).bind λr=>
    bj s site (.arr e r) λi s2=>K (ag o.dst (.av (.own i)) s2)
   |some _,_=>none
   |none,_=>match fE { env:=s.env,G:=(bD site s.G (ev b)).2 } e (bD site s.G (ev b)).1,aR s.G (.slice e) (ev x)with
    |some (l,ids),some xs=>(app l xs).bind λr=>
     bj { env:=s.env,G:=aq ids (bD site s.G (ev b)).2 } site (.arr e r) λi s2=>K (ag o.dst (.av (.own i)) s2)
    |_,_=>none) <| match C.tab.get t',ev b,ev x with
    |some (.int .i64),.av (.nils true),.av (.val (.int _) n)=>cond (decide (1<=n)&&decide (n<=1000000)&&JK 1 e.size) (bj s site (.arr e (A5 n.toNat (bk e))) λi s2=>K (ag o.dst (.av (.own i)) s2)) none
    |_,_,_=>none
   |_=>none
  |_,_=>none
 |_=>none
def gR(o:Oper)(s:St)(K:St->Option R):Option R:=
 let ev:=ah C s.env
 let ret (v:SV):Option R:=K (ag o.dst v s)
 let site:=o.dst.getD 0
 match o.op with
 |.call { callee:=.builtin .clear,args,argTypes }=>match argTypes.toList,args.toList with
  |[t],[x]=>match C.tab.get t,ev x with
   |some (.slice e),.av (.view id off len)=>match s.G.get id with
    |some (.arr σ l)=>cond (decide (e=σ)&&JK (off+len) l.length&&JK 1 len) (K (ag o.dst (.tup []) (setObj id (.arr σ (fw σ l off len)) s))) none
    |_=>none
   |_,_=>none
  |_,_=>none
 |_=>none
def io(o:Oper)(s:St)(K:St->Option R):Option R:=
 let ev:=ah C s.env
 let ret (v:SV):Option R:=K (ag o.dst v s)
 let site:=o.dst.getD 0
 match o.op with
 |.call { callee:=.builtin .copy,args,argTypes }=>match argTypes.toList,args.toList with
  |[t,_],[x,y]=>match C.tab.get t,ev x with
   |some (.slice e),.av (.own id)=>match s.G.get id with
    |some (.arr σ l)=>cond (decide (e=σ) && !ka (ev y)) (match aR s.G (.slice σ) (ev y)with
     |some ys=>K (ag o.dst (.av (.val (.int .i64) (de (ys.length:Nat) (l.length:Nat)))) (setObj id (.arr σ (kK l ys)) s))
     |none=>none) none
    |_=>none
   |_,_=>none
  |_,_=>none
 |_=>none
def hU(o:Oper)(s:St)(K:St->Option R):Option R:=
 let ev:=ah C s.env
 let ret (v:SV):Option R:=K (ag o.dst v s)
 let site:=o.dst.getD 0
 match o.op with
 |.call { callee:=.value g,args,.. }=>match ev g with
  |.av (.clo f caps)=>eJ C s site f (args.toList.map ev++caps.map λi=>.av (.ptr i 0)) λv s'=>K (ag o.dst v s')
  |.av (.bnd f q)=>eJ C s site f (.agg (q.map λp=>.val p.1 p.2)::args.toList.map ev) λv s'=>K (ag o.dst v s')
  |.av (.val (.clo f τ) y)=>match ce τ y with
   |some l=>eJ C s site f (args.toList.map ev++l) λv s'=>K (ag o.dst v s')
   |none=>none
  |_=>none
 |_=>none
def ql:Op->Ctx->Oper->St->(St->Option R)->Option R
 |.move _=>jF
 |.assign _=>jU
 |.pick _ _ _=>jR
 |.alloc _=>js
 |.box _ _=>jo
 |.build _ _=>jx
 |.buildSlice _ _ _=>jz
 |.load _ _=>jt
 |.store _ _ _=>jI
 |.nilCheck _=>jp
 |.binOp _ _ _ _ _=>gz
 |.unOp _ _ _=>ip
 |.convert _ _ _=>iD
 |.makeSlice _ _ _=>iq
 |.slice _ _ _ _ _=>gA
 |.fieldAddr _ _ _=>il
 |.field _ _ _=>gT
 |.indexAddr _ _ _=>gY
 |.index _ _ _=>ic
 |.extract _ _=>iv
 |.makeMap _ none=>gS
 |.range _ _=>gD
 |.next _ true=>ik
 |.lookup _ _ _ _=>im
 |.mapUpdate _ _ _ _=>gL
 |.makeFunc (.func _) _ _=>hZ
 |.call { callee:=.builtin .len,.. }=>gJ
 |.call { callee:=.builtin .cap,.. }=>iz
 |.call { callee:=.builtin .min,.. }=>ir
 |.call { callee:=.builtin .max,.. }=>gZ
 |.call { callee:=.builtin .append,.. }=>ib
 |.call { callee:=.builtin .clear,.. }=>gR
 |.call { callee:=.builtin .copy,.. }=>io
 |.call { callee:=.value _,.. }=>hU
 |_=>λ_ _ _ _=>none
def aZ(o:Oper)(s:St)(K:St->Option R):Option R:=ql o.op C o s K
theorem au(o:Oper)(s:St)(K:St->Option R):aZ C o s K=aK C o s K:=by
 unfold aZ;cases h:o.op
 case call c=>
  obtain⟨f,as,ts⟩:=c;cases f with
  |builtin b=>cases b<;>simp only[ql,aK,h,jF,jU,jR,js,jo,jx,jz,jt,jI,jp,gz,ip,iD,iq,gA,il,gT,gY,ic,iv,gS,gD,ik,im,gL,hZ,gJ,iz,ir,gZ,ib,gR,io,hU]
  |_=>simp only[ql,aK,h,jF,jU,jR,js,jo,jx,jz,jt,jI,jp,gz,ip,iD,iq,gA,il,gT,gY,ic,iv,gS,gD,ik,im,gL,hZ,gJ,iz,ir,gZ,ib,gR,io,hU]
 case makeMap t n=>cases n<;>simp only[ql,aK,h,jF,jU,jR,js,jo,jx,jz,jt,jI,jp,gz,ip,iD,iq,gA,il,gT,gY,ic,iv,gS,gD,ik,im,gL,hZ,gJ,iz,ir,gZ,ib,gR,io,hU]
 case next x b=>cases b<;>simp only[ql,aK,h,jF,jU,jR,js,jo,jx,jz,jt,jI,jp,gz,ip,iD,iq,gA,il,gT,gY,ic,iv,gS,gD,ik,im,gL,hZ,gJ,iz,ir,gZ,ib,gR,io,hU]
 case makeFunc f a b=>cases f<;>simp only[ql,aK,h,jF,jU,jR,js,jo,jx,jz,jt,jI,jp,gz,ip,iD,iq,gA,il,gT,gY,ic,iv,gS,gD,ik,im,gL,hZ,gJ,iz,ir,gZ,ib,gR,io,hU]
 all_goals simp only[ql,aK,h,jF,jU,jR,js,jo,jx,jz,jt,jI,jp,gz,ip,iD,iq,gA,il,gT,gY,ic,iv,gS,gD,ik,im,gL,hZ,gJ,iz,ir,gZ,ib,gR,io,hU]
def eY(ops:List Oper)(j:Nat):Option Nat:=match ops[j]? with
 |some o=>o.dst
 |none=>none
def d9(G:Heap)(ids:List Nat):Atom->Atom
 |.own i=>cond (ids.any λj=>A7 i j) (match G.get i with
  |some (.arr τ l)=>.val (.slice τ) l
  |_=>.own i) (.own i)
 |.view i off len=>cond (ids.any λj=>A7 i j) (match G.get i with
  |some (.arr τ l)=>.val (.slice τ) ((l.drop off).take len)
  |_=>.view i off len) (.view i off len)
 |.ownd i=>cond (ids.any λj=>A7 i j) (match G.get i with
  |some (.deep _ τ l none)=>.val (.slice (.slice τ)) l
  |_=>.ownd i) (.ownd i)
 |.sub i ver j=>cond (ids.any λj=>A7 i j) (match G.get i with
  |some (.deep ver' τ l none)=>cond (A7 ver ver') (.val (.slice τ) (aJ l j)) (.sub i ver j)
  |_=>.sub i ver j) (.sub i ver j)
 |a=>a
def Av(G:Heap)(ids:List Nat):SV->SV
 |.av a=>.av (d9 G ids a)
 |.agg l=>.agg (l.map (d9 G ids))
 |.tup l=>.tup (l.map λp=>(p.1,p.2.map (d9 G ids)))
def nY(G:Heap)(ids:List Nat):Obj->Obj
 |.box l=>.box (l.map (d9 G ids))
 |o=>o
def dx(G:Heap)(ids:List Nat):List (Nat×Obj)->Heap
 |[]=>[]
 |p::r=>match G.get p.1 with
  |some (.box l)=>(p.1,.box (l.map (d9 G ids)))::dx G ids r
  |_=>dx G ids r
def kY(ids:List Nat)(s:St):St:=
 { env:=s.env.map λp=>(p.1,Av s.G ids p.2),G:=aq ids (dx s.G ids s.G++s.G) }
def wt(o:Oper)(s:St):List Nat:=
 let ev:=ah C s.env
 match o.op with
 |.call { callee:=.value g,args,.. }=>match ev g with
  |.av (.clo f [])=>(match C.con f (o.dst.getD 0)with
   |some c=>cond (na c) [] ((aV s.G c.ins (args.toList.map ev)).1.filter λi=>match s.G.get i with|some (.arr _ _)=>true|some (.deep _ _ _ none)=>true|_=>false)
   |none=>[])
  |_=>[]
 |.buildSlice _ _ parts=>cond (C.deep.any λd=>A7 d (o.dst.getD 0)) [] ((parts.toList.flatMap λp=>cP s.G (ev p.2)).filter λi=>match s.G.get i with|some (.arr _ _)=>true|some (.deep _ _ _ none)=>true|_=>false)
 |_=>[]
def ij(o:Oper)(s:St):St:=match wt C o s with
 |[]=>s
 |l=>kY l s
def dj(all:List Oper):List Oper->St->(St->Option R)->Option R
 |[],s,K=>K s
 |o::r,s,K=>match o.guard with
  |none=>aZ C o (ij C o s) λs'=>dj all r s' K
  |some (j,want)=>match eY all j with
   |none=>none
   |some d=>match s.env.get d with
    |.av (.val .bool b)=>
     cond b
      (cond want (aZ C o (ij C o { env:=(d,.av (.val .bool true))::s.env,G:=s.G }) λs'=>dj all r s' K)
       (dj all r (ag o.dst (.av .undef) { env:=(d,.av (.val .bool true))::s.env,G:=s.G }) K))
      (cond want (dj all r (ag o.dst (.av .undef) { env:=(d,.av (.val .bool false))::s.env,G:=s.G }) K)
       (aZ C o (ij C o { env:=(d,.av (.val .bool false))::s.env,G:=s.G }) λs'=>dj all r s' K))
    |.av .undef=>dj all r (ag o.dst (.av .undef) s) K
    |_=>none
def f9:List Oper->List Nat->List Nat
 |[],acc=>acc
 |o::r,acc=>f9 r (acc++[o.after.toList.foldl (λm e=>cond (Region.binds .any e) (m ||| 2^e.on ||| acc.getD e.on 0) m) 0])
def bit(m j:Nat):Bool:=A7 (1 &&& (m >>> j)) 1
def bE(m:Nat)(N:List (Nat×Heap))(B:Heap):Heap:=
 N.foldr (λp G=>cond (bit m p.1) (p.2++G) G) B
def IA:Operand->List Nat
 |.tmp t=>[t]
 |_=>[]
def looks(all:List Oper)(o:Oper):List Nat:=
 o.op.operands.toList.flatMap IA++(match o.guard with
 |some (j,_)=>(match eY all j with|some d=>[d]|none=>[])
 |none=>[])
def dD(all:List Oper)(o:Oper)(e:Env):Env:=(looks all o).map λt=>(t,e.get t)
def iX(o:Oper)(e:Env):Bool:=match o.op with
 |.binOp _ _ x y _=>!lF y||(match ah C e x,ah C e y with|.av (.val (.slice _) _),.av (.nils _)=>false|_,_=>true)
 |_=>true
def cB(G:Heap):Atom->Bool
 |.own i=>G.has i
 |.view i _ _=>G.has i
 |.ptr i _=>G.has i
 |.aptr i _ _=>G.has i
 |.clo _ c=>c.all λi=>G.has i
 |.cut i _ _=>G.has i
 |.ownd i=>G.has i
 |.sub i _ _=>G.has i
 |.saptr i _ _ _=>G.has i
 |.iptr i _ _ _ _=>G.has i
 |.ownm i=>G.has i
 |_=>true
def iw(G:Heap):SV->Bool
 |.av a=>cB G a
 |.agg l=>l.all λa=>cB G a
 |.tup l=>l.all λp=>p.2.all λa=>cB G a
def gh(G N:Heap):Bool:=N.all λp=>match p.2 with
 |.box l=>l.all λa=>cB G a
 |_=>true
def wu(dst:Option Nat)(v:SV)(e:Env):Env:=match dst with
 |some d=>(d,v)::e
 |none=>e
def ke(o:Oper)(e:Env):Bool:=match o.op with
 |.fieldAddr _ x _=>(match ah C e x with|.av (.ptr id _)=>!C.vr id|_=>false)
 |.load _ x=>(match ah C e x with|.av (.ptr id _)=>!C.vr id|.av (.val (.ptr _) _)=>true|_=>false)
 |.indexAddr _ x _=>(match ah C e x with|.av (.val (.slice _) _)=>true|_=>false)
 |.nilCheck x=>(match ah C e x with|.av (.ptr id _)=>!C.vr id|_=>false)
 |.binOp _ _ x y _=>(match ah C e x,ah C e y with|.av (.val (.int _) _),.av (.val (.int _) _)=>true|_,_=>false)
 |_=>false
def iA(G G':Heap):Bool:=(G'.take (G'.length-G.length)).all λp=>match G.get p.1 with
 |some (.box _)=>C.vr p.1
 |_=>true
def tO(all:List Oper)(ms:List Nat)(nd:Nat->Bool):Nat->List Oper->Env->List (Nat×Heap)->Heap->(Env->List (Nat×Heap)->Option R)->Option R
 |_,[],e,N,_,K=>K e N
 |i,o::r,e,N,B,K=>
  let G:=bE (ms.getD i 0) N B
  let run (e':Env):Option R:=cond (iX C o (dD all o e')&&((dD all o e').all λp=>iw G p.2)&&(N.all λp=>!(bit (ms.getD i 0) p.1)||gh G p.2)&&(!nd i||ke C o (dD all o e')))
   (aZ C o { env:=dD all o e',G:=G } λs'=>
    tO all ms nd (i+1) r (wu o.dst (s'.env.get (o.dst.getD 0)) e') ((i,s'.G.take (s'.G.length-G.length))::N) B K) none
  let skip (e':Env):Option R:=tO all ms nd (i+1) r (wu o.dst (.av .undef) e') N B K
  match o.guard with
  |none=>run e
  |some (j,want)=>match eY all j with
   |none=>none
   |some d=>match e.get d with
    |.av (.val .bool b)=>
     cond b
      (cond want (run ((d,.av (.val .bool true))::e)) (skip ((d,.av (.val .bool true))::e)))
      (cond want (skip ((d,.av (.val .bool false))::e)) (run ((d,.av (.val .bool false))::e)))
    |.av .undef=>skip e
    |_=>none
def mE(all:List Oper)(kd:Nat->Bool):Nat->List Oper->Env->Heap->(Env->Heap->Option R)->Option R
 |_,[],e,G,K=>K e G
 |i,o::r,e,G,K=>
  let run (e':Env):Option R:=cond (iX C o (dD all o e')) (aZ C o { env:=dD all o e',G:=G } λs'=>
   cond (!kd i||iA C G s'.G) (mE all kd (i+1) r (ag o.dst (s'.env.get (o.dst.getD 0)) { env:=e',G:=[] }).env s'.G K) none) none
  let skip (e':Env):Option R:=mE all kd (i+1) r (ag o.dst (.av .undef) { env:=e',G:=[] }).env G K
  match o.guard with
  |none=>run e
  |some (j,want)=>match eY all j with
   |none=>none
   |some d=>match e.get d with
    |.av (.val .bool b)=>
     cond b
      (cond want (run ((d,.av (.val .bool true))::e)) (skip ((d,.av (.val .bool true))::e)))
      (cond want (skip ((d,.av (.val .bool false))::e)) (run ((d,.av (.val .bool false))::e)))
    |.av .undef=>skip e
    |_=>none
def gc(o:Oper):Bool:=match o.op with
 |.move _=>true
 |.assign _=>true
 |.pick _ _ _=>true
 |.extract _ _=>true
 |.unOp _ _ _=>true
 |.build _ _=>true
 |.field _ _ _=>true
 |_=>false
def sk(o:Oper):Bool:=match o.op with
 |.fieldAddr _ _ _=>true
 |.load _ _=>true
 |.indexAddr _ _ i=>lF i
 |.nilCheck _=>true
 |.binOp op _ _ _ _=>(match op with|.add=>true|.sub=>true|.mul=>true|_=>false)
 |_=>false
def fK(all:List Oper)(j:Nat):Bool:=match all[j]? with
 |some o=>sk o
 |none=>false
def fx(lt:Bool)(m:Nat):Nat->List Oper->Bool
 |_,[]=>true
 |j,o::r=>(bit m j||gc o||(lt&&sk o))&&fx lt m (j+1) r
def ja(lt:Bool)(all:List Oper)(ms:List Nat):Nat->Nat
 |0=>0
 |n+1=>cond (fx (lt && !fK all n) (ms.getD n 0) 0 (all.take n)&&(!(lt&&fK all n)||(JZ all.length).all λi=>JK i n||bit (ms.getD i 0) n)) (ja lt all ms n+1) 0
def uD(lt:Bool)(all:List Oper)(ms:List Nat)(k j:Nat):Bool:=lt&&fK all j&&(JZ all.length).any λi=>JK k i && !bit (ms.getD i 0) j
def CF(lt:Bool)(all:List Oper)(ms:List Nat)(k i:Nat):Bool:=lt&&(JZ k).any λj=>fK all j && !bit (ms.getD i 0) j
def sE(all:List Oper)(ms:List Nat)(k:Nat):Bool:=(JZ all.length).all λi=>Lx i k||(JZ i).all λj=>Lx j k||bit (ms.getD i 0) j || !fK all j
def HX(o:Oper):Nat:=o.dst.getD 0%1000
def nE(l:List Oper):List Nat:=l.map HX
def okA(lt:Bool)(all:List Oper)(ms:List Nat)(k:Nat):Bool:=
 (!lt||sE all ms k) &&
 (all.zipIdx.all λp=>p.1.after.toList.all λe=>!(Region.binds .any e)||Lx e.on p.2) &&
 aH (nE (all.take k)) &&
 (all.zipIdx.all λp=>(looks all p.1).all λt=>all.zipIdx.all λq=>cond (match q.1.dst with|some d=>A7 d t|none=>false) (bit (ms.getD p.2 0) q.2||bit (ms.getD q.2 0) p.2) true) &&
 aH (all.filterMap λo=>o.dst)
def okN(all:List Oper)(ms:List Nat)(k:Nat)(N:List (Nat×Heap))(B:Heap):Bool:=
 N.all λp=>p.2.all λx=>!(B.has x.1) &&
  N.all λq=>A7 p.1 q.1 || !(q.2.any λy=>A7 x.1 y.1) ||
   ((bit (ms.getD p.1 0) q.1||bit (ms.getD q.1 0) p.1) &&
    (JZ k).all λi=>!(bit (ms.getD i 0) p.1)||A7 i q.1||bit (ms.getD i 0) q.1||bit (ms.getD q.1 0) i)
def jy(lt:Bool)(all:List Oper)(s:St)(K:St->Option R):Option R:=
 let ms:=f9 all []
 let k:=all.length-ja lt all ms all.length
 cond (okA lt all ms k) (tO C all ms (uD lt all ms k) 0 (all.take k) s.env [] s.G λe N=>
  cond (okN all ms k N s.G) (mE C all (CF lt all ms k) k (all.drop k) e (N.foldr (λp G=>p.2++G) s.G) λe' G'=>K { env:=e',G:=G' }) none) none
def GJ(G:Heap):List Nat:=(G.map (·.1)).filter λi=>match G.get i with
 |some (.arr _ _)=>true
 |some (.deep _ _ _ none)=>true
 |_=>false
def ov(id:Nat)(s:St):St:=cond (C.frz.any λi=>A7 i id) (kY ((GJ s.G).filter λi=>!(C.hold.any λp=>A7 p.1 id&&A7 p.2 i)) s) s
def oV(i:Nat)(T:Ty)(x:T.den):Atom->Atom
 |.ptr j o=>cond (A7 i j&&A7 o 0) (.val (.ptr T) x) (.ptr j o)
 |a=>a
def xB(f:Atom->Atom):SV->SV
 |.av a=>.av (f a)
 |.agg l=>.agg (l.map f)
 |.tup l=>.tup (l.map λp=>(p.1,p.2.map f))
def qM(f:Atom->Atom)(G:Heap):List (Nat×Obj)->Heap
 |[]=>[]
 |p::r=>match G.get p.1 with
  |some (.box l)=>(p.1,.box (l.map f))::qM f G r
  |_=>qM f G r
def mL(i:Nat)(T:Ty)(s:St):St:=match dQ s.G T i 0 with
 |some x=>cond (c9 s.G i).isEmpty { env:=s.env.map λp=>(p.1,xB (oV i T x) p.2),G:=aq [i] (qM (oV i T x) s.G s.G++s.G) } s
 |none=>s
def Cb:List (Nat×Nat×Ty)->Nat->Option (Nat×Ty)
 |[],_=>none
 |p::r,id=>cond (A7 p.1 id) (some p.2) (Cb r id)
def sN(id:Nat)(s:St):St:=match Cb C.bfrz id with
 |some p=>mL p.1 p.2 (kY (c9 s.G p.1) s)
 |none=>s
inductive Ex where
 |normal
 |exit (id:Nat)
 |ret
abbrev Loops:=Nat->(R:Type)->St->(Ex->St->Option R)->Option R
def bT:Code->Nat
 |.region id _ _=>id
 |.seq a _=>bT a
 |.block _ c=>bT c
 |.scope c=>bT c
 |.loop c=>bT c
 |_=>0
def cO(L:Loops):Code->(Ex->St->Option R)->St->Option R
 |.skip,K,s=>K .normal s
 |.region id ops d,K,s=>cond d (jy C (C.light.any λi=>A7 i id) ops.toList (ov C id (sN C id s)) (K .normal)) (dj C ops.toList ops.toList (sN C id s) (K .normal))
 |.seq a b,K,s=>match cond C.min (pG C a b s) none with
  |some s'=>K .normal s'
  |none=>cO L a (λe s'=>match e with
   |.normal=>cO L b K s'
   |.exit i=>K (.exit i) s'
   |.ret=>K .ret s') s
 |.cond c x y,K,s=>match ah C s.env c with
  |.av (.val .bool b)=>cond b (cO L x K s) (cO L y K s)
  |_=>none
 |.block id c,K,s=>cO L c (λe s'=>match e with
  |.exit i=>cond (A7 i id) (K .normal s') (K (.exit i) s')
  |.normal=>K .normal s'
  |.ret=>K .ret s') s
 |.loop c,K,s=>L (bT c) R s K
 |.exit id,K,s=>K (.exit id) s
 |.ret,K,s=>K .ret s
 |_,_,_=>none
end
inductive SpA where
 |u
 |undef
 |nils
 |val (τ:Ty)
 |own (id:Nat)
 |ptr (id off:Nat)
 |clo (f:Nat) (caps:List Nat)
 |ownd (id:Nat)
 |ownm (id:Nat)
inductive SpS where
 |av (a:SpA)
 |agg (l:List SpA)
 |sub (id:Nat)
 |view (id:Nat)
inductive SpO where
 |arr (τ:Ty)
 |box (l:List SpA)
 |deep (τ:Ty)
 |map (k v:Ty)
structure Shape where
 env:List (Nat×SpS)
 objs:List (Nat×SpO)
 pins:List Nat:=[]
@[reducible] def SpA.tys(a:SpA) (r:Ty):Ty:=match a with
 |.val τ=>.prod τ r
 |_=>r
@[reducible] def SpA.tysL:List SpA->Ty->Ty
 |[],r=>r
 |a::l,r=>a.tys (SpA.tysL l r)
@[reducible] def SpS.tys(a:SpS) (r:Ty):Ty:=match a with
 |.av a=>a.tys r
 |.agg l=>SpA.tysL l r
 |.sub _=>.prod (.int .i64) r
 |.view _=>.prod (.int .i64) (.prod (.int .i64) r)
@[reducible] def SpO.tys(a:SpO) (r:Ty):Ty:=match a with
 |.arr τ=>.prod (.slice τ) r
 |.deep τ=>.prod (.slice (.slice τ)) r
 |.map k v=>.prod (.slice (.prod k v)) r
 |.box l=>SpA.tysL l r
@[reducible] def iM:List (Nat×SpS)->Ty
 |[]=>.unit
 |p::l=>p.2.tys (iM l)
@[reducible] def mB:List (Nat×SpO)->Ty->Ty
 |[],r=>r
 |p::l,r=>p.2.tys (mB l r)
@[reducible] def Shape.ty(sh:Shape):Ty:=mB sh.objs (iM sh.env)
def SpA.inj(a:SpA)(r:Ty)(x:(a.tys r).den):Atom×r.den:=match a,x with
 |.val τ,x=>(.val τ x.1,x.2)
 |.u,x=>(.u,x)
 |.undef,x=>(.undef,x)
 |.nils,x=>(.nils false,x)
 |.own i,x=>(.own i,x)
 |.ptr i j,x=>(.ptr i j,x)
 |.clo f c,x=>(.clo f c,x)
 |.ownd i,x=>(.ownd i,x)
 |.ownm i,x=>(.ownm i,x)
def SpA.injL:(l:List SpA)->(r:Ty)->(SpA.tysL l r).den->List Atom×r.den
 |[],_,x=>([],x)
 |a::l,r,x=>
  let p:=a.inj (SpA.tysL l r) x
  let q:=SpA.injL l r p.2
  (p.1::q.1,q.2)
def SpS.inj(a:SpS)(r:Ty)(x:(a.tys r).den):SV×r.den:=match a,x with
 |.av a,x=>let p:=a.inj r x;(.av p.1,p.2)
 |.agg l,x=>let p:=SpA.injL l r x;(.agg p.1,p.2)
 |.sub i,x=>(.av (.sub i 0 x.1.toNat),x.2)
 |.view i,x=>(.av (.view i x.1.toNat x.2.1.toNat),x.2.2)
def SpO.inj(a:SpO)(r:Ty)(x:(a.tys r).den):Obj×r.den:=match a,x with
 |.arr τ,x=>(.arr τ x.1,x.2)
 |.deep τ,x=>(.deep 0 τ x.1 none,x.2)
 |.map k v,x=>(.map k v x.1,x.2)
 |.box l,x=>let p:=SpA.injL l r x;(.box p.1,p.2)
def sf:(l:List (Nat×SpS))->(iM l).den->Env
 |[],_=>[]
 |p::l,x=>let q:=p.2.inj (iM l) x;(p.1,q.1)::sf l q.2
def ni:(l:List (Nat×SpO))->(r:Ty)->(mB l r).den->Heap×r.den
 |[],_,x=>([],x)
 |p::l,r,x=>
  let q:=p.2.inj (mB l r) x
  let z:=ni l r q.2
  ((p.1,q.1)::z.1,z.2)
def Shape.inj(sh:Shape)(x:sh.ty.den):St:=
 let p:=ni sh.objs (iM sh.env) x
 { env:=sf sh.env p.2,G:=p.1 }
inductive Src where
 |nil
 |own (id:Nat)
 |view (id off len:Nat)
 |nild
abbrev Ren:=List (Nat×Src)
def Ren.get:Ren->Nat->Option Src
 |[],_=>none
 |(k,v)::r,t=>cond (A7 k t) (some v) (Ren.get r t)
def Src.same:Src->Src->Bool
 |.own i,.own j=>A7 i j
 |_,_=>false
def Ren.add(m:Ren)(i:Nat)(s:Src):Option Ren:=match m.get i with
 |none=>some ((i,s)::m)
 |some s'=>cond (s'.same s) (some m) none
def Ren.addCaps:List Nat->Ren->Option Ren
 |[],m=>some m
 |i::r,m=>match m.add i (.own i)with
  |some m'=>Ren.addCaps r m'
  |none=>none
def SpA.ren(a:SpA)(b:Atom)(m:Ren):Option Ren:=match a,b with
 |.own i,.own j=>m.add i (.own j)
 |.own i,.nils _=>m.add i .nil
 |.own i,.view j o n=>m.add i (.view j o n)
 |.ptr i o,.ptr j o'=>cond (A7 o o') (m.add i (.own j)) none
 |.ownd i,.ownd j=>m.add i (.own j)
 |.ownd i,.nils _=>m.add i .nild
 |.ownm i,.ownm j=>m.add i (.own j)
 |.clo _ c,_=>Ren.addCaps c m
 |.own _,_=>none
 |.ownd _,_=>none
 |.ownm _,_=>none
 |.ptr _ _,_=>none
 |_,_=>some m
def SpA.renL:List SpA->List Atom->Ren->Option Ren
 |[],[],m=>some m
 |a::l,b::r,m=>match a.ren b m with
  |some m'=>SpA.renL l r m'
  |none=>none
 |_,_,_=>none
def SpS.ren(a:SpS)(b:SV)(m:Ren):Option Ren:=match a,b with
 |.av a,.av b=>a.ren b m
 |.agg l,.agg r=>SpA.renL l r m
 |.av .u,_=>some m
 |.av (.val _),_=>some m
 |.sub _,_=>some m
 |.view _,_=>some m
 |_,_=>none
def pT(e:Env):List (Nat×SpS)->Ren->Option Ren
 |[],m=>some m
 |p::l,m=>match p.2.ren (e.get p.1) m with
  |some m'=>pT e l m'
  |none=>none
def iK(G:Heap):List (Nat×SpO)->Ren->Option Ren
 |[],m=>some m
 |(_,.arr _)::l,m=>iK G l m
 |(_,.deep _)::l,m=>iK G l m
 |(_,.map _ _)::l,m=>iK G l m
 |(i,.box s)::l,m=>match m.get i with
  |some (.own j)=>match G.get j with
   |some (.box c)=>match SpA.renL s c m with
    |some m'=>iK G l m'
    |none=>none
   |_=>none
  |_=>none
def SpA.ext(G:Heap)(a:SpA)(b:Atom)(r:Ty)(k:Option r.den):Option (a.tys r).den:=match a with
 |.val τ=>match aF G τ b,k with
  |some x,some y=>some (x,y)
  |_,_=>none
 |.u=>k
 |.undef=>match b with|.undef=>k|_=>none
 |.nils=>match b with|.nils _=>k|_=>none
 |.own _=>k
 |.ownd _=>k
 |.ownm _=>k
 |.ptr _ _=>k
 |.clo f c=>match b with|.clo f' c'=>cond (A7 f f'&&decide (c=c')) k none|_=>none
def SpA.extL(G:Heap):(l:List SpA)->List Atom->(r:Ty)->Option r.den->Option (SpA.tysL l r).den
 |[],_,_,k=>k
 |a::l,b::bs,r,k=>a.ext G b (SpA.tysL l r) (SpA.extL G l bs r k)
 |_::_,[],_,_=>none
def SpS.ext(G:Heap)(a:SpS)(b:SV)(r:Ty)(k:Option r.den):Option (a.tys r).den:=match a,b with
 |.av (.val τ),v=>match aR G τ v,k with
  |some x,some y=>some (x,y)
  |_,_=>none
 |.av .u,_=>k
 |.av a,.av b=>a.ext G b r k
 |.agg l,.agg bs=>SpA.extL G l bs r k
 |.sub _,.av (.sub _ _ j)=>match k with
  |some y=>some ((j:Int),y)
  |none=>none
 |.view _,.av (.view _ o n)=>match k with
  |some y=>some ((o:Int),(n:Int),y)
  |none=>none
 |_,_=>none
def sx(G:Heap)(e:Env):(l:List (Nat×SpS))->Option (iM l).den
 |[]=>some ()
 |p::l=>p.2.ext G (e.get p.1) (iM l) (sx G e l)
def cY(G:Heap)(τ:Ty):Option Src->Option (List τ.den)
 |some .nil=>some []
 |some (.own j)=>match G.get j with
  |some (.arr σ l)=>bC (.slice τ) (.slice σ) l
  |_=>none
 |some (.view j o n)=>match G.get j with
  |some (.arr σ l)=>bC (.slice τ) (.slice σ) ((l.drop o).take n)
  |_=>none
 |_=>none
def cz(G:Heap)(τ:Ty):Option Src->Option (List (List τ.den))
 |some .nild=>some []
 |some (.own j)=>match G.get j with
  |some (.deep _ σ l none)=>bC (.slice (.slice τ)) (.slice (.slice σ)) l
  |_=>none
 |_=>none
def fI(G:Heap)(k v:Ty):Option Src->Option (List (k.den×v.den))
 |some (.own j)=>match G.get j with
  |some (.map k' v' l)=>fO k v k' v' l
  |_=>none
 |_=>none
def SpO.ext(G:Heap)(m:Ren)(i:Nat)(a:SpO)(r:Ty)(k:Option r.den):Option (a.tys r).den:=match a with
 |.arr τ=>match cY G τ (m.get i),k with
  |some x,some y=>some (x,y)
  |_,_=>none
 |.deep τ=>match cz G τ (m.get i),k with
  |some x,some y=>some (x,y)
  |_,_=>none
 |.map κ v=>match fI G κ v (m.get i),k with
  |some x,some y=>some (x,y)
  |_,_=>none
 |.box l=>match m.get i with
  |some (.own j)=>match G.get j with
   |some (.box c)=>SpA.extL G l c r k
   |_=>none
  |_=>none
def pb(G:Heap)(m:Ren):(l:List (Nat×SpO))->(r:Ty)->Option r.den->Option (mB l r).den
 |[],_,k=>k
 |p::l,r,k=>p.2.ext G m p.1 (mB l r) (pb G m l r k)
def Src.ids:Src->List Nat
 |.nil=>[]
 |.nild=>[]
 |.own i=>[i]
 |.view i _ _=>[i]
def Ren.ids(m:Ren):List Nat:=m.flatMap λp=>p.2.ids
def SpA.froz(a:SpA)(b:Atom):List Nat:=match a with
 |.val _=>atomIds b
 |_=>[]
def SpA.frozL:List SpA->List Atom->List Nat
 |a::l,b::r=>a.froz b++SpA.frozL l r
 |_,_=>[]
def SpS.froz(G:Heap)(a:SpS)(b:SV):List Nat:=match a,b with
 |.av (.val _),v=>cP G v
 |.agg l,.agg r=>SpA.frozL l r
 |_,_=>[]
def lG(G:Heap)(e:Env):List (Nat×SpS)->List Nat
 |[]=>[]
 |p::l=>p.2.froz G (e.get p.1)++lG G e l
def SpO.kind:SpO->Nat
 |.arr _=>0
 |.box _=>1
 |.deep _=>2
 |.map _ _=>3
def e8(kind:Nat)(i:Nat)(l:List (Nat×SpO)):Bool:=l.any λp=>A7 p.1 i&&A7 p.2.kind kind
def SpA.wf(l:List (Nat×SpO)):SpA->Bool
 |.own i=>e8 0 i l
 |.ptr i _=>e8 1 i l
 |.clo _ c=>c.all λi=>e8 1 i l
 |.ownd i=>e8 2 i l
 |.ownm i=>e8 3 i l
 |.val τ=>!τ.isAgg
 |_=>true
def SpS.wf(l:List (Nat×SpO)):SpS->Bool
 |.av (.val _)=>true
 |.av a=>a.wf l
 |.agg as=>as.all λa=>a.wf l
 |.sub i=>e8 2 i l
 |.view i=>e8 0 i l
def SpS.look(G:Heap)(R:Ren)(a:SpS)(b:SV):Bool:=match a,b with
 |.sub i,.av (.sub id ver _)=>(match R.get i with
  |some (.own j)=>A7 id j
  |_=>false)&&(match G.get id with
  |some (.deep ver' _ _ none)=>A7 ver ver'
  |_=>false)
 |.view i,.av (.view id _ _)=>match R.get i with
  |some (.own j)=>A7 id j
  |_=>false
 |.sub _,_=>false
 |.view _,_=>false
 |_,_=>true
def pinned(R:Ren)(l:List Nat):Bool:=l.all λi=>match R.get i with
 |some (.own j)=>A7 i j
 |_=>false
def Shape.wf(sh:Shape):Bool:=(sh.pins.all λi=>e8 0 i sh.objs||e8 1 i sh.objs)&&(sh.env.all λp=>p.2.wf sh.objs)&&(sh.objs.all λp=>match p.2 with|.arr _=>true|.deep _=>true|.map _ _=>true|.box l=>l.all λa=>a.wf sh.objs)&&aH (sh.objs.map (·.1))
def ey(G:Heap)(m:Ren):List (Nat×SpO)->List Nat
 |[]=>[]
 |(_,.arr _)::l=>ey G m l
 |(_,.deep _)::l=>ey G m l
 |(_,.map _ _)::l=>ey G m l
 |(i,.box s)::l=>(match m.get i with
  |some (.own j)=>match G.get j with
   |some (.box c)=>SpA.frozL s c
   |_=>[]
  |_=>[])++ey G m l
def Shape.ext(sh:Shape)(s:St):Option sh.ty.den:=match pT s.env sh.env []with
 |none=>none
 |some m0=>match iK s.G sh.objs m0 with
  |none=>none
  | some m=>cond (sh.wf && pinned m sh.pins && aH m.ids && !(m.ids.any fun i=>((lG s.G s.env sh.env)++(ey s.G m sh.objs)).any fun j=>A7 i j)
    && (sh.objs.all λp=>(m.get p.1).isSome)&&(sh.env.all λp=>p.2.look s.G m (s.env.get p.1)))
    (pb s.G m sh.objs (iM sh.env) (sx s.G s.env sh.env)) none
@[reducible] def kX:List (Ex×Shape)->Type
 |[]=>Empty
 |p::l=>p.2.ty.den⊕kX l
structure Ann where
 head:Shape
 exits:List (Ex×Shape)
 fn:head.ty.den->Option (kX exits)
def lh{R:Type}(K:Ex->St->Option R):(l:List (Ex×Shape))->kX l->Option R
 |[],_=>none
 |p::l,x=>A9 (λy=>K p.1 (p.2.inj y)) (λz=>lh K l z) x
abbrev Anns:=List (Nat×Ann)
def Anns.get:Anns->Nat->Option Ann
 |[],_=>none
 |(k,v)::r,t=>cond (A7 k t) (some v) (Anns.get r t)
noncomputable def ls(A:Anns):Loops:=λkey _ s K=>match A.get key with
 |none=>none
 |some a=>match a.head.ext s with
  |none=>none
  |some x=>(a.fn x).bind λr=>lh K a.exits r
def Ex.same:Ex->Ex->Bool
 |.normal,.normal=>true
 |.exit i,.exit j=>A7 i j
 |.ret,.ret=>true
 |_,_=>false
def jh:(l:List (Ex×Shape))->Ex->St->Option (kX l)
 |[],_,_=>none
 |p::l,e,s=>cond (Ex.same p.1 e) ((p.2.ext s).bind λx=>some (.inl x)) ((jh l e s).bind λx=>some (.inr x))
noncomputable def round(C:Ctx)(A:Anns)(a:Ann)(body:Code)(x:a.head.ty.den):Option (a.head.ty.den⊕kX a.exits):=
 cO C (ls A) body (λe s=>match e with
  |.normal=>(a.head.ext s).bind λy=>some (.inl y)
  |.exit i=>(jh a.exits (.exit i) s).bind λy=>some (.inr y)
  |.ret=>(jh a.exits .ret s).bind λy=>some (.inr y)) (a.head.inj x)
abbrev ks:=List (ResultVar×Bool×Ty)
def fU(s:St):ResultVar->Ty->Option SV
 |.tmp t,_=>some (s.env.get t)
 |.cell t _,τ=>match s.env.get t with
  |.av (.ptr id off)=>match s.G.get id with
   |some (.box l)=>match kl τ.size (l.drop off)with
    |some c=>some (d8 τ c)
    |none=>none
   |_=>none
  |_=>none
def results(s:St):(outs:ks)->Option (ac ((outs.map (·.2)).map (·.2))).den
 |[]=>some ()
 |p::r=>match fU s p.1 p.2.2 with
  |some v=>match aR s.G p.2.2 v with
   |some x=>match results s r with
    |some y=>some (x,y)
    |none=>none
   |none=>none
  |none=>none
def aS(s:St)(own:Bool):ks->List Nat
 |[]=>[]
 |p::r=>(match fU s p.1 p.2.2 with
  |some v=>cond (own==p.2.1) (cP s.G v) []
  |none=>[])++aS s own r
def bF(d:Bool):(τ:Ty)->List Atom->Bool×List Atom
 |.prod a b,l=>let p:=bF d a l;let q:=bF d b p.2;(p.1&&q.1,q.2)
 |.unit,l=>(true,l)
 |.slice e,a::l=>(eR (d&&e.isSl) a,l)
 |.int _,_::l=>(true,l)
 |.bool,_::l=>(true,l)
 |.str,_::l=>(true,l)
 |.clo _ .unit,_::l=>(true,l)
 |_,_=>(false,[])
def Ty.plain:Ty->Bool
 |.int _=>true
 |.bool=>true
 |.str=>true
 |.prod a b=>a.plain&&b.plain
 |.unit=>true
 |_=>false
def tV(d:Bool)(G:Heap)(τ:Ty):SV->Bool
 |.av (.val σ _)=>σ.plain
 |.av (.ptr i 0)=>match τ,G.get i with
  |.ptr T,some (.box l)=>(gG (dm d T) 0 T l).1&&(gG (dm d T) 0 T l).2.isEmpty&&(bR false (dm d T) 0 l).isEmpty
  |_,_=>false
 |.av (.clo _ _)=>false
 |.av a=>(bF d τ [a]).1
 |.agg l=>(bF d τ l).1
 |.tup _=>false
def gI(d:Bool)(s:St):ks->Bool
 |[]=>true
 |p::r=>cond p.2.1 (match fU s p.1 p.2.2 with
  |some v=>tV d s.G p.2.2 v
  |none=>false) true&&gI d s r
def cp(s:St):(ins:List (Mode×Ty))->Nat->Option (ac (aN ins)).den
 |[],_=>some ()
 |(.rd,_)::r,i=>cp s r (i+1)
 |(.take,_)::r,i=>cp s r (i+1)
 |(.upd,τ)::r,i=>match τ,s.G.get i with
  |.slice e,some (.arr σ l)=>match bC (.slice e) (.slice σ) l with
   |some x=>match cp s r (i+1)with
    |some y=>some (x,y)
    |none=>none
   |none=>none
  |_,_=>none
 |(.box k,τ)::r,i=>match τ,s.G.get i with
  |.ptr T,some (.box l)=>cond ((gG k 0 T l).1) (match aA s.G T l with
   |some (x,[])=>match cp s r (i+1)with
    |some y=>some (x,y)
    |none=>none
   |_=>none) none
  |_,_=>none
def fC:List (Mode×Ty)->Nat->List Nat
 |[],_=>[]
 |(.upd,_)::r,i=>i::fC r (i+1)
 |(.box _,_)::r,i=>i::fC r (i+1)
 |(_,_)::r,i=>fC r (i+1)
def bV(own:Bool)(G:Heap):List (Mode×Ty)->Nat->List Nat
 |[],_=>[]
 |(.upd,_)::r,i=>cond own [i] []++bV own G r (i+1)
 |(.box k,_)::r,i=>cl own k G (.av (.ptr i 0))++bV own G r (i+1)
 |(_,_)::r,i=>bV own G r (i+1)
def dL:(ins:List (Mode×Ty))->Nat->(ac (ins.map (·.2))).den->Env
 |[],_,_=>[]
 |(.rd,τ)::r,i,x=>(i,.av (.val τ x.1))::dL r (i+1) x.2
 |(.box _,_)::r,i,x=>(i,.av (.ptr i 0))::dL r (i+1) x.2
 |(_,_)::r,i,x=>(i,.av (.own i))::dL r (i+1) x.2
def aY:(ins:List (Mode×Ty))->Nat->(ac (ins.map (·.2))).den->Heap
 |[],_,_=>[]
 |(.rd,_)::r,i,x=>aY r (i+1) x.2
 |(.upd,.slice e)::r,i,x=>(i,.arr e x.1)::aY r (i+1) x.2
 |(.take,.slice e)::r,i,x=>(i,.arr e x.1)::aY r (i+1) x.2
 |(.box _,.ptr T)::r,i,x=>(i,.box (A5 T.size .u))::aY r (i+1) x.2
 |(_,_)::r,i,x=>aY r (i+1) x.2
def qu:List (Mode×Ty)->Nat->List SV
 |[],_=>[]
 |_::r,i=>.av (.ptr i 0)::qu r (i+1)
def jY:(ins:List (Mode×Ty))->(ac (ins.map (·.2))).den->(ac (aN ins)).den
 |[],_=>()
 |(.rd,_)::r,x=>jY r x.2
 |(.take,_)::r,x=>jY r x.2
 |(.upd,_)::r,x=>(x.1,jY r x.2)
 |(.box _,_)::r,x=>(x.1,jY r x.2)
def kP:(outs:List Ty)->(m:List Ty)->(ac outs).den->(ac m).den->(ac (outs++m)).den
 |[],_,_,y=>y
 |_::r,m,x,y=>(x.1,kP r m x.2 y)
def lP(ins:List (Mode×Ty))(outs:ks)(s:St)(d:Bool:=false):Option (ac ((outs.map (·.2)).map (·.2)++aN ins)).den:=
 cond (gI d s outs && aH (aS s true outs) && eU (aS s true outs) (aS s false outs)
   && eU (aS s true outs) (bV true s.G ins 0)&&eU (aS s false outs) (bV true s.G ins 0)
   && aH (bV true s.G ins 0)&&eU (aS s true outs) (bV false s.G ins 0)&&eU (bV false s.G ins 0) (bV true s.G ins 0)) (
  match results s outs with
  |some x=>match cp s ins 0 with
   |some y=>some (kP ((outs.map (·.2)).map (·.2)) (aN ins) x y)
   |none=>none
  |none=>none) none
noncomputable def k6(C:Ctx)(A:Anns)(body:Code)(ins:List (Mode×Ty))(outs:ks)(x:(ac (ins.map (·.2))).den)(d:Bool:=false):Option (ac ((outs.map (·.2)).map (·.2)++aN ins)).den:=
 match bH ins (qu ins 0) (jY ins x) 0 (aY ins 0 x)with
 |some G=>cO C (ls A) body (λe s=>match e with
  |.exit _=>none
  |.normal=>lP ins outs s d
  |.ret=>lP ins outs s d) { env:=dL ins 0 x,G:=G }
 |none=>none
end
end Go.Vm
namespace Go.Vm
noncomputable section
inductive Rounds {σ ρ:Type} (f:σ->Option (σ⊕ρ)):σ->ρ->Prop
 |last {s:σ} {r:ρ} (h:f s=some (.inr r)):Rounds f s r
 |more {s t:σ} {r:ρ} (h:f s=some (.inl t)) (k:Rounds f t r):Rounds f s r
def uu{σ ρ:Type}(f:σ->Option (σ⊕ρ)):Nat->σ->Option ρ
 |0,_=>none
 |n+1,s=>match f s with
  |some (.inl t)=>uu f n t
  |some (.inr r)=>some r
  |none=>none
open Classical in
noncomputable def aa{σ ρ:Type}(f:σ->Option (σ⊕ρ))(s:σ):Option ρ:=
 match uu f 1000000 s with
 |some r=>some r
 |none=>if h:∃ r,Rounds f s r then some h.choose else none
theorem m4{σ ρ:Type}{f:σ->Option (σ⊕ρ)}{r:ρ}:∀{n:Nat} {s:σ},uu f n s=some r->Rounds f s r
 |0,_,h=>by simp[uu]at h
 |n+1,s,h=>by
  simp only[uu]at h;split at h
  ·rename_i t ht;exact .more ht (m4 h)
  ·rename_i r' hr;cases h;exact .last hr
  cases h
theorem Rounds.det{σ ρ:Type}{f:σ->Option (σ⊕ρ)}{s:σ}{r r':ρ}(h:Rounds f s r)(h':Rounds f s r'):r=r':=by
 induction h with
 |last h=>
  cases h' with
  |last h2=>rw[h]at h2;simpa using h2
  |more h2 _=>rw[h]at h2;simp at h2
 |more h _ ih=>
  cases h' with
  |last h2=>rw[h]at h2;simp at h2
  |more h2 k2=>rw[h]at h2;simp at h2;subst h2;exact ih k2
theorem dp{σ ρ:Type}{f:σ->Option (σ⊕ρ)}{s:σ}{r:ρ}:aa f s=some r↔Rounds f s r:=by
 unfold aa;split
 ·rename_i r' hr;have h':=m4 hr;constructor
  ·intro h;cases h;exact h'
  intro h;rw[h'.det h]
 constructor
 ·intro h;split at h
  ·rename_i hx;simp at h;subst h;exact hx.choose_spec
  simp at h
 intro h;have hx:∃ r,Rounds f s r:=⟨r,h⟩;rw[dif_pos hx];exact congrArg some (hx.choose_spec.det h)
theorem mc{σ ρ:Type}(f:σ->Option (σ⊕ρ))(s:σ):aa f s=(f s).bind (A9 (aa f) some):=by
 cases h:f s with
 |none=>
  simp only[Option.bind_none];cases hl:aa f s with
  |none=>rfl
  |some r=>have:=dp.1 hl;cases this<;>simp_all
 |some t=>
  simp only[Option.bind_some];cases t with
  |inl t=>
   simp only[Sum.elim_inl];cases hl:aa f t with
   |some r=>exact dp.2 (.more h (dp.1 hl))
   |none=>
    cases hs:aa f s with
    |none=>rfl
    |some r=>
     have hr:=dp.1 hs;cases hr with
     |last h2=>simp_all
     |more h2 k=>
      rw[h]at h2;simp at h2;subst h2
      rw[dp.2 k]at hl;simp at hl
  |inr r=>exact dp.2 (.last h)
def gf(key:Nat):Code->Option Code
 |.seq a b=>match gf key a with
  |some c=>some c
  |none=>gf key b
 |.cond _ a b=>match gf key a with
  |some c=>some c
  |none=>gf key b
 |.block _ c=>gf key c
 |.scope c=>gf key c
 |.loop c=>cond (A7 (bT c) key) (some c) (gf key c)
 |_=>none
def eh(key:Nat)(c:Code):Code:=(gf key c).getD .skip
def aW(f:Func):Code:=f.body.getD .skip
end
end Go.Vm

/-
 How the abstract machine's values stand in memory.
-/
namespace Go.Vm
def seg(c:Array Value)(o n:Nat):List Value:=(c.toList.drop o).take n
theorem dw(c:Array Value)(o n:Nat)(h:o+n<=c.size):(seg c o n).length=n:=by unfold seg;simp;omega
theorem seg_getElem?(c:Array Value)(o n i:Nat)(h:i<n):(seg c o n)[i]?=c[o+i]?:=by unfold seg;rw[JC];simp[h,J2]
def Rd(w:World)(F:Nat->Prop):(τ:Ty)->List Value->τ.den->Prop
 |.int k,cs,n=>cs=[.int k n]/\k.min<=n/\n<=k.max
 |.bool,cs,b=>cs=[.bool b]
 |.str,cs,s=>cs=[.string s]/\s.size<=maxLen
 | .slice e,cs,l=>∃ a cap,cs=[.slice a l.length cap]/\l.length<=cap/\cap<=maxLen /\
   (l≠[]->∃ b off c el fz,a=some ⟨b,off,none⟩/\F b/\w.heap[b]?=some (.cells c el fz)/\off+l.length*e.size<=c.size /\
    ∀ i (h:i<l.length),Rd w F e (seg c (off+i*e.size) e.size) l[i])
 |.prod a b,cs,x=>∃ c1 c2,cs=c1++c2/\Rd w F a c1 x.1/\Rd w F b c2 x.2
 |.unit,cs,_=>cs=[]
 |.arr n e,cs,l=>l.length=n/\cs.length=n*e.size/\∀ i (h:i<l.length),Rd w F e ((cs.drop (i*e.size)).take e.size) l[i]
 | .ptr e,cs,x=>∃ b off c el fz,cs=[.pointer (some ⟨b,off,none⟩)]/\F b/\w.heap[b]?=some (.cells c el fz)/\off+e.size<=c.size /\
   Rd w F e (seg c off e.size) x
 |.clo g e,cs,x=>∃ vs:List Value,cs=[.func (.func g) #[] vs.toArray]/\Rd w F e vs x
theorem Rd.len{w:World}{F:Nat->Prop}:∀{τ:Ty} {cs:List Value} {x:τ.den},Rd w F τ cs x->cs.length=τ.size
 |.int _,_,_,h=>by obtain⟨rfl,_⟩:=h;rfl
 |.bool,_,_,h=>by unfold Rd at h;subst h;rfl
 |.str,_,_,h=>by obtain⟨rfl,_⟩:=h;rfl
 |.slice _,_,_,h=>by obtain⟨_,_,rfl,_⟩:=h;rfl
 |.prod a b,_,_,h=>by obtain⟨c1,c2,rfl,h1,h2⟩:=h;simp[Ty.size,h1.len,h2.len]
 |.unit,_,_,h=>by unfold Rd at h;subst h;rfl
 |.arr n e,_,_,h=>by obtain⟨_,h,_⟩:=h;simpa[Ty.size]using h
 |.ptr _,_,_,h=>by obtain⟨_,_,_,_,_,rfl,_⟩:=h;rfl
 |.clo _ _,_,_,h=>by obtain⟨_,rfl,_⟩:=h;rfl
theorem Rd.mono {w w':World}{F F':Nat->Prop}(hF:∀ b,F b->F' b/\w'.heap[b]?=w.heap[b]?) :
  ∀{τ:Ty} {cs:List Value} {x:τ.den},Rd w F τ cs x->Rd w' F' τ cs x
 |.int _,_,_,h=>h
 |.bool,_,_,h=>h
 |.str,_,_,h=>h
 |.slice e,_,l,h=>by obtain⟨a,cap,h1,h2,h3,h4⟩:=h;refine⟨a,cap,h1,h2,h3,λhl=>?_⟩;obtain⟨b,off,c,el,fz,q1,q2,q3,q4,q5⟩:=h4 hl;exact⟨b,off,c,el,fz,q1,(hF b q2).1,by rw[(hF b q2).2];exact q3,q4,λi hi=>(q5 i hi).mono hF⟩
 |.prod a b,_,_,h=>by obtain⟨c1,c2,h1,h2,h3⟩:=h;exact⟨c1,c2,h1,h2.mono hF,h3.mono hF⟩
 |.unit,_,_,h=>h
 |.arr n e,_,l,h=>by obtain⟨h1,h2,h3⟩:=h;exact⟨h1,h2,λi hi=>(h3 i hi).mono hF⟩
 |.ptr e,_,_,h=>by obtain⟨b,off,c,el,fz,q1,q2,q3,q4,q5⟩:=h;exact⟨b,off,c,el,fz,q1,(hF b q2).1,by rw[(hF b q2).2];exact q3,q4,q5.mono hF⟩
 |.clo g e,_,_,h=>by obtain⟨vs,h1,h2⟩:=h;exact⟨vs,h1,h2.mono hF⟩
theorem Rd.one{w:World}{F:Nat->Prop}:∀{τ:Ty} {cs:List Value} {x:τ.den},Rd w F τ cs x->∀ u∈cs,u.oneCell'=true
 |.int _,_,_,h=>by obtain⟨rfl,_⟩:=h;simp[Value.oneCell']
 |.bool,_,_,h=>by unfold Rd at h;subst h;simp[Value.oneCell']
 |.str,_,_,h=>by obtain⟨rfl,_⟩:=h;simp[Value.oneCell']
 |.slice _,_,_,h=>by obtain⟨_,_,rfl,_⟩:=h;simp[Value.oneCell']
 |.prod a b,_,_,h=>by
  obtain⟨c1,c2,rfl,h1,h2⟩:=h;intro u hu;rcases A4.1 hu with hu|hu
  ·exact h1.one u hu
  exact h2.one u hu
 |.unit,_,_,h=>by unfold Rd at h;subst h;simp
 |.arr n e,cs,l,h=>by
  obtain⟨h1,h2,h3⟩:=h;intro u hu;obtain⟨k,hk,rfl⟩:=K1 hu;have hs:0<e.size:=by
   rcases Ku e.size with hz|hz
   ·rw[hz]at h2;simp at h2;subst h2;simp at hk
   exact hz
  have hkn:k/e.size<n:=by rw[Nat.div_lt_iff_lt_mul hs];omega
  have hd:=Nat.div_add_mod k e.size;have hm:=Nat.mod_lt k hs;refine(h3 (k/e.size) (by omega)).one _ ?_;rw[List.mem_iff_getElem?];refine⟨k%e.size,?_⟩;rw[JC,if_pos hm,J2];have:k/e.size*e.size+k%e.size=k:=by rw[Nat.mul_comm];exact hd
  rw[this];simp
 |.ptr _,_,_,h=>by obtain⟨_,_,_,_,_,rfl,_⟩:=h;simp[Value.oneCell']
 |.clo _ _,_,_,h=>by obtain⟨_,rfl,_⟩:=h;simp[Value.oneCell']
def toV(τ:Ty)(cs:List Value):Value:=cond τ.isAgg (.agg cs.toArray) (cs.headD undef)
theorem lE{v:Value}(h:v.oneCell'=true):v.cells=#[v]:=by cases v<;>simp_all[Value.oneCell',Value.cells]
theorem ej{τ:Ty}(h:τ.isAgg=false):τ.size=1:=by cases τ<;>simp_all[Ty.isAgg,Ty.size]
theorem Rd.single {w:World}{F:Nat->Prop}{τ : Ty}{cs:List Value}{x : τ.den}(h:Rd w F τ cs x)(ha : τ.isAgg=false) :
  ∃ v,cs=[v]/\v.oneCell'=true:=by
 have hl:=h.len;rw[ej ha]at hl;match cs,hl with
 |[v],_=>exact⟨v,rfl,h.one v (by simp)⟩
theorem lJ{w:World}{F:Nat->Prop}{τ:Ty}{cs:List Value}{x:τ.den}(h:Rd w F τ cs x):(toV τ cs).cells=cs.toArray:=by
 unfold toV;cases ha:τ.isAgg with
 |true=>rfl
 |false=>obtain⟨v,rfl,hv⟩:=h.single ha;simpa using lE hv
structure Mem where
 w:World
 F:Nat->Prop
 ι:Nat->Value
 G:Heap
def HB1:Value->Nat->Prop
 |.slice (some a) _ cap,b=>cap≠0/\a.block=b
 |.pointer (some a),b=>a.block=b
 |.map (some r),b=>r=b
 |_,_=>False
def HB(v:Value)(b:Nat):Prop:=match v with
 |.tuple us=>∃ u∈us.toList,HB1 u b
 |v=>HB1 v b
theorem uK{a:Option Addr}{n cap b:Nat}:HB (.slice a n cap) b↔cap≠0/\∃ ad,a=some ad/\ad.block=b:=by cases a<;>simp[HB,HB1]
theorem DU{v:Value}{b:Nat}(h:v.oneCell'=true):HB v b↔HB1 v b:=by cases v<;>simp_all[HB,Value.oneCell']
def qE(v0:Value)(size off len:Nat)(v:Value):Prop:=
 ∃ a n cap ad,v0=.slice a n cap/\v=.slice ad len (cap-off)/\(cap≠off->ad=a.map (·.add (off*size)))
def isObj(o:Obj):Bool:=match o with|.dead=>false|_=>true
def isDeep(o:Obj):Bool:=match o with|.deep ..=>true|_=>false
def Rel2{α β:Type}(r:α->β->Prop):List α->List β->Prop
 |[],[]=>True
 |a::l,b::k=>r a b/\Rel2 r l k
 |_,_=>False
theorem Rel2.length{α β:Type}{r:α->β->Prop}:∀{l:List α} {k:List β},Rel2 r l k->l.length=k.length
 |[],[],_=>rfl
 |_::_,_::_,h=>by simp[Rel2.length h.2]
theorem Rel2.mono{α β:Type}{r s:α->β->Prop}(hr:∀ a b,r a b->s a b):∀{l:List α} {k:List β},Rel2 r l k->Rel2 s l k
 |[],[],_=>trivial
 |_::_,_::_,h=>⟨hr _ _ h.1,Rel2.mono hr h.2⟩
theorem Rel2.append{α β:Type}{r:α->β->Prop}:∀{l:List α} {k:List β} {l':List α} {k':List β},Rel2 r l k->Rel2 r l' k'->Rel2 r (l++l') (k++k')
 |[],[],_,_,_,h=>h
 |_::_,_::_,_,_,h,h'=>⟨h.1,Rel2.append h.2 h'⟩
theorem Rel2.get{α β:Type}{r:α->β->Prop}:∀{l:List α} {k:List β},Rel2 r l k->∀{i:Nat} {b:β},k[i]?=some b->∃ a,l[i]?=some a/\r a b
 |[],[],_,i,b,hb=>by simp at hb
 |a::l,b'::k,h,0,b,hb=>by simp at hb;subst hb;exact⟨a,rfl,h.1⟩
 |a::l,b'::k,h,i+1,b,hb=>by simpa using Rel2.get h.2 (i:=i) (b:=b) (by simpa using hb)
theorem Rel2.drop{α β:Type}{r:α->β->Prop}:∀(n:Nat) {l:List α} {k:List β},Rel2 r l k->Rel2 r (l.drop n) (k.drop n)
 |0,_,_,h=>h
 |_+1,[],[],_=>trivial
 |n+1,_::_,_::_,h=>Rel2.drop n h.2
theorem Rel2.take{α β:Type}{r:α->β->Prop}:∀(n:Nat) {l:List α} {k:List β},Rel2 r l k->Rel2 r (l.take n) (k.take n)
 |0,_,_,_=>trivial
 |_+1,[],[],_=>trivial
 |n+1,_::_,_::_,h=>⟨h.1,Rel2.take n h.2⟩
def ai(m:Mem)(v:Value):Atom->Prop
 |.u=>True
 |.undef=>v=undef
 |.nils d=>∃ a,v=.slice a 0 0/\(d=true->a=none)
 |.val τ x=>Rd m.w m.F τ [v] x/\τ.isAgg=false
 |.own id=>v.oneCell'=true/\∃ o,m.G.get id=some o/\(isObj o=true->v=m.ι id)
 |.view id off len=>v.oneCell'=true/\∃ o,m.G.get id=some o/\(match o with
  |.arr τ l=>off+len<=l.length/\qE (m.ι id) τ.size off len v
  |.dead=>True
  |_=>False)
 |.ptr id off=>v.oneCell'=true/\∃ o,m.G.get id=some o/\(match o with
  |.box _=>∃ b,m.ι id=.pointer (some ⟨b,0,none⟩)/\v=.pointer (some ⟨b,off,none⟩)
  |.dead=>True
  |_=>False)
 |.aptr id j p=>v.oneCell'=true/\∃ o,m.G.get id=some o/\(match o with
  |.arr τ l=>j<l.length/\∃ b off n cap q,m.ι id=.slice (some ⟨b,off,none⟩) n cap/\cX τ p=some q/\v=.pointer (some ⟨b,off+j*τ.size+q.1,none⟩)
  |.deep _ _ l _=>j<l.length/\p=[]/\∃ b off n cap us,m.ι id=.tuple us/\us[0]?=some (.slice (some ⟨b,off,none⟩) n cap)/\v=.pointer (some ⟨b,off+j,none⟩)
  |.dead=>True
  |_=>False)
 |.cut id off len=>v.oneCell'=true/\∃ o,m.G.get id=some o/\(match o with
  |.arr τ l=>off+len<=l.length/\0<len/\∃ b o' n cap,m.ι id=.slice (some ⟨b,o',none⟩) n cap/\v=.slice (some ⟨b,o'+off*τ.size,none⟩) len len
  |.dead=>True
  |_=>False)
 |.bnd f l=>∃ us:List Value,v=.func (.func f) #[.agg us.toArray] #[]/\(∀ u∈us,u.oneCell'=true)/\Rel2 (λu (p:Σ t:Ty,t.den)=>Rd m.w m.F p.1 [u] p.2/\p.1.isAgg=false) us l
 | .clo f caps=>∃ vs:List Value,v=.func (.func f) #[] vs.toArray /\
   Rel2 (λu c=>∃ o,m.G.get c=some o/\(match o with
    |.box _=>∃ b,m.ι c=.pointer (some ⟨b,0,none⟩)/\u=.pointer (some ⟨b,0,none⟩)
    |.dead=>True
    |_=>False)) vs caps
 |.ownd id=>v.oneCell'=true/\∃ o,m.G.get id=some o/\(match o with
  |.deep ..=>∃ us,m.ι id=.tuple us/\us[0]?=some v
  |.dead=>True
  |_=>False)
 |.sub id ver j=>v.oneCell'=true/\∃ o,m.G.get id=some o/\(match o with
  |.deep ver' _ l hole=>ver<=ver'/\(ver=ver'->j<l.length/\hole=none/\∃ us,m.ι id=.tuple us/\us[j+1]?=some v)
  |.dead=>True
  |_=>False)
 |.saptr id ver j k=>v.oneCell'=true/\∃ o,m.G.get id=some o/\(match o with
  |.deep ver' τ l hole=>ver<=ver'/\(ver=ver'->j<l.length/\hole=none/\∃ us b off n cap,m.ι id=.tuple us/\us[j+1]?=some (.slice (some ⟨b,off,none⟩) n cap)/\k<n/\v=.pointer (some ⟨b,off+k*τ.size,none⟩))
  |.dead=>True
  |_=>False)
 |.ownm id=>v.oneCell'=true/\∃ o,m.G.get id=some o/\(match o with
  |.map ..=>v=m.ι id
  |.dead=>True
  |_=>False)
 |.iptr id off n idx k=>v.oneCell'=true/\∃ o,m.G.get id=some o/\(match o with
  |.box _=>idx+k<=n/\∃ b,m.ι id=.pointer (some ⟨b,0,none⟩)/\v=.pointer (some ⟨b,off+idx,none⟩)
  |.dead=>True
  |_=>False)
def eW(m:Mem)(v:Value)(p:Bool×List Atom):Prop:=
 cond p.1 (∃ us:List Value,v=.agg us.toArray/\(∀ u∈us,u.oneCell'=true)/\Rel2 (ai m) us p.2) (∃ a,p.2=[a]/\ai m v a)
def RelSV(m:Mem)(v:Value):SV->Prop
 |.av (.val τ x)=>∃ cs,v=toV τ cs/\Rd m.w m.F τ cs x
 |.av a=>ai m v a
 |.agg l=>∃ us:List Value,v=.agg us.toArray/\(∀ u∈us,u.oneCell'=true)/\Rel2 (ai m) us l
 |.tup l=>∃ us:List Value,v=.tuple us.toArray/\Rel2 (eW m) us l
def eo(e:Ty)(n:Nat)(fz:Nat×Nat):Prop:=fz.2<=fz.1\/(e=.int .u8/\n<=fz.1)
def HdrW(w:World)(F:Nat->Prop)(u:Value)(e:Ty)(l:List e.den):Prop:=
 ∃ ad cap,u=.slice ad l.length cap/\l.length<=cap/\cap<=maxLen /\
  (cap≠0->∃ b off c el fz,ad=some ⟨b,off,none⟩/\w.heap[b]?=some (.cells c el fz)/\eo e c.size fz/\off+cap*e.size<=c.size /\
   ∀ i (h:i<l.length),Rd w F e (seg c (off+i*e.size) e.size) l[i])
def cm(l:List Value):Prop:=l.Pairwise λu v=>∀ b,HB u b->HB v b->False
structure DeepW (w:World)(F:Nat->Prop)(u:Value)(hs:List Value)(e:Ty)(l:List (List e.den))(hole:Option Nat):Prop where
 len:hs.length=l.length
 outer:∃ ad cap,u=.slice ad l.length cap/\l.length<=cap/\cap<=maxLen /\
  (cap≠0->∃ b off c el fz,ad=some ⟨b,off,none⟩/\w.heap[b]?=some (.cells c el fz)/\eo (.slice e) c.size fz/\off+cap<=c.size /\
   ∀ i,i<l.length->hole≠some i->c[off+i]?=hs[i]?)
 inner:∀ i (h:i<l.length) v,hs[i]?=some v->hole≠some i->HdrW w F v e l[i]
 gone:∀ i v,hole=some i->hs[i]?=some v->v=.slice none 0 0
 apart:cm (u::hs)
def EntsW(w:World)(F:Nat->Prop)(k v:Ty)(es:List MapEntry)(l:List (k.den×v.den)):Prop:=
 es.length=l.length/\∀ i (h:i<es.length) (h':i<l.length),(∃ cs,es[i].key=toV k cs/\Rd w F k cs l[i].1)/\∃ cs,es[i].val=toV v cs/\Rd w F v cs l[i].2
def Stp(es:List MapEntry)(clock:Nat):Prop:=(es.map (·.born)).Pairwise (· < ·)/\∀ x∈es,x.born<clock
def cQ(m:Mem)(id:Nat):Obj->Prop
 |.dead=>True
 | .arr τ l=>∃ a cap,m.ι id=.slice a l.length cap/\l.length<=cap/\cap<=maxLen /\
   (cap≠0->∃ b off c el fz,a=some ⟨b,off,none⟩/\m.w.heap[b]?=some (.cells c el fz)/\eo τ c.size fz/\off+cap*τ.size<=c.size /\
    ∀ i (h:i<l.length),Rd m.w m.F τ (seg c (off+i*τ.size) τ.size) l[i])
 |.box l=>∃ b c el,m.ι id=.pointer (some ⟨b,0,none⟩)/\m.w.heap[b]?=some (.cells c el (0,0))/\(∀ u∈c.toList,u.oneCell'=true)/\Rel2 (ai m) c.toList l
 |.deep _ τ l hole=>∃ u hs,m.ι id=.tuple (u::hs).toArray/\DeepW m.w m.F u hs τ l hole
 | .map k v l=>(k≠.unit/\∃ b es clock,m.ι id=.map (some b)/\m.w.heap[b]?=some (.map es clock)/\EntsW m.w m.F k v es.toList l/\Stp es.toList clock) \/
   k=.unit/\∃ b x pos,m.ι id=.pointer (some ⟨b,0,none⟩)/\m.w.heap[b]?=some (.stringIter x pos)/\x.size<=maxLen/\yN k v l=some (x,(pos:Int))
def Alike:Obj->Obj->Prop
 |.arr τ l,.arr τ' l'=>τ=τ'/\l.length=l'.length
 |.box _,.box _=>True
 |.dead,.dead=>True
 |.deep ver τ l hole,.deep ver' τ' l' hole'=>ver=ver'/\τ=τ'/\l.length=l'.length/\hole=hole'
 |.map k v _,.map k' v' _=>k=k'/\v=v'
 |_,_=>False
theorem Alike.refl:∀ o,Alike o o
 |.arr _ _=>⟨rfl,rfl⟩
 |.box _=>trivial
 |.dead=>trivial
 |.deep ..=>⟨rfl,rfl,rfl,rfl⟩
 |.map ..=>⟨rfl,rfl⟩
theorem Alike.trans:∀{o p q:Obj},Alike o p->Alike p q->Alike o q
 |.arr _ _,.arr _ _,.arr _ _,⟨a,b⟩,⟨c,d⟩=>⟨a.trans c,b.trans d⟩
 |.box _,.box _,.box _,_,_=>trivial
 |.dead,.dead,.dead,_,_=>trivial
 |.deep ..,.deep ..,.deep ..,⟨a,b,c,d⟩,⟨a',b',c',d'⟩=>⟨a.trans a',b.trans b',c.trans c',d.trans d'⟩
 |.map ..,.map ..,.map ..,⟨a,b⟩,⟨c,d⟩=>⟨a.trans c,b.trans d⟩
theorem Alike.isObj:∀{o p:Obj},Alike o p->isObj p=isObj o
 |.arr _ _,.arr _ _,_=>rfl
 |.box _,.box _,_=>rfl
 |.dead,.dead,_=>rfl
 |.deep ..,.deep ..,_=>rfl
 |.map ..,.map ..,_=>rfl
theorem Alike.isDeep:∀{o p:Obj},Alike o p->isDeep p=isDeep o
 |.arr _ _,.arr _ _,_=>rfl
 |.box _,.box _,_=>rfl
 |.dead,.dead,_=>rfl
 |.deep ..,.deep ..,_=>rfl
 |.map ..,.map ..,_=>rfl
def lV(v v':Value):Obj->Obj->Prop
 |.deep ver τ l _,.deep ver' τ' l' _=>ver<ver'/\τ=τ'/\l.length=l'.length/\∃ us us',v=.tuple us/\v'=.tuple us'/\us[0]?=us'[0]?
 |_,_=>False
def Goon(v v':Value)(o o':Obj):Prop:=(v'=v/\Alike o o')\/lV v v' o o'
theorem Goon.refl(v:Value)(o:Obj):Goon v v o o:=.inl ⟨rfl,Alike.refl o⟩
theorem Goon.isObj{v v':Value}{o o':Obj}(h:Goon v v' o o'):isObj o'=isObj o:=by
 rcases h with⟨_,h⟩|h
 ·exact h.isObj
 cases o<;>cases o'<;>simp_all[lV,Go.Vm.isObj]
theorem Goon.isDeep{v v':Value}{o o':Obj}(h:Goon v v' o o'):isDeep o'=isDeep o:=by
 rcases h with⟨_,h⟩|h
 ·exact h.isDeep
 cases o<;>cases o'<;>simp_all[lV,Go.Vm.isDeep]
theorem Goon.same{v v':Value}{o o':Obj}(h:Goon v v' o o')(hd:Go.Vm.isDeep o=false):v'=v/\Alike o o':=by
 rcases h with h|h
 ·exact h
 cases o<;>cases o'<;>simp_all[lV,Go.Vm.isDeep]
theorem Goon.trans{v v' v'':Value}{o p q:Obj}(h:Goon v v' o p)(k:Goon v' v'' p q):Goon v v'' o q:=by
 rcases h with⟨rfl,h⟩|h<;>rcases k with⟨rfl,k⟩|k
 ·exact .inl ⟨rfl,h.trans k⟩
 ·refine .inr ?_;cases o<;>cases p<;>cases q<;>simp only[lV,Alike]at h k ⊢<;>try exact h.elim
  all_goals try exact k.elim
  obtain⟨rfl,rfl,h3,rfl⟩:=h;obtain⟨k1,rfl,k3,k4⟩:=k;exact⟨k1,rfl,h3.trans k3,k4⟩
 ·refine .inr ?_;cases o<;>cases p<;>cases q<;>simp only[lV,Alike]at h k ⊢<;>try exact h.elim
  all_goals try exact k.elim
  obtain⟨rfl,rfl,k3,rfl⟩:=k;obtain⟨h1,rfl,h3,h4⟩:=h;exact⟨h1,rfl,h3.trans k3,h4⟩
 refine .inr ?_;cases o<;>cases p<;>cases q<;>simp only[lV,Alike]at h k ⊢<;>try exact h.elim
 all_goals try exact k.elim
 obtain⟨h1,rfl,h3,us,us',rfl,rfl,h4⟩:=h;obtain⟨k1,rfl,k3,vs,vs',hv,rfl,k4⟩:=k;simp only[Value.tuple.injEq]at hv;subst hv;exact⟨by omega,rfl,h3.trans k3,us,vs',rfl,rfl,h4.trans k4⟩
structure Evo (m m':Mem):Prop where
 fro:∀ b,m.F b->m'.F b/\m'.w.heap[b]?=m.w.heap[b]?
 get:∀ id o,m.G.get id=some o->∃ o',m'.G.get id=some o'/\(o'=.dead\/Goon (m.ι id) (m'.ι id) o o')
theorem Evo.refl(m:Mem):Evo m m:=⟨λ_ h=>⟨h,rfl⟩,λ_ o h=>⟨o,h,.inr (Goon.refl _ o)⟩⟩
theorem gV{m m':Mem}(he:Evo m m'){id:Nat}{o:Obj}{q:Obj->Prop}(ho:m.G.get id=some o)(hd:q .dead)(hg:∀ o',Goon (m.ι id) (m'.ι id) o o'->q o'):∃ o',m'.G.get id=some o'/\q o':=by
 obtain⟨o',ho',h|h⟩:=he.get id o ho
 ·subst h;exact⟨_,ho',hd⟩
 exact⟨o',ho',hg o' h⟩
theorem bq{m m':Mem}(he:Evo m m'){v:Value}:∀{a:Atom},ai m v a->ai m' v a
 |.u,_=>trivial
 |.undef,h=>h
 |.nils _,h=>h
 |.val _ _,h=>⟨h.1.mono he.fro,h.2⟩
 |.own id,h=>by
  obtain⟨hone,o,ho,hv⟩:=h;refine⟨hone,gV he (q:=λo=>isObj o=true->v=m'.ι id) ho (by simp[isObj]) ?_⟩;intro o' hg hi;rcases hg with⟨h1,h2⟩|h2
  ·rw[h1];exact hv (by rw[<- h2.isObj];exact hi)
  cases o<;>cases o'<;>simp only[lV]at h2;obtain⟨_,_,_,us,us',h3,h4,_⟩:=h2;have:=hv rfl;rw[this,h3]at hone;simp[Value.oneCell']at hone
 |.view id off len,h=>by
  obtain⟨hone,o,ho,hv⟩:=h;refine⟨hone,gV he ho trivial ?_⟩;intro o' hg;cases o with
  |arr τ l=>obtain⟨hι,ha⟩:=hg.same rfl;rw[hι];cases o'<;>simp_all[Alike]
  |dead=>obtain⟨_,ha⟩:=hg.same rfl;cases o'<;>simp_all[Alike]
  |_=>exact hv.elim
 |.ptr id off,h=>by
  obtain⟨hone,o,ho,hv⟩:=h;refine⟨hone,gV he ho trivial ?_⟩;intro o' hg;cases o with
  |box l=>obtain⟨hι,ha⟩:=hg.same rfl;rw[hι];cases o'<;>simp_all[Alike]
  |dead=>obtain⟨_,ha⟩:=hg.same rfl;cases o'<;>simp_all[Alike]
  |_=>exact hv.elim
 |.aptr id j p,h=>by
  obtain⟨hone,o,ho,hv⟩:=h;refine⟨hone,gV he ho trivial ?_⟩;intro o' hg;cases o with
  |arr τ l=>
   obtain⟨hι,ha⟩:=hg.same rfl;rw[hι];cases o' with
   |arr τ' l'=>obtain⟨rfl,hl⟩:=ha;exact⟨hl▸hv.1,hv.2⟩
   |_=>exact ha.elim
  |dead=>obtain⟨_,ha⟩:=hg.same rfl;cases o'<;>simp_all[Alike]
  |deep ver τ l hole=>
   obtain⟨h1,h2,b,off,n,cap,us,h3,h4,h5⟩:=hv;rcases hg with⟨hι,ha⟩|hm
   ·cases o' with
    |deep ver' τ' l' hole'=>obtain⟨_,rfl,hl,_⟩:=ha;exact⟨hl▸h1,h2,b,off,n,cap,us,hι▸h3,h4,h5⟩
    |_=>exact ha.elim
   cases o' with
   |deep ver' τ' l' hole'=>obtain⟨_,rfl,hl,vs,vs',h6,h7,h8⟩:=hm;rw[h3]at h6;simp only[Value.tuple.injEq]at h6;subst h6;exact⟨hl▸h1,h2,b,off,n,cap,vs',h7,h8▸h4,h5⟩
   |_=>exact hm.elim
  |_=>exact hv.elim
 |.cut id off len,h=>by
  obtain⟨hone,o,ho,hv⟩:=h;refine⟨hone,gV he ho trivial ?_⟩;intro o' hg;cases o with
  |arr τ l=>
   obtain⟨hι,ha⟩:=hg.same rfl;rw[hι];cases o' with
   |arr τ' l'=>obtain⟨rfl,hl⟩:=ha;exact⟨hl▸hv.1,hv.2⟩
   |_=>exact ha.elim
  |dead=>obtain⟨_,ha⟩:=hg.same rfl;cases o'<;>simp_all[Alike]
  |_=>exact hv.elim
 |.bnd f l,h=>by obtain⟨us,h1,h0,h2⟩:=h;exact⟨us,h1,h0,h2.mono λu p hp=>⟨hp.1.mono he.fro,hp.2⟩⟩
 |.clo f caps,h=>by
  obtain⟨vs,hv,hr⟩:=h;refine⟨vs,hv,hr.mono ?_⟩;rintro u c ⟨o,ho,hv⟩;refine gV he ho trivial ?_;intro o' hg;cases o with
  |box l=>obtain⟨hι,ha⟩:=hg.same rfl;rw[hι];cases o'<;>simp_all[Alike]
  |dead=>obtain⟨_,ha⟩:=hg.same rfl;cases o'<;>simp_all[Alike]
  |_=>exact hv.elim
 |.ownd id,h=>by
  obtain⟨hone,o,ho,hv⟩:=h;refine⟨hone,gV he ho trivial ?_⟩;intro o' hg;cases o with
  |dead=>obtain⟨_,ha⟩:=hg.same rfl;cases o'<;>simp_all[Alike]
  |deep ver τ l hole=>
   obtain⟨us,h3,h4⟩:=hv;rcases hg with⟨hι,ha⟩|hm
   ·cases o' with
    |deep ver' τ' l' hole'=>exact⟨us,hι▸h3,h4⟩
    |_=>exact ha.elim
   cases o' with
   |deep ver' τ' l' hole'=>obtain⟨_,rfl,hl,vs,vs',h6,h7,h8⟩:=hm;rw[h3]at h6;simp only[Value.tuple.injEq]at h6;subst h6;exact⟨vs',h7,h8▸h4⟩
   |_=>exact hm.elim
  |_=>exact hv.elim
 |.sub id ver j,h=>by
  obtain⟨hone,o,ho,hv⟩:=h;refine⟨hone,gV he ho trivial ?_⟩;intro o' hg;cases o with
  |dead=>obtain⟨_,ha⟩:=hg.same rfl;cases o'<;>simp_all[Alike]
  |deep ver1 τ l hole=>
   obtain⟨h1,h2⟩:=hv;rcases hg with⟨hι,ha⟩|hm
   ·cases o' with
    |deep ver' τ' l' hole'=>obtain⟨rfl,rfl,hl,rfl⟩:=ha;exact⟨h1,λe=>by rw[hι,<- hl];exact h2 e⟩
    |_=>exact ha.elim
   cases o' with
   |deep ver' τ' l' hole'=>exact⟨by have:=hm.1;omega,λe=>by have:=hm.1;omega⟩
   |_=>exact hm.elim
  |_=>exact hv.elim
 |.saptr id ver j k,h=>by
  obtain⟨hone,o,ho,hv⟩:=h;refine⟨hone,gV he ho trivial ?_⟩;intro o' hg;cases o with
  |dead=>obtain⟨_,ha⟩:=hg.same rfl;cases o'<;>simp_all[Alike]
  |deep ver1 τ l hole=>
   obtain⟨h1,h2⟩:=hv;rcases hg with⟨hι,ha⟩|hm
   ·cases o' with
    |deep ver' τ' l' hole'=>obtain⟨rfl,rfl,hl,rfl⟩:=ha;exact⟨h1,λe=>by rw[hι,<- hl];exact h2 e⟩
    |_=>exact ha.elim
   cases o' with
   |deep ver' τ' l' hole'=>exact⟨by have:=hm.1;omega,λe=>by have:=hm.1;omega⟩
   |_=>exact hm.elim
  |_=>exact hv.elim
 |.ownm id,h=>by
  obtain⟨hone,o,ho,hv⟩:=h;refine⟨hone,gV he ho trivial ?_⟩;intro o' hg;cases o with
  |dead=>obtain⟨_,ha⟩:=hg.same rfl;cases o'<;>simp_all[Alike]
  |map k x l=>
   obtain⟨hι,ha⟩:=hg.same rfl;cases o' with
   |map k' x' l'=>rw[hι];exact hv
   |_=>exact ha.elim
  |_=>exact hv.elim
 |.iptr id off n idx k,h=>by
  obtain⟨hone,o,ho,hv⟩:=h;refine⟨hone,gV he ho trivial ?_⟩;intro o' hg;cases o with
  |dead=>obtain⟨_,ha⟩:=hg.same rfl;cases o'<;>simp_all[Alike]
  |box l=>
   obtain⟨hι,ha⟩:=hg.same rfl;cases o' with
   |box l'=>rw[hι];exact hv
   |_=>exact ha.elim
  |_=>exact hv.elim
theorem cI{m m':Mem}(he:Evo m m'){vs:List Value}{l:List Atom}(h:Rel2 (ai m) vs l):Rel2 (ai m') vs l:=h.mono λ_ _=>bq he
theorem RelSV.of_atom{m:Mem}{v:Value}{a:Atom}(h:ai m v a):RelSV m v (.av a):=by
 cases a with
 |val τ x=>obtain⟨h,ha⟩:=h;exact⟨[v],by simp[toV,ha],h⟩
 |_=>exact h
theorem ao{m:Mem}{v:Value}{a:Atom}(h:∀ τ x,a≠.val τ x):RelSV m v (.av a)↔ai m v a:=by
 cases a<;>first|exact Iff.rfl|exact absurd rfl (h _ _)
theorem fm{m m':Mem}(he:Evo m m'){v:Value}:∀{s:SV},RelSV m v s->RelSV m' v s
 |.av a,h=>by
  cases a with
  |val τ x=>obtain⟨cs,h1,h2⟩:=h;exact⟨cs,h1,h2.mono he.fro⟩
  |_=>exact(ao (by intros;simp)).2 (bq he ((ao (by intros;simp)).1 h))
 |.agg l,h=>by obtain⟨us,h1,h0,h2⟩:=h;exact⟨us,h1,h0,cI he h2⟩
 |.tup l,h=>by
  obtain⟨us,h1,h2⟩:=h;refine⟨us,h1,h2.mono ?_⟩;rintro v ⟨b,l⟩ hv;cases b with
  |true=>obtain⟨us,h1,h0,h2⟩:=hv;exact⟨us,h1,h0,cI he h2⟩
  |false=>obtain⟨a,h1,h2⟩:=hv;exact⟨a,h1,bq he h2⟩
theorem HdrW.mono{w w':World}{F F':Nat->Prop}{u:Value}{e:Ty}{l:List e.den}(hF:∀ b,F b->F' b/\w'.heap[b]?=w.heap[b]?)(hu:∀ b,HB u b->w'.heap[b]?=w.heap[b]?)(h:HdrW w F u e l):HdrW w' F' u e l:=by obtain⟨ad,cap,rfl,h2,h3,h4⟩:=h;refine⟨ad,cap,rfl,h2,h3,λhc=>?_⟩;obtain⟨b,off,c,el,fz,rfl,q2,q3,q4,q5⟩:=h4 hc;refine⟨b,off,c,el,fz,rfl,?_,q3,q4,λi hi=>(q5 i hi).mono hF⟩;rw[hu b (by simp[HB,HB1,hc])];exact q2
theorem HdrW.slice{w:World}{F:Nat->Prop}{u:Value}{e:Ty}{l:List e.den}(h:HdrW w F u e l):∃ ad cap,u=.slice ad l.length cap:=by obtain⟨ad,cap,h,_⟩:=h;exact⟨ad,cap,h⟩
theorem DeepW.mono {w w':World}{F F':Nat->Prop}{u:Value}{hs:List Value}{e:Ty}{l:List (List e.den)}{hole:Option Nat}(hF:∀ b,F b->F' b/\w'.heap[b]?=w.heap[b]?)
  (hu:∀ v∈u::hs,∀ b,HB v b->w'.heap[b]?=w.heap[b]?) (h:DeepW w F u hs e l hole):DeepW w' F' u hs e l hole:=by
 refine⟨h.len,?_,λi hi v hv hne=>(h.inner i hi v hv hne).mono hF (hu v (Jq _ (Jv hv))),h.gone,h.apart⟩;obtain⟨ad,cap,rfl,h2,h3,h4⟩:=h.outer;refine⟨ad,cap,rfl,h2,h3,λhc=>?_⟩;obtain⟨b,off,c,el,fz,rfl,q2,q3,q4,q5⟩:=h4 hc;refine⟨b,off,c,el,fz,rfl,?_,q3,q4,q5⟩;rw[hu _ (JH ..) b (by simp[HB,HB1,hc])];exact q2
theorem DeepW.slices{w:World}{F:Nat->Prop}{u:Value}{hs:List Value}{e:Ty}{l:List (List e.den)}{hole:Option Nat}(h:DeepW w F u hs e l hole):∀ v∈u::hs,∃ ad n cap,v=.slice ad n cap:=by
 intro v hv;rcases A8.1 hv with rfl|hv
 ·obtain⟨ad,cap,rfl,_⟩:=h.outer;exact⟨_,_,_,rfl⟩
 obtain⟨i,hi,rfl⟩:=K1 hv;by_cases hh:hole=some i
 ·exact⟨_,_,_,h.gone i _ hh (A1 hi)⟩
 obtain⟨ad,cap,e,_⟩:=h.inner i (h.len▸hi) _ (A1 hi) hh;exact⟨_,_,_,e⟩
theorem bY{us:List Value}{b:Nat}(h:∀ v∈us,v.oneCell'=true):HB (.tuple us.toArray) b↔∃ v∈us,HB v b:=by
 constructor
 ·rintro⟨u,hu,hb⟩;exact⟨u,by simpa using hu,(DU (h u (by simpa using hu))).2 hb⟩
 rintro⟨u,hu,hb⟩;exact⟨u,by simpa using hu,(DU (h u hu)).1 hb⟩
theorem DeepW.one{w:World}{F:Nat->Prop}{u:Value}{hs:List Value}{e:Ty}{l:List (List e.den)}{hole:Option Nat}(h:DeepW w F u hs e l hole):∀ v∈u::hs,v.oneCell'=true:=λv hv=>by obtain⟨ad,n,cap,rfl⟩:=h.slices v hv;rfl
theorem EntsW.mono{w w':World}{F F':Nat->Prop}{k v:Ty}{es:List MapEntry}{l:List (k.den×v.den)}(hF:∀ b,F b->F' b/\w'.heap[b]?=w.heap[b]?)(h:EntsW w F k v es l):EntsW w' F' k v es l:=
 ⟨h.1,λi h1 h2=>by
  obtain⟨⟨c1,q1,q2⟩,c2,q3,q4⟩:=h.2 i h1 h2;exact⟨⟨c1,q1,q2.mono hF⟩,c2,q3,q4.mono hF⟩⟩
theorem bL {m m':Mem}(he:Evo m m'){id:Nat}{o:Obj}(hι : m'.ι id=m.ι id)(hb:∀ b,HB (m.ι id) b->m'.w.heap[b]?=m.w.heap[b]?)
  (h:cQ m id o):cQ m' id o:=by
 cases o with
 |dead=>trivial
 |arr τ l=>have h:HdrW m.w m.F (m.ι id) τ l:=h;show HdrW m'.w m'.F (m'.ι id) τ l;rw[hι];exact h.mono he.fro hb
 |box l=>obtain⟨b,c,el,h1,h2,h0,h3⟩:=h;refine⟨b,c,el,by rw[hι,h1],?_,h0,cI he h3⟩;rw[hb b (by rw[h1];simp[HB,HB1])];exact h2
 |deep ver τ l hole=>obtain⟨u,hs,h1,h2⟩:=h;refine⟨u,hs,by rw[hι,h1],h2.mono he.fro λv hv b hvb=>hb b ?_⟩;rw[h1,bY h2.one];exact⟨v,hv,hvb⟩
 |map k v l=>
  rcases h with⟨h0,b,es,clock,h1,h2,h4⟩|⟨h0,b,x,pos,h1,h2,h4⟩
  ·refine .inl ⟨h0,b,es,clock,by rw[hι,h1],?_,h4.1.mono he.fro,h4.2⟩;rw[hb b (by rw[h1];simp[HB,HB1])];exact h2
  refine .inr ⟨h0,b,x,pos,by rw[hι,h1],?_,h4⟩;rw[hb b (by rw[h1];simp[HB,HB1])];exact h2
structure Kept (w0:World)(M:Nat->Prop)(w:World):Prop where
 os:w.os=w0.os
 tape:w.tape=w0.tape
 output:w.output=w0.output
 size:w0.heap.size<=w.heap.size
 block:∀ b,b<w0.heap.size->¬M b->w.heap[b]?=w0.heap[b]?
theorem Kept.refl(w:World)(M:Nat->Prop):Kept w M w:=⟨rfl,rfl,rfl,B2 _,λ_ _ _=>rfl⟩
structure Own where
 wr:Nat->Prop
 rd:Nat->Prop
 pin:Nat->Option Value
 base:Option Mem
def nr(M:Own)(m:Mem):Prop:=(∀ i v,M.pin i=some v->∃ o,m.G.get i=some o/\(isObj o=true->m.ι i=v/\isDeep o=false))/\∀ m0,M.base=some m0->Evo m0 m
instance : CoeFun Own λ_=>Nat->Prop:=⟨Own.wr⟩
structure Inv (C:Ctx)(w0:World)(M:Own)(m:Mem):Prop where
 kept:Kept w0 M.wr m.w
 objs:∀ id o,m.G.get id=some o->cQ m id o
 own:∀ id o b,m.G.get id=some o->isObj o=true->HB (m.ι id) b->(w0.heap.size<=b\/M b)/\¬m.F b/\b<m.w.heap.size
 inj:∀ i j o p b,m.G.get i=some o->isObj o=true->m.G.get j=some p->isObj p=true->HB (m.ι i) b->HB (m.ι j) b->i=j
 fro:∀ b,m.F b->b<m.w.heap.size
 glob:∀ g τ x,fJ C.glob g=some ⟨τ,x⟩->Rd m.w m.F (.ptr τ) [.pointer (some ⟨g,0,none⟩)] x
 bnd:∀ b,m.F b->M.rd b\/M.wr b\/w0.heap.size<=b
 pin:nr M m
theorem EZ{m m':Mem}(he:Evo m m'){i:Nat}{v:Value}(h:∃ o,m.G.get i=some o/\(isObj o=true->m.ι i=v/\isDeep o=false)):∃ o,m'.G.get i=some o/\(isObj o=true->m'.ι i=v/\isDeep o=false):=by
 obtain⟨o,h1,h2⟩:=h;obtain⟨o',h3,h4⟩:=he.get i o h1;refine⟨o',h3,λhob=>?_⟩;rcases h4 with rfl|h5
 ·simp[isObj]at hob
 obtain⟨h6,h7⟩:=h2 (by rw[<- h5.isObj];exact hob);exact⟨(h5.same h7).1.trans h6,by rw[h5.isDeep];exact h7⟩
theorem Evo.trans{m m1 m2:Mem}(a5:Evo m m1)(b5:Evo m1 m2):Evo m m2:=by
 refine⟨λb hb=>?_,λk p hp=>?_⟩
 ·obtain⟨c1,c2⟩:=a5.fro b hb;obtain⟨d1,d2⟩:=b5.fro b c1;exact⟨d1,d2.trans c2⟩
 obtain⟨p1,c1,c2⟩:=a5.get k p hp;obtain⟨p2,d1,d2⟩:=b5.get k p1 c1;refine⟨p2,d1,?_⟩;rcases d2 with rfl|d2
 ·exact .inl rfl
 rcases c2 with rfl|c2
 ·refine .inl ?_;obtain⟨_,d3⟩:=d2.same rfl;cases p2<;>simp_all[Alike]
 exact .inr (c2.trans d2)
theorem bI{M:Own}{m m':Mem}(he:Evo m m')(h:nr M m):nr M m':=⟨λi v hv=>EZ he (h.1 i v hv),λm0 h0=>(h.2 m0 h0).trans he⟩
structure Sim (C:Ctx)(w0:World)(M:Own)(N:Nat)(a:Act)(m:Mem)(e:Env):Prop where
 inv:Inv C w0 M m
 defers:a.defers=[]
 size:N<=a.tmps.size
 env:∀ t,RelSV m (a.tmps.getD t undef) (e.get t)
theorem Heap.get_cons(i:Nat)(o:Obj)(G:Heap)(j:Nat):Heap.get ((i,o)::G) j=if i=j then some o else G.get j:=by
 simp only[Heap.get_nil0,Heap.get_pair];cases h:A7 i j with
 |true=>simp[A3 h]
 |false=>simp[LP h]
theorem Heap.has_of_get{G:Heap}:∀{i:Nat} {o:Obj},G.get i=some o->G.has i=true:=by
 induction G with
 |nil=>intro i o h;simp[Heap.get_nil0,Heap.get_pair]at h
 |cons p r ih=>
  intro i o h;obtain⟨k,v⟩:=p;simp only[Heap.get_nil0,Heap.get_pair]at h;simp only[Heap.has_nil0,Heap.has_pair];cases hk:A7 k i with
  |true=>rfl
  |false=>rw[hk]at h;exact ih h
theorem Env.get_cons(i:Nat)(v:SV)(e:Env)(j:Nat):Env.get ((i,v)::e) j=if i=j then v else e.get j:=by
 simp only[Env.get_nil0,Env.get_pair];cases h:A7 i j with
 |true=>simp[A3 h]
 |false=>simp[LP h]
theorem iC {C:Ctx}{w0:World}{M:Own}{m:Mem}(hi:Inv C w0 M m){w1:World}(hw:Kept m.w (fun _=>False) w1){i:Nat}{o:Obj}{h:Value}
  (hn:m.G.get i=none) (hb:∀ b,HB h b->m.w.heap.size<=b/\b<w1.heap.size)
  (ho:cQ ⟨w1,m.F,λk=>if k=i then h else m.ι k,(i,o)::m.G⟩ i o) :
  Inv C w0 M ⟨w1,m.F,λk=>if k=i then h else m.ι k,(i,o)::m.G⟩/\Evo m ⟨w1,m.F,λk=>if k=i then h else m.ι k,(i,o)::m.G⟩:=by
 have hold:∀ b,b<m.w.heap.size->w1.heap[b]?=m.w.heap[b]?:=λb hb=>hw.block b hb (λh=>h);have he:Evo m ⟨w1,m.F,λk=>if k=i then h else m.ι k,(i,o)::m.G⟩:=by
  refine⟨λb hF=>⟨hF,hold b (hi.fro b hF)⟩,λid p hp=>?_⟩;have hne:i≠id:=λe=>by subst e;rw[hn]at hp;cases hp
  refine⟨p,by rw[Heap.get_cons,if_neg hne];exact hp,.inr (.inl ⟨by simp[Ne.symm hne],Alike.refl p⟩)⟩
 refine⟨?_,he⟩;refine⟨?_,?_,?_,?_,?_,?_,hi.bnd,bI he hi.pin⟩
 ·refine⟨hw.os.trans hi.kept.os,hw.tape.trans hi.kept.tape,hw.output.trans hi.kept.output,Lv hi.kept.size hw.size,λb hb hM=>?_⟩;have:=hi.kept.size;exact(hold b (by omega)).trans (hi.kept.block b hb hM)
 ·intro id p hp;rw[Heap.get_cons]at hp;split at hp
  ·rename_i e;subst e;simp at hp;subst hp;exact ho
  rename_i hne;by_cases hop:isObj p=true
  ·refine bL he (by simp[Ne.symm hne]) (λb hb=>hold b (hi.own id p b hp hop hb).2.2) (hi.objs id p hp)
  cases p<;>simp_all[isObj,cQ]
 ·intro id p b hp hop hbl;rw[Heap.get_cons]at hp;split at hp
  ·rename_i e;subst e
   have hbl':HB h b:=by simpa using hbl
   obtain⟨h1,h2⟩:=hb b hbl';have:=hi.kept.size;exact⟨.inl (by omega),λhF=>by have:=hi.fro b hF;omega,h2⟩
  rename_i hne;have hbl':HB (m.ι id) b:=by simpa[Ne.symm hne]using hbl
  obtain⟨h1,h2,h3⟩:=hi.own id p b hp hop hbl';exact⟨h1,h2,JQ h3 hw.size⟩
 ·intro j k p q b hp hop hq hoq hj hk;rw[Heap.get_cons]at hp hq;split at hp<;>split at hq
  ·omega
  ·rename_i e hne;subst e
   have h1:HB h b:=by simpa using hj
   have h2:HB (m.ι k) b:=by simpa[Ne.symm hne]using hk
   have:=(hi.own k q b hq hoq h2).2.2;have:=(hb b h1).1;omega
  ·rename_i hne e;subst e
   have h1:HB h b:=by simpa using hk
   have h2:HB (m.ι j) b:=by simpa[Ne.symm hne]using hj
   have:=(hi.own j p b hp hop h2).2.2;have:=(hb b h1).1;omega
  rename_i n1 n2;exact hi.inj j k p q b hp hop hq hoq (by simpa[Ne.symm n1]using hj) (by simpa[Ne.symm n2]using hk)
 ·intro b hF;exact JQ (hi.fro b hF) hw.size
 intro g τ x hg;exact(hi.glob g τ x hg).mono he.fro
theorem yQ {C:Ctx}{w0:World}{M:Own}{m:Mem}(hi:Inv C w0 M m){i:Nat}{o:Obj}(hg:m.G.get i=some o) :
  let m':Mem:=⟨m.w,λb=>m.F b\/(isObj o=true/\HB (m.ι i) b),m.ι,(i,.dead)::m.G⟩
  Inv C w0 M m'/\Evo m m':=by
 intro m';have he:Evo m m':=by
  refine⟨λb hF=>⟨.inl hF,rfl⟩,λid p hp=>?_⟩;by_cases e:i=id
  ·exact⟨.dead,by show Heap.get ((i,.dead)::m.G) id=_;rw[Heap.get_cons,if_pos e],.inl rfl⟩
  exact⟨p,by show Heap.get ((i,.dead)::m.G) id=_;rw[Heap.get_cons,if_neg e];exact hp,.inr (Goon.refl _ p)⟩
 refine⟨⟨hi.kept,?_,?_,?_,?_,?_,?_,bI he hi.pin⟩,he⟩
 ·intro id p hp;change Heap.get ((i,.dead)::m.G) id=_ at hp;rw[Heap.get_cons]at hp;split at hp
  ·simp at hp;subst hp;trivial
  exact bL he rfl (λ_ _=>rfl) (hi.objs id p hp)
 ·intro id p b hp hop hbl;change Heap.get ((i,.dead)::m.G) id=_ at hp;rw[Heap.get_cons]at hp;split at hp
  ·simp at hp;subst hp;simp[isObj]at hop
  rename_i hne;obtain⟨h1,h2,h3⟩:=hi.own id p b hp hop hbl;refine⟨h1,?_,h3⟩;rintro(hF|⟨hio,hbi⟩)
  ·exact h2 hF
  exact hne (hi.inj i id o p b hg hio hp hop hbi hbl)
 ·intro j k p q b hp hop hq hoq hj hk;change Heap.get ((i,.dead)::m.G) _=_ at hp hq;rw[Heap.get_cons]at hp hq;split at hp
  ·simp at hp;subst hp;simp[isObj]at hop
  split at hq
  ·simp at hq;subst hq;simp[isObj]at hoq
  exact hi.inj j k p q b hp hop hq hoq hj hk
 ·rintro b (hF|⟨hio,hbi⟩)
  ·exact hi.fro b hF
  exact(hi.own i o b hg hio hbi).2.2
 ·intro g τ x hx;exact(hi.glob g τ x hx).mono he.fro
 rintro b (hF|⟨hio,hbi⟩)
 ·exact hi.bnd b hF
 rcases(hi.own i o b hg hio hbi).1 with h|h
 ·exact .inr (.inr h)
 exact .inr (.inl h)
end Go.Vm

/-
 The table of types against the program's; the model's loads and stores at a typed place.
-/
namespace Go.Vm
def zeroIs:Ty->List Value->Option (List Value)
 |.int k,.int k' n::r=>cond (decide (k'=k)&&decide (n=0)) (some r) none
 |.bool,.bool b::r=>cond b none (some r)
 |.str,.string s::r=>cond (A7 s.size 0) (some r) none
 |.slice _,.slice none 0 0::r=>some r
 |.ptr _,.pointer none::r=>some r
 |.clo _ _,.nilFunc::r=>some r
 |.prod a b,l=>match zeroIs a l with
  |some r=>zeroIs b r
  |none=>none
 |.unit,l=>some l
 |.arr n e,l=>repO (zeroIs e) n l
 |_,_=>none
where
 repO (f:List Value->Option (List Value)):Nat->List Value->Option (List Value)
  |0,l=>some l
  |k+1,l=>match f l with
   |some r=>repO f k r
   |none=>none
def gM(P:Program)(τ:Ty)(t:TypeId):Bool:=match P.info? t with
 |some i=>A7 i.size τ.size&&decide (i.bytes<=2048)&&(match i.zero with
  |some z=>(match zeroIs τ z.cells.toList with|some []=>true|_=>false)&&(match z with|.agg _=>τ.isAgg|.tuple _=>false|_=>!τ.isAgg)
  |none=>false)
 |none=>false
def chk(P:Program):Ty->Option (List Field×Nat)->TypeId->Bool
 |.int k,none,t=>gM P (.int k) t&&(match P.underlying t with|some (.int k')=>decide (k'=k)|_=>false)
 |.bool,none,t=>gM P .bool t&&(match P.underlying t with|some .bool=>true|_=>false)
 |.str,none,t=>gM P .str t&&(match P.underlying t with|some .string=>true|_=>false)
 |.slice e,none,t=>gM P (.slice e) t&&(match P.underlying t with|some (.slice et)=>e.noPC&&chk P e none et|_=>false)
 |.ptr e,none,t=>gM P (.ptr e) t&&(match P.underlying t with|some (.pointer _)=>true|_=>false)
 |.clo g e,none,t=>gM P (.clo g e) t&&(match P.underlying t with|some (.func _ _ _)=>true|_=>false)
 |.arr n e,none,t=>gM P (.arr n e) t&&(match P.underlying t with|some (.array n' et)=>A7 n' n&&chk P e none et|_=>false)
 |.prod a b,none,t=>gM P (.prod a b) t&&(match P.underlying t with
  |some (.struct fs)=>(match fs.toList with
   |f::r=>A7 f.offset 0&&chk P a none f.type&&chk P b (some (r,a.size)) 0
   |[]=>false)
  |_=>false)
 |.unit,none,t=>gM P .unit t&&(match P.underlying t with
  |some (.struct fs)=>(match fs.toList with|[]=>true|_=>false)
  |_=>false)
 |.prod a b,some (f::r,o),_=>A7 f.offset o&&chk P a none f.type&&chk P b (some (r,o+a.size)) 0
 |.unit,some ([],_),_=>true
 |_,_,_=>false
def E6(P:Program)(t:TypeId):Bool:=(match P.info? t with
 |some i=>A7 i.size 1&&(match i.zero with
  |some .nilFunc=>true
  |_=>false)
 |none=>false)&&(match P.underlying t with
  |some (.func _ _ _)=>true
  |_=>false)
def cb(P:Program)(T:Tab):Bool:=T.all λp=>cond p.2.isClo (E6 P p.1) (chk P p.2 none p.1)
theorem vn{P:Program}{T:Tab}(h:cb P T=true){t:Nat}{τ:Ty}(hg:T.get t=some τ):cond τ.isClo (E6 P t) (chk P τ none t)=true:=by
 induction T with
 |nil=>simp[Tab.get]at hg
 |cons p r ih=>
  obtain⟨k,v⟩:=p;simp only[cb,List.all_cons,np]at h;simp only[Tab.get]at hg;cases hk:A7 k t with
  |true=>rw[hk]at hg;simp at hg;subst hg;rw[<- A3 hk];exact h.1
  |false=>rw[hk]at hg;exact ih h.2 hg
theorem aj{P:Program}{T:Tab}(h:cb P T=true){t:Nat}{τ:Ty}(hg:T.get t=some τ)(hn:τ.isClo=false:=by first|rfl|assumption):chk P τ none t=true:=by have:=vn h hg;rw[hn]at this;exact this
theorem yK{τ:Ty}(h:τ.isAgg=true):τ.isClo=false:=by cases τ<;>simp_all[Ty.isAgg,Ty.isClo]
theorem jm{τ:Ty}{f:Nat}{x:Nat×Ty}(h:τ.field f=some x):τ.isClo=false:=by cases τ<;>simp_all[Ty.field,Ty.isClo]
section
variable {P:Program}
theorem Cs{τ:Ty}{t:TypeId}(h:chk P τ none t=true):gM P τ t=true:=by
 cases τ<;>simp only[chk,np,JS]at h<;>first|exact h.1|exact h.elim
theorem dn {τ : Ty}{t:TypeId}(h:chk P τ none t=true) :
  ∃ i z,P.info? t=some i/\i.size=τ.size/\i.bytes<=2048/\i.zero=some z/\zeroIs τ z.cells.toList=some []/\(τ.isAgg=true->∃ c,z=.agg c)/\(τ.isAgg=false->z.cells=#[z]):=by
 have hi:=Cs h;unfold gM at hi;cases hp:P.info? t with
 |none=>rw[hp]at hi;simp at hi
 |some i=>
  rw[hp]at hi;simp only[np,decide_eq_true_eq]at hi;obtain⟨⟨h1,h2⟩,h3⟩:=hi;cases hz:i.zero with
  |none=>rw[hz]at h3;simp at h3
  |some z=>
   rw[hz]at h3;simp only[np]at h3;obtain⟨h3,h4⟩:=h3;refine⟨i,z,rfl,A3 h1,h2,hz,?_,?_,?_⟩
   ·split at h3<;>simp_all
   ·intro ha;cases z<;>simp_all
   intro ha;cases z<;>simp_all[Value.cells]
theorem bt{τ:Ty}{t:TypeId}(h:chk P τ none t=true)(w:World):(sizeOf t).run P w=.ok τ.size w:=by obtain⟨i,z,h1,h2,_⟩:=dn h;simp[sizeOf,typeInfo,h1,h2]
theorem rk{τ:Ty}{t:TypeId}(h:chk P τ none t=true):∃ z,zeroIs τ z.cells.toList=some []/\(τ.isAgg=true->∃ c,z=.agg c)/\(τ.isAgg=false->z.cells=#[z])/\∀ w,(zeroValue t).run P w=.ok z w:=by obtain⟨i,z,h1,_,_,h4,h5,h6,h7⟩:=dn h;exact⟨z,h5,h6,h7,λw=>by simp[zeroValue,typeInfo,h1,h4]⟩
theorem k8{τ:Ty}{t:TypeId}(h:chk P τ none t=true):∃ d,P.underlying t=some d/\(match d with|.struct _|.array _ _=>true|_=>false)=τ.isAgg:=by
 cases τ<;>simp only[chk,np,JS]at h;all_goals first
  |exact h.elim
  | (obtain⟨_,h⟩:=h
     cases hu:P.underlying t with
     |none=>rw[hu]at h;simp at h
     |some d=>
     rw[hu]at h;refine⟨d,rfl,?_⟩;cases d<;>simp_all[Ty.isAgg])
theorem cV{τ:Ty}{t:TypeId}(h:chk P τ none t=true)(w:World):(isAgg t).run P w=.ok τ.isAgg w:=by obtain⟨d,hu,hd⟩:=k8 h;unfold isAgg;rw[Sem.run_bind,run_underlying hu w];cases d<;>simp_all
structure Lay (P:Program)(τ:Ty)(t:TypeId):Prop where
 size:∀ w,(sizeOf t).run P w=.ok τ.size w
 agg:∀ w,(isAgg t).run P w=.ok τ.isAgg w
theorem qq{τ:Ty}{t:TypeId}(h:chk P τ none t=true):Lay P τ t:=⟨bt h,cV h⟩
theorem FD{t:TypeId}(h:E6 P t=true):(∀ g e,Lay P (.clo g e) t)/\∀ w,(zeroValue t).run P w=.ok .nilFunc w:=by
 unfold E6 at h;simp only[np]at h;obtain⟨h1,h2⟩:=h;split at h1
 ·rename_i i hi;simp only[np]at h1;obtain⟨h1,h3⟩:=h1;have hsz:=A3 h1;split at h3
  ·rename_i hz;split at h2
   ·rename_i hu;exact⟨λg e=>⟨λw=>by simp[sizeOf,typeInfo,hi,hsz,Ty.size],λw=>by unfold isAgg;rw[Sem.run_bind,run_underlying hu w];rfl⟩,λw=>by simp[zeroValue,typeInfo,hi,hz]⟩
   cases h2
  cases h3
 cases h1
theorem pX{T:Tab}(h:cb P T=true){t:Nat}{τ:Ty}(hg:T.get t=some τ):Lay P τ t:=by
 have:=vn h hg;cases hc:τ.isClo with
 |false=>rw[hc]at this;exact qq this
 |true=>
  rw[hc]at this;cases τ<;>first|exact(FD this).1 _ _|cases hc
theorem aT{e:Ty}{t:TypeId}(h:chk P (.slice e) none t=true):∃ et,P.underlying t=some (.slice et)/\chk P e none et=true:=by
 simp only[chk,np]at h;obtain⟨_,h⟩:=h;split at h
 ·rename_i et hu;exact⟨et,hu,(np _ _▸h).2⟩
 simp at h
theorem lf{e:Ty}{t:TypeId}(h:chk P (.slice e) none t=true):e.noPC=true:=by
 simp only[chk,np]at h;obtain⟨_,h⟩:=h;split at h
 ·exact(np _ _▸h).1
 simp at h
theorem kL{n:Nat}{e:Ty}{t:TypeId}(h:chk P (.arr n e) none t=true):∃ et,P.underlying t=some (.array n et)/\chk P e none et=true:=by
 simp only[chk,np]at h;obtain⟨_,h⟩:=h;split at h
 ·rename_i n' et hu;simp only[np]at h;have:=A3 h.1;subst this;exact⟨et,hu,h.2⟩
 simp at h
theorem iS{k:IntKind}{t:TypeId}(h:chk P (.int k) none t=true):P.underlying t=some (.int k):=by
 simp only[chk,np]at h;obtain⟨_,h⟩:=h;split at h
 ·rename_i k' hu;simp at h;subst h;exact hu
 simp at h
theorem lD{t:TypeId}(h:chk P .bool none t=true):P.underlying t=some .bool:=by
 simp only[chk,np]at h;obtain⟨_,h⟩:=h;split at h
 ·rename_i hu;exact hu
 simp at h
theorem fp{t:TypeId}(h:chk P .str none t=true):P.underlying t=some .string:=by
 simp only[chk,np]at h;obtain⟨_,h⟩:=h;split at h
 ·rename_i hu;exact hu
 simp at h
theorem rK:∀{b:Ty} {r:List Field} {o:Nat},chk P b (some (r,o)) 0=true->∀{f o':Nat} {σ : Ty},b.field f=some (o',σ) ->
  ∃ fd,r[f]?=some fd/\fd.offset=o+o'/\chk P σ none fd.type=true
 |.prod a b,r,o,h,f,o',σ,hf=>by
  cases r with
  |nil=>simp[chk]at h
  |cons fd r=>
   simp only[chk,np]at h;obtain⟨⟨h1,h2⟩,h3⟩:=h;cases f with
   |zero=>simp[Ty.field]at hf;obtain⟨rfl,rfl⟩:=hf;exact⟨fd,rfl,by simpa using A3 h1,h2⟩
   |succ f=>
    simp only[Ty.field]at hf;split at hf
    ·rename_i o1 t1 hb;simp at hf;obtain⟨rfl,rfl⟩:=hf;obtain⟨fd',q1,q2,q3⟩:=rK h3 hb;exact⟨fd',by simpa using q1,by omega,q3⟩
    simp at hf
 |.unit,_,_,_,_,_,_,hf=>by simp[Ty.field]at hf
 |.int _,_,_,h,_,_,_,_=>by simp[chk]at h
 |.bool,_,_,h,_,_,_,_=>by simp[chk]at h
 |.str,_,_,h,_,_,_,_=>by simp[chk]at h
 |.slice _,_,_,h,_,_,_,_=>by simp[chk]at h
 |.arr _ _,_,_,h,_,_,_,_=>by simp[chk]at h
 |.ptr _,_,_,h,_,_,_,_=>by simp[chk]at h
 |.clo _ _,_,_,h,_,_,_,_=>by simp[chk]at h
theorem qk {τ : Ty}{t:TypeId}(h:chk P τ none t=true){f o:Nat}{σ : Ty}(hf : τ.field f=some (o,σ)) :
  ∃ fs fd,P.underlying t=some (.struct fs)/\fs[f]?=some fd/\fd.offset=o/\chk P σ none fd.type=true:=by
 cases τ with
 |prod a b=>
  simp only[chk,np]at h;obtain⟨_,h⟩:=h;split at h
  ·rename_i fs hu;split at h
   ·rename_i fd r hfs;simp only[np]at h;obtain⟨⟨h1,h2⟩,h3⟩:=h;cases f with
    |zero=>
     simp[Ty.field]at hf;obtain⟨rfl,rfl⟩:=hf
     refine⟨fs,fd,hu,?_,A3 h1,h2⟩;rw[<- JN,hfs];rfl
    |succ f=>
     simp only[Ty.field]at hf;split at hf
     ·rename_i o1 t1 hb;simp at hf;obtain⟨rfl,rfl⟩:=hf;obtain⟨fd',q1,q2,q3⟩:=rK h3 hb;refine⟨fs,fd',hu,?_,by omega,q3⟩;rw[<- JN,hfs];simpa using q1
     simp at hf
   simp at h
  simp at h
 |_=>simp[Ty.field]at hf
theorem bK(b off j:Nat):(⟨b,off,none⟩:Addr).add j=⟨b,off+j,none⟩:=by unfold Addr.add;split<;>simp_all
theorem cC{w:World}{b:Nat}{c:Array Value}{el:TypeId}{fz:Nat×Nat}(h:w.heap[b]?=some (.cells c el fz))(j:Nat):w.cell? ⟨b,j,none⟩=c[j]?:=by simp[World.cell?,h]
theorem dt {τ : Ty}{t:TypeId}(h:Lay P τ t){w:World}{b off:Nat}{c:Array Value}{el:TypeId}{fz:Nat×Nat}(hh:w.heap[b]?=some (.cells c el fz))
  (hs:off+τ.size<=c.size):(loadVar t ⟨b,off,none⟩).run P w=.ok (toV τ (seg c off τ.size)) w:=by
 have hlen:=dw c off τ.size hs;cases ha:τ.isAgg with
 |true=>
  have hl:=run_loadCells_list (P:=P) w ⟨b,off,none⟩ (seg c off τ.size) (λj v hv=>by
   rw[bK,cC hh];have hj:j<τ.size:=by have:=(List.getElem?_eq_some_iff.1 hv).1;omega
   rw[<- seg_getElem? c off τ.size j hj];exact hv)
  rw[hlen]at hl;simp[loadVar,Sem.run_bind,h.agg,ha,h.size,hl,toV]
 |false=>
  rw[ej ha]at hs hlen ⊢;have h0:c[off]?=some c[off]:=Array.getElem?_eq_getElem (by omega);have hd:(seg c off 1).headD undef=c[off]:=by
   have:=seg_getElem? c off 1 0 (by omega);rw[JY,h0]at this;match hq:seg c off 1,hlen with
   |[v],_=>rw[hq]at this;simpa using this
  simp only[loadVar,Sem.run_bind,h.agg,ha,Result.andThen_ok,JS,if_false,run_load,cC hh,h0,toV,UB,hd]
theorem eS {te:Ty}{w:World}{b:Nat}{c:Array Value}{el:TypeId}{fz:Nat×Nat}(h:w.heap[b]?=some (.cells c el fz))(hc:eo te c.size fz)(j:Nat)(hj:j < c.size) :
  w.frozen? ⟨b,j,none⟩=false:=by
 obtain⟨lo,hi⟩:=fz;simp only[World.frozen?,h];rcases hc with hc|hc<;>simp at hc ⊢<;>omega
theorem cH {te:Ty}(g o:Nat)(t:TypeId)(fz:Nat×Nat):∀(vs:List Value) (i:Nat) (cur:Array Value) (w:World),w.heap[g]?=some (.cells cur t fz)->eo te cur.size fz ->
  o+i+vs.length<=cur.size->(∀ v∈vs,v.oneCell'=true) ->
  (storeCells ⟨g,o,none⟩ vs i).run P w=.ok () (w.setRow g (cur.toList.take (o+i)++vs++cur.toList.drop (o+i+vs.length)).toArray)
 |[],i,cur,w,hg,_,_,_=>by simp only[storeCells,Jz,List.length_nil,JY,List.take_append_drop,Array.toArray_toList];rw[setRow_self w g cur t fz hg];rfl
 |v::rest,i,cur,w,hg,hc,hl,h1=>by
  have hi:o+i<cur.size:=by simp at hl;omega
  have hcell:w.cell? ⟨g,o+i,none⟩=some cur[o+i]:=by simp[World.cell?,hg,hi]
  have hfro:=eS hg hc (o+i) hi;have hst:(store ((⟨g,o,none⟩:Addr).add i) v).run P w=.ok () (w.setRow g (cur.setIfInBounds (o+i) v)):=by rw[bK,run_store P w _ v _ (h1 v (by simp)),hcell];simp[hfro,setCell_eq_setRow w g (o+i) cur t fz v hg]
  have ih:=cH g o t fz rest (i+1) (cur.setIfInBounds (o+i) v) (w.setRow g (cur.setIfInBounds (o+i) v)) (setRow_heap w g cur _ t _ hg) (by simpa using hc) (by simp at hl ⊢;omega) (λx hx=>h1 x (by simp[hx]));simp only[storeCells,Sem.run_bind,hst,Result.andThen_ok,ih,setRow_setRow];congr 3;have e:=list_seg_step cur.toList (o+i) v rest (by simp at hl ⊢;omega);simpa[Array.toList_setIfInBounds,JX]using e
def aM(c:Array Value)(o:Nat)(vs:List Value):Array Value:=(c.toList.take o++vs++c.toList.drop (o+vs.length)).toArray
theorem ew {te:Ty}{τ : Ty}{t:TypeId}(h:Lay P τ t){w:World}{b off:Nat}{c:Array Value}{el:TypeId}{fz:Nat×Nat}(hh:w.heap[b]?=some (.cells c el fz))
  (hc:eo te c.size fz) (hs:off+τ.size<=c.size) {v:Value} (hv:v.cells.size=τ.size) (h1:∀ u∈v.cells.toList,u.oneCell'=true) :
  (storeVar t ⟨b,off,none⟩ v).run P w=.ok () (w.setRow b (aM c off v.cells.toList)):=by
 have:=cH (P:=P) b off el fz v.cells.toList 0 c w hh hc (by simp;omega) h1;simp only[JY]at this;simp[storeVar,Sem.run_bind,h.size,hv,this,aM]
theorem bw(c:Array Value)(o:Nat)(vs:List Value)(h:o+vs.length<=c.size):(aM c o vs).size=c.size:=by unfold aM;simp;omega
theorem dq (c:Array Value)(o:Nat)(vs:List Value)(h:o+vs.length<=c.size)(j:Nat) :
  (aM c o vs)[j]?=if o<=j/\j<o+vs.length then vs[j-o]? else c[j]?:=by
 unfold aM;simp only[Jy,List.getElem?_append,List.length_append,List.length_take,JD,JC,J2];have h1:min o c.size=o:=by omega
 rw[h1];by_cases a:j<o
 ·have h2:j<o+vs.length:=by omega
  have h3:¬(o<=j/\j<o+vs.length):=by omega
  rw[if_neg h3];simp[a,h2]
 by_cases b:j<o+vs.length
 ·have h3:(o<=j/\j<o+vs.length):=by omega
  simp[a,b,h3]
 have h3:¬(o<=j/\j<o+vs.length):=by omega
 have h4:o+vs.length+(j-(o+vs.length))=j:=by omega
 simp[b,h4]
theorem EO{c c':Array Value}{o o' n:Nat}(h:∀ i,i<n->c[o+i]?=c'[o'+i]?):seg c o n=seg c' o' n:=by
 apply Kk;intro i;by_cases hi:i<n
 ·rw[seg_getElem? _ _ _ _ hi,seg_getElem? _ _ _ _ hi];exact h i hi
 unfold seg;rw[JC,JC];simp[hi]
theorem ko(c:Array Value)(o:Nat)(vs:List Value)(h:o+vs.length<=c.size):seg (aM c o vs) o vs.length=vs:=by
 apply Kk;intro i;by_cases hi:i<vs.length
 ·rw[seg_getElem? _ _ _ _ hi,dq c o vs h,if_pos (by omega)];congr 1;omega
 rw[List.getElem?_eq_none (Nat.le_of_not_lt hi)];unfold seg;rw[JC];simp[hi]
theorem ca(c:Array Value)(o:Nat)(vs:List Value)(h:o+vs.length<=c.size)(o' n:Nat)(ha:o'+n<=o\/o+vs.length<=o'):seg (aM c o vs) o' n=seg c o' n:=by apply EO;intro i hi;rw[dq c o vs h,if_neg (by omega)]
end
end Go.Vm

/-
 The machine's operations against the model's: values.
-/
namespace Go.Vm
def Does(P:Program)(o:Oper)(a:Act)(w:World)(R:Value->World->Prop):Prop:=
 ∀(K:Act->World->Prop) (Q:Exit->Act->World->Prop),(∀ v w',R v w'->K (a.put o.dst v) w')->o.wp P a w K Q
theorem Does.value {P:Program}{o:Oper}{a:Act}{w w':World}{R:Value->World->Prop}{v:Value}
  (h:(execOp a.eval o).run P w=.ok (.value v) w') (hR:R v w'):Does P o a w R:=by
 intro K Q hK;unfold Oper.wp;rw[h];exact hK v w' hR
theorem Does.skip {P:Program}{o:Oper}{a:Act}{w w':World}{R:Value->World->Prop}
  (h:(execOp a.eval o).run P w=.ok .skip w') (hR:R undef w'):Does P o a w R:=by
 intro K Q hK;unfold Oper.wp;rw[h];exact hK undef w' hR
theorem Does.call {P:Program}{o:Oper}{a:Act}{w w':World}{R:Value->World->Prop}{f:FuncId}{args:Array Value}
  (h:(execOp a.eval o).run P w=.ok (.enter f args) w') (hc:Calls P f args w' λe w''=>∃ v,e=.returned v/\R v w''):Does P o a w R:=by
 intro K Q hK;unfold Oper.wp;rw[h];refine Calls.mono hc ?_;rintro e w'' ⟨v,rfl,hR⟩;exact hK v w'' hR
def Res(C:Ctx)(w0:World)(M:Own)(m:Mem)(s s':St)(dst:Option Nat)(v:Value)(w':World):Prop:=
 ∃ m' sv,m'.w=w'/\s'=ag dst sv { env:=s.env,G:=m'.G }/\Inv C w0 M m'/\Evo m m'/\RelSV m' v sv
section
variable {P:Program}{C:Ctx}{w0:World}{M:Own}{o:Oper}{a:Act}{m:Mem}{s s':St}
theorem aB (hi:Inv C w0 M m)(hG:m.G=s.G){v:Value}{sv:SV}(hrun:(execOp a.eval o).run P m.w=.ok (.value v) m.w)(hv:RelSV m v sv)
  (hs:some (ag o.dst sv s)=some s'):Does P o a m.w (Res C w0 M m s s' o.dst):=by
 refine Does.value hrun ⟨m,sv,rfl,?_,hi,Evo.refl m,hv⟩;simp only[aw]at hs;rw[<- hs,hG]
theorem cF{v:Value}{k:IntKind}{n:Int}(h:RelSV m v (.av (.val (.int k) n))):v=.int k n/\k.min<=n/\n<=k.max:=by obtain⟨cs,h1,h2,h3⟩:=h;subst h2;exact⟨by simpa[toV,Ty.isAgg]using h1,h3⟩
theorem fh{v:Value}{b:Bool}(h:RelSV m v (.av (.val .bool b))):v=.bool b:=by obtain⟨cs,h1,h2⟩:=h;unfold Rd at h2;subst h2;simpa[toV,Ty.isAgg]using h1
theorem kb{v:Value}{b:ByteArray}(h:RelSV m v (.av (.val .str b))):v=.string b/\b.size<=maxLen:=by obtain⟨cs,h1,h2,h3⟩:=h;subst h2;exact⟨by simpa[toV,Ty.isAgg]using h1,h3⟩
theorem pc {v:Value}{e:Ty}{x:e.den}(h:RelSV m v (.av (.val (.ptr e) x))) :
  ∃ b off c el fz,v=.pointer (some ⟨b,off,none⟩)/\m.F b/\m.w.heap[b]?=some (.cells c el fz)/\off+e.size<=c.size/\Rd m.w m.F e (seg c off e.size) x:=by
 obtain⟨cs,h1,b,off,c,el,fz,h2,h3⟩:=h;subst h2;exact⟨b,off,c,el,fz,by simpa[toV,Ty.isAgg]using h1,h3⟩
theorem gy {v:Value}{e:Ty}{l:List e.den}(h:RelSV m v (.av (.val (.slice e) l))) :
  ∃ ad cap,v=.slice ad l.length cap/\l.length<=cap/\cap<=maxLen/\(l≠[]->∃ b off c el fz,ad=some ⟨b,off,none⟩/\m.F b/\m.w.heap[b]?=some (.cells c el fz)/\off+l.length * e.size<=c.size /\
    ∀ i (h:i<l.length),Rd m.w m.F e (seg c (off+i*e.size) e.size) l[i]):=by
 obtain⟨cs,h1,ad,cap,h2,h3⟩:=h;subst h2;exact⟨ad,cap,by simpa[toV,Ty.isAgg]using h1,h3⟩
theorem sT{τ:Ty}{cs:List Value}{x:τ.den}(h:Rd m.w m.F τ cs x):RelSV m (toV τ cs) (.av (.val τ x)):=⟨cs,rfl,h⟩
theorem dT{k:IntKind}{n:Int}(h:k.min<=n/\n<=k.max):RelSV m (.int k n) (.av (.val (.int k) n)):=⟨[.int k n],rfl,rfl,h⟩
theorem d7{b:Bool}:RelSV m (.bool b) (.av (.val .bool b)):=⟨[.bool b],rfl,rfl⟩
theorem qd{b:ByteArray}(h:b.size<=maxLen):RelSV m (.string b) (.av (.val .str b)):=⟨[.string b],rfl,rfl,h⟩
theorem rY{n:Nat}(h:n<=maxLen):IntKind.i64.min<=(n:Int)/\(n:Int)<=IntKind.i64.max:=by unfold maxLen at h;simp[IntKind.min,IntKind.max,IntKind.signed,IntKind.bits];omega
theorem zx(v:Value):RelSV m v (.av (nx v)):=by
 unfold nx;split
 ·rename_i k n;cases h:(decide (k.min<=n)&&decide (n<=k.max))with
  |true=>simp only[np,decide_eq_true_eq]at h;exact dT h
  |false=>trivial
 ·exact d7
 ·rename_i b;cases h:JK b.size 1000000 with
  |true=>have:=JF h;exact qd (by unfold maxLen;omega)
  |false=>trivial
 ·exact⟨none,rfl,λ_=>rfl⟩
 trivial
theorem pL(hi:Inv C w0 M m)(he:∀ t,RelSV m (a.tmps.getD t undef) (s.env.get t))(x:Operand):RelSV m (a.eval x) (ah C s.env x):=by
 cases x with
 |tmp t=>exact he t
 |const v=>exact zx v
 |global g=>
  simp only[ah,Act.eval];cases hg:fJ C.glob g with
  |none=>trivial
  |some p=>obtain⟨t,x⟩:=p;exact⟨[.pointer (some ⟨g,0,none⟩)],rfl,hi.glob g t x hg⟩
 |func f=>exact⟨[],rfl,trivial⟩
theorem aD{τ σ:Ty}{x:σ.den}{y:τ.den}(h:bC τ σ x=some y):∃ e:σ=τ,e▸x=y:=by
 unfold bC at h;split at h
 ·rename_i e;exact⟨e,by simpa using h⟩
 simp at h
theorem x6 {x:Operand}(hi:Inv C w0 M m)(hG:m.G=s.G)(hS:∀ x,RelSV m (a.eval x) (ah C s.env x))(ho:o.op=.move x\/o.op=.assign x)
  (h:aZ C o s some=some s'):Does P o a m.w (Res C w0 M m s s' o.dst):=by
 rcases ho with ho|ho <;>
 ·simp only[au,aK,ho]at h;exact aB hi hG (v:=a.eval x) (by simp[execOp,ho]) (hS x) h
theorem Es {c x y:Operand}(hi:Inv C w0 M m)(hG:m.G=s.G)(hS:∀ x,RelSV m (a.eval x) (ah C s.env x))(ho:o.op=.pick c x y)
  (h:aZ C o s some=some s'):Does P o a m.w (Res C w0 M m s s' o.dst):=by
 simp only[au,aK,ho]at h;have hc:=hS c;split at h
 ·rename_i t ht;rw[ht]at hc;have hb:=fh hc;cases t with
  |true=>exact aB hi hG (v:=a.eval x) (by simp[execOp,ho,hb,asBool]) (hS x) h
  |false=>exact aB hi hG (v:=a.eval y) (by simp[execOp,ho,hb,asBool]) (hS y) h
 simp at h
theorem En {op:UnOp}{t:TypeId}{x:Operand}(hi:Inv C w0 M m)(hG:m.G=s.G)(hS:∀ x,RelSV m (a.eval x) (ah C s.env x))(ho:o.op=.unOp op t x)
  (h:aZ C o s some=some s'):Does P o a m.w (Res C w0 M m s s' o.dst):=by
 simp only[au,aK,ho]at h;have hx:=hS x;split at h
 ·rename_i b hb;rw[hb]at hx;have:=fh hx;exact aB hi hG (v:=.bool (!b)) (by simp[execOp,ho,this,Op.unary]) d7 h
 ·rename_i k n hb;rw[hb]at hx;have:=(cF hx).1;exact aB hi hG (v:=.int k (dK k 0 n)) (by simp[execOp,ho,this,Op.unary,Op.intArith,dK]) (dT (wrap_within k _)) h
 simp at h
theorem wn{k:IntKind}{x y:Int}(h1:k.min<=x)(h2:x<=k.max):k.min<=x.tmod y/\x.tmod y<=k.max:=by
 have hmin:k.min<=0:=by cases k<;>simp[IntKind.min,IntKind.signed,IntKind.bits]
 have hmax:0<=k.max:=by cases k<;>simp[IntKind.max,IntKind.signed,IntKind.bits]
 have hn:(x.tmod y).natAbs<=x.natAbs:=by rw[Int.natAbs_tmod];exact Nat.mod_le _ _
 rcases Int.le_total 0 x with hx|hx
 ·have a1:=Mu y hx;omega
 have a1:=Mu y (show 0<=-x by omega);rw[Int.neg_tmod]at a1;omega
theorem GB (op:BinOp)(t:TypeId)(k:IntKind)(x y:Int){r:Atom}(h:yi op k x y=some r)(w:World) :
  ∃ v,(binOp op t (.int k x) (.int k y)).run P w=.ok v w/\RelSV m v (.av r):=by
 cases op<;>simp only[yi,aw]at h<;>try (simp at h;done)
 all_goals subst h
 all_goals first
  |exact⟨_,by simp[binOp,Op.intArith,Op.intBits,Op.intCmp];rfl,dT (wrap_within k _)⟩
  |exact⟨.int k (o8 k x y),by rw[qf];simp only[binOp,ne_eq,not_true_eq_false,if_false,Op.intBits,Sem.run_pure],dT (by rw[qf];exact wrap_within k _)⟩
  |exact⟨.int k (Er k x y),by rw[wJ];simp only[binOp,ne_eq,not_true_eq_false,if_false,Op.intBits,Sem.run_pure],dT (by rw[wJ];exact wrap_within k _)⟩
  |exact⟨.int k (orI k x y),by rw[BY];simp only[binOp,ne_eq,not_true_eq_false,if_false,Op.intBits,Sem.run_pure],dT (by rw[BY];exact wrap_within k _)⟩
  |exact⟨_,by simp[binOp,Op.intArith,Op.intBits,Op.intCmp];rfl,d7⟩
theorem dz (op:BinOp)(t:TypeId)(x y:Operand){u v:Value}(hu:(∃ k n,u=.int k n)\/(∃ b,u=.bool b)\/(∃ b,u=.string b)\/(∃ q n c,u=.slice q n c))(w:World) :
  (eqGuard op t x y u v).run P w=.ok () w:=by
 unfold eqGuard;rcases hu with⟨k,n,rfl⟩|⟨b,rfl⟩|⟨b,rfl⟩|⟨q,n,c,rfl⟩<;>cases op<;>simp
theorem size_append(x y:ByteArray):(x++y).size=x.size+y.size:=ByteArray.size_append
end
end Go.Vm

/-
 Slots read as values, values laid as cells.
-/
namespace Go.Vm
def Blk(m:Mem)(id b:Nat):Prop:=∃ o,m.G.get id=some o/\isObj o=true/\HB (m.ι id) b
def Thru(m:Mem)(ids:List Nat)(b:Nat):Prop:=m.F b\/∃ id∈ids,Blk m id b
theorem Thru.mono{m:Mem}{l r:List Nat}(h:∀ i∈l,i∈r){b:Nat}(hb:Thru m l b):Thru m r b:=by
 rcases hb with hb|⟨i,hi,hb⟩
 ·exact .inl hb
 exact .inr ⟨i,h i hi,hb⟩
theorem li{m:Mem}{l r:List Nat}(h:∀ i∈l,i∈r){τ:Ty}{cs:List Value}{x:τ.den}(hr:Rd m.w (Thru m l) τ cs x):Rd m.w (Thru m r) τ cs x:=
 hr.mono λ_ hb=>⟨hb.mono h,rfl⟩
theorem Hb{m:Mem}{r:List Nat}{τ:Ty}{cs:List Value}{x:τ.den}(hr:Rd m.w m.F τ cs x):Rd m.w (Thru m r) τ cs x:=
 hr.mono λ_ hb=>⟨.inl hb,rfl⟩
section
variable {C:Ctx}{w0:World}{M:Own}{m:Mem}
theorem wh{w:World}{F F':Nat->Prop}{u:Value}{e:Ty}{l:List e.den}(h:HdrW w F u e l)(hF:∀ b,F b->F' b)(hu:∀ b,HB u b->F' b):Rd w F' (.slice e) [u] l:=by
 obtain⟨ad,cap,rfl,h2,h3,h4⟩:=h;refine⟨ad,cap,rfl,h2,h3,λhl=>?_⟩;have hc:cap≠0:=by
  intro e;subst e
  cases l with
  |nil=>exact hl rfl
  |cons _ _=>simp at h2
 obtain⟨b,off,c,el,fz,rfl,q2,q3,q4,q5⟩:=h4 hc;refine⟨b,off,c,el,fz,rfl,hu b (by simp[HB,HB1,hc]),q2,?_,λi hi'=>(q5 i hi').mono λb hb=>⟨hF b hb,rfl⟩⟩;have:=B1 e.size h2;omega
theorem vA(hi:Inv C w0 M m){id:Nat}{τ:Ty}{l:List τ.den}(hg:m.G.get id=some (.arr τ l)):Rd m.w (Thru m [id]) (.slice τ) [m.ι id] l:=
 wh (hi.objs id _ hg:HdrW m.w m.F (m.ι id) τ l) (λ_ h=>.inl h) λb hb=>.inr ⟨id,by simp,_,hg,rfl,hb⟩
theorem xw{id ver:Nat}{τ:Ty}{l:List (List τ.den)}{hole:Option Nat}{u:Value}{hs:List Value}(h1:m.ι id=.tuple (u::hs).toArray)(h2:DeepW m.w m.F u hs τ l hole){v:Value}(hv:v∈u::hs){b:Nat}(hb:HB v b):HB (m.ι id) b:=by rw[h1,bY h2.one];exact⟨v,hv,hb⟩
theorem Ev(hi:Inv C w0 M m){id ver:Nat}{τ:Ty}{l:List (List τ.den)}(hg:m.G.get id=some (.deep ver τ l none)){u:Value}(hu:∃ us,m.ι id=.tuple us/\us[0]?=some u):Rd m.w (Thru m [id]) (.slice (.slice τ)) [u] l:=by
 obtain⟨u',hs,h1,h2⟩:=hi.objs id _ hg;obtain⟨us,h3,h4⟩:=hu;have hb:∀ v∈u'::hs,∀ b,HB v b->Thru m [id] b:=λv hv b hb=>.inr ⟨id,by simp,_,hg,rfl,xw (ver:=ver) h1 h2 hv hb⟩;rw[h1]at h3;simp only[Value.tuple.injEq]at h3;subst h3;simp only[Jy,List.getElem?_cons_zero,aw]at h4;subst h4;obtain⟨ad,cap,rfl,q2,q3,q4⟩:=h2.outer;refine⟨ad,cap,rfl,q2,q3,λhl=>?_⟩;have hc:cap≠0:=by
  intro e;subst e
  cases l with
  |nil=>exact hl rfl
  |cons _ _=>simp at q2
 obtain⟨b,off,c,el,fz,rfl,r2,r3,r4,r5⟩:=q4 hc;refine⟨b,off,c,el,fz,rfl,hb _ (JH ..) b ⟨hc,rfl⟩,r2,by simp only[Ty.size,Km];omega,λi hi'=>?_⟩;have hlt:i<hs.length:=by rw[h2.len];exact hi'
 have hseg:seg c (off+i*(Ty.slice τ).size) (Ty.slice τ).size=[hs[i]]:=by have e:=r5 i hi' (by simp);rw[A1 hlt]at e;obtain⟨hlt',e'⟩:=Array.getElem?_eq_some_iff.1 e;simp only[Ty.size,Km,seg];rw[List.drop_eq_getElem_cons (by simpa using hlt')];simp[e']
 rw[hseg];exact wh (h2.inner i hi' hs[i] (A1 hlt) (by simp)) (λb h=>.inl h) λb hb'=>hb _ (Jq _ (List.getElem_mem hlt)) b hb'
theorem Gj(hi:Inv C w0 M m){id ver j:Nat}{τ:Ty}{l:List (List τ.den)}(hg:m.G.get id=some (.deep ver τ l none)){u:Value}(hu:∃ us,m.ι id=.tuple us/\us[j+1]?=some u)(hj:j<l.length):Rd m.w (Thru m [id]) (.slice τ) [u] l[j]:=by obtain⟨u',hs,h1,h2⟩:=hi.objs id _ hg;obtain⟨us,h3,h4⟩:=hu;rw[h1]at h3;simp only[Value.tuple.injEq]at h3;subst h3;simp only[Jy,List.getElem?_cons_succ]at h4;exact wh (h2.inner j hj u h4 (by simp)) (λb h=>.inl h) λb hb=>.inr ⟨id,by simp,_,hg,rfl,xw (ver:=ver) h1 h2 (Jq _ (Jv h4)) hb⟩
theorem yq {w:World}{F:Nat->Prop}{τ : Ty}{l:List τ.den}{v u:Value}(h:Rd w F (.slice τ) [v] l){off len:Nat}(hl:off+len<=l.length)(hv:qE v τ.size off len u) :
  Rd w F (.slice τ) [u] ((l.drop off).take len):=by
 obtain⟨ad,cap,h1,h2,h3,h4⟩:=h;obtain⟨a',n',cap',ad',v1,rfl,v3⟩:=hv;simp only[KJ,and_true]at h1;rw[h1]at v1;simp only[Value.slice.injEq]at v1;obtain⟨rfl,rfl,rfl⟩:=v1;have hlen:((l.drop off).take len).length=len:=by simp;omega
 refine⟨ad',cap-off,by rw[hlen],by rw[hlen];omega,by omega,λhne=>?_⟩;have hlpos:l≠[]:=by intro e;subst e;simp at hne
 obtain⟨b,o,c,el,fz,q1,q2,q3,q4,q5⟩:=h4 hlpos;have hlen0:0<len:=by
  rcases Ku len with hz|hz
  ·subst hz;simp at hne
  exact hz
 refine⟨b,o+off*τ.size,c,el,fz,?_,q2,q3,?_,λi hi=>?_⟩
 ·rw[v3 (by omega),q1];simp[bK]
 ·rw[hlen];have:=B1 τ.size hl;rw[B8]at this;omega
 rw[hlen]at hi;have hq:=q5 (off+i) (by omega);rw[show o+off*τ.size+i*τ.size=o+(off+i)*τ.size by rw[B8];omega];simpa using hq
theorem Rd.nil_slice{w:World}{F:Nat->Prop}{e:Ty}(ad:Option Addr):Rd w F (.slice e) [.slice ad 0 0] ([]:List e.den):=
 ⟨ad,0,rfl,by simp,by unfold maxLen;omega,λh=>absurd rfl h⟩
theorem cv(hi:Inv C w0 M m){τ:Ty}{a:Atom}{x:τ.den}{u:Value}(h:aF m.G τ a=some x)(hr:ai m u a):Rd m.w (Thru m (atomIds a)) τ [u] x:=by
 cases a with
 |val σ y=>
  obtain⟨e,hy⟩:=aD h;subst e;subst hy
  exact Hb hr.1
 |nils=>cases τ<;>simp[aF]at h;subst h;obtain⟨ad,rfl,_⟩:=hr;exact Rd.nil_slice ad
 |own id=>
  obtain⟨_,o,ho,hv⟩:=hr;cases τ<;>simp only[aF]at h<;>try (simp at h;done)
  rename_i e;rw[ho]at h;cases o with
  |arr σ l=>
   simp only at h;obtain⟨e',hy⟩:=aD h;simp only[Ty.slice.injEq]at e';subst e';subst hy
   rw[hv rfl];exact vA hi ho
  |_=>simp at h
 |view id off len=>
  obtain⟨_,o,ho,hv⟩:=hr;cases τ<;>simp only[aF]at h<;>try (simp at h;done)
  rename_i e;rw[ho]at h;cases o with
  |arr σ l=>
   simp only at h hv;obtain⟨e',hy⟩:=aD h;simp only[Ty.slice.injEq]at e';subst e';subst hy
   exact yq (vA hi ho) hv.1 hv.2
  |_=>simp at h
 |ownd id=>
  obtain⟨_,o,ho,hv⟩:=hr;cases τ<;>simp only[aF]at h<;>try (simp at h;done)
  rename_i e;rw[ho]at h;cases o with
  |deep ver σ l hole=>
   cases hole with
   |some _=>simp at h
   |none=>
    simp only at h;obtain⟨e',hy⟩:=aD h;simp only[Ty.slice.injEq]at e';subst e';subst hy
    exact Ev hi ho hv
  |_=>simp at h
 |sub id ver j=>
  obtain⟨_,o,ho,hv⟩:=hr;cases τ<;>simp only[aF]at h<;>try (simp at h;done)
  rename_i e;rw[ho]at h;cases o with
  |deep ver' σ l hole=>
   cases hole with
   |some _=>simp at h
   |none=>
    simp only at h hv;cases hb:A7 ver ver' with
    |false=>rw[hb]at h;simp at h
    |true=>
     rw[hb]at h;have:=A3 hb;subst this;obtain⟨hj,_,hu⟩:=hv.2 rfl;rw[jZ hj]at h;simp only[UA]at h;obtain⟨e',hy⟩:=aD h;simp only[Ty.slice.injEq]at e';subst e';subst hy
     exact Gj hi ho hu hj
  |_=>simp at h
 |clo f caps=>
  cases caps with
  |cons _ _=>simp[aF]at h
  |nil=>
   cases τ<;>simp only[aF]at h<;>try (simp at h;done)
   rename_i g e;cases e<;>simp only at h<;>try (simp at h;done)
   cases hf:A7 f g with
   |false=>rw[hf]at h;simp at h
   |true=>
    have:=A3 hf;subst this;obtain⟨vs,rfl,hr⟩:=hr;match vs,hr with
    |[],_=>exact⟨[],rfl,rfl⟩
 |_=>simp[aF]at h
theorem oJ {α : Type}{f:List Atom->Option (α×List Atom)}{ids:List Nat}{size:Nat}{r:List Value->α->Prop}
  (hf:∀{us:List Value} {l rest:List Atom} {x:α},Rel2 (ai m) us l->f l=some (x,rest)->(∀ i∈l.flatMap atomIds,i∈ids) ->
   ∃ c us',us=c++us'/\c.length=size/\r c x/\Rel2 (ai m) us' rest/\(∀ i∈rest.flatMap atomIds,i∈ids)) :
  ∀(n:Nat) {us:List Value} {l rest:List Atom} {xs:List α},Rel2 (ai m) us l->kv f n l=some (xs,rest)->(∀ i∈l.flatMap atomIds,i∈ids) ->
   ∃ c us',us=c++us'/\xs.length=n/\c.length=n*size/\(∀ i (h:i<xs.length),r ((c.drop (i*size)).take size) xs[i])/\Rel2 (ai m) us' rest/\(∀ i∈rest.flatMap atomIds,i∈ids)
 |0,us,l,rest,xs,hr,h,hids=>by simp[kv]at h;obtain⟨rfl,rfl⟩:=h;exact⟨[],us,rfl,rfl,by simp,λi h=>by simp at h,hr,hids⟩
 |n+1,us,l,rest,xs,hr,h,hids=>by
  simp only[kv]at h;split at h
  ·rename_i x r1 h1;obtain⟨c1,us1,rfl,hc1,hx,hr1,hi1⟩:=hf hr h1 hids;split at h
   ·rename_i ys r2 h2;simp only[aw,B3]at h;obtain⟨rfl,rfl⟩:=h;obtain⟨c2,us2,rfl,hn,hc2,hys,hr2,hi2⟩:=oJ hf n hr1 h2 hi1;refine⟨c1++c2,us2,by simp,by simp[hn],by simp[hc1,hc2,B8];omega,?_,hr2,hi2⟩;intro i hi';cases i with
    |zero=>simp only[MH,K6,List.getElem_cons_zero];rw[KE (by omega),Kz (by omega)];exact hx
    |succ i=>simp only[List.getElem_cons_succ];have:=hys i (by simpa using hi');rw[show(i+1)*size=c1.length+i*size by rw[B8,hc1];omega,Le,KA (by omega),Kw];simpa using this
   simp at h
  simp at h
theorem fT (hi:Inv C w0 M m){ids:List Nat}:∀{τ : Ty} {us:List Value} {l rest:List Atom} {x : τ.den},Rel2 (ai m) us l->aA m.G τ l=some (x,rest)->(∀ i∈l.flatMap atomIds,i∈ids) ->
   ∃ c us',us=c++us'/\c.length=τ.size/\Rd m.w (Thru m ids) τ c x/\Rel2 (ai m) us' rest/\(∀ i∈rest.flatMap atomIds,i∈ids)
 |.prod a b,us,l,rest,x,hr,h,hids=>by
  simp only[aA]at h;split at h
  ·rename_i y r1 h1;obtain⟨c1,us1,rfl,hc1,hx,hr1,hi1⟩:=fT hi hr h1 hids;split at h
   ·rename_i z r2 h2;simp only[aw,B3]at h;obtain⟨rfl,rfl⟩:=h;obtain⟨c2,us2,rfl,hc2,hy,hr2,hi2⟩:=fT hi hr1 h2 hi1;exact⟨c1++c2,us2,by simp,by simp[Ty.size,hc1,hc2],⟨c1,c2,rfl,hx,hy⟩,hr2,hi2⟩
   simp at h
  simp at h
 |.unit,us,l,rest,x,hr,h,hids=>by simp[aA]at h;subst h;exact⟨[],us,rfl,rfl,rfl,hr,hids⟩
 |.arr n e,us,l,rest,x,hr,h,hids=>by simp only[aA]at h;obtain⟨c,us',h1,h2,h3,h4,h5,h6⟩:=oJ (r:=λc x=>Rd m.w (Thru m ids) e c x) (size:=e.size) (λhr h hids=>fT hi hr h hids) n hr h hids;exact⟨c,us',h1,h3,⟨h2,h3,h4⟩,h5,h6⟩
 |.int k,us,l,rest,x,hr,h,hids=>atomic hi (by rfl) hr (by cases l with|nil=>simp[aA]at h|cons a l=>(simp only[aA]at h;split at h<;>simp_all)) hids
 |.bool,us,l,rest,x,hr,h,hids=>atomic hi (by rfl) hr (by cases l with|nil=>simp[aA]at h|cons a l=>(simp only[aA]at h;split at h<;>simp_all)) hids
 |.str,us,l,rest,x,hr,h,hids=>atomic hi (by rfl) hr (by cases l with|nil=>simp[aA]at h|cons a l=>(simp only[aA]at h;split at h<;>simp_all)) hids
 |.slice e,us,l,rest,x,hr,h,hids=>atomic hi (by rfl) hr (by cases l with|nil=>simp[aA]at h|cons a l=>(simp only[aA]at h;split at h<;>simp_all)) hids
 |.ptr e,us,l,rest,x,hr,h,hids=>atomic hi (by rfl) hr (by cases l with|nil=>simp[aA]at h|cons a l=>(simp only[aA]at h;split at h<;>simp_all)) hids
 |.clo g e,us,l,rest,x,hr,h,hids=>atomic hi (by rfl) hr (by cases l with|nil=>simp[aA]at h|cons a l=>(simp only[aA]at h;split at h<;>simp_all)) hids
where
 atomic (hi:Inv C w0 M m) {ids:List Nat} {τ : Ty} (hs : τ.size=1) {us:List Value} {l rest:List Atom} {x : τ.den} (hr:Rel2 (ai m) us l)
   (h:∃ a,l=a::rest/\aF m.G τ a=some x) (hids:∀ i∈l.flatMap atomIds,i∈ids) :
   ∃ c us',us=c++us'/\c.length=τ.size/\Rd m.w (Thru m ids) τ c x/\Rel2 (ai m) us' rest/\(∀ i∈rest.flatMap atomIds,i∈ids):=by
  obtain⟨a,rfl,ha⟩:=h;match us,hr with
  |u::us,hr=>refine⟨[u],us,rfl,hs.symm,li ?_ (cv hi ha hr.1),hr.2,λi hi=>hids i (by simp only[KI,A4];exact .inr hi)⟩;intro i hi';exact hids i (by simp only[KI,A4];exact .inl hi')
theorem bP{u:Value}:∀{a:Atom},ai m u a->(∀(_:a=.u),False)->(∀(_:a=.undef),False)->u.oneCell'=true
 |.u,_,h,_=>(h rfl).elim
 |.undef,_,_,h=>(h rfl).elim
 |.nils _,h,_,_=>by obtain⟨_,rfl,_⟩:=h;rfl
 |.val _ _,h,_,_=>h.1.one u (by simp)
 |.own _,h,_,_=>h.1
 |.view _ _ _,h,_,_=>h.1
 |.ptr _ _,h,_,_=>h.1
 |.aptr _ _ _,h,_,_=>h.1
 |.cut _ _ _,h,_,_=>h.1
 |.clo _ _,h,_,_=>by obtain⟨_,rfl,_⟩:=h;rfl
 |.bnd _ _,h,_,_=>by obtain⟨_,rfl,_⟩:=h;rfl
 |.ownd _,h,_,_=>h.1
 |.sub _ _ _,h,_,_=>h.1
 |.saptr _ _ _ _,h,_,_=>h.1
 |.ownm _,h,_,_=>h.1
 |.iptr _ _ _ _ _,h,_,_=>h.1
theorem mm{τ:Ty}(h:τ.isAgg=false)(u:Value):toV τ [u]=u:=by simp[toV,h]
theorem pY (hi:Inv C w0 M m){id off:Nat}{e:Ty}{x:e.den}{u:Value}(h:dQ m.G e id off=some x)(hr:ai m u (.ptr id off)) :
  Rd m.w (Thru m (id::c9 m.G id)) (.ptr e) [u] x:=by
 obtain⟨_,o,ho,hv⟩:=hr;unfold dQ at h;rw[ho]at h;cases o with
 |box l=>
  simp only at h hv;obtain⟨b,hι,hu⟩:=hv;cases hle:JK (off+e.size) l.length with
  |false=>rw[hle]at h;simp at h
  |true=>
   rw[hle]at h;simp only[UA]at h;have hle':=JF hle;split at h
   ·rename_i y rest hc;simp only[aw]at h;subst h;obtain⟨b',c,el,h1,h2,_,h3⟩:=hi.objs id _ ho;rw[hι]at h1;simp only[Value.pointer.injEq,aw,Addr.mk.injEq,and_true]at h1;subst h1;obtain⟨c1,us',q1,q2,q3,_,_⟩:=fT hi (ids:=id::c9 m.G id) (h3.drop off) hc (λi hi'=>by
     simp only[A8];right;unfold c9;rw[ho];simp only[List.mem_flatMap]at hi' ⊢;obtain⟨a,ha,hia⟩:=hi';exact⟨a,List.mem_of_mem_drop ha,hia⟩)
    have hlen:=h3.length;simp only[JD]at hlen;refine⟨b,off,c,el,(0,0),by rw[hu],.inr ⟨id,by simp,_,ho,rfl,by rw[hι];rfl⟩,h2,by omega,?_⟩;have:seg c off e.size=c1:=by unfold seg;rw[q1,<- q2,KF]
    rw[this];exact q3
   simp at h
 |_=>simp at h
theorem vj{o:Option Obj}{j:Nat}(h:jM o=some j):o=some (.box [.ptr j 0]):=by
 unfold jM at h;split at h
 ·cases h;rfl
 cases h
theorem Gm (hi:Inv C w0 M m){id:Nat}{a:Ty}{x:a.den}{u:Value}(h:vz m.G a id=some x)(hr:ai m u (.ptr id 0)) :
  Rd m.w (Thru m (fV m.G id)) (.ptr a) [u] x:=by
 have old:dQ m.G a id 0=some x->Rd m.w (Thru m (fV m.G id)) (.ptr a) [u] x:=λh=>
  li (λj hj=>by
   rcases A8.1 hj with e|hj
   ·exact A8.2 (.inl e)
   exact Jq _ (List.mem_append_left _ hj)) (pY hi h hr)
 cases a with
 |ptr e=>
  have h:(match jM (m.G.get id)with
   |some j=>dQ m.G e j 0
   |none=>dQ m.G (.ptr e) id 0)=some x:=h
  cases hp:jM (m.G.get id)with
  |none=>rw[hp]at h;exact old h
  |some j=>
   rw[hp]at h;have hg:=vj hp;have e1:fV m.G id=id::(c9 m.G id++(j::c9 m.G j)):=by unfold fV;rw[hp]
   obtain⟨_,o,ho,hv⟩:=hr;rw[hg]at ho;simp only[aw]at ho;subst ho;obtain⟨b,hι,hu⟩:=hv;obtain⟨b',c,el,h1,h2,_,h3⟩:=hi.objs id _ hg;rw[hι]at h1;simp only[Value.pointer.injEq,aw,Addr.mk.injEq,and_true]at h1;subst h1;match hc:c.toList,h3 with
   |[u1],h3=>
    have hs:c.size=1:=by rw[<- JD,hc];rfl
    have hin:=pY hi h h3.1;refine⟨b,0,c,el,(0,0),by rw[hu],.inr ⟨id,by rw[e1];simp,_,hg,rfl,by rw[hι];rfl⟩,h2,by show 0+1<=c.size;omega,?_⟩;have:seg c 0 (Ty.ptr e).size=[u1]:=by unfold seg;rw[hc];rfl
    rw[this,e1];exact li (λk hk=>Jq _ (List.mem_append_right _ hk)) hin
   |[],h3=>exact h3.elim
   |_::_::_,h3=>exact h3.2.elim
 |_=>exact old h
theorem yw (hi:Inv C w0 M m){ids:List Nat}:∀{e:Ty} {x:e.den} {vs:List Value} {caps:List Nat},cg m.G e caps=some x ->
  Rel2 (fun u c=>∃ o,m.G.get c=some o/\(match o with
    |.box _=>∃ b,m.ι c=.pointer (some ⟨b,0,none⟩)/\u=.pointer (some ⟨b,0,none⟩)
    |.dead=>True
    |_=>False)) vs caps->(∀ i∈caps.flatMap (fV m.G),i∈ids)->Rd m.w (Thru m ids) e vs x
 |.prod (.ptr a) b,x,vs,i::r,h,hr,hids=>by
  simp only[cg]at h;split at h
  ·rename_i y hy;split at h
   ·rename_i z hz;simp only[aw]at h;subst h;match vs,hr with
    |u::us,hr=>
     obtain⟨⟨o,ho,hv⟩,hr2⟩:=hr;have hids1:∀ j∈fV m.G i,j∈ids:=λj hj=>hids j (by simp only[KI,A4];exact .inl hj);have hids2:∀ j∈r.flatMap (fV m.G),j∈ids:=λj hj=>hids j (by simp only[KI,A4];exact .inr hj);refine⟨[u],us,rfl,li hids1 (Gm hi hy ?_),yw hi hz hr2 hids2⟩;cases o with
     |box l=>obtain⟨bb,h1,h2⟩:=hv;exact⟨by rw[h2];rfl,_,ho,bb,h1,h2⟩
     |_=>cases a<;>simp[vz,jM,dQ,ho]at hy
   simp at h
  simp at h
 |.unit,x,vs,[],h,hr,_=>by
  match vs,hr with
  |[],_=>rfl
 |.unit,_,_,_::_,h,_,_=>by simp[cg]at h
 |.prod (.ptr _) _,_,_,[],h,_,_=>by simp[cg]at h
 |.prod (.int _) _,_,_,_,h,_,_=>by simp[cg]at h
 |.prod .bool _,_,_,_,h,_,_=>by simp[cg]at h
 |.prod .str _,_,_,_,h,_,_=>by simp[cg]at h
 |.prod (.slice _) _,_,_,_,h,_,_=>by simp[cg]at h
 |.prod (.prod _ _) _,_,_,_,h,_,_=>by simp[cg]at h
 |.prod .unit _,_,_,_,h,_,_=>by simp[cg]at h
 |.prod (.arr _ _) _,_,_,_,h,_,_=>by simp[cg]at h
 |.prod (.clo _ _) _,_,_,_,h,_,_=>by simp[cg]at h
 |.int _,_,_,_,h,_,_=>by simp[cg]at h
 |.bool,_,_,_,h,_,_=>by simp[cg]at h
 |.str,_,_,_,h,_,_=>by simp[cg]at h
 |.slice _,_,_,_,h,_,_=>by simp[cg]at h
 |.arr _ _,_,_,_,h,_,_=>by simp[cg]at h
 |.ptr _,_,_,_,h,_,_=>by simp[cg]at h
 |.clo _ _,_,_,_,h,_,_=>by simp[cg]at h
theorem db (hi:Inv C w0 M m){τ : Ty}{v:SV}{x : τ.den}{u:Value}(h:aR m.G τ v=some x)(hr:RelSV m u v) :
  ∃ cs,u=toV τ cs/\Rd m.w (Thru m (cP m.G v)) τ cs x:=by
 have atom {a:Atom} (h:cond τ.isAgg none (aF m.G τ a)=some x) (hr:ai m u a):∃ cs,u=toV τ cs/\Rd m.w (Thru m (atomIds a)) τ cs x:=by
  cases ha:τ.isAgg with
  |true=>rw[ha]at h;simp at h
  |false=>rw[ha]at h;exact⟨[u],(mm ha u).symm,cv hi h hr⟩
 cases v with
 |av a=>
  cases a with
  |val σ y=>
   obtain⟨e,hy⟩:=aD h;subst e;subst hy
   obtain⟨cs,h1,h2⟩:=hr;exact⟨cs,h1,Hb h2⟩
  |ptr id off=>
   cases τ<;>simp only[aR]at h<;>try (simp at h;done)
   exact⟨[u],by simp[toV,Ty.isAgg],pY hi h hr⟩
  |clo f caps=>
   cases τ<;>simp only[aR]at h<;>try (simp at h;done)
   rename_i g e;cases hf:A7 f g with
   |false=>rw[hf]at h;simp at h
   |true=>rw[hf]at h;simp only[UA]at h;have:=A3 hf;subst this;obtain⟨vs,rfl,hr⟩:=hr;exact⟨[_],by simp[toV,Ty.isAgg],vs,rfl,yw hi h hr (λi hi=>hi)⟩
  |u=>exact atom h hr
  |undef=>exact atom h hr
  |nils=>exact atom h hr
  |own _=>exact atom h hr
  |view _ _ _=>exact atom h hr
  |aptr _ _ _=>exact atom h hr
  |cut _ _ _=>exact atom h hr
  |bnd _ _=>exact atom h hr
  |ownd _=>exact atom h hr
  |sub _ _ _=>exact atom h hr
  |saptr _ _ _ _=>exact atom h hr
  |ownm _=>exact atom h hr
  |iptr _ _ _ _ _=>exact atom h hr
 |agg l=>
  obtain⟨us,rfl,_,hr⟩:=hr;simp only[aR]at h;cases ha:τ.isAgg with
  |false=>rw[ha]at h;simp at h
  |true=>
   rw[ha]at h;simp only[UA]at h;split at h
   ·rename_i y hc;simp only[aw]at h;subst h;obtain⟨c,us',q1,q2,q3,q4,_⟩:=fT hi (ids:=l.flatMap atomIds) hr hc (λi hi=>hi);match us',q4 with
    |[],_=>rw[Jz]at q1;subst q1;exact⟨us,by simp[toV,ha],q3⟩
   simp at h
 |tup l=>simp[aR]at h
end
end Go.Vm

/-
 Values laid as cells; parts of values.
-/
namespace Go.Vm
section
variable {m:Mem}
theorem bm:∀{τ:Ty} {cs:List Value} {x:τ.den},Rd m.w m.F τ cs x->Rel2 (ai m) cs (da τ x)
 |.int _,_,_,h=>by have h':=h;obtain⟨rfl,_⟩:=h';exact⟨⟨h,rfl⟩,trivial⟩
 |.bool,_,_,h=>by have h':=h;unfold Rd at h';subst h';exact⟨⟨h,rfl⟩,trivial⟩
 |.str,_,_,h=>by have h':=h;obtain⟨rfl,_⟩:=h';exact⟨⟨h,rfl⟩,trivial⟩
 |.slice _,_,_,h=>by have h':=h;obtain⟨_,_,rfl,_⟩:=h';exact⟨⟨h,rfl⟩,trivial⟩
 |.ptr _,_,_,h=>by have h':=h;obtain⟨_,_,_,_,_,rfl,_⟩:=h';exact⟨⟨h,rfl⟩,trivial⟩
 |.clo _ _,_,_,h=>by have h':=h;obtain⟨_,rfl,_⟩:=h';exact⟨⟨h,rfl⟩,trivial⟩
 |.prod a b,_,x,h=>by obtain⟨c1,c2,rfl,h1,h2⟩:=h;exact(bm h1).append (bm h2)
 |.unit,_,_,h=>by unfold Rd at h;subst h;trivial
 |.arr n e,cs,l,h=>by
  obtain⟨h1,h2,h3⟩:=h;have key:∀ k,k<=n->Rel2 (ai m) (cs.take (k * e.size)) ((JZ k).flatMap fun i=>match l[i]? with
    |some y=>da e y
    |none=>A5 e.size .u):=by
   intro k;induction k with
   |zero=>intro _;simp[Rel2]
   |succ k ih=>intro hk;rw[List.range_succ,List.flatMap_append,B8,Nat.one_mul,List.take_add];refine(ih (by omega)).append ?_;have hl:l[k]?=some l[k]:=A1 (by omega);simp only[KI,List.flatMap_nil,Jz,hl];exact bm (h3 k (by omega))
  have:=key n (B2 n);rw[Kz (by omega)]at this;exact this
theorem kZ {τ : Ty}{v:SV}{l:List Atom}{u:Value}(h:fG τ v=some l)(hr:RelSV m u v) :
  Rel2 (ai m) u.cells.toList l/\∀ c∈u.cells.toList,c.oneCell'=true:=by
 have atom {a:Atom} (h:cond τ.isAgg none (some [a])=some l) (hr:ai m u a) (hu:u.oneCell'=true):Rel2 (ai m) u.cells.toList l/\∀ c∈u.cells.toList,c.oneCell'=true:=by
  cases ha:τ.isAgg with
  |true=>rw[ha]at h;simp at h
  |false=>rw[ha]at h;simp at h;subst h;rw[lE hu];exact⟨⟨hr,trivial⟩,by simp[hu]⟩
 cases v with
 |av a=>
  cases a with
  |val σ x=>
   simp only[fG]at h;split at h
   ·rename_i e;subst e;simp only[aw]at h;subst h;obtain⟨cs,rfl,hr⟩:=hr;rw[lJ hr];exact⟨by simpa using bm hr,by simpa using hr.one⟩
   simp at h
  |u=>simp[fG]at h
  |undef=>simp[fG]at h
  |nils _=>exact atom h hr (bP (m:=m) (a:=.nils _) hr (by simp) (by simp))
  |own _=>exact atom h hr (bP (m:=m) (a:=.own _) hr (by simp) (by simp))
  |view _ _ _=>exact atom h hr (bP (m:=m) (a:=.view _ _ _) hr (by simp) (by simp))
  |ptr _ _=>exact atom h hr (bP (m:=m) (a:=.ptr _ _) hr (by simp) (by simp))
  |aptr _ _ _=>exact atom h hr (bP (m:=m) (a:=.aptr _ _ _) hr (by simp) (by simp))
  |clo _ _=>exact atom h hr (bP (m:=m) (a:=.clo _ _) hr (by simp) (by simp))
  |cut _ _ _=>exact atom h hr (bP (m:=m) (a:=.cut _ _ _) hr (by simp) (by simp))
  |bnd _ _=>exact atom h hr (bP (m:=m) (a:=.bnd _ _) hr (by simp) (by simp))
  |ownd _=>exact atom h hr (bP (m:=m) (a:=.ownd _) hr (by simp) (by simp))
  |sub _ _ _=>exact atom h hr (bP (m:=m) (a:=.sub _ _ _) hr (by simp) (by simp))
  |saptr _ _ _ _=>exact atom h hr (bP (m:=m) (a:=.saptr _ _ _ _) hr (by simp) (by simp))
  |ownm _=>exact atom h hr (bP (m:=m) (a:=.ownm _) hr (by simp) (by simp))
  |iptr _ _ _ _ _=>exact atom h hr (bP (m:=m) (a:=.iptr _ _ _ _ _) hr (by simp) (by simp))
 |agg l'=>simp[fG]at h;subst h;obtain⟨us,rfl,h1,h2⟩:=hr;exact⟨by simpa[Value.cells]using h2,by simpa[Value.cells]using h1⟩
 |tup _=>simp[fG]at h
theorem iF{τ:Ty}{l:List Atom}{us:List Value}(h1:∀ u∈us,u.oneCell'=true)(hr:Rel2 (ai m) us l):RelSV m (toV τ us) (d8 τ l):=by
 unfold d8 toV;cases τ.isAgg with
 |true=>exact⟨us,rfl,h1,hr⟩
 |false=>
  simp only[UB];split
  ·rename_i a;match us,hr with
   |[u],hr=>exact RelSV.of_atom hr.1
  trivial
theorem gF:∀{n:Nat} {l r:List Atom},kl n l=some r->r=l.take n/\n<=l.length
 |0,l,r,h=>by simp[kl]at h;subst h;simp
 |n+1,a::l,r,h=>by
  simp only[kl]at h;split at h
  ·rename_i r' hr;simp at h;subst h
   obtain⟨rfl,h2⟩:=gF hr;simp[h2]
  simp at h
 |n+1,[],r,h=>by simp[kl]at h
theorem lk:∀{n:Nat} {xs l r:List Atom},pO n xs l=some r->r=l.take n++xs++l.drop (n+xs.length)/\n+xs.length<=l.length
 |0,[],l,r,h=>by simp[pO]at h;subst h;simp
 |0,x::xs,[],r,h=>by simp[pO]at h
 |0,x::xs,a::l,r,h=>by
  simp only[pO]at h;split at h
  ·rename_i r' hr;simp at h;subst h
   obtain⟨h1,h2⟩:=lk hr;simp at h1;subst h1;refine⟨by simp,by simp at h2 ⊢;omega⟩
  simp at h
 |n+1,xs,a::l,r,h=>by
  simp only[pO]at h;split at h
  ·rename_i r' hr;simp at h;subst h
   obtain⟨rfl,h2⟩:=lk hr;refine⟨by simp[Nat.add_right_comm n 1],by simp;omega⟩
  simp at h
 |n+1,[],[],r,h=>by simp[pO]at h
 |n+1,_::_,[],r,h=>by simp[pO]at h
theorem iJ {w:World}{F:Nat->Prop}:∀{τ : Ty} {x : τ.den} {f:Nat} {σ : Ty} {y : σ.den} {cs:List Value},bW τ x f=some ⟨σ,y⟩->Rd w F τ cs x ->
  ∃ o,τ.field f=some (o,σ)/\o+σ.size<=τ.size/\Rd w F σ ((cs.drop o).take σ.size) y
 |.prod a b,x,0,σ,y,cs,h,hr=>by simp only[bW,aw,Sigma.mk.injEq]at h;obtain⟨rfl,hy⟩:=h;simp only[heq_eq_eq]at hy;subst hy;obtain⟨c1,c2,rfl,h1,h2⟩:=hr;refine⟨0,rfl,by simp[Ty.size],?_⟩;rw[K6,<- h1.len,KF];exact h1
 |.prod a b,x,f+1,σ,y,cs,h,hr=>by simp only[bW]at h;obtain⟨c1,c2,rfl,h1,h2⟩:=hr;obtain⟨o,q1,q2,q3⟩:=iJ h h2;refine⟨a.size+o,by simp[Ty.field,q1],by simp[Ty.size];omega,?_⟩;rw[<- h1.len,Le,KA (by omega),Kw,LM];exact q3
 |.unit,_,_,_,_,_,h,_=>by simp[bW]at h
 |.int _,_,_,_,_,_,h,_=>by simp[bW]at h
 |.bool,_,_,_,_,_,h,_=>by simp[bW]at h
 |.str,_,_,_,_,_,h,_=>by simp[bW]at h
 |.slice _,_,_,_,_,_,h,_=>by simp[bW]at h
 |.arr _ _,_,_,_,_,_,h,_=>by simp[bW]at h
 |.ptr _,_,_,_,_,_,h,_=>by simp[bW]at h
 |.clo _ _,_,_,_,_,_,h,_=>by simp[bW]at h
theorem er(cs:List Value)(o n o' n':Nat)(h:o'+n'<=n):(((cs.drop o).take n).drop o').take n'=(cs.drop (o+o')).take n':=by rw[List.drop_take,List.drop_drop,List.take_take];congr 1;omega
theorem pB {w:World}{F:Nat->Prop}:∀{p:List Nat} {τ : Ty} {x : τ.den} {σ : Ty} {y : σ.den} {cs:List Value},mH τ x p=some ⟨σ,y⟩->Rd w F τ cs x ->
  ∃ o,cX τ p=some (o,σ)/\o+σ.size<=τ.size/\Rd w F σ ((cs.drop o).take σ.size) y
 |[],τ,x,σ,y,cs,h,hr=>by simp only[mH,aw,Sigma.mk.injEq]at h;obtain⟨rfl,hy⟩:=h;simp only[heq_eq_eq]at hy;subst hy;refine⟨0,rfl,by simp,?_⟩;rw[K6,Kz (by rw[hr.len];exact B2 _)];exact hr
 |f::p,τ,x,σ,y,cs,h,hr=>by
  simp only[mH]at h;split at h
  ·rename_i t z hz;obtain⟨o1,q1,q2,q3⟩:=iJ hz hr;obtain⟨o2,r1,r2,r3⟩:=pB h q3;refine⟨o1+o2,by simp[cX,q1,r1],by omega,?_⟩;rw[er _ _ _ _ _ r2]at r3;exact r3
  simp at h
theorem mS:∀{p:List Nat} {τ σ ρ:Ty} {o q f:Nat},cX τ p=some (o,σ)->σ.field f=some (q,ρ)->cX τ (p++[f])=some (o+q,ρ)
 |[],τ,σ,ρ,o,q,f,h,hf=>by simp only[cX,aw,B3]at h;obtain⟨rfl,rfl⟩:=h;simp[cX,hf]
 |i::p,τ,σ,ρ,o,q,f,h,hf=>by
  simp only[cX]at h;split at h
  ·rename_i o1 t h1;split at h
   ·rename_i q1 u h2;simp only[aw,B3]at h;obtain⟨rfl,rfl⟩:=h;simp[cX,h1,mS h2 hf,JX]
   simp at h
  simp at h
theorem l6 {w:World}{F:Nat->Prop}:∀{τ : Ty} {x : τ.den} {p:List Nat} {σ : Ty} {y : σ.den} {z : τ.den} {cs us:List Value},dH τ x p σ y=some z->Rd w F τ cs x->Rd w F σ us y ->
  ∃ o,cX τ p=some (o,σ)/\o+σ.size<=τ.size/\Rd w F τ (cs.take o++us++cs.drop (o+us.length)) z
 | τ,x,[],σ,y,z,cs,us,h,hr,hu=>by
  have h:bC τ σ y=some z:=by cases τ<;>exact h
  obtain⟨e,hz⟩:=aD h;subst e;subst hz
  refine⟨0,rfl,by simp,?_⟩;simp only[List.take_zero,Kw,Nat.zero_add];rw[KA (by rw[hu.len,hr.len];exact B2 _),Jz];exact hu
 |.prod a b,x,0::p,σ,y,z,cs,us,h,hr,hu=>by
  simp only[dH]at h;split at h
  ·rename_i x' hx;simp only[aw]at h;subst h;obtain⟨c1,c2,rfl,h1,h2⟩:=hr;obtain⟨o,q1,q2,q3⟩:=l6 hx h1 hu;have hl:=h1.len;have hul:=hu.len;refine⟨o,by simp[cX,Ty.field,q1],by simp[Ty.size];omega,?_⟩;refine⟨c1.take o++us++c1.drop (o+us.length),c2,?_,q3,h2⟩;rw[KE (by omega),List.drop_append_of_le_length (by omega)];simp
  simp at h
 |.prod a b,x,(f+1)::p,σ,y,z,cs,us,h,hr,hu=>by
  simp only[dH]at h;split at h
  ·rename_i x' hx;simp only[aw]at h;subst h;obtain⟨c1,c2,rfl,h1,h2⟩:=hr;obtain⟨o,q1,q2,q3⟩:=l6 hx h2 hu;have hl:=h1.len;refine⟨a.size+o,?_,by simp[Ty.size];omega,?_⟩
   ·simp only[cX]at q1 ⊢;simp only[Ty.field];cases hf:b.field f with
    |none=>rw[hf]at q1;simp at q1
    |some z=>
     obtain⟨o1,t⟩:=z;rw[hf]at q1;simp only at q1 ⊢;cases hp:cX t p with
     |none=>rw[hp]at q1;simp at q1
     |some z=>obtain⟨q,u⟩:=z;rw[hp]at q1;simp only[aw,B3]at q1;obtain⟨rfl,rfl⟩:=q1;simp[JX]
   refine⟨c1,c2.take o++us++c2.drop (o+us.length),?_,h1,q3⟩;rw[List.take_append,Kz (by omega),Le,KA (by omega),<- hl];simp[JX]
  simp at h
 |.unit,_,_::_,_,_,_,_,_,h,_,_=>by simp[dH]at h
 |.int _,_,_::_,_,_,_,_,_,h,_,_=>by simp[dH]at h
 |.bool,_,_::_,_,_,_,_,_,h,_,_=>by simp[dH]at h
 |.str,_,_::_,_,_,_,_,_,h,_,_=>by simp[dH]at h
 |.slice _,_,_::_,_,_,_,_,_,h,_,_=>by simp[dH]at h
 |.arr _ _,_,_::_,_,_,_,_,_,h,_,_=>by simp[dH]at h
 |.ptr _,_,_::_,_,_,_,_,_,h,_,_=>by simp[dH]at h
 |.clo _ _,_,_::_,_,_,_,_,_,h,_,_=>by simp[dH]at h
theorem dO:∀{τ:Ty} {l r:List Value},τ.noPC=true->zeroIs τ l=some r->∃ c,l=c++r/\Rd m.w m.F τ c (bk τ)/\Rel2 (ai m) c (zeroCells τ)
 |.int k,l,r,_,h=>by
  match l with
  |.int k' n::t=>
   simp only[zeroIs]at h;cases hc:(decide (k'=k)&&decide (n=0))with
   |false=>rw[hc]at h;simp at h
   |true=>rw[hc]at h;simp at h hc;obtain⟨rfl,rfl⟩:=hc;subst h;have hr:Rd m.w m.F (.int k') [.int k' 0] (bk (.int k')):=⟨rfl,by cases k'<;>simp[bk,IntKind.min,IntKind.max,IntKind.signed,IntKind.bits]⟩;exact⟨[.int k' 0],rfl,hr,⟨hr,rfl⟩,trivial⟩
  |[]=>simp[zeroIs]at h
  |.bool _::_|.float _ _::_|.complex _ _ _::_|.string _::_|.pointer _::_|.slice _ _ _::_|.map _::_|.chan _::_|.func _ _ _::_|.nilFunc::_|.iface _ _::_|.nilIface::_|.agg _::_|.tuple _::_=>simp[zeroIs]at h
 |.bool,l,r,_,h=>by
  match l with
  |.bool b::t=>cases b<;>simp[zeroIs]at h;subst h;exact⟨[.bool false],rfl,rfl,⟨rfl,rfl⟩,trivial⟩
  |[]=>simp[zeroIs]at h
  |.int _ _::_|.float _ _::_|.complex _ _ _::_|.string _::_|.pointer _::_|.slice _ _ _::_|.map _::_|.chan _::_|.func _ _ _::_|.nilFunc::_|.iface _ _::_|.nilIface::_|.agg _::_|.tuple _::_=>simp[zeroIs]at h
 |.str,l,r,_,h=>by
  match l with
  |.string s::t=>
   simp only[zeroIs]at h;cases hc:A7 s.size 0 with
   |false=>rw[hc]at h;simp at h
   |true=>
    rw[hc]at h;simp at h;subst h;have h0:=A3 hc;have:s=ByteArray.empty:=by
     cases s with
     |mk d=>have:d=#[]:=Array.eq_empty_of_size_eq_zero h0;subst this;rfl
    subst this;have hr:Rd m.w m.F .str [.string ByteArray.empty] (bk .str):=⟨rfl,by simp[bk,maxLen]⟩;exact⟨[.string ByteArray.empty],rfl,hr,⟨hr,rfl⟩,trivial⟩
  |[]=>simp[zeroIs]at h
  |.int _ _::_|.float _ _::_|.complex _ _ _::_|.bool _::_|.pointer _::_|.slice _ _ _::_|.map _::_|.chan _::_|.func _ _ _::_|.nilFunc::_|.iface _ _::_|.nilIface::_|.agg _::_|.tuple _::_=>simp[zeroIs]at h
 |.slice e,l,r,_,h=>by
  match l with
  |.slice none 0 0::t=>simp only[zeroIs,aw]at h;subst h;exact⟨[.slice none 0 0],rfl,Rd.nil_slice none,⟨none,rfl,λ_=>rfl⟩,trivial⟩
  |[]=>simp[zeroIs]at h
  |.slice (some _) _ _::_=>simp[zeroIs]at h
  |.slice none (_+1) _::_=>simp[zeroIs]at h
  |.slice none 0 (_+1)::_=>simp[zeroIs]at h
  |.int _ _::_|.float _ _::_|.complex _ _ _::_|.bool _::_|.pointer _::_|.string _::_|.map _::_|.chan _::_|.func _ _ _::_|.nilFunc::_|.iface _ _::_|.nilIface::_|.agg _::_|.tuple _::_=>simp[zeroIs]at h
 |.prod a b,l,r,hn,h=>by
  simp only[Ty.noPC,np]at hn;simp only[zeroIs]at h;split at h
  ·rename_i r1 h1;obtain⟨c1,rfl,q1,p1⟩:=dO hn.1 h1;obtain⟨c2,rfl,q2,p2⟩:=dO hn.2 h;exact⟨c1++c2,by simp,⟨c1,c2,rfl,q1,q2⟩,p1.append p2⟩
  simp at h
 |.unit,l,r,_,h=>by simp[zeroIs]at h;subst h;exact⟨[],rfl,rfl,trivial⟩
 |.arr n e,l,r,hn,h=>by
  have hn:e.noPC=true:=hn;simp only[zeroIs]at h;have key:∀(n:Nat) {l r:List Value},zeroIs.repO (zeroIs e) n l=some r->∃ c,l=c++r/\c.length=n*e.size/\(∀ i,i<n->Rd m.w m.F e ((c.drop (i*e.size)).take e.size) (bk e))/\Rel2 (ai m) c (A5 n (zeroCells e)).flatten:=by
   intro n;induction n with
   |zero=>intro l r h;simp[zeroIs.repO]at h;subst h;exact⟨[],rfl,by simp,λi hi=>by omega,trivial⟩
   |succ n ih=>
    intro l r h;simp only[zeroIs.repO]at h;split at h
    ·rename_i r1 h1;obtain⟨c1,rfl,q1,p1⟩:=dO hn h1;obtain⟨c2,rfl,q2,q3,p2⟩:=ih h;have hl:=q1.len;refine⟨c1++c2,by simp,by simp[q2,hl,B8];omega,?_,by rw[Lw,KL];exact p1.append p2⟩;intro i hi;cases i with
     |zero=>simp only[MH,K6];rw[KE (by omega),Kz (by omega)];exact q1
     |succ i=>rw[show(i+1)*e.size=c1.length+i*e.size by rw[B8,hl];omega,Le,KA (by omega),Kw,LM];exact q3 i (by omega)
    simp at h
  obtain⟨c,h1,h2,h3,h4⟩:=key n h;exact⟨c,h1,⟨by simp[bk],h2,λi hi=>by simpa[bk]using h3 i (by simpa[bk]using hi)⟩,h4⟩
 |.ptr _,l,r,hn,h=>by cases hn
 |.clo _ _,l,r,hn,h=>by cases hn
theorem fy:∀{τ:Ty} {l r:List Value},zeroIs τ l=some r->∃ c,l=c++r/\c.length=τ.size/\(∀ u∈c,u.oneCell'=true)/\∀ m:Mem,Rel2 (ai m) c (zeroCells τ)
 |.prod a b,l,r,h=>by
  simp only[zeroIs]at h;split at h
  ·rename_i r1 h1;obtain⟨c1,rfl,q1,o1,p1⟩:=fy h1;obtain⟨c2,rfl,q2,o2,p2⟩:=fy h;exact⟨c1++c2,by simp,by simp[Ty.size,q1,q2],λu hu=>(A4.1 hu).elim (o1 u) (o2 u),λm=>(p1 m).append (p2 m)⟩
  simp at h
 |.arr n e,l,r,h=>by
  simp only[zeroIs]at h;have key:∀(n:Nat) {l r:List Value},zeroIs.repO (zeroIs e) n l=some r->∃ c,l=c++r/\c.length=n*e.size/\(∀ u∈c,u.oneCell'=true)/\∀ m:Mem,Rel2 (ai m) c (A5 n (zeroCells e)).flatten:=by
   intro n;induction n with
   |zero=>intro l r h;simp[zeroIs.repO]at h;subst h;exact⟨[],rfl,by simp,λu hu=>by simp at hu,λ_=>trivial⟩
   |succ n ih=>
    intro l r h;simp only[zeroIs.repO]at h;split at h
    ·rename_i r1 h1;obtain⟨c1,rfl,q1,o1,p1⟩:=fy h1;obtain⟨c2,rfl,q2,o2,p2⟩:=ih h;exact⟨c1++c2,by simp,by simp[q1,q2,B8];omega,λu hu=>(A4.1 hu).elim (o1 u) (o2 u),λm=>by rw[Lw,KL];exact(p1 m).append (p2 m)⟩
    simp at h
  obtain⟨c,h1,h2,h3,h4⟩:=key n h;exact⟨c,h1,h2,h3,h4⟩
 |.ptr _,l,r,h=>by
  match l,h with
  |.pointer none::t,h=>simp only[zeroIs,aw]at h;subst h;exact⟨[.pointer none],rfl,rfl,λu hu=>by simp at hu;subst hu;rfl,λ_=>⟨trivial,trivial⟩⟩
  |[],h=>simp[zeroIs]at h
  |.pointer (some _)::_,h=>simp[zeroIs]at h
  |.int _ _::_,h|.bool _::_,h|.float _ _::_,h|.complex _ _ _::_,h|.string _::_,h|.slice _ _ _::_,h|.map _::_,h|.chan _::_,h|.func _ _ _::_,h|.iface _ _::_,h|.nilIface::_,h|.agg _::_,h|.tuple _::_,h|.nilFunc::_,h=>simp[zeroIs]at h
 |.clo _ _,l,r,h=>by
  match l,h with
  |.nilFunc::t,h=>simp only[zeroIs,aw]at h;subst h;exact⟨[.nilFunc],rfl,rfl,λu hu=>by simp at hu;subst hu;rfl,λ_=>⟨trivial,trivial⟩⟩
  |[],h=>simp[zeroIs]at h
  |.int _ _::_,h|.bool _::_,h|.float _ _::_,h|.complex _ _ _::_,h|.string _::_,h|.slice _ _ _::_,h|.map _::_,h|.chan _::_,h|.func _ _ _::_,h|.iface _ _::_,h|.nilIface::_,h|.agg _::_,h|.tuple _::_,h|.pointer _::_,h=>simp[zeroIs]at h
 |.int k,l,r,h=>plain rfl h
 |.bool,l,r,h=>plain rfl h
 |.str,l,r,h=>plain rfl h
 |.slice e,l,r,h=>plain rfl h
 |.unit,l,r,h=>plain rfl h
where
 plain {τ:Ty} {l r:List Value} (hn:τ.noPC=true) (h:zeroIs τ l=some r):∃ c,l=c++r/\c.length=τ.size/\(∀ u∈c,u.oneCell'=true)/\∀ m:Mem,Rel2 (ai m) c (zeroCells τ):=by obtain⟨c,h1,h2,_⟩:=dO (m:=⟨default,λ_=>False,λ_=>undef,[]⟩) hn h;refine⟨c,h1,h2.len,h2.one,λm=>?_⟩;obtain⟨c',k1,_,k3⟩:=dO (m:=m) hn h;rw[h1]at k1;rw[List.append_cancel_right k1];exact k3
end
end Go.Vm

/-
 Writes into an object's block; objects given up.
-/
namespace Go.Vm
section
variable {P:Program}{C:Ctx}{w0:World}{M:Own}{m:Mem}
structure Wrote (w:World)(b:Nat)(w1:World):Prop where
 os:w1.os=w.os
 tape:w1.tape=w.tape
 output:w1.output=w.output
 size:w1.heap.size=w.heap.size
 block:∀ k,k≠b->w1.heap[k]?=w.heap[k]?
theorem cd(w:World)(b:Nat)(c:Array Value):Wrote w b (w.setRow b c):=
 ⟨rfl,rfl,rfl,size_setRow w b c,λk hk=>setRow_other w b k c hk⟩
theorem di (hi:Inv C w0 M m){id:Nat}{o o':Obj}{b:Nat}(hg:m.G.get id=some o)(hob:isObj o=true)(hbl:HB (m.ι id) b)(hal:Alike o o')
  {w1:World} (hw:Wrote m.w b w1) (ho:Evo m ⟨w1,m.F,m.ι,(id,o')::m.G⟩->cQ ⟨w1,m.F,m.ι,(id,o')::m.G⟩ id o') :
  Inv C w0 M ⟨w1,m.F,m.ι,(id,o')::m.G⟩/\Evo m ⟨w1,m.F,m.ι,(id,o')::m.G⟩:=by
 obtain⟨hb1,hb2,hb3⟩:=hi.own id o b hg hob hbl;have hob':isObj o'=true:=by rw[hal.isObj];exact hob
 have he:Evo m ⟨w1,m.F,m.ι,(id,o')::m.G⟩:=by
  refine⟨λk hF=>⟨hF,hw.block k (λe=>hb2 (e▸hF))⟩,λk p hp=>?_⟩;by_cases e:id=k
  ·subst e;rw[hg]at hp;simp only[aw]at hp;subst hp;exact⟨o',by rw[Heap.get_cons,if_pos rfl],.inr (.inl ⟨rfl,hal⟩)⟩
  exact⟨p,by rw[Heap.get_cons,if_neg e];exact hp,.inr (Goon.refl _ p)⟩
 refine⟨⟨?_,?_,?_,?_,?_,?_,hi.bnd,bI he hi.pin⟩,he⟩
 ·refine⟨hw.os.trans hi.kept.os,hw.tape.trans hi.kept.tape,hw.output.trans hi.kept.output,by rw[hw.size];exact hi.kept.size,λk hk hM=>?_⟩;refine(hw.block k ?_).trans (hi.kept.block k hk hM);intro e;subst e
  rcases hb1 with hb1|hb1
  ·omega
  exact hM hb1
 ·intro k p hp;rw[Heap.get_cons]at hp;split at hp
  ·rename_i e;subst e
   simp only[aw]at hp;subst hp;exact ho he
  rename_i hne;by_cases hop:isObj p=true
  ·refine bL he rfl (λb' hb'=>hw.block b' ?_) (hi.objs k p hp);intro e;subst e
   exact hne (hi.inj id k o p b' hg hob hp hop hbl hb')
  cases p<;>simp_all[isObj,cQ]
 ·intro k p b' hp hop hbl';rw[Heap.get_cons]at hp;have:(w0.heap.size<=b'\/M b')/\¬m.F b'/\b'<m.w.heap.size:=by
   split at hp
   ·rename_i e;subst e
    exact hi.own id o b' hg hob hbl'
   exact hi.own k p b' hp hop hbl'
  exact⟨this.1,this.2.1,by show b'<w1.heap.size;rw[hw.size];exact this.2.2⟩
 ·intro i j p q b' hp hop hq hoq h1 h2;rw[Heap.get_cons]at hp hq;split at hp<;>split at hq
  ·omega
  ·rename_i e hne;subst e;exact hi.inj id j o q b' hg hob hq hoq h1 h2
  ·rename_i hne e;subst e;exact hi.inj i id p o b' hp hop hg hob h1 h2
  exact hi.inj i j p q b' hp hop hq hoq h1 h2
 ·intro b' hF;show b'<w1.heap.size;rw[hw.size];exact hi.fro b' hF
 intro g τ x hx;exact(hi.glob g τ x hx).mono he.fro
theorem cE:∀(ids:List Nat) {m:Mem},Inv C w0 M m ->
  ∃ m',m'.w=m.w/\m'.ι=m.ι/\m'.G=aq ids m.G/\Inv C w0 M m'/\Evo m m'/\∀ b,Thru m ids b->m'.F b
 | [],m,hi=>⟨m,rfl,rfl,rfl,hi,Evo.refl m,fun b hb=>by
   rcases hb with hb|⟨i,hi,_⟩
   ·exact hb
   simp at hi⟩
 |i::r,m,hi=>by
  have one:∃ m1:Mem,m1.w=m.w/\m1.ι=m.ι/\m1.G=(i,.dead)::m.G/\Inv C w0 M m1/\Evo m m1/\∀ b,(m.F b\/Blk m i b)->m1.F b:=by
   cases hg:m.G.get i with
   |some o=>
    obtain⟨h1,h2⟩:=yQ hi hg;refine⟨⟨m.w,λb=>m.F b\/(isObj o=true/\HB (m.ι i) b),m.ι,(i,.dead)::m.G⟩,rfl,rfl,rfl,h1,h2,?_⟩;rintro b (hb|⟨o',ho',ha,hb⟩)
    ·exact .inl hb
    rw[hg]at ho';simp only[aw]at ho';subst ho';exact .inr ⟨ha,hb⟩
   |none=>
    have he:Evo m ⟨m.w,m.F,m.ι,(i,.dead)::m.G⟩:=by
     refine⟨λb hb=>⟨hb,rfl⟩,λk p hp=>?_⟩;have hne:i≠k:=λe=>by subst e;rw[hg]at hp;cases hp
     exact⟨p,by rw[Heap.get_cons,if_neg hne];exact hp,.inr (Goon.refl _ p)⟩
    refine⟨⟨m.w,m.F,m.ι,(i,.dead)::m.G⟩,rfl,rfl,rfl,⟨hi.kept,?_,?_,?_,hi.fro,λg τ x hx=>(hi.glob g τ x hx).mono he.fro,hi.bnd,bI he hi.pin⟩,he,?_⟩
    ·intro k p hp;rw[Heap.get_cons]at hp;split at hp
     ·simp at hp;subst hp;trivial
     exact bL he rfl (λ_ _=>rfl) (hi.objs k p hp)
    ·intro k p b hp hop hb;rw[Heap.get_cons]at hp;split at hp
     ·simp at hp;subst hp;simp[isObj]at hop
     exact hi.own k p b hp hop hb
    ·intro j k p q b hp hop hq hoq h1 h2;rw[Heap.get_cons]at hp hq;split at hp
     ·simp at hp;subst hp;simp[isObj]at hop
     split at hq
     ·simp at hq;subst hq;simp[isObj]at hoq
     exact hi.inj j k p q b hp hop hq hoq h1 h2
    rintro b (hb|⟨o',ho',_⟩)
    ·exact hb
    rw[hg]at ho';cases ho'
  obtain⟨m1,a1,a2,a3,a4,a5,a6⟩:=one;obtain⟨m2,b1,b2,b3,b4,b5,b6⟩:=cE r a4;refine⟨m2,b1.trans a1,b2.trans a2,by rw[b3,a3];rfl,b4,a5.trans b5,?_⟩;rintro b (hb|⟨k,hk,hb⟩)
  ·exact b6 b (.inl (a6 b (.inl hb)))
  by_cases e:k=i
  ·subst e;exact b6 b (.inl (a6 b (.inr hb)))
  rcases A8.1 hk with hk|hk
  ·exact absurd hk e
  obtain⟨o,ho,h1,h2⟩:=hb;refine b6 b (.inr ⟨k,hk,o,?_,h1,by rw[a2];exact h2⟩);rw[a3,Heap.get_cons,if_neg (Ne.symm e)];exact ho
theorem zt(hi:Inv C w0 M m){w1:World}(hw:Kept m.w (λ_=>False) w1):Inv C w0 M ⟨w1,m.F,m.ι,m.G⟩/\Evo m ⟨w1,m.F,m.ι,m.G⟩:=by
 have hold:∀ b,b<m.w.heap.size->w1.heap[b]?=m.w.heap[b]?:=λb hb=>hw.block b hb (λh=>h);have he:Evo m ⟨w1,m.F,m.ι,m.G⟩:=⟨λb hF=>⟨hF,hold b (hi.fro b hF)⟩,λ_ o h=>⟨o,h,.inr (Goon.refl _ o)⟩⟩;refine⟨⟨?_,?_,?_,hi.inj,?_,?_,hi.bnd,bI he hi.pin⟩,he⟩
 ·refine⟨hw.os.trans hi.kept.os,hw.tape.trans hi.kept.tape,hw.output.trans hi.kept.output,Lv hi.kept.size hw.size,λb hb hM=>?_⟩;have:=hi.kept.size;exact(hold b (by omega)).trans (hi.kept.block b hb hM)
 ·intro id p hp;by_cases hop:isObj p=true
  ·exact bL he rfl (λb hb=>hold b (hi.own id p b hp hop hb).2.2) (hi.objs id p hp)
  cases p<;>simp_all[isObj,cQ]
 ·intro id p b hp hop hbl;obtain⟨h1,h2,h3⟩:=hi.own id p b hp hop hbl;exact⟨h1,h2,JQ h3 hw.size⟩
 ·intro b hF;exact JQ (hi.fro b hF) hw.size
 intro g τ x hx;exact(hi.glob g τ x hx).mono he.fro
end
end Go.Vm

