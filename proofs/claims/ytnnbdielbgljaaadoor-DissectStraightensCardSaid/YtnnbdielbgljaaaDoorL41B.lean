/-
 Straighten: the chains that replace the edges, in the program and in the reference.
-/
import Derived.Test.YtnnbdielbgljaaaDoorL41A
set_option linter.unusedVariables false
set_option linter.unusedSimpArgs false
namespace Go.Vm
open Go.Proofs
set_option maxRecDepth 100000
attribute [local irreducible] loopFix
def evL : Nat→Nat→List Int
 | _,0=>[]
 | m,r+1=>((2 * m : Nat) : Int) :: evL (m+1) r
def frL : Nat→Nat→List (List Int)
 | _,0=>[]
 | m,r+1=>[((2 * m+1 : Nat) : Int),((2 * m+2 : Nat) : Int)] :: frL (m+1) r
def chP : Int→Nat→Nat→List Arc
 | _,_,0=>[]
 | p,n,r+1=>(p,(n : Int),()) :: chP (n : Int) (n+1) r
def endP : Int→Nat→Nat→Int
 | p,_,0=>p
 | _,n,r+1=>endP (n : Int) (n+1) r
theorem evL_len : ∀ {r m : Nat},(evL m r).length=r
 | 0,_=>rfl
 | r+1,m=>by simp [evL,evL_len]
theorem frL_len : ∀ {r m : Nat},(frL m r).length=r
 | 0,_=>rfl
 | r+1,m=>by simp [frL,frL_len]
theorem chP_len : ∀ {r n : Nat} {p : Int},(chP p n r).length=r
 | 0,_,_=>rfl
 | r+1,n,p=>by simp [chP,chP_len]
theorem get_lr {s : ByteArray} (hs : (bytesOf s).all lr=true) {i : Nat} (hi : i < s.size) : ∃ c : UInt8,s.data.toList[i]?=some c∧((c.toNat : Int)=76∨(c.toNat : Int)=82)∧itRune (s,(i : Int))=(c.toNat : Int)∧itNext (s,(i : Int))=(s,((i+1 : Nat) : Int)):=by
 have hi' : i < s.data.toList.length:=by simpa using hi
 have hc : s.data.toList[i]?=some s.data.toList[i]:=List.getElem?_eq_getElem hi'
 have hm : ((s.data.toList[i].toNat : Nat) : Int)∈bytesOf s:=by
  unfold bytesOf
  exact List.mem_map.2 ⟨_,List.getElem_mem hi',rfl⟩
 have hl:=List.all_eq_true.1 hs _ hm
 simp only [lr,Bool.or_eq_true,beq_iff_eq] at hl
 have hg : s.get! (i+0)=s.data.toList[i]:=by
  rw [Nat.add_zero]
  have : s.get! i=s.data[i]!:=by cases s; rfl
  rw [this,getElem!_pos s.data i (by simpa using hi)]
  simp
 have hd : Utf8.decode s i=(s.data.toList[i].toNat,1):=by
  have hlt : (s.get! (i+0)).toNat < 0x80:=by rw [hg]; omega
  have : Utf8.decode s i=((s.get! (i+0)).toNat,1):=by
   unfold Utf8.decode
   exact if_pos hlt
  rw [this,hg]
 refine ⟨_,hc,hl,?_,?_⟩
 ·simp only [itRune,Int.toNat_natCast,hd]
 ·simp only [itNext,Int.toNat_natCast,hd]
  rfl
theorem mul2 {n : Nat} (h : n≤4000000000) : mulI .i64 2 (n : Int)=((2 * n : Nat) : Int):=by rw [mulI64 (by omega) (by omega)]; omega
theorem addN {a b : Nat} (h : a+b≤9000000000) : addI .i64 (a : Int) (b : Int)=((a+b : Nat) : Int):=by rw [addI64 (by omega) (by omega)]; omega
theorem str_inner (N : Int) (E : List Arc) (A : List (List Int)) (g : List Int) (B : List ByteArray) (o u v len idx : Int) (parts : List (List Int)) {s : ByteArray} (hs : (bytesOf s).all lr=true) :
  ∀ (r i : Nat) (n : Nat) (fr : List (List Int)) (one : List Int) (F : List Arc) (p : Int),i+r=s.size→n+r≤1000000000→fr.length+r≤1000000000→one.length+r≤1000000000→F.length+r≤1000000000 →
   Zo_L12 (N,E,A,g,B,o,0,0,(n : Int),0,fr,u,v,one,[((),(s,(i : Int)))],F,parts,p,E,len,idx,()) =
    some (.inl (N,E,A,g,B,o,0,0,((n+r : Nat) : Int),0,fr++frL F.length r,u,v,one++evL F.length r,F++chP p n r,parts,endP p n r,E,len,idx,()))
 | 0,i,n,fr,one,F,p,h,_,_,_,_=>by
  refine loop_done ?_
  unfold Zo_B12
  simp only [itOf,Option.bind_some,itMore]
  rw [ltI_f (by omega),cond_false]
  simp [frL,evL,chP,endP]
 | r+1,i,n,fr,one,F,p,h,h1,h2,h3,h4=>by
  obtain ⟨c,_,_,_,hnx⟩:=get_lr hs (i:=i) (by omega)
  have ih:=str_inner N E A g B o u v len idx parts hs r (i+1) (n+1) (fr++[[((2 * F.length+1 : Nat) : Int),((2 * F.length+2 : Nat) : Int)]]) (one++[((2 * F.length : Nat) : Int)]) (F++[(p,(n : Int),())]) (n : Int) (by omega) (by omega) (by simp; omega) (by simp; omega) (by simp; omega)
  refine (loop_step (t:=(N,E,A,g,B,o,0,0,((n+1 : Nat) : Int),0,fr++[[((2 * F.length+1 : Nat) : Int),((2 * F.length+2 : Nat) : Int)]],u,v,one++[((2 * F.length : Nat) : Int)],[((),(s,((i+1 : Nat) : Int)))],F++[(p,(n : Int),())],parts,(n : Int),E,len,idx,())) ?_).trans (Eq.trans ih ?_)
  ·unfold Zo_B12
   simp only [itOf,Option.bind_some,itMore]
   rw [ltI_t (by omega),cond_true,mul2 (by omega),app_of (by simp; omega),Option.bind_some,app_of (by simp; omega),Option.bind_some,app_of (by simp; omega),Option.bind_some,hnx,add1 (by omega),add1 (by omega),show ((2 : Int))=((2 : Nat) : Int) from rfl,addN (by omega)]
  ·simp only [List.length_append,List.length_singleton,List.append_assoc,frL,evL,chP,endP,List.singleton_append]
   rw [show n+1+r=n+(r+1) by omega]
def bend1 (c : Int) : Int:=if c=82 then 3 else 1
def raL (q : List Int) (g0 : Int) : List Int→List Int
 | []=>q
 | c :: l=>raL (q++[g0,bend1 c]) (4 - bend1 c) l
theorem rstr_inner (N : Int) (E : List Arc) (A : List (List Int)) (g : List Int) (B : List ByteArray) (o : Int) (parts : List (List Int)) (first : List Int) (idx : Nat) {s : ByteArray} (hs : (bytesOf s).all lr=true) (hsz : s.size≤1000) {g0 : Int} (hidx : idx≤1000000) (hg : g[2 * idx]?=some g0) :
  ∀ (r i : Nat) (n : Nat) (ad : List (List Int)) (li : List Int) (F : List Arc) (q : List Int) (p : Int) (x : Int),i+r=s.size→n+r≤1000000000→ad.length+r≤1000000000→li.length+r≤1000000000→F.length+r≤1000000000→q.length+2 * r≤1000000000 →
   (i=0→x=g0)→(0 < i→∃ y,q.getLast?=some y∧x=4 - y∧(y=1∨y=3)) →
   Zd_L15 (N,E,A,g,B,o,0,0,(n : Int),0,parts,first,ad,li,F,q,(idx : Int),s,p,(i : Int),()) =
    some (.inl (N,E,A,g,B,o,0,0,((n+r : Nat) : Int),0,parts,first,ad++frL F.length r,li++evL F.length r,F++chP p n r,raL q x ((bytesOf s).drop i),(idx : Int),s,endP p n r,()))
 | 0,i,n,ad,li,F,q,p,x,h,_,_,_,_,_,_,_=>by
  refine loop_done ?_
  unfold Zd_B15
  simp only
  rw [ltI_f (by omega),cond_false,List.drop_of_length_le (by rw [bytesOf_length]; omega)]
  simp [frL,evL,chP,endP,raL]
 | r+1,i,n,ad,li,F,q,p,x,h,h1,h2,h3,h4,h5,x0,x1=>by
  obtain ⟨c,hc,hlr,_,_⟩:=get_lr hs (i:=i) (by omega)
  have hb : (bytesOf s).drop i=(c.toNat : Int) :: (bytesOf s).drop (i+1):=by
   have : (bytesOf s)[i]?=some (c.toNat : Int):=by rw [← byte_at,hc]; rfl
   rw [List.drop_eq_getElem_cons (by rw [bytesOf_length]; omega)]
   congr 1
   have h':=List.getElem?_eq_some_iff.1 this
   exact h'.2
  have hbv : bend1 (c.toNat : Int)=1∨bend1 (c.toNat : Int)=3:=by
   unfold bend1; split
   ·exact .inr rfl
   ·exact .inl rfl
  have ih:=rstr_inner N E A g B o parts first idx hs hsz hidx hg r (i+1) (n+1) (ad++[[((2 * F.length+1 : Nat) : Int),((2 * F.length+2 : Nat) : Int)]]) (li++[((2 * F.length : Nat) : Int)]) (F++[(p,(n : Int),())]) (q++[x,bend1 (c.toNat : Int)]) (n : Int) (4 - bend1 (c.toNat : Int))
   (by omega) (by omega) (by simp; omega) (by simp; omega) (by simp; omega) (by simp; omega) (by omega) (fun _=>⟨bend1 (c.toNat : Int),by simp,rfl,hbv⟩)
  refine (loop_step (t:=(N,E,A,g,B,o,0,0,((n+1 : Nat) : Int),0,parts,first,ad++[[((2 * F.length+1 : Nat) : Int),((2 * F.length+2 : Nat) : Int)]],li++[((2 * F.length : Nat) : Int)],F++[(p,(n : Int),())],q++[x,bend1 (c.toNat : Int)],(idx : Int),s,(n : Int),((i+1 : Nat) : Int),())) ?_).trans (Eq.trans ih ?_)
  ·unfold Zd_B15
   simp only
   rw [ltI_t (by omega),cond_true,mul2 (by omega),app_of (by simp; omega),Option.bind_some,app_of (by simp; omega),Option.bind_some,add1 (a:=2 * F.length) (by omega),show ((2 : Int))=((2 : Nat) : Int) from rfl,addN (by omega),app_of (by simp; omega),Option.bind_some,getI_of,hc,Option.bind_some,add1 (a:=n) (by omega),add1 (a:=i) (by omega)]
   have e2 : ((2 : Nat) : Int)=2:=rfl
   have tail : ∀ {R : Type} (K : List Int→Option R) (k : Int),bend1 (c.toNat : Int)=k→cond (eqI (i : Int) 0)
     ((getI g (mulI .i64 ((2 : Nat) : Int) (idx : Int))).bind fun y5=>(app q [y5,k]).bind K)
     ((idxI q.length (subI .i64 (q.length : Nat) 1)).bind fun j7=>(q[j7]?).bind fun y8=>(app q [subI .i64 4 y8,k]).bind K)=K (q++[x,bend1 (c.toNat : Int)]):=by
    intro R K k hk
    by_cases hi : i=0
    ·rw [eqI_t (by omega),cond_true,e2,mul2 (by omega),getI_of,hg,Option.bind_some,app_of (by simp; omega),Option.bind_some,hk,x0 hi]
    ·obtain ⟨y,y1,y2,y3⟩:=x1 (by omega)
     have hq : 0 < q.length:=by cases q with
      | nil=>simp at y1
      | cons _ _=>simp
     rw [eqI_f (by omega),cond_false,sub1 (by omega),show ((q.length : Nat) : Int) - 1=((q.length - 1 : Nat) : Int) by omega,idxI_of (by omega),Option.bind_some]
     rw [List.getLast?_eq_getElem?] at y1
     rw [y1,Option.bind_some,subI64 (by omega) (by omega),app_of (by simp; omega),Option.bind_some,hk,y2]
   by_cases h82 : (c.toNat : Int)=82
   ·rw [eqI_t h82,cond_true]
    exact tail _ 3 (by unfold bend1; rw [if_pos h82])
   ·rw [eqI_f h82,cond_false]
    exact tail _ 1 (by unfold bend1; rw [if_neg h82])
  ·rw [hb]
   simp only [List.length_append,List.length_singleton,List.append_assoc,frL,evL,chP,endP,List.singleton_append,raL]
   rw [show n+1+r=n+(r+1) by omega]
def angM : List Int→List Int
 | []=>[]
 | c :: l=>bend1 c :: (4 - bend1 c) :: angM l
theorem raL_eq : ∀ (l : List Int) (q : List Int) (g0 : Int),(l=[]→raL q g0 l=q)∧(l≠[]→∃ y,(raL q g0 l).getLast?=some y∧(y=1∨y=3)∧raL q g0 l++[4 - y]=q++g0 :: angM l)
 | [],q,g0=>⟨fun _=>rfl,fun h=>absurd rfl h⟩
 | c :: l,q,g0=>by
  refine ⟨fun h=>(by cases h),fun _=>?_⟩
  have hbv : bend1 c=1∨bend1 c=3:=by
   unfold bend1; split
   ·exact .inr rfl
   ·exact .inl rfl
  obtain ⟨i1,i2⟩:=raL_eq l (q++[g0,bend1 c]) (4 - bend1 c)
  cases l with
  | nil=>exact ⟨bend1 c,by simp [raL],hbv,by simp [raL,angM]⟩
  | cons c' l =>
   obtain ⟨y,y1,y2,y3⟩:=i2 (by simp)
   refine ⟨y,y1,y2,?_⟩
   show raL (q++[g0,bend1 c]) (4 - bend1 c) (c' :: l)++[4 - y]=_
   rw [y3]
   simp [angM]
end Go.Vm
