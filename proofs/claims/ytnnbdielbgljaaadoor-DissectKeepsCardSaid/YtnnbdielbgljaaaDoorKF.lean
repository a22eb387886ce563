/-
 The example; texts of bends.
-/
import Derived.Test.YtnnbdielbgljaaaDoorKB
import Derived.Test.YtnnbdielbgljaaaDoorKC
set_option linter.unusedVariables false
set_option linter.unusedSimpArgs false
/-
 Small things of the chapter: the example, small shapes, equal shapes.
-/
namespace Go.Vm
open Go.Proofs
set_option maxRecDepth 100000
theorem tw : Zz ()=some (true,()):=by kernel_rfl
attribute [local irreducible] aa
theorem D0 (N : Int) (E : List Arc) (A : List (List Int)) : ∃ b,Zaw ((N,E,A,()),())=some (b,())∧(b=true→E.length≤100∧A.length≤100):=by
 unfold Zaw
 dsimp only
 by_cases h1 : E.length≤100
 ·rw [cM (by omega),cond_false]
  by_cases h2 : A.length≤100
  ·rw [cM (by omega),cond_false]
   have h:=jm (B:=pm) (fun (_ : Unit) i=>(N,E,A,(i : Int),())) (fun _=>.inr (.inl ())) (fun (_ : Unit)=>.inl (false,()))
    (fun _ (_ : Unit) (l : List Int)=>some (cond (gtI (l.length : Nat) 100) (.inr ()) (.inl ()))) A (by
     intro _ i l hl
     have hi : i < A.length:=(List.getElem?_eq_some_iff.1 hl).1
     unfold pm
     simp only
     rw [aG (by omega),cond_true,ae,hl,Option.bind_some,Option.bind_some]
     cases gtI (l.length : Nat) 100 with
     | true=>rfl
     | false=>rw [cond_false,aU (by omega)]; rfl) (by
     intro _
     unfold pm
     simp only
     rw [aA (by omega)]; rfl) ()
   unfold xQ
   rw [show ((0 : Int))=((0 : Nat) : Int) from rfl,h]
   have hf : ∀ (A : List (List Int)) (i : Nat),ay (fun _ (_ : Unit) (l : List Int)=>some (cond (gtI (l.length : Nat) 100) (.inr ()) (.inl ()) : Unit⊕Unit)) i () A=some (cond (A.any fun l=>gtI (l.length : Nat) 100) (.inr ()) (.inl ())):=by
    intro A
    induction A with
    | nil=>intro i; rfl
    | cons l A ih =>
     intro i
     simp only [ay,Option.bind_some,List.any_cons]
     cases gtI (l.length : Nat) 100 with
     | true=>rfl
     | false=>simp only [cond_false,Sum.elim_inl,Bool.false_or]; exact ih (i+1)
   rw [hf]
   cases A.any fun l=>gtI (l.length : Nat) 100 with
   | true=>exact ⟨false,rfl,fun h=>by cases h⟩
   | false=>exact ⟨true,rfl,fun _=>⟨h1,h2⟩⟩
  ·rw [dA (by omega)]; exact ⟨false,rfl,fun h=>by cases h⟩
 ·rw [dA (by omega)]; exact ⟨false,rfl,fun h=>by cases h⟩
theorem ri (N : Int) (E : List Arc) (A : List (List Int)) (g : List Int) (o : Int) : ∀ (q p : List ByteArray) (n : Int),(p++q).length≤1000000→∃ m,uB (N,E,A,g,p++q,o,n,(p.length : Nat),())=some (.inl (m,()))
 | [],p,n,h=>⟨n,by
  refine ai ?_
  unfold pf
  simp only
  rw [aA (by simp)]; rfl⟩
 | s :: q,p,n,h=>by
  obtain ⟨m,hm⟩:=ri N E A g o q (p++[s]) (ah .i64 n (s.size : Nat)) (by simpa using h)
  have hm : aa pf _=_:=hm
  refine ⟨m,(ap ?_).trans (by simpa using hm)⟩
  have h' : p.length+(q.length+1)≤1000000:=by simpa using h
  unfold pf
  simp only
  rw [aG (by simp; omega),cond_true,ae,List.getElem?_append_right (Nat.le_refl _),Nat.sub_self,List.getElem?_cons_zero,Option.bind_some,aU (by omega)]
  simp
theorem BX (N : Int) (E : List Arc) (A : List (List Int)) (g : List Int) (B : List ByteArray) (o : Int) : ∃ b,Zay (((N,E,A,()),g,B,o,()),())=some (b,())∧(b=true→E.length≤100∧A.length≤100):=by
 obtain ⟨b,h1,h2⟩:=D0 N E A
 unfold Zay
 simp only
 rw [h1,Option.bind_some]
 cases b with
 | false=>exact ⟨false,rfl,fun h=>by cases h⟩
 | true =>
  simp only [Bool.not_true,cond_false]
  by_cases hg : g.length≤200
  ·rw [cM (by omega),cond_false]
   by_cases hB : B.length≤200
   ·rw [cM (by omega),cond_false]
    obtain ⟨m,hm⟩:=ri N E A g o B [] 0 (by simp; omega)
    rw [show uB (N,E,A,g,B,o,0,0,())=_ from hm]
    exact ⟨leI m 400,rfl,fun _=>h2 rfl⟩
   ·rw [dA (by omega)]; exact ⟨false,rfl,fun h=>by cases h⟩
  ·rw [dA (by omega)]; exact ⟨false,rfl,fun h=>by cases h⟩
theorem oy (N : Int) (E : List Arc) (A : List (List Int)) (v : Nat) (l : List Int) (hv : A[v]?=some l) : ∀ (q p : List Int),p++q=l→l.length≤1000000 →
  uL (N,E,A,N,E,A,(v : Int),(p.length : Nat),())=some (.inr (.inl (N,E,A,N,E,A,(v : Int),())))
 | [],p,h,hl=>by
  subst h
  refine ai ?_
  unfold qd
  simp only
  rw [ae,hv,Option.bind_some,aA (by simp)]; rfl
 | x :: q,p,h,hl=>by
  have ih:=oy N E A v l hv q (p++[x]) (by simpa using h) hl
  have hx : l[p.length]?=some x:=by rw [← h,List.getElem?_append_right (Nat.le_refl _),Nat.sub_self]; rfl
  have hp : p.length < l.length:=(List.getElem?_eq_some_iff.1 hx).1
  have ih : aa qd _=_:=ih
  refine (ap ?_).trans (by simpa using ih)
  unfold qd
  simp only
  rw [ae,hv,Option.bind_some,aG (by omega),cond_true,Option.bind_some,ae,hx]
  simp only [Option.bind_some]
  rw [ae,hx,Option.bind_some,bx rfl,cond_false,aU (by omega)]
  simp
theorem w9 (N : Int) (E : List Arc) (A : List (List Int)) (hE : E.length≤1000000) (hA : A.length≤1000000) (hl : ∀ l∈A,l.length≤1000000) : Zad ((N,E,A,()),(N,E,A,()),())=some (true,()):=by
 unfold Zad
 simp only
 rw [vw N E A hE hA hl,Option.bind_some]
 simp only [Bool.not_true,cond_false]
 have h:=jm (B:=qo) (fun (_ : Unit) i=>(N,E,A,N,E,A,(i : Int),())) (fun _=>.inr (.inl ())) (fun (_ : Unit)=>.inl (false,()))
  (fun _ (_ : Unit) (l : List Int)=>some (.inl ())) A (by
   intro _ i l hl'
   have hi : i < A.length:=(List.getElem?_eq_some_iff.1 hl').1
   unfold qo
   simp only
   rw [aG (by omega),cond_true,show uL (N,E,A,N,E,A,(i : Int),0,())=_ from oy N E A i l hl' l [] rfl (hl l (List.mem_of_getElem? hl'))]
   simp only [Option.bind_some,Sum.elim_inr,Sum.elim_inl]
   rw [aU (by omega)]) (by
   intro _
   unfold qo
   simp only
   rw [aA (by omega)]; rfl) ()
 have hf : ∀ (A : List (List Int)) (i : Nat),ay (fun _ (_ : Unit) (l : List Int)=>some (.inl () : Unit⊕Unit)) i () A=some (.inl ()):=by
  intro A
  induction A with
  | nil=>intro i; rfl
  | cons l A ih=>intro i; exact ih (i+1)
 rw [hf] at h
 rw [show yF (N,E,A,N,E,A,0,())=_ from h]
 rfl
theorem vz (N : Int) (E : List Arc) (A : List (List Int)) (g : List Int) (B : List ByteArray) (o : Int) (hE : E.length≤1000000) (hA : A.length≤1000000) (hl : ∀ l∈A,l.length≤1000000) (hg : g.length≤1000000000) (hB : B.length≤1000000000) :
  Zar (((N,E,A,()),g,B,o,()),((N,E,A,()),g,B,o,()),())=some (true,()):=by
 unfold Zar
 simp only
 rw [w9 N E A hE hA hl,Option.bind_some]
 simp only [Bool.not_true,cond_false]
 rw [bx rfl,bx rfl,bx rfl]
 simp only [cond_false]
 have h1:=jm (B:=qp) (fun (_ : Unit) i=>(N,E,A,g,B,o,N,E,A,g,B,o,(i : Int),())) (fun _=>.inr (.inl (N,E,A,g,B,o,N,E,A,g,B,o,()))) (fun (_ : Unit)=>.inl (false,()))
  (fun _ (_ : Unit) (l : Int)=>some (.inl ())) g (by
   intro _ i l hl'
   have hi : i < g.length:=(List.getElem?_eq_some_iff.1 hl').1
   unfold qp
   simp only
   rw [aG (by omega),cond_true,ae,hl',Option.bind_some,Option.bind_some,bx rfl,cond_false,aU (by omega)]; rfl) (by
   intro _
   unfold qp
   simp only
   rw [aA (by omega)]; rfl) ()
 have h2:=jm (B:=qS) (fun (_ : Unit) i=>(N,E,A,g,B,o,N,E,A,g,B,o,(i : Int),())) (fun _=>.inr (.inl ())) (fun (_ : Unit)=>.inl (false,()))
  (fun _ (_ : Unit) (l : ByteArray)=>some (.inl ())) B (by
   intro _ i l hl'
   have hi : i < B.length:=(List.getElem?_eq_some_iff.1 hl').1
   unfold qS
   simp only
   rw [aG (by omega),cond_true,ae,hl',Option.bind_some,Option.bind_some,show neS l l=false by simp [neS],cond_false,aU (by omega)]; rfl) (by
   intro _
   unfold qS
   simp only
   rw [aA (by omega)]; rfl) ()
 have hf : ∀ {α : Type} (A : List α) (i : Nat),ay (fun _ (_ : Unit) (l : α)=>some (.inl () : Unit⊕Unit)) i () A=some (.inl ()):=by
  intro α A
  induction A with
  | nil=>intro i; rfl
  | cons l A ih=>intro i; exact ih (i+1)
 rw [hf] at h1 h2
 rw [show xg (N,E,A,g,B,o,N,E,A,g,B,o,0,())=_ from h1]
 simp only [Option.bind_some,Sum.elim_inr,Sum.elim_inl]
 rw [show xp (N,E,A,g,B,o,N,E,A,g,B,o,0,())=_ from h2]
 rfl
end Go.Vm

/-
 Straighten: the chains that replace the edges, in the program and in the reference.
-/
namespace Go.Vm
open Go.Proofs
set_option maxRecDepth 100000
attribute [local irreducible] aa
def evL : Nat→Nat→List Int
 | _,0=>[]
 | m,r+1=>((2 * m : Nat) : Int) :: evL (m+1) r
def frL : Nat→Nat→List (List Int)
 | _,0=>[]
 | m,r+1=>[((2 * m+1 : Nat) : Int),((2 * m+2 : Nat) : Int)] :: frL (m+1) r
def chP : Int→Nat→Nat→List Arc
 | _,_,0=>[]
 | p,n,r+1=>(p,(n : Int),()) :: chP (n : Int) (n+1) r
def mj : Int→Nat→Nat→Int
 | p,_,0=>p
 | _,n,r+1=>mj (n : Int) (n+1) r
theorem iV : ∀ {r m : Nat},(evL m r).length=r
 | 0,_=>rfl
 | r+1,m=>by simp [evL,iV]
theorem gL : ∀ {r m : Nat},(frL m r).length=r
 | 0,_=>rfl
 | r+1,m=>by simp [frL,gL]
theorem cN : ∀ {r n : Nat} {p : Int},(chP p n r).length=r
 | 0,_,_=>rfl
 | r+1,n,p=>by simp [chP,cN]
theorem xm {s : ByteArray} (hs : (ac s).all lr=true) {i : Nat} (hi : i < s.size) : ∃ c : UInt8,s.data.toList[i]?=some c∧((c.toNat : Int)=76∨(c.toNat : Int)=82)∧iM (s,(i : Int))=(c.toNat : Int)∧jt (s,(i : Int))=(s,((i+1 : Nat) : Int)):=by
 have hi' : i < s.data.toList.length:=by simpa using hi
 have hc : s.data.toList[i]?=some s.data.toList[i]:=List.getElem?_eq_getElem hi'
 have hm : ((s.data.toList[i].toNat : Nat) : Int)∈ac s:=by
  unfold ac
  exact List.mem_map.2 ⟨_,List.getElem_mem hi',rfl⟩
 have hl:=List.all_eq_true.1 hs _ hm
 simp only [lr,Bool.or_eq_true,beq_iff_eq] at hl
 have hg : s.get! (i+0)=s.data.toList[i]:=by
  rw [Nat.add_zero]
  have : s.get! i=s.data[i]!:=by cases s; rfl
  rw [this,getElem!_pos s.data i (by simpa using hi)]
  simp
 have hd : Utf8.decode s i=(s.data.toList[i].toNat,1):=by
  have hlt : (s.get! (i+0)).toNat < 0x80:=by rw [hg]; omega
  have : Utf8.decode s i=((s.get! (i+0)).toNat,1):=by
   unfold Utf8.decode
   exact if_pos hlt
  rw [this,hg]
 refine ⟨_,hc,hl,?_,?_⟩
 ·simp only [iM,Int.toNat_natCast,hd]
 ·simp only [jt,Int.toNat_natCast,hd]
  rfl
theorem nl {n : Nat} (h : n≤4000000000) : aN .i64 2 (n : Int)=((2 * n : Nat) : Int):=by rw [lH (by omega) (by omega)]; omega
theorem EZ {a b : Nat} (h : a+b≤9000000000) : ah .i64 (a : Int) (b : Int)=((a+b : Nat) : Int):=by rw [dw (by omega) (by omega)]; omega
theorem sf (N : Int) (E : List Arc) (A : List (List Int)) (g : List Int) (B : List ByteArray) (o u v len idx : Int) (parts : List (List Int)) {s : ByteArray} (hs : (ac s).all lr=true) :
  ∀ (r i : Nat) (n : Nat) (fr : List (List Int)) (one : List Int) (F : List Arc) (p : Int),i+r=s.size→n+r≤1000000000→fr.length+r≤1000000000→one.length+r≤1000000000→F.length+r≤1000000000 →
   ul (N,E,A,g,B,o,0,0,(n : Int),0,fr,u,v,one,[((),(s,(i : Int)))],F,parts,p,E,len,idx,()) =
    some (.inl (N,E,A,g,B,o,0,0,((n+r : Nat) : Int),0,fr++frL F.length r,u,v,one++evL F.length r,F++chP p n r,parts,mj p n r,E,len,idx,()))
 | 0,i,n,fr,one,F,p,h,_,_,_,_=>by
  refine ai ?_
  unfold uU
  simp only [pF,Option.bind_some,hU]
  rw [aA (by omega),cond_false]
  simp [frL,evL,chP,mj]
 | r+1,i,n,fr,one,F,p,h,h1,h2,h3,h4=>by
  obtain ⟨c,_,_,_,hnx⟩:=xm hs (i:=i) (by omega)
  have ih:=sf N E A g B o u v len idx parts hs r (i+1) (n+1) (fr++[[((2 * F.length+1 : Nat) : Int),((2 * F.length+2 : Nat) : Int)]]) (one++[((2 * F.length : Nat) : Int)]) (F++[(p,(n : Int),())]) (n : Int) (by omega) (by omega) (by simp; omega) (by simp; omega) (by simp; omega)
  refine (ap (t:=(N,E,A,g,B,o,0,0,((n+1 : Nat) : Int),0,fr++[[((2 * F.length+1 : Nat) : Int),((2 * F.length+2 : Nat) : Int)]],u,v,one++[((2 * F.length : Nat) : Int)],[((),(s,((i+1 : Nat) : Int)))],F++[(p,(n : Int),())],parts,(n : Int),E,len,idx,())) ?_).trans (Eq.trans ih ?_)
  ·unfold uU
   simp only [pF,Option.bind_some,hU]
   rw [aG (by omega),cond_true,nl (by omega),bg (by simp; omega),Option.bind_some,bg (by simp; omega),Option.bind_some,bg (by simp; omega),Option.bind_some,hnx,aU (by omega),aU (by omega),show ((2 : Int))=((2 : Nat) : Int) from rfl,EZ (by omega)]
  ·simp only [List.length_append,List.length_singleton,List.append_assoc,frL,evL,chP,mj,List.singleton_append]
   rw [show n+1+r=n+(r+1) by omega]
def bG (c : Int) : Int:=if c=82 then 3 else 1
def raL (q : List Int) (g0 : Int) : List Int→List Int
 | []=>q
 | c :: l=>raL (q++[g0,bG c]) (4 - bG c) l
theorem qf (N : Int) (E : List Arc) (A : List (List Int)) (g : List Int) (B : List ByteArray) (o : Int) (parts : List (List Int)) (first : List Int) (idx : Nat) {s : ByteArray} (hs : (ac s).all lr=true) (hsz : s.size≤1000) {g0 : Int} (hidx : idx≤1000000) (hg : g[2 * idx]?=some g0) :
  ∀ (r i : Nat) (n : Nat) (ad : List (List Int)) (li : List Int) (F : List Arc) (q : List Int) (p : Int) (x : Int),i+r=s.size→n+r≤1000000000→ad.length+r≤1000000000→li.length+r≤1000000000→F.length+r≤1000000000→q.length+2 * r≤1000000000 →
   (i=0→x=g0)→(0 < i→∃ y,q.getLast?=some y∧x=4 - y∧(y=1∨y=3)) →
   tr (N,E,A,g,B,o,0,0,(n : Int),0,parts,first,ad,li,F,q,(idx : Int),s,p,(i : Int),()) =
    some (.inl (N,E,A,g,B,o,0,0,((n+r : Nat) : Int),0,parts,first,ad++frL F.length r,li++evL F.length r,F++chP p n r,raL q x ((ac s).drop i),(idx : Int),s,mj p n r,()))
 | 0,i,n,ad,li,F,q,p,x,h,_,_,_,_,_,_,_=>by
  refine ai ?_
  unfold ur
  simp only
  rw [aA (by omega),cond_false,List.drop_of_length_le (by rw [az]; omega)]
  simp [frL,evL,chP,mj,raL]
 | r+1,i,n,ad,li,F,q,p,x,h,h1,h2,h3,h4,h5,x0,x1=>by
  obtain ⟨c,hc,hlr,_,_⟩:=xm hs (i:=i) (by omega)
  have hb : (ac s).drop i=(c.toNat : Int) :: (ac s).drop (i+1):=by
   have : (ac s)[i]?=some (c.toNat : Int):=by rw [← lZ,hc]; rfl
   rw [List.drop_eq_getElem_cons (by rw [az]; omega)]
   congr 1
   have h':=List.getElem?_eq_some_iff.1 this
   exact h'.2
  have hbv : bG (c.toNat : Int)=1∨bG (c.toNat : Int)=3:=by
   unfold bG; split
   ·exact .inr rfl
   ·exact .inl rfl
  have ih:=qf N E A g B o parts first idx hs hsz hidx hg r (i+1) (n+1) (ad++[[((2 * F.length+1 : Nat) : Int),((2 * F.length+2 : Nat) : Int)]]) (li++[((2 * F.length : Nat) : Int)]) (F++[(p,(n : Int),())]) (q++[x,bG (c.toNat : Int)]) (n : Int) (4 - bG (c.toNat : Int))
   (by omega) (by omega) (by simp; omega) (by simp; omega) (by simp; omega) (by simp; omega) (by omega) (fun _=>⟨bG (c.toNat : Int),by simp,rfl,hbv⟩)
  refine (ap (t:=(N,E,A,g,B,o,0,0,((n+1 : Nat) : Int),0,parts,first,ad++[[((2 * F.length+1 : Nat) : Int),((2 * F.length+2 : Nat) : Int)]],li++[((2 * F.length : Nat) : Int)],F++[(p,(n : Int),())],q++[x,bG (c.toNat : Int)],(idx : Int),s,(n : Int),((i+1 : Nat) : Int),())) ?_).trans (Eq.trans ih ?_)
  ·unfold ur
   simp only
   rw [aG (by omega),cond_true,nl (by omega),bg (by simp; omega),Option.bind_some,bg (by simp; omega),Option.bind_some,aU (a:=2 * F.length) (by omega),show ((2 : Int))=((2 : Nat) : Int) from rfl,EZ (by omega),bg (by simp; omega),Option.bind_some,ae,hc,Option.bind_some,aU (a:=n) (by omega),aU (a:=i) (by omega)]
   have e2 : ((2 : Nat) : Int)=2:=rfl
   have tail : ∀ {R : Type} (K : List Int→Option R) (k : Int),bG (c.toNat : Int)=k→cond (eqI (i : Int) 0)
     ((ar g (aN .i64 ((2 : Nat) : Int) (idx : Int))).bind fun y5=>(app q [y5,k]).bind K)
     ((aJ q.length (bf .i64 (q.length : Nat) 1)).bind fun j7=>(q[j7]?).bind fun y8=>(app q [bf .i64 4 y8,k]).bind K)=K (q++[x,bG (c.toNat : Int)]):=by
    intro R K k hk
    by_cases hi : i=0
    ·rw [dk (by omega),cond_true,e2,nl (by omega),ae,hg,Option.bind_some,bg (by simp; omega),Option.bind_some,hk,x0 hi]
    ·obtain ⟨y,y1,y2,y3⟩:=x1 (by omega)
     have hq : 0 < q.length:=by cases q with
      | nil=>simp at y1
      | cons _ _=>simp
     rw [cn (by omega),cond_false,kK (by omega),show ((q.length : Nat) : Int) - 1=((q.length - 1 : Nat) : Int) by omega,aD (by omega),Option.bind_some]
     rw [List.getLast?_eq_getElem?] at y1
     rw [y1,Option.bind_some,gk (by omega) (by omega),bg (by simp; omega),Option.bind_some,hk,y2]
   by_cases h82 : (c.toNat : Int)=82
   ·rw [dk h82,cond_true]
    exact tail _ 3 (by unfold bG; rw [if_pos h82])
   ·rw [cn h82,cond_false]
    exact tail _ 1 (by unfold bG; rw [if_neg h82])
  ·rw [hb]
   simp only [List.length_append,List.length_singleton,List.append_assoc,frL,evL,chP,mj,List.singleton_append,raL]
   rw [show n+1+r=n+(r+1) by omega]
def eR : List Int→List Int
 | []=>[]
 | c :: l=>bG c :: (4 - bG c) :: eR l
theorem Di : ∀ (l : List Int) (q : List Int) (g0 : Int),(l=[]→raL q g0 l=q)∧(l≠[]→∃ y,(raL q g0 l).getLast?=some y∧(y=1∨y=3)∧raL q g0 l++[4 - y]=q++g0 :: eR l)
 | [],q,g0=>⟨fun _=>rfl,fun h=>absurd rfl h⟩
 | c :: l,q,g0=>by
  refine ⟨fun h=>(by cases h),fun _=>?_⟩
  have hbv : bG c=1∨bG c=3:=by
   unfold bG; split
   ·exact .inr rfl
   ·exact .inl rfl
  obtain ⟨i1,i2⟩:=Di l (q++[g0,bG c]) (4 - bG c)
  cases l with
  | nil=>exact ⟨bG c,by simp [raL],hbv,by simp [raL,eR]⟩
  | cons c' l =>
   obtain ⟨y,y1,y2,y3⟩:=i2 (by simp)
   refine ⟨y,y1,y2,?_⟩
   show raL (q++[g0,bG c]) (4 - bG c) (c' :: l)++[4 - y]=_
   rw [y3]
   simp [eR]
end Go.Vm

