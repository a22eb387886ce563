/-
 A valid shape without bends: its darts have directions, and its numbers are those of a plane system with angles.
-/
import Derived.Test.YtpgfkljmcacegaaDoorN39C
import Derived.Test.YtpgfkljmcacegaaDoorN35H
import Derived.Test.YtpgfkljmcacegaaDoorN42N
set_option linter.unusedVariables false
set_option linter.unusedSimpArgs false
namespace Go.Vm
open Go.Proofs
set_option maxRecDepth 100000
attribute [local irreducible] loopFix
theorem sumTo_list {n : Nat} {h : Nat→Int} : ∀ {l : List Int},l.Nodup→(∀ d∈l,∃ k : Nat,d=(k : Int)∧k < n)→sumTo n (fun k=>if (k : Int)∈l then h k else 0)=(l.map fun d=>h d.toNat).sum
 | [],_,_=>by
  rw [sumTo_zero (fun i _=>by simp)]; rfl
 | d :: l,hn,hd=>by
  obtain ⟨k,rfl,hk⟩:=hd d (by simp)
  obtain ⟨n1,n2⟩:=List.nodup_cons.1 hn
  rw [List.map_cons,List.sum_cons,← sumTo_list n2 (fun x hx=>hd x (by simp [hx]))]
  have : sumTo n (fun i=>if i=k then h k else 0)=h k:=by
   rw [sumTo_one hk (fun i _ hne=>by rw [if_neg hne]),if_pos rfl]
  rw [Int.toNat_natCast,← this,← sumTo_add]
  refine sumTo_congr fun i _=>?_
  by_cases e : i=k
  ·subst e
   rw [if_pos (by simp),if_pos rfl,if_neg n1]; simp
  ·rw [if_neg e]
   have : ((i : Int)∈(k : Int) :: l)↔(i : Int)∈l:=by
    rw [List.mem_cons]
    constructor
    ·rintro (h | h)
     ·omega
     ·exact h
    ·exact .inr
   by_cases c : (i : Int)∈l
   ·rw [if_pos (this.2 c),if_pos c]; simp
   ·rw [if_neg (fun h=>c (this.1 h)),if_neg c]; simp
theorem sumTo_of {n : Nat} {h : Nat→Int} {P : Nat→Prop} [DecidablePred P] {l : List Int} (hn : l.Nodup) (hd : ∀ d∈l,∃ k : Nat,d=(k : Int)∧k < n) (hP : ∀ k,k < n→(P k↔(k : Int)∈l)) : sumTo n (fun k=>if P k then h k else 0)=(l.map fun d=>h d.toNat).sum:=by
 rw [← sumTo_list hn hd]
 refine sumTo_congr fun k hk=>?_
 by_cases c : (k : Int)∈l
 ·rw [if_pos c,if_pos ((hP k hk).2 c)]
 ·rw [if_neg c,if_neg (fun h=>c ((hP k hk).1 h))]
def gN (g : List Int) (k : Nat) : Int:=g.getD k 0
theorem fold_each {σ α ε : Type} {f : Nat→σ→α→Option (σ⊕ε)} {s0 : σ} (hs : ∀ s : σ,s=s0) : ∀ {l : List α} {i : Nat} {s t : σ},foldE f i s l=some (.inl t)→∀ a∈l,∃ j,f j s0 a=some (.inl s0)
 | [],_,_,_,_,a,ha=>by simp at ha
 | x :: l,i,s,t,h,a,ha=>by
  simp only [foldE] at h
  cases hx : f i s x with
  | none=>rw [hx] at h; cases h
  | some y =>
   rw [hx] at h
   cases y with
   | inr e=>cases h
   | inl u =>
    rw [hs u,hs s] at hx
    rcases List.mem_cons.1 ha with rfl | ha
    ·exact ⟨i,hx⟩
    ·exact fold_each hs (by simpa using h) a ha
theorem ang_sum {g : List Int} (hg : ∀ k : Nat,k < g.length→1≤gN g k∧gN g k≤4) : ∀ {l : List Int} {i : Nat} {n m : Int},(∀ d∈l,∃ k : Nat,d=(k : Int)∧k < g.length)→0≤n→n+4 * l.length≤1000000000→foldE (angStep g) i n l=some (.inl m)→m=n+(l.map fun d=>gN g d.toNat).sum
 | [],_,n,m,_,_,_,h=>by
  simp only [foldE] at h
  cases h
  simp
 | d :: l,i,n,m,hl,h0,hb,h=>by
  obtain ⟨k,rfl,hk⟩:=hl d (by simp)
  simp only [foldE,angStep] at h
  have ge : g[k]?=some (gN g k):=by
   unfold gN
   rw [List.getD_eq_getElem?_getD,List.getElem?_eq_getElem hk]; rfl
  obtain ⟨a1,a2⟩:=hg k hk
  simp only [List.length_cons] at hb
  rw [getI_of,ge,Option.bind_some,ltI_f a1,gtI_f a2] at h
  simp only [Bool.or_false,cond_false,Option.bind_some,Sum.elim_inl] at h
  rw [addI64 (by omega) (by omega)] at h
  have:=ang_sum hg (fun d hd=>hl d (by simp [hd])) (by omega) (by omega) h
  rw [List.map_cons,List.sum_cons,this,Int.toNat_natCast]
  omega
theorem ts_plain {g : List Int} {B : List ByteArray} {L : Nat} (hb : ∀ k,k < L→(at0 B k).size=0) : ∀ {f : List Int},(∀ d∈f,∃ k : Nat,d=(k : Int)∧k < L)→tsZ g B f=(f.map fun d=>2 - gN g (oth d.toNat)).sum
 | [],_=>rfl
 | d :: f,hf=>by
  obtain ⟨k,rfl,hk⟩:=hf d (by simp)
  have ih:=ts_plain (g:=g) hb (f:=f) (fun d hd=>hf d (by simp [hd]))
  unfold tsZ
  rw [ih,List.map_cons,List.sum_cons,Int.toNat_natCast]
  have h0 : bytesOf (at0 B k)=[]:=by
   have:=bytesOf_length (at0 B k)
   rw [hb k hk] at this
   exact List.length_eq_zero_iff.1 this
  unfold tnZ
  rw [h0]
  unfold gN bz
  omega
section
variable {N : Nat} {E : List Arc} {A : List (List Int)} {nx fw g : List Int} {B : List ByteArray} {o : Int}
theorem at_list (h : RotOK (N : Nat) E A) {v : Nat} (hv : v < N) : ∃ l,A[v]?=some l∧l∈A∧l.Nodup∧(∀ d∈l,∃ k : Nat,d=(k : Int)∧k < 2 * E.length)∧∀ k,k < 2 * E.length→(tln E k=v↔(k : Int)∈l):=by
 have hvl : v < A.length:=by have:=h.al; omega
 have ge:=List.getElem?_eq_getElem hvl
 have hm:=List.getElem_mem hvl
 refine ⟨_,ge,hm,h.list_nodup hm,fun d hd=>h.mem_of hm hd,fun k hk=>⟨fun e=>?_,fun hd=>?_⟩⟩
 ·exact h.around hk (by rw [(tln_eq h hk).1,e]) ge
 ·obtain ⟨j,e1,_,e3⟩:=h.dart v _ ge _ hd
  have : k=j:=by omega
  subst this
  unfold tln
  rw [e3]; rfl
theorem around_all (h : RotOK (N : Nat) E A) (hn : Fol oth E A nx) (ff : Fol id E A fw) (P : Nat→Prop) (hP : ∀ d,d < 2 * E.length→P d→P (nxN fw d)) (a b : Nat) (ha : a < 2 * E.length) (hb : b < 2 * E.length) (e : tln E a=tln E b) (h0 : P a) : P b:=by
 obtain ⟨l,_,lA,ln,ld,lt⟩:=at_list h (tln_eq h ha).2
 obtain ⟨i,hi,ei⟩:=List.getElem_of_mem ((lt a ha).1 rfl)
 obtain ⟨j,hj,ej⟩:=List.getElem_of_mem ((lt b hb).1 e.symm)
 have key : ∀ t,∃ x : Nat,l[(i+t) % l.length]?=some (x : Int)∧x < 2 * E.length∧P x:=by
  intro t
  induction t with
  | zero =>
   refine ⟨a,?_,ha,h0⟩
   rw [Nat.add_zero,Nat.mod_eq_of_lt hi,List.getElem?_eq_getElem hi,ei]
  | succ t ih =>
   obtain ⟨x,x1,x2,x3⟩:=ih
   have hm : (i+t) % l.length < l.length:=Nat.mod_lt _ (by omega)
   have hm2 : (i+(t+1)) % l.length < l.length:=Nat.mod_lt _ (by omega)
   have hx : l[(i+t) % l.length]=(x : Int):=(List.getElem?_eq_some_iff.1 x1).2
   have g1:=ff.get l lA _ hm
   rw [hx,id,Int.toNat_natCast,List.getD_eq_getElem?_getD] at g1
   have hmod : ((i+t) % l.length+1) % l.length=(i+(t+1)) % l.length:=by rw [Nat.mod_add_mod,Nat.add_assoc]
   rw [hmod,List.getElem?_eq_getElem hm2,Option.getD_some] at g1
   have g2:=nxN_eq (fw_ok h hn ff) x2
   rw [g1] at g2
   have g3:=Option.some.inj g2.1
   exact ⟨nxN fw x,by rw [List.getElem?_eq_getElem hm2,g3],g2.2,hP x x2 x3⟩
 obtain ⟨x,x1,_,x3⟩:=key (j+l.length - i)
 rw [show i+(j+l.length - i)=j+l.length by omega,Nat.add_mod_right,Nat.mod_eq_of_lt hj,List.getElem?_eq_getElem hj,ej] at x1
 have:=Option.some.inj x1
 have : b=x:=by omega
 rw [this]; exact x3
theorem shape_ang (h : ShapeOK N E A g B o nx) : ∀ k,k < 2 * E.length→1≤gN g k∧gN g k≤4:=by
 intro k hk
 obtain ⟨a,a1,a2,a3⟩:=h.turn.ang k hk
 unfold gN
 rw [List.getD_eq_getElem?_getD,a1]
 exact ⟨a2,a3⟩
theorem shape_sum (h : ShapeOK N E A g B o nx) {l : List Int} (hl : l∈A) (hne : l≠[]) : (l.map fun d=>gN g d.toNat).sum=4:=by
 have hg:=h.turn.glen
 obtain ⟨j,hj⟩:=fold_each (s0:=()) (fun _=>rfl) h.ang l hl
 unfold angList at hj
 cases hf : foldE (angStep g) 0 0 l with
 | none=>rw [hf] at hj; cases hj
 | some x =>
  rw [hf] at hj
  cases x with
  | inr e=>cases hj
  | inl m =>
   have hlen:=h.rot.list_len hl
   have hm1:=h.rot.m1
   have:=ang_sum (g:=g) (fun k hk=>shape_ang h k (by omega)) (fun d hd=>by rw [hg]; exact h.rot.mem_of hl hd) (Int.le_refl 0) (by omega) hf
   have hpos : 0 < l.length:=List.length_pos_iff.2 hne
   simp only [Option.bind_some,Sum.elim_inl] at hj
   rw [gtI_t (by omega),Bool.true_and] at hj
   by_cases e : m=4
   ·omega
   ·rw [neI_t e] at hj; cases hj
theorem has_dart (h : RotOK (N : Nat) E A) (hc : Conn N E) (hE : 0 < E.length) {v : Nat} (hv : v < N) : ∃ d,d < 2 * E.length∧tln E d=v:=by
 apply Classical.byContradiction
 intro hno
 have key:=verts_hang h hc (fun x=>if x=v then 1 else 0) (fun d hd=>by
  rw [if_neg (fun e=>hno ⟨d,hd,e⟩),if_neg (fun e=>hno ⟨_,oth_lt hd,e⟩)])
 have a:=key v hv
 have b:=key (tln E 0) (tln_eq h (by omega)).2
 rw [if_pos rfl] at a
 rw [← a,if_neg (fun e=>hno ⟨0,by omega,e⟩)] at b
 omega
theorem shape_vert (h : ShapeOK N E A g B o nx) (hE : 0 < E.length) : ∀ v,v < N→sumTo (2 * E.length) (fun d=>if tln E d=v then gN g d else 0)=4:=by
 intro v hv
 obtain ⟨l,_,lA,ln,ld,lt⟩:=at_list h.rot hv
 obtain ⟨d,hd,e⟩:=has_dart h.rot h.conn hE hv
 have hne : l≠[]:=fun e'=>by
  have:=(lt d hd).1 e
  rw [e'] at this; simp at this
 rw [sumTo_of ln ld lt,shape_sum h lA hne]
theorem shape_face (h : ShapeOK N E A g B o nx) (hE : 0 < E.length) (hb : ∀ k,k < 2 * E.length→(at0 B k).size=0) : fcn E nx o.toNat < (facesOf nx).length ∧
  ∀ f,f < (facesOf nx).length→sumTo (2 * E.length) (fun d=>if fcn E nx d=f then 2 - gN g (oth d) else 0)=if f=fcn E nx o.toNat then -4 else 4:=by
 have hn:=h.folOK
 obtain ⟨hfs,_⟩:=facesOf_fs h.rot hn
 have h0:=h.out0
 obtain ⟨q,rfl⟩ : ∃ q : Nat,o=(q : Int):=⟨o.toNat,by omega⟩
 rw [Int.toNat_natCast]
 have hq : q < 2 * E.length:=by rcases h.out1 with h | h <;> omega
 obtain ⟨fo,o1,o2,o3⟩:=fcn_face h.rot hn hq
 refine ⟨o3,fun f hf=>?_⟩
 have hm:=List.getElem_mem hf
 obtain ⟨_,hel⟩:=hfs.elem _ hm
 have hmem : ∀ k,k < 2 * E.length→(fcn E nx k=f↔(k : Int)∈(facesOf nx)[f]):=by
  intro k hk
  constructor
  ·intro e
   obtain ⟨f',f1,f2,_⟩:=fcn_face h.rot hn hk
   rw [e,List.getElem?_eq_getElem hf] at f1
   rw [Option.some.inj f1]; exact f2
  ·intro hk2
   exact fcn_of h.rot hn (List.getElem?_eq_getElem hf) hk2
 rw [sumTo_of (hfs.nodup.sublist (List.sublist_flatten_of_mem hm)) hel hmem,← ts_plain hb hel]
 have hc:=h.chk
 unfold facesChk at hc
 rw [List.all_eq_true] at hc
 have hf4:=hc _ hm
 unfold faceChk at hf4
 have hin : inB (facesOf nx)[f] (q : Int)=decide (f=fcn E nx q):=by
  unfold inB
  refine decide_eq_decide.2 ?_
  rw [← hmem q hq]
  exact eq_comm
 rw [hin] at hf4
 have hv : tsZ g B (facesOf nx)[f]=cond (decide (f=fcn E nx q)) (-4) 4:=by simpa [eqI] using hf4
 rw [hv]
 by_cases e : f=fcn E nx q
 ·rw [if_pos e]; simp [e]
 ·rw [if_neg e]; simp [e]
theorem shape_euler (h : ShapeOK N E A g B o nx) (hE : 0 < E.length) (hb : ∀ k,k < 2 * E.length→(at0 B k).size=0) : N+(facesOf nx).length=E.length+2:=by
 have hn:=h.folOK
 obtain ⟨ho,hf⟩:=shape_face h hE hb
 have e1 : sumTo (2 * E.length) (fun d=>gN g d)=4 * (N : Int):=by
  have:=sum_fibre (n:=2 * E.length) (F:=N) (fc:=tln E) (fun d hd=>(tln_eq h.rot hd).2) (fun _=>1) (gN g)
  simp only [Int.one_mul] at this
  rw [this,sumTo_congr (g:=fun _=>4 * 1) (fun v hv=>by rw [shape_vert h hE v hv]; rfl),sumTo_mul,sumTo_ones]
 have e2 : sumTo (2 * E.length) (fun d=>2 - gN g (oth d))=4 * ((facesOf nx).length : Int) - 8:=by
  have:=sum_fibre (n:=2 * E.length) (F:=(facesOf nx).length) (fc:=fcn E nx) (fun d hd=>by obtain ⟨_,_,_,q⟩:=fcn_face h.rot hn hd; exact q) (fun _=>1) (fun d=>2 - gN g (oth d))
  simp only [Int.one_mul] at this
  have h8 : sumTo (facesOf nx).length (fun f=>if f=fcn E nx o.toNat then (8 : Int) else 0)=8:=by
   rw [sumTo_one ho (fun i _ hne=>by rw [if_neg hne]),if_pos rfl]
  rw [this,sumTo_congr (g:=fun f=>4 * 1 - (if f=fcn E nx o.toNat then 8 else 0)) (fun f hff=>by
   rw [hf f hff]
   split <;> rfl),sumTo_sub,sumTo_mul,sumTo_ones,h8]
 have e3 : sumTo (2 * E.length) (fun d=>2 - gN g (oth d))=2 * (2 * E.length : Nat) - sumTo (2 * E.length) (fun d=>gN g d):=by
  rw [sumTo_sub,sumTo_perm (π:=oth) (fun d hd=>oth_lt hd) (fun a b _ _ e=>by rw [← oth_two a,e,oth_two]) (gN g)]
  congr 1
  have:=sumTo_mul 2 (fun _=>1) (2 * E.length)
  simp only [Int.mul_one] at this
  rw [this,sumTo_ones]
 omega
theorem shape_plane (h : ShapeOK N E A g B o nx) (ff : Fol id E A fw) (hE : 0 < E.length) (hb : ∀ k,k < 2 * E.length→(at0 B k).size=0) : Plane N (facesOf nx).length E.length (tln E) (fcn E nx) (nxN fw):=by
 have hn:=h.folOK
 have hfw:=fw_ok h.rot hn ff
 have hfs:=(facesOf_fs h.rot hn).1
 have num : ∀ d,d < 2 * E.length→∃ y,nxN fw d=y∧tl E y=tl E d∧fcn E nx y=fcn E nx (oth d)∧y < 2 * E.length:=by
  intro d hd
  obtain ⟨y,y1,y2,_,y4,y5⟩:=fw_next h.rot hn ff hd
  have q:=(nxN_eq hfw hd).1
  rw [y2] at q
  have:=Option.some.inj q
  exact ⟨y,by omega,y4,y5,y1⟩
 refine ⟨fun d hd=>(tln_eq h.rot hd).2,fun d hd=>by obtain ⟨_,_,_,q⟩:=fcn_face h.rot hn hd; exact q,fun d hd=>(nxN_eq hfw hd).2,fun a b ha hb e=>fw_inj h.rot hn ff ha hb e,
  fun d hd=>by obtain ⟨y,e,e1,_⟩:=num d hd; rw [e]; unfold tln; rw [e1],fun d hd=>by obtain ⟨y,e,_,e2,_⟩:=num d hd; rw [e]; exact e2,verts_hang h.rot h.conn,?_,around_all h.rot hn ff,h.pos,?_,shape_euler h hE hb⟩
 ·intro L hL x hx
  have hang:=faces_hang h.rot hn ff h.conn L hL
  have pick : ∀ x,x < (facesOf nx).length→∃ k,k < 2 * E.length∧fcn E nx k=x:=by
   intro x hx
   obtain ⟨q1,q2⟩:=hfs.elem _ (List.getElem_mem hx)
   obtain ⟨y,hy⟩:=List.exists_mem_of_ne_nil _ q1
   obtain ⟨k,rfl,hk⟩:=q2 y hy
   exact ⟨k,hk,fcn_of h.rot hn (List.getElem?_eq_getElem hx) hy⟩
  obtain ⟨k,hk,rfl⟩:=pick x hx
  obtain ⟨k',hk',e⟩:=pick 0 (by omega)
  rw [← e]
  exact hang k hk k' hk'
 ·obtain ⟨q,_⟩:=shape_face h hE hb
  omega
theorem shape_angl (h : ShapeOK N E A g B o nx) (hE : 0 < E.length) (hb : ∀ k,k < 2 * E.length→(at0 B k).size=0) : Angl N (facesOf nx).length E.length (tln E) (fcn E nx) (nxN fw) (gN g) (fcn E nx o.toNat):=by
 obtain ⟨q1,q2⟩:=shape_face h hE hb
 refine ⟨fun d hd=>(shape_ang h d hd).1,shape_vert h hE,q1,fun f hf hne=>?_⟩
 rw [q2 f hf,if_neg hne]
theorem turn_sums (h : ShapeOK N E A g B o nx) (ff : Fol id E A fw) : ∃ r : Nat→Int,∀ d,d < 2 * E.length→(4 : Int)∣r (nxN fw d) - r d - gN g d:=by
 have hn:=h.folOK
 let L : Nat→List Int:=fun v=>A.getD v []
 let P : Nat→Nat→Prop:=fun d i=>(L (tln E d))[i]?=some (d : Int)
 let pos : Nat→Nat:=fun d=>@dite _ (∃ i,P d i) (Classical.propDecidable _) (fun h=>Classical.choose h) (fun _=>0)
 have hpos : ∀ d i l,d < 2 * E.length→A[tln E d]?=some l→l[i]?=some (d : Int)→pos d=i∧L (tln E d)=l:=by
  intro d i l hd hl hi
  have hL : L (tln E d)=l:=by
   show A.getD (tln E d) []=l
   rw [List.getD_eq_getElem?_getD,hl]; rfl
  refine ⟨?_,hL⟩
  have hex : ∃ i,P d i:=⟨i,by show (L (tln E d))[i]?=_; rw [hL]; exact hi⟩
  have e : pos d=Classical.choose hex:=dif_pos hex
  have hs:=Classical.choose_spec hex
  have hs : (L (tln E d))[Classical.choose hex]?=some (d : Int):=hs
  rw [hL] at hs
  rw [e]
  have hnd:=h.rot.list_nodup (List.mem_of_getElem? hl)
  obtain ⟨i1,e1⟩:=List.getElem?_eq_some_iff.1 hs
  obtain ⟨i2,e2⟩:=List.getElem?_eq_some_iff.1 hi
  exact nodup_idx hnd i1 i2 (by rw [e1,e2])
 refine ⟨fun d=>(((L (tln E d)).take (pos d)).map fun x=>gN g x.toNat).sum,fun d hd=>?_⟩
 obtain ⟨l,l1,lA,ln,ld,lt⟩:=at_list h.rot (tln_eq h.rot hd).2
 obtain ⟨i,hi,ei⟩:=List.getElem_of_mem ((lt d hd).1 rfl)
 have gi : l[i]?=some (d : Int):=by rw [List.getElem?_eq_getElem hi,ei]
 obtain ⟨p1,p2⟩:=hpos d i l hd l1 gi
 have hm : (i+1) % l.length < l.length:=Nat.mod_lt _ (by omega)
 have g1:=ff.get l lA i hi
 rw [ei,id,Int.toNat_natCast,List.getD_eq_getElem?_getD,List.getElem?_eq_getElem hm,Option.getD_some] at g1
 have g2:=nxN_eq (fw_ok h.rot hn ff) hd
 rw [g1] at g2
 have g3:=Option.some.inj g2.1
 have t1 : tln E (nxN fw d)=tln E d:=(lt _ g2.2).2 (by rw [← g3]; exact List.getElem_mem hm)
 obtain ⟨q1,q2⟩:=hpos (nxN fw d) ((i+1) % l.length) l g2.2 (by rw [t1]; exact l1) (by rw [List.getElem?_eq_getElem hm,g3])
 simp only
 rw [q1,q2,p1,p2]
 rcases Nat.lt_or_ge (i+1) l.length with c | c
 ·rw [Nat.mod_eq_of_lt c,List.take_add_one,gi]
  simp only [Option.toList_some,List.map_append,List.map_cons,List.map_nil,List.sum_append,List.sum_cons,List.sum_nil,Int.toNat_natCast]
  exact ⟨0,by omega⟩
 ·have : i+1=l.length:=by omega
  rw [this,Nat.mod_self]
  have ht:=shape_sum h lA (fun e=>by rw [e] at hi; simp at hi)
  rw [← List.take_append_drop i l,List.map_append,List.sum_append,List.drop_eq_getElem_cons hi,ei,this,List.drop_length] at ht
  simp only [List.map_cons,List.map_nil,List.sum_cons,List.sum_nil,Int.toNat_natCast] at ht
  simp only [List.take_zero,List.map_nil,List.sum_nil]
  exact ⟨-1,by omega⟩
theorem shape_dirs (h : ShapeOK N E A g B o nx) (ff : Fol id E A fw) (hE : 0 < E.length) (hb : ∀ k,k < 2 * E.length→(at0 B k).size=0) : ∃ k : Nat→Int,Dirs E.length (nxN fw) (gN g) k∧k 0=1:=by
 have p:=shape_plane h ff hE hb
 obtain ⟨q1,q2⟩:=shape_face h hE hb
 obtain ⟨r,hr⟩:=turn_sums h ff
 have permN : ∀ f : Nat→Int,sumTo (2 * E.length) (fun d=>f (nxN fw (oth d)))=sumTo (2 * E.length) f:=sumTo_perm (fun d hd=>p.fwt _ (oth_lt2 hd)) (fun a b ha hb e=>by
  have:=p.inj _ _ (oth_lt2 ha) (oth_lt2 hb) e
  rw [← oth_two a,this,oth_two])
 obtain ⟨φ,hφ⟩:=plane_potential (M:=E.length) (V:=N) (F:=(facesOf nx).length) (tl:=tln E) (fc:=fcn E nx) (nx:=fun d=>nxN fw (oth d)) (δ:=fun d=>r d+2 - r (oth d)) 4 p.tlt p.fct (fun d hd=>p.fwt _ (oth_lt2 hd)) (fun a b ha hb e=>by
  have:=p.inj _ _ (oth_lt2 ha) (oth_lt2 hb) e
  rw [← oth_two a,this,oth_two]) (fun d hd=>by rw [p.fcf _ (oth_lt2 hd),oth_two]) (fun d hd=>p.tlf _ (oth_lt2 hd)) (fun i _=>by
   rw [oth_ev,oth_od]; exact ⟨1,by omega⟩) (fun f hf=>by
   -- around a face
   have s1 : sumTo (2 * E.length) (fun d=>if fcn E nx d=f then r d else 0)=sumTo (2 * E.length) (fun d=>if fcn E nx d=f then r (nxN fw (oth d)) else 0):=by
    rw [← permN (fun d=>if fcn E nx d=f then r d else 0)]
    exact sumTo_congr fun d hd=>by rw [p.fcf _ (oth_lt2 hd),oth_two]
   have s2 : (4 : Int)∣sumTo (2 * E.length) (fun d=>if fcn E nx d=f then r (nxN fw (oth d)) - r (oth d) - gN g (oth d) else 0):=sumTo_div 4 fun d hd=>by
    split
    ·exact hr _ (oth_lt2 hd)
    ·exact Int.dvd_zero 4
   have s3:=q2 f hf
   have s4 : sumTo (2 * E.length) (fun d=>if fcn E nx d=f then r d+2 - r (oth d) else 0)=sumTo (2 * E.length) (fun d=>if fcn E nx d=f then r d else 0) - sumTo (2 * E.length) (fun d=>if fcn E nx d=f then r (nxN fw (oth d)) else 0) +
     (sumTo (2 * E.length) (fun d=>if fcn E nx d=f then r (nxN fw (oth d)) - r (oth d) - gN g (oth d) else 0)+4 * sumTo (2 * E.length) (fun d=>if fcn E nx d=f then 1 else 0) - sumTo (2 * E.length) (fun d=>if fcn E nx d=f then 2 - gN g (oth d) else 0)):=by
    rw [← sumTo_mul,← sumTo_sub,← sumTo_add,← sumTo_sub,← sumTo_add]
    exact sumTo_congr fun d _=>by split <;> omega
   rw [s4,s1,s3]
   split <;> omega) p.cV p.cF p.pos p.posF p.euler
 refine ⟨fun d=>(φ (tln E d)+r d+(1 - φ (tln E 0) - r 0)) % 4,⟨fun d hd=>by omega,fun d hd=>?_,fun d hd=>?_⟩,?_⟩
 ·have h1:=hr d hd
  rw [p.tlf d hd]
  omega
 ·have h1:=hφ d hd
  omega
 ·show (φ (tln E 0)+r 0+(1 - φ (tln E 0) - r 0)) % 4=1
  omega
end
end Go.Vm
