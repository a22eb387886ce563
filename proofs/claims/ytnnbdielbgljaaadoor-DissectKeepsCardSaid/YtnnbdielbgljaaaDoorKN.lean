/-
 The straightened shape is plain; the law.
-/
import Derived.Test.YtnnbdielbgljaaaDoorKM
import Derived.Test.YtnnbdielbgljaaaDoorKI
import Derived.Test.YtnnbdielbgljaaaDoorKL
set_option linter.unusedVariables false
set_option linter.unusedSimpArgs false
/-
 The straightened shape: its angles and turns; it is a plain shape, and is its own straightened shape.
-/
namespace Go.Vm
open Go.Proofs
set_option maxRecDepth 100000
attribute [local irreducible] aa
def bzv (c : Int) : Int:=if c=76 then 1 else -1
theorem gR {c : Int} {l : List Int} : bz (c :: l)=bzv c+bz l:=rfl
theorem Cv {l r : List Int} : bz (l++r)=bz l+bz r:=by
 induction l with
 | nil=>simp [bz]
 | cons c l ih=>rw [List.cons_append,gR,gR,ih]; omega
theorem pc : ∀ {l : List Int},bz l.reverse=bz l
 | []=>rfl
 | c :: l=>by
  rw [List.reverse_cons,Cv,pc,gR,gR]
  show bz l+(bzv c+0)=_
  omega
theorem wS {c : Int} (h : lr c=true) : c=76∨c=82:=by
 unfold lr at h
 simp only [Bool.or_eq_true,eqI,beq_iff_eq,decide_eq_true_eq] at h
 omega
theorem FM : ∀ {l : List Int},l.all lr=true→bz (l.map sw)=- bz l
 | [],_=>rfl
 | c :: l,h=>by
  rw [List.all_cons,Bool.and_eq_true] at h
  rw [List.map_cons,gR,gR,FM h.2]
  rcases wS h.1 with rfl | rfl
  ·have e1 : bzv (sw 76)=-1:=by decide
   have e2 : bzv 76=1:=by decide
   omega
  ·have e1 : bzv (sw 82)=1:=by decide
   have e2 : bzv 82=-1:=by decide
   omega
theorem Gg {s : ByteArray} (h : (ac s).all lr=true) : bz (ac (rev s))=- bz (ac s):=by
 rw [nV,FM (by rw [List.all_reverse]; exact h),pc]
theorem xJ {l : List Int} (h : l.all lr=true) {j : Nat} (hj : j < l.length) : lr (l.getD j 0)=true:=by
 rw [List.getD_eq_getElem?_getD,List.getElem?_eq_getElem hj]
 exact List.all_eq_true.1 h _ (List.getElem_mem hj)
theorem mh {c : Int} (h : lr c=true) : bG c=2 - bzv c∧(bzv c=1∨bzv c=-1):=by
 rcases wS h with rfl | rfl
 ·decide
 ·decide
theorem BM {G : List Int} : ∀ {l : List Int} {x : Nat},(∀ j,j < l.length→tn G ((2 * (x+j) : Nat) : Int)=bzv (l.getD j 0))→tsm G (upL x l.length)=bz l+tn G ((2 * (x+l.length) : Nat) : Int)
 | [],x,_=>by
  rw [List.length_nil,upL,bP,dV,Nat.add_zero]
  show _=0+_
  omega
 | c :: l,x,h=>by
  have h0:=h 0 (by simp)
  have ih:=BM (G:=G) (l:=l) (x:=x+1) (fun j hj=>by
   have:=h (j+1) (by simpa using hj)
   rw [show x+1+j=x+(j+1) by omega,this]
   simp)
  rw [List.length_cons,upL,bP,ih,gR,show x+1+l.length=x+(l.length+1) by omega]
  rw [Nat.add_zero] at h0
  rw [h0]
  simp only [List.getD_cons_zero]
  omega
theorem DA {G : List Int} {l : List Int} {x : Nat} : ∀ {r : Nat},r≤l.length→(∀ j,j < r→tn G ((2 * (x+j+1)+1 : Nat) : Int)=- bzv (l.getD j 0))→tsm G (dnL (x+r) r)=- bz (l.take r)+tn G ((2 * x+1 : Nat) : Int)
 | 0,_,_=>by
  rw [Nat.add_zero,dnL,bP,dV,List.take_zero]
  show _=-0+_
  omega
 | r+1,hr,h=>by
  have h0:=h r (by omega)
  have ih:=DA (G:=G) (l:=l) (x:=x) (r:=r) (by omega) (fun j hj=>h j (by omega))
  rw [dnL,bP,show x+(r+1) - 1=x+r by omega,ih,show x+(r+1)=x+r+1 by omega,h0,List.take_add_one,List.getElem?_eq_getElem (by omega : r < l.length),Cv,List.getD_eq_getElem?_getD,List.getElem?_eq_getElem (by omega : r < l.length)]
  simp only [Option.toList,Option.getD_some,gR]
  show _=-(bz (l.take r)+(bzv l[r]+0))+_
  omega
section
variable {N : Nat} {E : List Arc} {A : List (List Int)} {nx nx' : List Int} {g : List Int} {B : List ByteArray} {o : Int}
theorem v8 (h : ShapeOK N E A g B o nx) {i : Nat} (hi : i < E.length) : bz (ac (at0 B (2 * i+1)))=- bz (ac (at0 B (2 * i))):=by
 have hb:=dz.1 h.bend (2 * i) (by omega) (by omega)
 unfold fL at hb
 rw [Bool.and_eq_true,mE,cK] at hb
 rw [hb.2]
 exact Gg ((jL h).at' i hi).2.1
theorem yK {g : List Int} {B : List ByteArray} : ∀ {f : List Int},tsZ g B f=(f.map fun d=>tnZ g B d.toNat).sum
 | []=>rfl
 | d :: f=>by rw [tsZ,yK,List.map_cons,List.sum_cons]
theorem m9 (h : ShapeOK N E A g B o nx) {f : List Int} (hf : f∈ab nx) : tsZ g B f=if o∈f then -4 else 4:=by
 have hc:=h.chk
 unfold b8 at hc
 rw [List.all_eq_true] at hc
 have:=hc f hf
 unfold eh at this
 simp only [eqI,beq_iff_eq] at this
 rw [this]
 unfold inB
 by_cases c : o∈f
 ·simp [c]
 ·simp [c]
theorem ui (h : ShapeOK N E A g B o nx) (hE : 0 < E.length) : N+(ab nx).length=E.length+2:=by
 have hn:=h.folOK
 obtain ⟨hfs,_⟩:=bh h.rot hn
 have h0:=h.out0
 obtain ⟨q,rfl⟩ : ∃ q : Nat,o=(q : Int):=⟨o.toNat,by omega⟩
 have hq : q < 2 * E.length:=by rcases h.out1 with h | h <;> omega
 obtain ⟨fo,o1,o2,o3⟩:=ij h.rot hn hq
 have hf : ∀ f,f < (ab nx).length→ao (2 * E.length) (fun d=>if fcn E nx d=f then tnZ g B d else 0)=if f=fcn E nx q then -4 else 4:=by
  intro f hf
  have hm:=List.getElem_mem hf
  obtain ⟨_,hel⟩:=hfs.elem _ hm
  have hmem : ∀ k,k < 2 * E.length→(fcn E nx k=f↔(k : Int)∈(ab nx)[f]):=by
   intro k hk
   constructor
   ·intro e
    obtain ⟨f',f1,f2,_⟩:=ij h.rot hn hk
    rw [e,List.getElem?_eq_getElem hf] at f1
    rw [Option.some.inj f1]; exact f2
   ·intro hk2
    exact Dg h.rot hn (List.getElem?_eq_getElem hf) hk2
  rw [qa (hfs.nodup.sublist (List.sublist_flatten_of_mem hm)) hel hmem,← yK,m9 h hm]
  have : ((q : Int)∈(ab nx)[f])↔f=fcn E nx q:=by rw [← hmem q hq]; exact eq_comm
  simp only [this]
 have e1 : ao (2 * E.length) (fun d=>gN g d)=4 * (N : Int):=by
  have:=kB (n:=2 * E.length) (F:=N) (fc:=tln E) (fun d hd=>(tN h.rot hd).2) (fun _=>1) (gN g)
  simp only [Int.one_mul] at this
  rw [this,aP (g:=fun _=>4 * 1) (fun v hv=>by rw [qq h hE v hv]; rfl),ec,cD]
 have e2 : ao (2 * E.length) (fun d=>tnZ g B d)=4 * ((ab nx).length : Int) - 8:=by
  have:=kB (n:=2 * E.length) (F:=(ab nx).length) (fc:=fcn E nx) (fun d hd=>by obtain ⟨_,_,_,q⟩:=ij h.rot hn hd; exact q) (fun _=>1) (fun d=>tnZ g B d)
  simp only [Int.one_mul] at this
  have h8 : ao (ab nx).length (fun f=>if f=fcn E nx q then (8 : Int) else 0)=8:=by
   rw [bJ o3 (fun i _ hne=>by rw [if_neg hne]),if_pos rfl]
  rw [this,aP (g:=fun f=>4 * 1 - (if f=fcn E nx q then 8 else 0)) (fun f hff=>by
   rw [hf f hff]
   split <;> rfl),dC,ec,cD,h8]
 have e3 : ∀ m,m≤E.length→ao (2 * m) (fun d=>tnZ g B d)=4 * (m : Int) - ao (2 * m) (fun d=>gN g d):=by
  intro m
  induction m with
  | zero=>intro _; rfl
  | succ m ih =>
   intro hm
   have:=ih (by omega)
   have hb:=v8 h (i:=m) (by omega)
   rw [show 2 * (m+1)=2 * m+1+1 by omega,bA,bA,bA,bA,this]
   unfold tnZ
   rw [cK,cJ,hb]
   unfold gN
   omega
 have:=e3 E.length (Nat.le_refl _)
 omega
theorem kV (hg : g.length=2 * E.length) {i j : Nat} (hi : i < E.length) (hj : j≤bs B i) : gN (anR g B 0 E) (2 * (Mo B 0 i+j))=(if j=0 then gN g (2 * i) else 4 - bG (btc B i (j - 1)))∧gN (anR g B 0 E) (2 * (Mo B 0 i+j)+1)=(if j=bs B i then gN g (2 * i+1) else bG (btc B i j)):=by
 have h:=An (g:=g) (B:=B) (e:=0) hi (by rw [Nat.zero_add]; exact hj)
 rw [Nat.zero_add] at h
 unfold gN
 constructor
 ·rw [List.getD_eq_getElem?_getD,h.1]; rfl
 ·rw [List.getD_eq_getElem?_getD,h.2]; rfl
theorem BC (hg : g.length=2 * E.length) {d : Nat} (hd : d < 2 * E.length) : gN (anR g B 0 E) (plc B E (d : Int)).toNat=gN g d:=by
 obtain ⟨i,hi,rfl | rfl⟩:=cI hd
 ·have:=(kV (B:=B) hg hi (Nat.zero_le _)).1
  rw [if_pos rfl] at this
  rw [jI hi,Int.toNat_natCast]
  exact this
 ·have:=(kV (B:=B) hg hi (Nat.le_refl _)).2
  rw [if_pos rfl] at this
  rw [jE hi,Int.toNat_natCast]
  exact this
theorem s8 (hB : BendsOK B E.length) {i j : Nat} (hi : i < E.length) (hj : j < bs B i) : lr (btc B i j)=true:=xJ (hB.at' i hi).2.1 (by rw [az]; exact hj)
theorem Fe (h : ShapeOK N E A g B o nx) {d : Nat} (hd : d < 2 * E.length) : tsm (anR g B 0 E) (prt B (d : Int))=tnZ g B d:=by
 have hB:=jL h
 have hg:=h.turn.glen
 obtain ⟨i,hi,rfl | rfl⟩:=cI hd
 ·have hbl : (ac (at0 B (2 * i))).length=bs B i:=az _
  have:=BM (G:=anR g B 0 E) (l:=ac (at0 B (2 * i))) (x:=Mo B 0 i) (fun j hj=>by
   rw [hbl] at hj
   rw [gx,cK,(kV hg hi (by omega : j≤bs B i)).2,if_neg (by omega),(mh (s8 hB hi hj)).1]
   unfold btc
   omega)
  rw [hbl] at this
  rw [vu,this,gx,cK,(kV hg hi (Nat.le_refl _)).2,if_pos rfl]
  unfold tnZ
  rw [cK]
  unfold gN
  omega
 ·have hbl : (ac (at0 B (2 * i))).length=bs B i:=az _
  have:=DA (G:=anR g B 0 E) (l:=ac (at0 B (2 * i))) (x:=Mo B 0 i) (r:=bs B i) (by omega) (fun j hj=>by
   rw [gx,cJ,show Mo B 0 i+j+1=Mo B 0 i+(j+1) by omega,(kV hg hi (by omega : j+1≤bs B i)).1,if_neg (by omega),Nat.add_sub_cancel,(mh (s8 hB hi hj)).1]
   unfold btc
   omega)
  rw [← hbl,List.take_length,hbl] at this
  have h0:=(kV (B:=B) hg hi (Nat.zero_le _)).1
  rw [if_pos rfl,Nat.add_zero] at h0
  rw [vC,this,gx,cJ,h0]
  unfold tnZ
  rw [v8 h hi,cJ]
  unfold gN
  omega
theorem zk (h : ShapeOK N E A g B o nx) : ∀ {f : List Int},(∀ x∈f,∃ k : Nat,x=(k : Int)∧k < 2 * E.length)→tsm (anR g B 0 E) (f.flatMap (prt B))=tsZ g B f
 | [],_=>rfl
 | d :: f,hf=>by
  obtain ⟨k,rfl,hk⟩:=hf d (by simp)
  rw [List.flatMap_cons,gI,Fe h hk,zk h (fun x hx=>hf x (by simp [hx]))]
  rfl
theorem zw {d : Nat} (hd : d < 2 * E.length) : plc B E (d : Int)∈prt B (d : Int):=by
 obtain ⟨i,hi,rfl | rfl⟩:=cI hd
 ·rw [jI hi,vu]
  exact mP.2 ⟨0,by omega,rfl⟩
 ·rw [jE hi,vC]
  exact (mw (by omega)).2 ⟨bs B i,by omega,by congr 1; omega⟩
theorem ShapeOK.straight (h : ShapeOK N E A g B o nx) (hE : 0 < E.length) (hN : N+Ko B 0 E.length≤16384) (hM : Mo B 0 E.length≤32768) :
  ∃ nx' o',plc B E o=((o' : Nat) : Int)∧Sys (N+Ko B 0 E.length) (EdR B 0 E N) (plA B E A++frR B 0 E 0) nx' (ab nx')∧Met (EdR B 0 E N) (plA B E A++frR B 0 E 0) (anR g B 0 E) o' (ab nx')∧(ab nx').length=(ab nx).length:=by
 have hr:=ye (B:=B) h.rot hN hM
 obtain ⟨nx',_,hn'⟩:=iu hr ()
 have hB:=jL h
 have hg:=h.turn.glen
 have hal:=h.rot.al
 obtain ⟨hfs,hcy⟩:=bh h.rot h.folOK
 have hlen:=lk (B:=B) (E:=E) (N:=N)
 have hMK:=zW (B:=B) (i:=E.length)
 have hfs':=GW (N:=N) (B:=B) h.rot hfs hfs.num
 have h0:=h.out0
 obtain ⟨q,rfl⟩ : ∃ q : Nat,o=(q : Int):=⟨o.toNat,by omega⟩
 have hq : q < 2 * E.length:=by rcases h.out1 with h | h <;> omega
 obtain ⟨o',e1,e2,_⟩:=DZ (N:=N) (B:=B) hq
 have hS : Sys (N+Ko B 0 E.length) (EdR B 0 E N) (plA B E A++frR B 0 E 0) nx' ((ab nx).map fun f=>f.flatMap (prt B)):=by
  refine ⟨hr,hn',by have:=h.pos; omega,Fg h.rot h.conn hN hM,by omega,hfs',fun f hf=>?_,?_⟩
  ·obtain ⟨f0,hf0,rfl⟩:=List.mem_map.1 hf
   exact Ge h.rot h.folOK hn' (hfs.elem f0 hf0).2 (hcy f0 hf0)
  ·rw [List.length_map,hlen]
   have:=ui h hE
   omega
 have hMet : Met (EdR B 0 E N) (plA B E A++frR B 0 E 0) (anR g B 0 E) o' ((ab nx).map fun f=>f.flatMap (prt B)):=by
  refine ⟨?_,fun k hk=>?_,fun l hl hne=>?_,e2,fun f hf=>?_⟩
  ·have:=oX (g:=g) (B:=B) (Es:=E) (e:=0) (m:=0)
   rw [sg] at this
   rw [hlen]; omega
  ·obtain ⟨i,j,hi,hj,rfl | rfl⟩:=uo hk
   ·rw [(kV hg hi hj).1]
    by_cases c : j=0
    ·rw [if_pos c]; exact kz h _ (by omega)
    ·rw [if_neg c]
     have:=mh (s8 hB hi (by omega : j - 1 < bs B i))
     omega
   ·rw [(kV hg hi hj).2]
    by_cases c : j=bs B i
    ·rw [if_pos c]; exact kz h _ (by omega)
    ·rw [if_neg c]
     have:=mh (s8 hB hi (by omega : j < bs B i))
     omega
  ·obtain ⟨v,hv⟩:=List.mem_iff_getElem?.1 hl
   rcases nK hal hv with ⟨l0,q0,rfl⟩ | ⟨i,j,hi,hj,_,rfl⟩
   ·have hm:=List.mem_of_getElem? q0
    rw [List.map_map,← nQ h hm (fun e=>hne (by rw [e]; rfl))]
    refine fW fun x hx=>?_
    obtain ⟨k,rfl,hk⟩:=h.rot.mem_of hm hx
    exact BC hg hk
   ·have s2:=(kV (B:=B) hg hi (by omega : j≤bs B i)).2
    have s1:=(kV (B:=B) hg hi (by omega : j+1≤bs B i)).1
    rw [if_neg (by omega)] at s1 s2
    simp only [List.map_cons,List.map_nil,List.sum_cons,List.sum_nil,Int.toNat_natCast]
    rw [s2,show 2 * (Mo B 0 i+j)+2=2 * (Mo B 0 i+(j+1)) by omega,s1,Nat.add_sub_cancel]
    omega
  ·obtain ⟨f0,hf0,rfl⟩:=List.mem_map.1 hf
   have hel:=(hfs.elem f0 hf0).2
   rw [zk h hel,m9 h hf0]
   have : ((o' : Int)∈f0.flatMap (prt B))↔(q : Int)∈f0:=by
    rw [← e1,List.mem_flatMap]
    constructor
    ·rintro ⟨x,hx,hpx⟩
     obtain ⟨k,rfl,hk⟩:=hel x hx
     rw [zP hq hk (zw hq) hpx]; exact hx
    ·intro hx
     exact ⟨_,hx,zw hq⟩
   simp only [this]
 refine ⟨nx',o',e1,hS.std,hMet.std hS,?_⟩
 have:=mJ hS.std.fs hfs' hS.std.cyc hS.cyc
 rw [this,List.length_map]
theorem Da {B : List ByteArray} {m : Nat} (hz : ∀ k,k < 2 * m→(at0 B k).size=0) {i : Nat} (hi : i < m) : bs B i=0:=hz (2 * i) (by omega)
theorem vK {m : Nat} (hz : ∀ k,k < 2 * m→(at0 B k).size=0) : ∀ {i : Nat},i≤m→Mo B 0 i=i∧Ko B 0 i=0
 | 0,_=>⟨rfl,rfl⟩
 | i+1,hi=>by
  obtain ⟨h1,h2⟩:=vK hz (i:=i) (by omega)
  rw [mN,mF,Nat.zero_add,Da hz (by omega),h1,h2]
  exact ⟨rfl,rfl⟩
theorem kR (h : ShapeOK N E A g B o nx) (hz : ∀ k,k < 2 * E.length→(at0 B k).size=0) (hBe : B=emB E) : rB N E A g B o=(((N : Int),E,A,()),g,B,o,()):=by
 have hg:=h.turn.glen
 obtain ⟨m1,k1⟩:=vK hz (Nat.le_refl E.length)
 have hpl : ∀ d,d < 2 * E.length→plc B E (d : Int)=(d : Int):=fun d hd=>by
  obtain ⟨i,hi,rfl | rfl⟩:=cI hd
  ·rw [jI hi,(vK hz (by omega : i≤E.length)).1]
  ·rw [jE hi,(vK hz (by omega : i≤E.length)).1,Da hz hi]; rfl
 have a1 : nR B 0 E N=N:=by rw [Am,k1]; rfl
 have a2 : EdR B 0 E N=E:=by
  refine List.ext_getElem? fun i=>?_
  by_cases hi : i < E.length
  ·have:=tV (B:=B) (e:=0) (n:=N) (j:=0) (List.getElem?_eq_getElem hi) (Nat.zero_le _)
   rw [(vK hz (by omega : i≤E.length)).1,Nat.zero_add,Da hz hi,if_pos rfl,if_pos rfl,Nat.add_zero] at this
   rw [this,List.getElem?_eq_getElem hi]
  ·rw [List.getElem?_eq_none (by rw [lk,m1]; omega),List.getElem?_eq_none (by omega)]
 have a3 : plA B E A=A:=by
  unfold plA
  refine (List.map_congr_left (g:=id) fun l hl=>?_).trans (List.map_id _)
  refine (List.map_congr_left (g:=id) fun d hd=>?_).trans (List.map_id _)
  obtain ⟨k,rfl,hk⟩:=h.rot.mem_of hl hd
  exact hpl k hk
 have a4 : frR B 0 E 0=[]:=List.length_eq_zero_iff.1 (by rw [jP,k1])
 have hal:=oX (g:=g) (B:=B) (Es:=E) (e:=0) (m:=0)
 rw [sg,m1] at hal
 have a5 : anR g B 0 E=g:=by
  refine List.ext_getElem? fun d=>?_
  by_cases hd : d < 2 * E.length
  ·have : gN (anR g B 0 E) d=gN g d:=by
    have:=BC (B:=B) hg hd
    rw [hpl d hd,Int.toNat_natCast] at this
    exact this
   unfold gN at this
   rw [List.getD_eq_getElem?_getD,List.getD_eq_getElem?_getD,List.getElem?_eq_getElem (by omega),List.getElem?_eq_getElem (by omega)] at this
   rw [List.getElem?_eq_getElem (by omega),List.getElem?_eq_getElem (by omega)]
   exact congrArg some this
  ·rw [List.getElem?_eq_none (by omega),List.getElem?_eq_none (by omega)]
 have a6 : mR B 0 E 0=E.length:=by rw [sg,m1]; omega
 have a7 : (if 0 < E.length then plc B E o else 0)=o:=by
  have h0:=h.out0
  by_cases c : 0 < E.length
  ·rw [if_pos c]
   obtain ⟨q,rfl⟩ : ∃ q : Nat,o=(q : Int):=⟨o.toNat,by omega⟩
   exact hpl q (by rcases h.out1 with h | h <;> omega)
  ·rw [if_neg c]
   rcases h.out1 with h | h <;> omega
 unfold rB
 rw [a1,a2,a3,a4,a5,a6,a7,List.append_nil]
 rw [hBe]
 rfl
end
end Go.Vm

/-
 The law DissectKeeps on values.
-/
namespace Go.Vm
open Go.Proofs
set_option maxRecDepth 100000
attribute [local irreducible] aa
section
variable {N : Nat} {E : List Arc} {A : List (List Int)} {nx : List Int} {g : List Int} {B : List ByteArray} {o : Int}
theorem Cy (h : RotOK (N : Nat) E A) {d : Nat} (hd : d < 2 * E.length) : Zan (((N : Int),E,A,()),(d : Int),())=some (tl E d,()):=by
 have hm1:=h.m1
 unfold Zan
 simp only
 rw [eJ ((N : Int),E,A,()) h.lists,h.validB,Option.bind_some]
 simp only [Bool.not_true,cond_false]
 rw [aA (by omega),cond_false,nl (by omega),jG (by omega),cond_false,wM (N : Int) E A () hm1,Option.bind_some]
 simp only
 rw [aD (by rw [fS]; exact hd),Option.bind_some,nk E d hd]
 rfl
theorem Gm (h : RotOK (N : Nat) E A) {d : Nat} (hd : d < 2 * E.length) : Zaj (((N : Int),E,A,()),(d : Int),())=some (tl E (oth d),()):=by
 have hm1:=h.m1
 unfold Zaj
 simp only
 rw [aA (by omega),cond_false,wE d (by omega),Option.bind_some]
 simp only
 rw [Cy h (bd hd)]
 rfl
theorem zH {α : Type} {n i : Nat} {x : α} (h : i < n) : (List.replicate n x).set i x=List.replicate n x:=by
 refine wl ?_
 rw [List.getElem?_replicate,if_pos h]
theorem yc (h : ShapeOK N E A g B o nx) {i : Nat} {f : List Int} {d : Int} (hi : (ab nx)[i]?=some f) (hd : d∈f) : ∀ (k j : Nat),j+k=i →
  uh ((N : Int),E,A,g,B,o,ab nx,d,(j : Int),())=some (.inl (tsZ g B f,())):=by
 obtain ⟨hfs,_⟩:=bh h.rot h.folOK
 have hm1:=h.rot.m1
 have hnum:=hfs.num
 have hil:=(List.getElem?_eq_some_iff.1 hi).1
 intro k
 induction k with
 | zero =>
  intro j hj
  have : j=i:=by omega
  subst this
  have hm:=List.mem_of_getElem? hi
  have hfl:=hfs.flen (by omega) f hm
  refine ai ?_
  simp only [uA]
  rw [aG (by omega),cond_true,aD hil,Option.bind_some,hi,Option.bind_some,yE f d (by omega),Option.bind_some]
  have t1:=rV h.turn ((N : Int),E,A,()) o f (hfs.elem f hm).2 (by omega)
  simp only [inB,hd,decide_true,cond_true,hi,Option.bind_some]
  rw [show Zs ((((N : Int),E,A,()),g,B,o,()),f,())=_ from t1]
  rfl
 | succ k ih =>
  intro j hj
  have hjl : j < (ab nx).length:=by omega
  have hjf:=List.getElem?_eq_getElem hjl
  have hno : d∉(ab nx)[j]:=fun q=>by
   have:=Cr hfs hjf hi q hd
   omega
  have hfl:=hfs.flen (by omega) _ (List.getElem_mem hjl)
  refine (ap ?_).trans (ih (j+1) (by omega))
  simp only [uA]
  rw [aG (by omega),cond_true,aD hjl,Option.bind_some,hjf,Option.bind_some,yE _ d (by omega),Option.bind_some]
  simp only [inB,hno,decide_false,cond_false]
  rw [aU (by omega)]
theorem Ca (h : ShapeOK N E A g B o nx) (hv : Zac ((((N : Int),E,A,()),g,B,o,()),())=some (0,())) {i : Nat} {f : List Int} {d : Int} (hi : (ab nx)[i]?=some f) (hd : d∈f) :
  Zae ((((N : Int),E,A,()),g,B,o,()),d,())=some (if o∈f then -4 else 4,()):=by
 unfold Zae
 simp only
 rw [hv,Option.bind_some]
 simp only
 rw [bx rfl,cond_false,h.rfaces,Option.bind_some]
 simp only
 rw [show uh ((N : Int),E,A,g,B,o,ab nx,d,0,())=_ from yc h hi hd i 0 (by omega),m9 h (List.mem_of_getElem? hi)]
 rfl
def fJ (seen : Bool) (t : Nat) : List Int:=cond seen (-4 :: List.replicate (t - 1) 4) (List.replicate t 4)
theorem C6 {seen : Bool} {t j : Nat} (hj : j < t) : ∃ y,(fJ seen t)[j]?=some y∧y≤4:=by
 unfold fJ
 cases seen with
 | false=>exact ⟨4,by rw [cond_false,List.getElem?_replicate,if_pos hj],by omega⟩
 | true =>
  rw [cond_true]
  cases j with
  | zero=>exact ⟨-4,rfl,by omega⟩
  | succ j=>exact ⟨4,by rw [List.getElem?_cons_succ,List.getElem?_replicate,if_pos (by omega)],by omega⟩
theorem BW {seen : Bool} {t : Nat} (h : seen=true→0 < t) : (fJ seen t).length=t:=by
 unfold fJ
 cases seen with
 | false=>simp
 | true=>have:=h rfl; simp; omega
theorem AU {seen : Bool} {t : Nat} (h : seen=true→0 < t) : fJ seen t++[4]=fJ seen (t+1):=by
 unfold fJ
 cases seen with
 | false=>rw [cond_false,cond_false,List.replicate_succ']
 | true =>
  have:=h rfl
  rw [cond_true,cond_true,List.cons_append,← List.replicate_succ',show t - 1+1=t+1 - 1 by omega]
theorem Bd (N0 o0 : Int) (l : List Int) (fs : List (List Int)) (idx : Int) (hl : l.length≤1000000) (h4 : ∀ j,j < l.length→∃ y,l[j]?=some y∧y≤4) :
  wG (N0,E,A,g,B,o0,l++[4],fs,idx,4,(l.length : Nat),())=some (.inl (N0,E,A,g,B,o0,l++[4],fs,idx,4,(l.length : Nat),())):=by
 refine ai ?_
 unfold uX
 simp only
 by_cases c : 0 < l.length
 ·obtain ⟨y,hy,hy4⟩:=h4 (l.length - 1) (by omega)
  have e : bf .i64 (l.length : Nat) 1=((l.length - 1 : Nat) : Int):=by rw [gk (by omega) (by omega)]; omega
  rw [dA (by omega),cond_true,e,aD (by simp; omega),Option.bind_some,List.getElem?_append_left (by omega),hy,Option.bind_some,cM hy4,cond_false]
 ·rw [cM (by omega),cond_false]
theorem wy (N0 o0 : Int) (t : Nat) (ht : t≤1000000) (fs : List (List Int)) (idx : Int) : ∀ (a : Nat) (x : Int),a≤t →
  ∃ x',wG (N0,E,A,g,B,o0,(List.replicate (t+1) 4).set a x,fs,idx,-4,(a : Nat),())=some (.inl (N0,E,A,g,B,o0,(List.replicate (t+1) 4).set 0 x',fs,idx,-4,0,()))
 | 0,x,_=>by
  refine ⟨x,ai ?_⟩
  unfold uX
  simp only
  rw [cM (by omega),cond_false]
  rfl
 | a+1,x,ha=>by
  obtain ⟨x',hx'⟩:=wy N0 o0 t ht fs idx a 4 (by omega)
  refine ⟨x',(ap ?_).trans hx'⟩
  have e : bf .i64 ((a+1 : Nat) : Int) 1=(a : Int):=by rw [gk (by omega) (by omega)]; omega
  have hlen : ((List.replicate (t+1) (4 : Int)).set (a+1) x).length=t+1:=by simp
  have hga : ((List.replicate (t+1) (4 : Int)).set (a+1) x)[a]?=some 4:=by
   rw [List.getElem?_set,if_neg (by omega),List.getElem?_replicate,if_pos (by omega)]
  have hgb : ((List.replicate (t+1) (4 : Int)).set (a+1) x)[a+1]?=some x:=by
   rw [List.getElem?_set,if_pos rfl,List.length_replicate,if_pos (by omega)]
  unfold uX
  simp only
  rw [dA (by omega),cond_true,e,hlen,aD (by omega),Option.bind_some,hga,Option.bind_some,dA (by omega),cond_true,Option.bind_some,hga,Option.bind_some,aD (by omega),Option.bind_some,hgb,Option.bind_some]
  have : (((List.replicate (t+1) (4 : Int)).set (a+1) x).set (a+1) 4)=(List.replicate (t+1) 4).set a 4:=by
   rw [List.set_set]
   rw [zH (by omega),zH (by omega)]
  rw [this]
theorem mA (h : ShapeOK N E A g B o nx) (hv : Zac ((((N : Int),E,A,()),g,B,o,()),())=some (0,())) : ∀ (q p : List (List Int)),p++q=ab nx →
  Ai ((N : Int),E,A,g,B,o,fJ (p.any fun f=>decide (o∈f)) p.length,ab nx,(p.length : Nat),())=some (.inl (fJ ((ab nx).any fun f=>decide (o∈f)) (ab nx).length,()))
 | [],p,hp=>by
  rw [List.append_nil] at hp
  subst hp
  refine ai ?_
  unfold zU
  simp only
  rw [aA (by omega),cond_false]
 | f :: q,p,hp=>by
  obtain ⟨hfs,_⟩:=bh h.rot h.folOK
  have hm1:=h.rot.m1
  have hnum:=hfs.num
  have hx : (ab nx)[p.length]?=some f:=by rw [← hp,List.getElem?_append_right (Nat.le_refl _),Nat.sub_self]; rfl
  have hpl:=(List.getElem?_eq_some_iff.1 hx).1
  have hm:=List.mem_of_getElem? hx
  obtain ⟨x,hx0⟩ : ∃ x,f[0]?=some x:=by
   have:=(hfs.elem f hm).1
   cases f with
   | nil=>exact absurd rfl this
   | cons x f=>exact ⟨x,rfl⟩
  have hxf:=List.mem_of_getElem? hx0
  have ht:=Ca h hv hx hxf
  have ih:=mA h hv q (p++[f]) (by simpa using hp)
  rw [show (p++[f]).length=p.length+1 by simp,List.any_append] at ih
  have hpos : (p.any fun f=>decide (o∈f))=true→0 < p.length:=fun e=>by
   cases p with
   | nil=>simp at e
   | cons _ _=>simp
  have hol:=BW hpos
  refine (ap (t:=((N : Int),E,A,g,B,o,fJ ((p.any fun f=>decide (o∈f)) || ([f].any fun f=>decide (o∈f))) (p.length+1),ab nx,((p.length+1 : Nat) : Int),())) ?_).trans ih
  have hone : [f].any (fun f=>decide (o∈f))=decide (o∈f):=by simp
  rw [hone]
  unfold zU
  simp only
  rw [aG (by omega),cond_true,aD hpl,Option.bind_some,hx,Option.bind_some,show ar f 0=some x from hx0,Option.bind_some,ht,Option.bind_some]
  simp only
  rw [bg (by rw [hol]; simp; omega),Option.bind_some]
  by_cases c : o∈f
  ·have hnone : (p.any fun f=>decide (o∈f))=false:=by
    cases e : p.any fun f=>decide (o∈f) with
    | false=>rfl
    | true =>
     exfalso
     obtain ⟨f',hf',ho'⟩:=List.any_eq_true.1 e
     obtain ⟨i,hi⟩:=List.mem_iff_getElem?.1 hf'
     have hil:=(List.getElem?_eq_some_iff.1 hi).1
     have:=Cr hfs (i:=i) (j:=p.length) (f:=f') (f':=f) (by rw [← hp,List.getElem?_append_left hil]; exact hi) hx (x:=o) (by simpa using ho') c
     omega
   rw [hnone,if_pos c]
   simp only [c,decide_true,Bool.or_true]
   have e1 : fJ false p.length++[-4]=(List.replicate (p.length+1) 4).set p.length (-4):=by
    unfold fJ
    rw [cond_false,List.replicate_succ',List.set_append_right _ _ (by simp),List.length_replicate,Nat.sub_self]
    rfl
   have hol' : (fJ false p.length).length=p.length:=by simp [fJ]
   obtain ⟨x',hx'⟩:=wy (E:=E) (A:=A) (g:=g) (B:=B) (N : Int) o p.length (by omega) (ab nx) (p.length : Nat) p.length (-4) (Nat.le_refl _)
   rw [e1,hol',show wG ((N : Int),E,A,g,B,o,(List.replicate (p.length+1) 4).set p.length (-4),ab nx,((p.length : Nat) : Int),-4,((p.length : Nat) : Int),())=_ from hx']
   simp only [Option.bind_some,Sum.elim_inl]
   rw [show aJ ((List.replicate (p.length+1) (4 : Int)).set 0 x').length 0=some 0 from aD (i:=0) (by simp),Option.bind_some]
   have hg0 : ((List.replicate (p.length+1) (4 : Int)).set 0 x')[0]?=some x':=by
    rw [List.getElem?_set,if_pos rfl,List.length_replicate,if_pos (by omega)]
   rw [hg0,Option.bind_some,List.set_set,aU (by omega),List.replicate_succ,List.set_cons_zero]
   unfold fJ
   rfl
  ·rw [if_neg c]
   simp only [c,decide_false,Bool.or_false]
   have h4:=Bd (E:=E) (A:=A) (g:=g) (B:=B) (N : Int) o (fJ (p.any fun f=>decide (o∈f)) p.length) (ab nx) (p.length : Nat) (by omega) (fun j hj=>C6 (by omega))
   rw [h4]
   simp only [Option.bind_some,Sum.elim_inl]
   have hgl : (fJ (p.any fun f=>decide (o∈f)) p.length++[4])[(fJ (p.any fun f=>decide (o∈f)) p.length).length]?=some 4:=by simp
   rw [aD (by simp),Option.bind_some,hgl,Option.bind_some,aU (by omega),wl hgl,AU hpos]
theorem sI (h : ShapeOK N E A g B o nx) (hv : Zac ((((N : Int),E,A,()),g,B,o,()),())=some (0,())) : Zt ((((N : Int),E,A,()),g,B,o,()),())=some (fJ (decide (0 < E.length)) (ab nx).length,()):=by
 obtain ⟨hfs,_⟩:=bh h.rot h.folOK
 have key:=mA h hv (ab nx) [] rfl
 unfold Zt
 simp only
 rw [h.rfaces,Option.bind_some]
 simp only
 rw [show Ai ((N : Int),E,A,g,B,o,[],ab nx,0,())=_ from key]
 simp only [Option.bind_some,Sum.elim_inl]
 have : ((ab nx).any fun f=>decide (o∈f))=decide (0 < E.length):=by
  have h0:=h.out0
  by_cases c : 0 < E.length
  ·obtain ⟨q,rfl⟩ : ∃ q : Nat,o=(q : Int):=⟨o.toNat,by omega⟩
   have hq : q < 2 * E.length:=by rcases h.out1 with h | h <;> omega
   obtain ⟨f,hf,hqf⟩:=List.mem_flatten.1 (hfs.cover q hq)
   rw [decide_eq_true c]
   exact List.any_eq_true.2 ⟨f,hf,by simpa using hqf⟩
  ·rw [decide_eq_false c]
   have : (ab nx).length=0:=by have:=hfs.num; omega
   rw [List.length_eq_zero_iff.1 this]
   rfl
 rw [this]
theorem AC (N : Int) (E : List Arc) (A : List (List Int)) (g : List Int) (B : List ByteArray) (o : Int) (m : Nat) (hB : B.length=2 * m) (hm : m≤32768) : ∀ (k j n : Nat),j+k=m→n+Ko B j k≤1000000000 →
  lm (N,E,A,g,B,o,(n : Int),((2 * j : Nat) : Int),())=some (.inl (((n+Ko B j k : Nat) : Int),())):=by
 intro k
 induction k with
 | zero =>
  intro j n hj _
  refine ai ?_
  simp only [jY]
  rw [aA (by omega)]; rfl
 | succ k ih =>
  intro j n hj hb
  have h0 : B[2 * j]?=some (at0 B (2 * j)):=fI (by omega)
  have ea : ah .i64 ((2 * j : Nat) : Int) 2=((2 * (j+1) : Nat) : Int):=by rw [dw (by omega) (by omega)]; omega
  have hk : Ko B j (k+1)=bs B j+Ko B (j+1) k:=rfl
  have:=ih (j+1) (n+bs B j) (by omega) (by omega)
  rw [hk,show n+(bs B j+Ko B (j+1) k)=n+bs B j+Ko B (j+1) k by omega]
  refine (ap ?_).trans this
  simp only [jY]
  have eb : ah .i64 (n : Int) ((at0 B (2 * j)).size : Nat)=((n+bs B j : Nat) : Int):=EZ (a:=n) (b:=bs B j) (by omega)
  rw [aG (by omega),cond_true,ae,h0,Option.bind_some,ea,eb]
theorem su (hr : RotOK ((N+Ko B 0 E.length : Nat) : Nat) (EdR B 0 E N) (plA B E A++frR B 0 E 0)) (s1 : Int) (s3 : List (List Int)) (s4 : List Int) (s5 : List ByteArray) (s6 o1 : Int) (g1 : List Int) (B1 : List ByteArray) {i : Nat} (hi : i < E.length) (hM : Mo B 0 E.length≤1000000) : ∀ (r j : Nat),j+r=bs B i+1 →
  ue (s1,E,s3,s4,s5,s6,((N+Ko B 0 E.length : Nat) : Int),o1,EdR B 0 E N,plA B E A++frR B 0 E 0,g1,B1,paR B 0 E 0,(i : Int),(if j=bs B i+1 then tl E (2 * i+1) else tl (EdR B 0 E N) (2 * (Mo B 0 i+j))),(j : Int),()) =
   some (.inr (.inl (s1,E,s3,s4,s5,s6,((N+Ko B 0 E.length : Nat) : Int),o1,EdR B 0 E N,plA B E A++frR B 0 E 0,g1,B1,paR B 0 E 0,(i : Int),tl E (2 * i+1),())))
 | 0,j,hj=>by
  have hpi:=uw (B:=B) (e:=0) (m:=0) hi
  rw [Nat.zero_add,Nat.zero_add] at hpi
  have hpl:=(List.getElem?_eq_some_iff.1 hpi).1
  refine ai ?_
  unfold uy
  simp only
  rw [aD hpl,Option.bind_some,hpi,Option.bind_some,mZ,aA (by omega),cond_false,if_pos (by omega)]
 | r+1,j,hj=>by
  have hpi:=uw (B:=B) (e:=0) (m:=0) hi
  rw [Nat.zero_add,Nat.zero_add] at hpi
  have hpl:=(List.getElem?_eq_some_iff.1 hpi).1
  have hjb : j≤bs B i:=by omega
  have hlt:=mB (N:=N) hi hjb
  have ho:=gg (m:=Mo B 0 i) hjb
  have hmo:=vT (B:=B) hi
  have ih:=su hr s1 s3 s4 s5 s6 o1 g1 B1 hi hM r (j+1) (by omega)
  refine (ap ?_).trans ih
  unfold uy
  simp only [aD hpl,Option.bind_some,hpi,ae,ho]
  rw [mZ,aG (by omega),cond_true,Cy hr (by omega),Option.bind_some,if_neg (by omega)]
  simp only
  rw [bx rfl,cond_false,Gm hr (by omega),Option.bind_some,aU (by omega),cK,(ib (N:=N) hi hjb).2]
  by_cases c : j=bs B i
  ·subst c
   rw [if_pos rfl,if_pos rfl]
  ·rw [if_neg c,if_neg (show ¬ j+1=bs B i+1 by omega),(ib (N:=N) hi (by omega : j+1≤bs B i)).1,if_neg (by omega)]
   rfl
theorem pZ (hr : RotOK ((N+Ko B 0 E.length : Nat) : Nat) (EdR B 0 E N) (plA B E A++frR B 0 E 0)) (s1 : Int) (s3 : List (List Int)) (s4 : List Int) (s5 : List ByteArray) (s6 o1 : Int) (g1 : List Int) (B1 : List ByteArray) (hM : Mo B 0 E.length≤1000000) (hE : E.length≤1000000) : ∀ (r i : Nat),i+r=E.length →
  uF (s1,E,s3,s4,s5,s6,((N+Ko B 0 E.length : Nat) : Int),o1,EdR B 0 E N,plA B E A++frR B 0 E 0,g1,B1,paR B 0 E 0,(i : Int),())=some (.inr (.inl (((N+Ko B 0 E.length : Nat) : Int),o1,EdR B 0 E N,plA B E A++frR B 0 E 0,g1,B1,())))
 | 0,i,h=>by
  refine ai ?_
  unfold tj
  simp only
  rw [mT,aA (by omega),cond_false]
 | r+1,i,h=>by
  have hi : i < E.length:=by omega
  have he:=List.getElem?_eq_getElem hi
  obtain ⟨t1,t2⟩:=mc he
  have hw:=su hr s1 s3 s4 s5 s6 o1 g1 B1 hi hM (bs B i+1) 0 (by omega)
  rw [if_neg (by omega),(ib (N:=N) hi (Nat.zero_le _)).1,if_pos rfl,t1,t2] at hw
  refine (ap ?_).trans (pZ hr s1 s3 s4 s5 s6 o1 g1 B1 hM hE r (i+1) (by omega))
  unfold tj
  simp only
  rw [mT,aG (by omega),cond_true,ae,he,Option.bind_some]
  rw [show ue (s1,E,s3,s4,s5,s6,((N+Ko B 0 E.length : Nat) : Int),o1,EdR B 0 E N,plA B E A++frR B 0 E 0,g1,B1,paR B 0 E 0,(i : Int),E[i].1,0,())=_ from hw]
  simp only [Option.bind_some,Sum.elim_inr,Sum.elim_inl]
  rw [ae,he,Option.bind_some,bx rfl,cond_false,aU (by omega)]
theorem zM (s1 : Int) (s2 : List Arc) (s3 : List (List Int)) (s4 : List Int) (s5 : List ByteArray) (s6 a1 a2 : Int) (a3 : List Arc) (a4 : List (List Int)) (a5 : List Int) (a6 : List ByteArray) (P : List (List Int)) (l : List Int) (hl : l.length≤1000000) : ∀ (q p : List Int),p++q=l →
  uS (s1,s2,s3,s4,s5,s6,a1,a2,a3,a4,a5,a6,P,l,l,(p.length : Nat),())=some (.inr (.inl (s1,s2,s3,s4,s5,s6,a1,a2,a3,a4,a5,a6,P,())))
 | [],p,h=>by
  rw [List.append_nil] at h
  subst h
  refine ai ?_
  unfold uG
  simp only
  rw [aA (by omega),cond_false]
 | x :: q,p,h=>by
  have hx : l[p.length]?=some x:=by rw [← h,List.getElem?_append_right (Nat.le_refl _),Nat.sub_self]; rfl
  have hp:=(List.getElem?_eq_some_iff.1 hx).1
  refine (ap ?_).trans (zM s1 s2 s3 s4 s5 s6 a1 a2 a3 a4 a5 a6 P l hl q (p++[x]) (by simpa using h))
  unfold uG
  simp only
  rw [aG (by omega),cond_true,aD hp,Option.bind_some,hx,Option.bind_some,Option.bind_some,hx,Option.bind_some,bx rfl,cond_false,aU (by omega)]
  simp
end
theorem rE {N : Nat} {A : List (List Int)} {g : List Int} {B : List ByteArray} {o : Int} {nx : List Int} (h : ShapeOK N [] A g B o nx) : B=emB []:=by
 have:=h.turn.blen
 exact List.length_eq_zero_iff.1 (by simpa using this)
theorem nm (N : Int) (E : List Arc) (A : List (List Int)) (g : List Int) (B : List ByteArray) (o : Int) (hA : ∀ l∈A,l.length≤9223372036854775807) : Zb (((N,E,A,()),g,B,o,()),())=some (true,()):=by
 obtain ⟨b0,s1,s2⟩:=BX N E A g B o
 unfold Zb
 simp only
 rw [s1,tw,Option.bind_some]
 cases b0 with
 | false=>rfl
 | true =>
  obtain ⟨hE,hA2⟩:=s2 rfl
  simp only [Bool.not_true,cond_false]
  by_cases c40 : E.length≤40
  ·rw [cM (by omega),cond_false]
   rcases jc N E A g B o hA with ⟨k1,k2,_⟩ | ⟨n,nx,rfl,h,_,k1,k2⟩
   ·rw [k1,Option.bind_some]; rfl
   ·have hB:=jL h
    have hn:=h.rot.len
    have hKle : Ko B 0 E.length≤64 * E.length:=by
     have:=tG hB (Es:=E) (e:=0) (m:=0) (by omega)
     rwa [jP] at this
    have hMK:=zW (B:=B) (i:=E.length)
    have hlen:=lk (B:=B) (E:=E) (N:=n)
    rcases pB (n : Int) E A g B o hA with ⟨w,_⟩ | ⟨n',nx1,v,bp,en,h',w1,w2,w3,wb,w4,w5,w6⟩
    ·exfalso
     unfold Zq at k1
     simp only at k1
     rw [w,Option.bind_some] at k1
     simp only [fp (show (13 : Int)≠0 by decide),cond_true,Option.some.injEq,Prod.mk.injEq] at k1
     exact absurd k1.2.2.1 (by decide)
    ·have : n'=n:=by omega
     subst this
     have hbs:=AC (n' : Int) E A g B o E.length h.turn.blen h.rot.m1 E.length 0 0 (by omega) (by omega)
     have hbv : Zab ((((n' : Int),E,A,()),g,B,o,()),())=some (((Ko B 0 E.length : Nat) : Int),()):=by
      unfold Zab
      simp only
      rw [w2,Option.bind_some]
      simp only
      rw [bx rfl,cond_false]
      rw [show lm ((n' : Int),E,A,g,B,o,0,0,())=_ from hbs,Nat.zero_add]
      rfl
     -- the straightened shape
     have key : ∃ nx' o',(if 0 < E.length then plc B E o else 0)=((o' : Nat) : Int)∧ShapeOK (n'+Ko B 0 E.length) (EdR B 0 E n') (plA B E A++frR B 0 E 0) (anR g B 0 E) (emB (EdR B 0 E n')) (o' : Int) nx' ∧
       Zac (((((n'+Ko B 0 E.length : Nat) : Int),EdR B 0 E n',plA B E A++frR B 0 E 0,()),anR g B 0 E,emB (EdR B 0 E n'),(o' : Int),()),())=some (0,()) ∧
       fJ (decide (0 < (EdR B 0 E n').length)) (ab nx').length=fJ (decide (0 < E.length)) (ab nx).length:=by
      by_cases c : 0 < E.length
      ·obtain ⟨nx',o',q1,q2,q3,q4⟩:=h.straight c (by omega) (by omega)
       obtain ⟨r1,_,r3⟩:=q2.shape q3 rfl
       refine ⟨nx',o',by rw [if_pos c]; exact q1,r1,r3,?_⟩
       rw [q4,decide_eq_true c,decide_eq_true (by omega)]
      ·have hE0 : E=[]:=List.length_eq_zero_iff.1 (by omega)
       subst hE0
       have h0:=h.out0
       have ho : o=0:=by
        rcases h.out1 with q | q
        ·rw [List.length_nil] at q; omega
        ·exact q
       subst ho
       have hBe:=rE h
       have hs:=kR h (fun k hk=>by rw [List.length_nil] at hk; omega) hBe
       unfold rB at hs
       rw [Am] at hs
       simp only [Prod.mk.injEq,List.length_nil,Nat.lt_irrefl,if_false] at hs
       obtain ⟨⟨e1,e2,e3,_⟩,e4,e5,_⟩:=hs
       refine ⟨nx,0,by rw [if_neg (by simp)]; rfl,?_,?_,?_⟩
       ·rw [e2,e3,e4,← hBe]
        exact h
       ·rw [e2,e3,e4,← hBe]
        exact w2
       ·rw [e2]
     obtain ⟨nx',o',eo,g1,g2,g3⟩:=key
     have hz : ∀ k,k < 2 * (EdR B 0 E n').length→(at0 (emB (EdR B 0 E n')) k).size=0:=fun k _=>Gb _ k
     have hstr : rB n' E A g B o=((((n'+Ko B 0 E.length : Nat) : Int),EdR B 0 E n',plA B E A++frR B 0 E 0,()),anR g B 0 E,emB (EdR B 0 E n'),(o' : Int),()):=by
      unfold rB emB
      rw [Am,eo,hlen,sg,Nat.zero_add]
     have hself:=kR g1 hz rfl
     have hplain:=vA ((n'+Ko B 0 E.length : Nat) : Int) (EdR B 0 E n') (plA B E A++frR B 0 E 0) (anR g B 0 E) (emB (EdR B 0 E n')) (o' : Int) (by unfold emB; simp; omega)
     have hall : ((emB (EdR B 0 E n')).all fun b=>decide (b.size=0))=true:=by
      unfold emB
      rw [List.all_eq_true]
      intro b hb
      rw [(List.mem_replicate.1 hb).2]
      rfl
     rw [hall] at hplain
     have ht1:=sI h w2
     have ht2:=sI g1 g2
     rw [g3] at ht2
     have hA':=g1.rot.lists
     rw [k1,Option.bind_some,hstr]
     simp only
     rw [bx rfl,cond_false,g2,Option.bind_some]
     simp only
     rw [bx rfl,cond_false,hplain,Option.bind_some]
     simp only [Bool.not_true,cond_false]
     rw [hbv,Option.bind_some]
     simp only
     rw [EZ (by omega),bx rfl,cond_false,mT,bx rfl,cond_false,ht1,Option.bind_some,ht2,Option.bind_some]
     simp only
     rw [bx rfl,cond_false]
     have hol : (fJ (decide (0 < E.length)) (ab nx).length).length≤1000000:=by
      have:=(bh h.rot h.folOK).1.num
      unfold fJ
      cases decide (0 < E.length) <;> simp <;> omega
     rw [show uS ((n' : Int),E,A,g,B,o,((n'+Ko B 0 E.length : Nat) : Int),(o' : Int),EdR B 0 E n',plA B E A++frR B 0 E 0,anR g B 0 E,emB (EdR B 0 E n'),paR B 0 E 0,fJ (decide (0 < E.length)) (ab nx).length,fJ (decide (0 < E.length)) (ab nx).length,0,())=_ from zM _ _ _ _ _ _ _ _ _ _ _ _ _ _ hol _ [] rfl]
     simp only [Option.bind_some,Sum.elim_inr,Sum.elim_inl]
     rw [show uF ((n' : Int),E,A,g,B,o,((n'+Ko B 0 E.length : Nat) : Int),(o' : Int),EdR B 0 E n',plA B E A++frR B 0 E 0,anR g B 0 E,emB (EdR B 0 E n'),paR B 0 E 0,0,())=_ from pZ g1.rot _ _ _ _ _ _ _ _ (by omega) (by omega) E.length 0 (by omega)]
     simp only [Option.bind_some,Sum.elim_inr,Sum.elim_inl]
     rcases jc ((n'+Ko B 0 E.length : Nat) : Int) (EdR B 0 E n') (plA B E A++frR B 0 E 0) (anR g B 0 E) (emB (EdR B 0 E n')) (o' : Int) hA' with ⟨_,j2,j3⟩ | ⟨m,mx,em,hm,_,j1,_⟩
     ·exfalso
      unfold Zd at j2
      simp only at j2
      rw [g2,Option.bind_some] at j2
      obtain ⟨bv,v1,v2,_⟩:=mz ((n'+Ko B 0 E.length : Nat) : Int) (EdR B 0 E n') (plA B E A++frR B 0 E 0) (anR g B 0 E) (emB (EdR B 0 E n')) (o' : Int) hA'
      rw [j3] at v1
      have : bv=false:=by
       have:=Option.some.inj v1
       exact (congrArg Prod.fst this).symm
      subst this
      rw [g2] at v2
      simp at v2
     ·have : m=n'+Ko B 0 E.length:=by omega
      subst this
      have hstr2 : rB (n'+Ko B 0 E.length) (EdR B 0 E n') (plA B E A++frR B 0 E 0) (anR g B 0 E) (emB (EdR B 0 E n')) (o' : Int)=_:=hself
      rw [hstr2] at j1
      rw [j1,Option.bind_some]
      simp only
      rw [dk rfl,cond_true,vz _ _ _ _ _ _ (by omega) (by have:=g1.rot.len; omega) (fun l hl=>by have:=g1.rot.list_len hl; omega) (by have:=g1.turn.glen; omega) (by unfold emB; simp; omega)]
      rfl
  ·rw [dA (by omega),cond_true]; rfl
theorem lB (x : (aO (Zb_c.ins.map (·.2))).den) (h : ws Zb_c.ins x) : Zb x=some (true,()):=by
 obtain ⟨⟨⟨N,E,A,u1⟩,g,B,o,u2⟩,u3⟩:=x
 refine nm N E A g B o fun l hl=>?_
 have h1 : Wf (.slice (.slice (.int .i64))) A:=h.1.1.2.2.1
 exact (h1.2 l hl).1
end Go.Vm

