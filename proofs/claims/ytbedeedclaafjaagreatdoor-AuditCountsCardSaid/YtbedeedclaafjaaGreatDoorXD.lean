/-
 Operations: append, copy, maps, calls.
-/
import Derived.Test.YtbedeedclaafjaaGreatDoorXC
import Derived.Test.YtbedeedclaafjaaGreatDoorVmB
set_option linter.unusedVariables false
set_option linter.unusedSimpArgs false
/-
 The evaluator's operations against the model's: what writes.
-/
namespace Go.Rx
open Go.Vm
theorem fb {s s' : RS} {b : Nat} {o : RO} (h : gp s b o=some s') : s'.H.get=Hp.set s.H.get b o∧s'.nx=s.nx:=by
 unfold gp at h
 rw [Tr.putK_eq] at h
 split at h
 ·rename_i u hu
  cases h
  refine ⟨?_,rfl⟩
  funext j
  rw [Tr.get_put (t:=s.H) hu j]
  simp only [Hp.set,eq_comm]
 ·cases h
theorem dB {R : Type} (n : Nat) (K : Nat→R) : m6 n K=K n:=by cases n <;> rfl
theorem qW {R : Type} {s : RS} {b : Nat} {r : Option R} {x : R} (h : vj s b none r=some x) : s.H.get b=none∧r=some x:=by
 unfold vj at h
 cases hg : s.H.get b with
 | none=>rw [hg] at h; exact ⟨rfl,h⟩
 | some o=>rw [hg] at h; cases h
theorem dC {s s' : RS} {o : RO} (h : tl s o=some s') : s'.H.get=Hp.set s.H.get s.nx o∧s'.nx=s.nx+1:=by
 unfold tl at h
 rw [dB] at h
 replace h:=(qW h).2
 rw [Tr.putK_eq] at h
 split at h
 ·rename_i u hu
  cases h
  refine ⟨?_,rfl⟩
  funext j
  rw [Tr.get_put (t:=s.H) hu j]
  simp only [Hp.set,eq_comm]
 ·cases h
theorem jZ {s s' : RS} {b n : Nat} {t : Option (Tr RC)} (h : Al s b n t=some s') : ∃ t',t=some t'∧gp s b (.cells t' n)=some s':=by
 unfold Al at h
 split at h
 ·rename_i t'; exact ⟨t',rfl,h⟩
 ·cases h
theorem gP {s s' : RS} {n : Nat} {t : Option (Tr RC)} (h : vi s n t=some s') : ∃ t',t=some t'∧tl s (.cells t' n)=some s':=by
 unfold vi at h
 split at h
 ·rename_i t'; exact ⟨t',rfl,h⟩
 ·cases h
section
variable {P : Program} {GL : List Nat} {w0 : World} {ι : Io} {o : Oper} {a : Act} {ev : Ev} {v : RV} {s s' : RS}
def jn (P : Program) (GL : List Nat) (w0 : World) (ι : Io) (a : Act) (o : Oper) (s : RS) (v : RV) (s' : RS) : Prop:=∀ w,RInv GL w0 w ι s.H.get→(∀ b,s.nx≤b→ι b=none) →
 Does P o a w fun u w'=>∃ ι',Go1 GL w0 s.nx w ι s.H.get s'.nx w' ι' s'.H.get∧RelV ι' u v
theorem u6 {t t' : Tr RC} {m off base : Nat} {c : Array Value} {l : List RC} {us : List Value} (hR : RelR ι t m c base) (hs : eS l off t=some t') (hr : RelL ι l us) (hm : base+m≤c.size) (hle : off+l.length≤m) :
  RelR ι t' m (ao c (base+off) us) base:=by
 have hlen:=hr.len
 intro i hi
 have h1:=cg hs i
 have h2:=b8 c (base+off) us (by omega) (base+i)
 by_cases hin : off≤i∧i < off+l.length
 ·rw [if_pos hin] at h1
  rw [if_pos (by omega)] at h2
  have hlt : i - off < l.length:=by omega
  rw [List.getElem?_eq_getElem hlt] at h1
  obtain ⟨u,k1,k2⟩:=hr.get (List.getElem?_eq_getElem hlt)
  refine ⟨_,u,h1,?_,k2⟩
  rw [h2]
  have : base+i - (base+off)=i - off:=by omega
  rw [this,k1]
 ·rw [if_neg hin] at h1
  rw [if_neg (by omega)] at h2
  rw [h1,h2]
  exact hR i hi
theorem ep {w : World} (hi : RInv GL w0 w ι s.H.get) (ht : ∀ b,s.nx≤b→ι b=none) {b m off : Nat} {t t' : Tr RC} {c : List RC} {us : List Value} (hb : s.H.get b=some (.cells t m)) (hs : eS c off t=some t')
  (hle : off+c.length≤m) (hset : gp s b (.cells t' m)=some s') (hr : RelL ι c us) : ∃ L cs el fz,ι b=some L∧fz.2≤fz.1∧w.heap[L.B]?=some (.cells cs el fz)∧cs.size=L.n∧L.base+off+us.length≤cs.size∧(∀ u∈us,u.oneCell'=true) ∧
   Go1 GL w0 s.nx w ι s.H.get s'.nx (w.setRow L.B (ao cs (L.base+off) us)) ι s'.H.get:=by
 obtain ⟨L,cs,el,fz,h1,h2,h3,h4,h5,h6,h7⟩:=hi.blk b _ hb
 have hlen:=hr.len
 have hw:=bp w L.B (ao cs (L.base+off) us)
 obtain ⟨e1,e2⟩:=fb hset
 refine ⟨L,cs,el,fz,h1,h6,h3,h4,by omega,hr.one,?_⟩
 rw [e1,e2]
 refine Go1.write hi ht hb rfl h1 h2 hw.os hw.tape hw.output hw.size hw.block ⟨L,ao cs (L.base+off) us,el,fz,h1,h2,setRow_heap w L.B cs _ el _ h3,?_,h5,h6,u6 h7 hs hr (by omega) hle⟩
 rw [aO _ _ _ (by omega),h4]
theorem qP {q : Option RS} (h : Dg q=some (v,s')) : q=some s'∧v=.unk:=by
 cases q with
 | none=>cases h
 | some x=>cases h; exact ⟨rfl,rfl⟩
theorem nr {q : Option RS} (h : pL q=some (v,s')) : q=some s'∧v=rundef:=by
 cases q with
 | none=>cases h
 | some x=>cases h; exact ⟨rfl,rfl⟩
theorem fc : RelV ι (.tuple #[]) rundef:=⟨[],rfl,.nil⟩
theorem D1 {t : TypeId} {x y : Operand} (ho : o.op=.store t x y) (hS : ∀ x∈o.op.operands,RelV ι (a.eval x) (ev x)) (h : Dg (wm (cY P t) (ev x) (ev y) s)=some (v,s')) : jn P GL w0 ι a o s v s':=by
 intro w hi ht
 rw [ho] at hS
 have hx:=hS x (by simp [Op.operands])
 have hy:=hS y (by simp [Op.operands])
 replace h:=qP h; obtain ⟨h,rfl⟩:=h
 unfold wm at h
 replace h:=a8 h rfl; obtain ⟨n,h1,h⟩:=h
 replace h:=a8 h rfl; obtain ⟨⟨b,off⟩,h2,h⟩:=h
 replace h:=a8 h rfl; obtain ⟨c,h3,h⟩:=h
 unfold G3 at h
 replace h:=a8 h rfl; obtain ⟨⟨t',m⟩,h4,h⟩:=h
 replace h:=ag h; obtain ⟨h5,h⟩:=h
 simp only [Bool.and_eq_true] at h5
 have h6:=Nat.eq_of_beq_eq_true h5.1
 have h7 : off+n≤m:=Nat.le_of_ble_eq_true h5.2
 obtain ⟨t2,h8,h9⟩:=jZ h
 obtain ⟨ob,k1,k2⟩:=a8 h4 rfl
 have hb : s.H.get b=some (.cells t' m):=by
  rw [k1]
  cases ob <;> simp [RO.asC] at k2
  obtain ⟨rfl,rfl⟩:=k2
  rfl
 rw [dT h2] at hx
 obtain ⟨L',q1,q2⟩:=dm hx
 obtain ⟨us,q3,q4⟩:=jD h3 hy
 have hlen:=q4.len
 obtain ⟨L,cs,el,fz,r1,hfz,r2,r3,r4,r5,r6⟩:=ep hi ht hb h8 (by omega) h9 q4
 have e:=Option.some.inj (r1.symm.trans q1)
 subst e
 refine Does.skip (w':=w.setRow L.B (ao cs (L.base+off) us)) ?_ ⟨ι,r6,trivial⟩
 have hst:=ba (P:=P) (te:=.bool) L.B (L.base+off) el fz us 0 cs w r2 (.inl hfz) (by omega) r5
 simp only [Nat.add_zero] at hst
 have hst : (storeCells ⟨L.B,L.base+off,none⟩ us).run P w=.ok () (w.setRow L.B (ao cs (L.base+off) us)):=hst
 have hsz : us.length=n:=by omega
 simp [execOp,ho,q2,Instr.storeAt,Instr.sureAddr,storeVar,q3,aY h1,hsz,hst]
theorem mg {w : World} (hi : RInv GL w0 w ι s.H.get) {x : RV} {u : Value} {c : List RC} {n : Nat} (h : cf s x=some (c,n)) (hx : RelV ι u x) :
  (c=[]∧n=0∧∃ ad k,u=.slice ad 0 k)∨∃ (L : Loc) (off k : Nat) (cs : Array Value) (el : TypeId) (fz : Nat×Nat) (news : List Value),u=.slice (some ⟨L.B,L.base+off,none⟩) n k∧w.heap[L.B]?=some (.cells cs el fz)∧news=seg cs (L.base+off) c.length∧L.base+off+c.length≤cs.size∧RelL ι c news ∧
   ∃ es,c.length=n * es:=by
 unfold cf at h
 split at h
 ·cases h; exact .inl ⟨rfl,rfl,none,0,(dP hx).1⟩
 ·cases h; obtain ⟨L,o',k,q1,q2,_⟩:=iq hx; exact .inl ⟨rfl,rfl,_,k,q2⟩
 ·rename_i b off len cap es
  split at h
  ·rename_i l hl
   simp only [Option.some.injEq,Prod.mk.injEq] at h
   obtain ⟨rfl,rfl⟩:=h
   obtain ⟨t,m,k1,k2,k3⟩:=fi hl
   obtain ⟨o',k4,k5⟩:=fy k1
   obtain ⟨L,cs,el,fz,r1,r2,r3,r4,r5⟩:=gI k5 (hi.blk b o' k4)
   obtain ⟨L',k,q1,q2,q3,q4,q5,q6⟩:=gl hx
   have e:=Option.some.inj (r1.symm.trans q1)
   subst e
   have hlen:=(dD k3).1
   have:=gB r5 k3 k2
   refine .inr ⟨L,off,k,cs,el,fz,_,q2,r2,rfl,?_,by rw [hlen]; exact this,es,hlen⟩
   rw [hlen]
   have : off+len * es≤m:=k2
   change L.base+off+len * es≤_
   omega
  ·cases h
 ·cases h
theorem ip {t : TypeId} {es : Nat} (h : mm P t=some es) : ∃ e z inf zv,P.underlying t=some (.slice e)∧cY P e=some es∧1≤es∧P.info? e=some inf∧inf.size=es∧inf.bytes≤100000∧inf.zero=some zv∧zv.cells.size=es∧fP P e=some z∧scs zv.cells.toList=some z:=by
 unfold mm at h
 split at h
 ·rename_i e he
  split at h
  ·rename_i n z hn hz
   obtain ⟨h1,h2⟩:=ag h
   cases h2
   simp only [Bool.and_eq_true] at h1
   obtain ⟨inf,i1,i2,i3⟩:=fH hn
   have hz':=hz
   unfold fP at hz
   rw [i1] at hz
   simp only at hz
   split at hz
   ·rename_i zv hzv
    have hl:=(eV (ι:=fun _=>none) hz).len
    have:=Nat.eq_of_beq_eq_true h1.2
    exact ⟨e,z,inf,zv,ce he,hn,Nat.le_of_ble_eq_true h1.1,i1,i2,i3,hzv,by simp at hl; omega,hz',hz⟩
   ·cases hz
  ·cases h
 ·cases h
theorem kF {t ty e : TypeId} {es n k cap B q xk : Nat} {xa : Addr} {news : List Value} {cs : Array Value} {el : TypeId} {fz : Nat×Nat} (hu : P.underlying t=some (.slice e)) (hs : cY P e=some es) {w : World}
  (hfz : fz.2≤fz.1) (hh : w.heap[B]?=some (.cells cs el fz)) (hfit : n+k≤cap) (hc : q+cap * es≤cs.size) (hl : news.length=k * es) (hone : ∀ u∈news,u.oneCell'=true) (hnews : ∀ j v,news[j]?=some v→w.cell? (xa.add j)=some v) :
  (Builtin.append_ #[t,t] ty #[.slice (some ⟨B,q,none⟩) n cap,.slice (some xa) k xk]).run P w=.ok (.slice (some ⟨B,q,none⟩) (n+k) cap) (w.setRow B (ao cs (q+n * es) news)):=by
 have hmul : n * es+k * es≤cap * es:=by rw [← Nat.add_mul]; exact Nat.mul_le_mul_right _ hfit
 have hfc:=run_firstCells_some (P:=P) w es k xa k xk news hl hnews
 have hst:=ba (P:=P) (te:=.bool) B (q+n * es) el fz news 0 cs w hh (.inl hfz) (by omega) hone
 simp only [Nat.add_zero] at hst
 have hst : (storeCells ⟨B,q+n * es,none⟩ news).run P w=.ok () (w.setRow B (ao cs (q+n * es) news)):=hst
 simp [Builtin.append_,run_underlying hu,aY hs,Builtin.lenOf,hfc,hfit,aD,hst]
theorem iA {t ty e : TypeId} {es n k cap xk : Nat} {ad : Option Addr} {xa : Addr} {olds news : List Value} {inf : TypeInfo} {zv : Value} (hu : P.underlying t=some (.slice e)) (h1 : P.info? e=some inf) (h2 : inf.size=es) (h3 : inf.bytes≤100000)
  (h4 : inf.zero=some zv) {w : World} (hg : cap < n+k) (hlim : n+k≤1000000) (hol : olds.length=n * es) (hold : ∀ b,ad=some b→∀ j v,olds[j]?=some v→w.cell? (b.add j)=some v) (hnil : ad=none→n=0∧cap=0)
  (hl : news.length=k * es) (hnews : ∀ j v,news[j]?=some v→w.cell? (xa.add j)=some v) :
  (Builtin.append_ #[t,t] ty #[.slice ad n cap,.slice (some xa) k xk]).run P w =
   .ok (.slice (some ⟨w.heap.size,0,none⟩) (n+k) (grownCap w (n+k) cap e)) (w.drew.alloc (.cells (olds.toArray++news.toArray++Builtin.zeroCells zv.cells (grownCap w (n+k) cap e - (n+k))) e)):=by
 have hfits : Builtin.nextslicecap (n+k) cap * inf.bytes≤281474976710656:=growslice_fits hg (by
  have : (n+k) * inf.bytes≤1000000 * 100000:=Nat.mul_le_mul hlim h3
  omega)
 cases ad with
 | some b=>exact run_append_grow (P:=P) w t ty e inf zv hu h1 h4 b n cap olds (by rw [h2]; exact hol) (hold b rfl) xa k xk news (by rw [h2]; exact hl) hnews hg (by omega) hfits
 | none =>
  obtain ⟨rfl,rfl⟩:=hnil rfl
  have : olds=[]:=List.eq_nil_of_length_eq_zero (by rw [hol]; simp)
  subst this
  have hn0 : Builtin.nextslicecap k 0=k:=nextslicecap_zero (by omega)
  have:=run_append_nil (P:=P) w t ty e inf zv hu h1 h4 xa k xk news (by rw [h2]; exact hl) hnews (by omega) (by omega) (by simp only [Nat.zero_add,hn0] at hfits; exact hfits)
  simpa using this
theorem fg {nx n es : Nat} {q : Option RS} (h : nA nx n es q=some (v,s')) : q=some s'∧v=.one (.sl nx 0 n none es):=by
 unfold nA at h
 split at h
 ·rename_i x
  rw [dB,dB] at h
  cases h
  exact ⟨rfl,rfl⟩
 ·cases h
theorem wl {b off len k es : Nat} {q : Option RS} (h : BW b off len k es q=some (v,s')) : q=some s'∧v=.one (.sl b off len (some k) es):=by
 unfold BW at h
 split at h
 ·rename_i x
  rw [dB] at h
  cases h
  exact ⟨rfl,rfl⟩
 ·cases h
theorem rA {b : Nat} {K : RS→Option RS} (h : kill s b K=some s') : ∃ s1,gp s b .dead=some s1∧K s1=some s':=by
 unfold kill at h
 split at h
 ·rename_i s1 h1; exact ⟨s1,h1,h⟩
 ·cases h
theorem zV {t : Tr RC} {n : Nat} {l : List RC} {us rest : List Value} (h : ∀ i,i < n→t.get i=l[i]?) (hl : l.length=n) (hr : RelL ι l us) : RelR ι t n (us++rest).toArray 0:=by
 intro i hi
 have hlt : i < l.length:=by omega
 obtain ⟨u,k1,k2⟩:=hr.get (List.getElem?_eq_getElem hlt)
 refine ⟨_,u,by rw [h i hi,List.getElem?_eq_getElem hlt],?_,k2⟩
 have hlen:=hr.len
 simp only [Nat.zero_add,List.getElem?_toArray]
 rw [List.getElem?_append_left (by omega)]
 exact k1
theorem my (w : World) (ob : Go.Obj) : Kept w NoM (w.drew.alloc ob):=dr w ob
theorem Bz (w : World) (ob : Go.Obj) : (w.drew.alloc ob).heap[w.heap.size]?=some ob:=bu w.drew ob
theorem jN {w : World} {all : List RC} {us : List Value} {t : Tr RC} {e : TypeId} {zv : Value} {z : List RC} {len cap' es nx : Nat} (hn : ι nx=none) (hz : scs zv.cells.toList=some z) (hzs : zv.cells.size=es) (hr : RelL ι all us) (hl : all.length=len * es)
  (ht : ∀ i,i < len * es→t.get i=all[i]?) (hc : len≤cap') (hm : cap'≤maxLen) (h0 : w0.heap.size≤w.heap.size) :
  RBlk w0 (w.drew.alloc (.cells (us.toArray++Builtin.zeroCells zv.cells (cap' - len)) e)) (ι.set nx ⟨w.heap.size,0,cap' * es⟩) nx (.cells t (len * es)) ∧
  RelV (ι.set nx ⟨w.heap.size,0,cap' * es⟩) (.slice (some ⟨w.heap.size,0,none⟩) len cap') (.one (.sl nx 0 len none es)):=by
 have hlen:=hr.len
 have hsum : len * es+(cap' - len) * es=cap' * es:=by rw [← Nat.add_mul]; congr 1; omega
 have hzc : (Builtin.zeroCells zv.cells (cap' - len)).size=(cap' - len) * es:=by rw [size_zeroCells,hzs]
 refine ⟨⟨⟨w.heap.size,0,cap' * es⟩,_,e,(0,0),Io.set_self _ _ _,h0,Bz w _,?_,?_,Nat.le_refl _,?_⟩,?_⟩
 ·simp only [Array.size_append,List.size_toArray,hzc]; omega
 ·simp only [Nat.zero_add]; exact Nat.mul_le_mul_right _ hc
 ·have:=zV (ι:=ι) (rest:=(Builtin.zeroCells zv.cells (cap' - len)).toList) ht hl hr
  have e1 : (us++(Builtin.zeroCells zv.cells (cap' - len)).toList).toArray=us.toArray++Builtin.zeroCells zv.cells (cap' - len):=by apply Array.ext'; simp
  rw [e1] at this
  exact this.mono (Io.set_le hn)
 ·refine RelC.sl (Io.set_self _ _ _) hc ?_ (fun c hc=>by cases hc) hm
  simp
theorem du (w : World) (ob : Go.Obj) : (w.drew.alloc ob).heap.size=w.heap.size+1:=by show (w.heap.push ob).size=_; simp
theorem AO {t t' : TypeId} {x y : Operand} (ho : o.op=.call { callee:=.builtin .append,args:=#[x,y],argTypes:=#[t,t'] }) (htt : t=t') (hS : ∀ x∈o.op.operands,RelV ι (a.eval x) (ev x))
  (h : sA (mm P t) (ev x) (ev y) s=some (v,s')) : jn P GL w0 ι a o s v s':=by
 subst htt
 intro w hi ht
 rw [ho] at hS
 have hx:=hS x (by simp [Op.operands,Call.operands])
 have hy:=hS y (by simp [Op.operands,Call.operands])
 have bV : ∀ {r : Value} {w' : World} {u u' : Value},a.eval x=u→a.eval y=u'→(Builtin.append_ #[t,t] o.type #[u,u']).run P w=.ok r w'→(execOp a.eval o).run P w=.ok (.value r) w':=by
  intro r w' u u' e1 e2 h
  simp [execOp,ho,resolve,invoke,builtin,e1,e2,h]
 unfold sA at h
 split at h
 ·rename_i es c n he hc
  replace h:=ag h; obtain ⟨hcl,h⟩:=h
  have hcl:=Nat.eq_of_beq_eq_true hcl
  rw [lB] at hcl
  have hcl : c.length=n * es:=hcl
  unfold tQ at h
  replace h:=ag h; obtain ⟨hok,h⟩:=h
  obtain ⟨e,z,inf,zv,hu,hsz,h1,i1,i2,i3,i4,i5,hz,hzs⟩:=ip he
  have hlim : ∃ m,pv (ev x)=some m∧m+n≤1000000:=by
   unfold EV at hok
   cases hl : pv (ev x) with
   | none=>rw [hl] at hok; cases hok
   | some m=>rw [hl] at hok; exact ⟨m,rfl,Nat.le_of_ble_eq_true hok⟩
  obtain ⟨m0,hm0,hlim⟩:=hlim
  have hycells:=mg hi hc hy
  cases n with
  | zero =>
   -- nothing is appended
   cases h
   have hy0 : ∃ ad k,a.eval y=.slice ad 0 k:=by
    rcases hycells with ⟨_,_,ad,k,hq⟩ | ⟨L,off,k,cs,el,fz,news,hq,_⟩
    ·exact ⟨ad,k,hq⟩
    ·exact ⟨_,k,hq⟩
   obtain ⟨yd,yk,hy0⟩:=hy0
   have hx0 : ∃ ad m k,a.eval x=.slice ad m k∧m≤k:=by
    unfold pv at hm0
    cases hsl : (ev x).asSl with
    | some q =>
     rw [mH hsl] at hx
     obtain ⟨L,k,_,q2,q3,_⟩:=gl hx
     exact ⟨_,_,k,q2,q3⟩
    | none =>
     rw [hsl] at hm0
     change tT (ev x)=some m0 at hm0
     unfold tT at hm0
     split at hm0
     ·rename_i hv; rw [hv] at hx; obtain ⟨L,o',k,_,q2,_⟩:=iq hx; exact ⟨_,_,k,q2,Nat.zero_le _⟩
     ·rename_i hv; rw [hv] at hx; exact ⟨_,_,_,(dP hx).1,Nat.le_refl _⟩
     ·cases hm0
   obtain ⟨xd,xm,xk,hx0,hle⟩:=hx0
   refine Does.value (v:=a.eval x) (w':=w) ?_ ⟨ι,Go1.refl hi ht,hx⟩
   rw [hx0]
   refine bV hx0 hy0 ?_
   cases xd <;> cases yd <;> simp [Builtin.append_,run_underlying hu,aY hsz,Builtin.lenOf,Builtin.firstCells,loadCells,loadCellsFrom,hle,storeCells]
  | succ n' =>
   obtain ⟨n,hn⟩ : ∃ n,n=n'+1:=⟨_,rfl⟩
   rw [← hn] at hc hcl hlim hycells
   replace h : pb es (ev x) c n s=some (v,s'):=by rw [hn]; exact h
   have hn1 : 1≤n:=by omega
   rcases hycells with ⟨_,h0,_⟩ | ⟨Ly,offy,ky,csy,ely,fzy,news,y1,y2,y3,y4,y5,_⟩
   ·omega
   have hnl : news.length=n * es:=by rw [y5.len,hcl]
   have hnews : ∀ j u,news[j]?=some u→w.cell? ((⟨Ly.B,Ly.base+offy,none⟩ : Addr).add j)=some u:=by
    intro j u hj
    have hjl : j < c.length:=by have:=(List.getElem?_eq_some_iff.1 hj).1; rw [y5.len] at this; exact this
    rw [aD,cb y2,← seg_getElem? csy _ c.length j hjl,← y3]
    exact hj
   unfold pb at h
   split at h
   ·-- to nothing
    rename_i hv
    rw [hv] at hx hm0
    have e0 : 0=m0:=Option.some.inj hm0
    subst e0
    unfold tn at h
    simp only [Nat.mul_eq] at h
    replace h:=fg h; obtain ⟨h,rfl⟩:=h
    obtain ⟨tr,h2,h3⟩:=gP h
    obtain ⟨e1,e2⟩:=dC h3
    have hge:=grownCap_ge w (0+n) 0 e
    have hcm : grownCap w (0+n) 0 e≤maxLen:=grownCap_le_maxLen _ _ _ _ (by unfold maxLen; omega)
    have hrun:=iA (P:=P) (ty:=o.type) (xk:=ky) (olds:=[]) (ad:=none) (n:=0) (cap:=0) hu i1 i2 i3 i4 (w:=w) (by omega) (by omega) (by simp) (fun b hb=>by cases hb) (fun _=>⟨rfl,rfl⟩) hnl hnews
    have hev:=bV (dP hx).1 y1 hrun
    simp only [Nat.zero_add,List.nil_append,Array.append_assoc] at hev hge hcm
    rw [show (#[] : Array Value)++(news.toArray++Builtin.zeroCells zv.cells (grownCap w n 0 e - n))=news.toArray++Builtin.zeroCells zv.cells (grownCap w n 0 e - n) by simp] at hev
    have hnone:=ht s.nx (Nat.le_refl _)
    obtain ⟨r1,r2⟩:=jN (w0:=w0) (w:=w) (e:=e) (nx:=s.nx) (t:=tr) hnone hzs i5 y5 hcl (fun i hi'=>by have:=cg h2 i; rw [if_pos (by omega)] at this; simpa using this) hge hcm hi.kept.size
    refine Does.value hev ⟨_,?_,r2⟩
    rw [e1,e2]
    exact Go1.new hi ht (my w _) (Nat.le_refl _) (by rw [du]; exact Nat.lt_succ_self _) r1
   ·-- to a slice
    rename_i b off len cap es' hv
    rw [hv] at hx hm0
    have e0 : len=m0:=Option.some.inj hm0
    subst e0
    replace h:=ag h; obtain ⟨hee,h⟩:=h
    have hee:=Nat.eq_of_beq_eq_true hee
    subst hee
    split at h
    ·rename_i tb m hb
     obtain ⟨L,k,q1,q2,q3,q4,q5,q6⟩:=gl hx
     obtain ⟨L',cs,el,fz,b1,b2,b3,b4,b5,b6,b7⟩:=hi.blk b _ hb
     have eL:=Option.some.inj (q1.symm.trans b1)
     subst eL
     have hbn : b < s.nx:=Nat.lt_of_not_le fun hle=>by have:=ht b hle; rw [q1] at this; cases this
     -- where it grows
     have grow : ∀ {s2 : RS} {tr tr0 : Tr RC},off+len * es≤m→k < len+n→CB tb off (len * es)=some tr0→eS c (len * es) tr0=some tr →
       ∃ r1 : RBlk w0 (w.drew.alloc (.cells ((seg cs (L.base+off) (len * es)).toArray++news.toArray++Builtin.zeroCells zv.cells (grownCap w (len+n) k e - (len+n))) e)) (ι.set s.nx ⟨w.heap.size,0,grownCap w (len+n) k e * es⟩) s.nx (.cells tr ((len+n) * es)),
        (execOp a.eval o).run P w=.ok (.value (.slice (some ⟨w.heap.size,0,none⟩) (len+n) (grownCap w (len+n) k e))) (w.drew.alloc (.cells ((seg cs (L.base+off) (len * es)).toArray++news.toArray++Builtin.zeroCells zv.cells (grownCap w (len+n) k e - (len+n))) e)) ∧
        RelV (ι.set s.nx ⟨w.heap.size,0,grownCap w (len+n) k e * es⟩) (.slice (some ⟨w.heap.size,0,none⟩) (len+n) (grownCap w (len+n) k e)) (.one (.sl s.nx 0 (len+n) none es)):=by
      intro s2 tr tr0 g1 g2 g3 g4
      have hol : (seg cs (L.base+off) (len * es)).length=len * es:=cn _ _ _ (by omega)
      have hgath : ∃ l,l.length=len * es∧RelL ι l (seg cs (L.base+off) (len * es))∧∀ i,i < len * es→tr0.get i=l[i]?:=by
       unfold CB at g3
       cases off with
       | zero =>
        cases g3
        -- the row as it is
        have hex : ∀ q,q≤m→∃ l,qw tb 0 q=some l:=by
         intro q hq
         have : ∀ q off,off+q≤m→∃ l,qw tb off q=some l:=by
          intro q
          induction q with
          | zero=>intro off _; exact ⟨[],rfl⟩
          | succ q ih =>
           intro off hoq
           obtain ⟨x1,_,k1,_⟩:=b7 off (by omega)
           obtain ⟨l,hl⟩:=ih (Nat.succ off) (by omega)
           exact ⟨x1 :: l,by unfold qw; rw [k1,hl]⟩
         exact this q 0 (by omega)
        obtain ⟨l,hl⟩:=hex (len * es) (by omega)
        have:=dD hl
        exact ⟨l,this.1,gB b7 hl (by omega),fun i hi'=>by simpa using this.2 i hi'⟩
       | succ off' =>
        simp only at g3
        split at g3
        ·rename_i l hl
         have:=dD hl
         refine ⟨l,this.1,gB b7 hl g1,fun i hi'=>?_⟩
         have h2:=cg g3 i
         rw [if_pos (by omega)] at h2
         simpa using h2
        ·cases g3
      obtain ⟨l,l1,l2,l3⟩:=hgath
      have hge:=grownCap_ge w (len+n) k e
      have hcm : grownCap w (len+n) k e≤maxLen:=grownCap_le_maxLen _ _ _ _ (by unfold maxLen; omega)
      have hrun:=iA (P:=P) (ty:=o.type) (xk:=ky) (ad:=some ⟨L.B,L.base+off,none⟩) (n:=len) (cap:=k) (olds:=seg cs (L.base+off) (len * es)) hu i1 i2 i3 i4 (w:=w) g2 hlim hol (fun b' hb' j u hj=>by
       cases hb'
       have hjl : j < len * es:=by rw [← hol]; exact (List.getElem?_eq_some_iff.1 hj).1
       rw [aD,cb b3,← seg_getElem? cs _ _ j hjl]
       exact hj) (fun hq=>by cases hq) hnl hnews
      have hev:=bV q2 y1 hrun
      have hadd : (len+n) * es=len * es+n * es:=Nat.add_mul _ _ _
      obtain ⟨r1,r2⟩:=jN (w0:=w0) (w:=w) (e:=e) (nx:=s.nx) (t:=tr) (len:=len+n) (ht s.nx (Nat.le_refl _)) hzs i5 (l2.append y5) (by simp; omega) (fun i hi'=>by
       have h2:=cg g4 i
       by_cases hil : i < len * es
       ·rw [if_neg (by omega)] at h2
        rw [h2,l3 i hil,List.getElem?_append_left (by omega)]
       ·rw [if_pos (by omega)] at h2
        rw [h2,List.getElem?_append_right (by omega),l1]) hge hcm hi.kept.size
      have e3 : (seg cs (L.base+off) (len * es)++news).toArray=(seg cs (L.base+off) (len * es)).toArray++news.toArray:=by simp
      rw [e3] at r1
      exact ⟨r1,hev,r2⟩
     unfold EP at h
     simp only [Nat.add_eq,Nat.mul_eq] at h
     split at h
     ·rename_i k0
      have:=q5 k0 rfl
      subst this
      cases hfit : Nat.ble (len+n) k with
      | true =>
       rw [hfit] at h
       replace h:=ag (show cond _ _ none=_ from h); obtain ⟨h2,h⟩:=h
       have hfit : len+n≤k:=Nat.le_of_ble_eq_true hfit
       have h2 : off+(len+n) * es≤m:=Nat.le_of_ble_eq_true h2
       replace h:=wl h; obtain ⟨h,rfl⟩:=h
       obtain ⟨t2,h3,h4⟩:=jZ h
       have hadd : (len+n) * es=len * es+n * es:=Nat.add_mul _ _ _
       obtain ⟨L2,cs2,el2,fz2,r1,hfz2,r2,r3,r4,r5,r6⟩:=ep hi ht hb h3 (by omega) h4 y5
       have eL:=Option.some.inj (q1.symm.trans r1)
       subst eL
       rw [b3] at r2
       simp only [Option.some.injEq,Obj.cells.injEq] at r2
       obtain ⟨e5,e6,e7⟩:=r2
       subst e5
       have hrun:=kF (P:=P) (ty:=o.type) (xk:=ky) hu hsz b6 b3 hfit (q:=L.base+off) (by omega) hnl r5 hnews
       refine Does.value (bV q2 y1 hrun) ⟨ι,?_,RelC.sl q1 hfit q4 (fun c hc=>Option.some.inj hc) q6⟩
       have e4 : L.base+off+len * es=L.base+(off+len * es):=by omega
       rw [e4]
       exact r6
      | false =>
       rw [hfit] at h
       replace h:=ag (show cond _ _ none=_ from h); obtain ⟨h2,h⟩:=h
       have h2 : off+len * es≤m:=Nat.le_of_ble_eq_true h2
       have hnf : k < len+n:=by
        refine Nat.lt_of_not_le fun hle=>?_
        rw [show Nat.ble (len+n) k=true from Nat.ble_eq_true_of_le hle] at hfit
        cases hfit
       replace h:=fg h; obtain ⟨h,rfl⟩:=h
       obtain ⟨tr,h3,h4⟩:=gP h
       unfold Eo at h3
       split at h3
       ·rename_i tr0 h5
        obtain ⟨e1,e2⟩:=dC h4
        obtain ⟨r1,r2,r3⟩:=grow (s2:=s) h2 hnf h5 h3
        refine Does.value r2 ⟨_,?_,r3⟩
        rw [e1,e2]
        exact Go1.new hi ht (my w _) (Nat.le_refl _) (by rw [du]; exact Nat.lt_succ_self _) r1
       ·cases h3
     ·replace h:=ag h; obtain ⟨h2,h⟩:=h
      have h2 : off+len * es≤m:=Nat.le_of_ble_eq_true h2
      replace h:=fg h; obtain ⟨h,rfl⟩:=h
      obtain ⟨s1,h3,h4⟩:=rA h
      obtain ⟨d1,d2⟩:=fb h3
      obtain ⟨tr,h5,h6⟩:=gP h4
      unfold Eo at h5
      split at h5
      ·rename_i tr0 h7
       obtain ⟨e1,e2⟩:=dC h6
       rw [d1,d2] at e1
       rw [d2] at e2
       by_cases hfit : len+n≤k
       ·have hadd : (len+n) * es=len * es+n * es:=Nat.add_mul _ _ _
        have hkm : (len+n) * es≤k * es:=Nat.mul_le_mul_right _ hfit
        have hrun:=kF (P:=P) (ty:=o.type) (xk:=ky) hu hsz b6 b3 hfit (q:=L.base+off) (by omega) hnl (y5.one) hnews
        have hw:=bp w L.B (ao cs (L.base+off+len * es) news)
        have hnone:=ht s.nx (Nat.le_refl _)
        refine Does.value (bV q2 y1 hrun) ⟨ι.set s.nx ⟨L.B,L.base+off,L.n⟩,?_,?_⟩
        ·rw [e1,e2]
         refine Go1.move hi ht hb rfl q1 b2 hw.os hw.tape hw.output (Nat.le_of_eq hw.size.symm) (fun B _ hB=>hw.block B hB) (.inl rfl) (by rw [hw.size]; exact hi.lt b L q1) hbn ?_
         refine ⟨_,ao cs (L.base+off+len * es) news,el,fz,Io.set_self _ _ _,b2,setRow_heap w L.B cs _ el _ b3,?_,?_,b6,?_⟩
         ·rw [aO _ _ _ (by omega)]; exact b4
         ·show L.base+off+(len+n) * es≤L.n; omega
         ·-- the cells there
          refine RelR.mono (Io.set_le hnone) ?_
          intro i hi'
          have s1:=cg h5 i
          have s2:=b8 cs (L.base+off+len * es) news (by omega) (L.base+off+i)
          by_cases hil : i < len * es
          ·rw [if_neg (by omega)] at s1
           rw [if_neg (by omega)] at s2
           rw [s1,s2]
           have hrow : tr0.get i=tb.get (off+i):=by
            unfold CB at h7
            cases off with
            | zero=>cases h7; rw [Nat.zero_add]
            | succ off' =>
             simp only at h7
             split at h7
             ·rename_i l hl
              have g:=dD hl
              have h2:=cg h7 i
              rw [if_pos (by omega)] at h2
              rw [h2,g.2 i hil]
              simp
             ·cases h7
           rw [hrow]
           obtain ⟨x1,u1,k1,k2,k3⟩:=b7 (off+i) (by omega)
           exact ⟨x1,u1,k1,by rw [← k2]; congr 1; omega,k3⟩
          ·rw [if_pos (by omega)] at s1
           rw [if_pos (by omega)] at s2
           have hlt : i - len * es < c.length:=by omega
           obtain ⟨u1,k1,k2⟩:=y5.get (List.getElem?_eq_getElem hlt)
           refine ⟨_,u1,by rw [s1,List.getElem?_eq_getElem hlt],?_,k2⟩
           rw [s2]
           have : L.base+off+i - (L.base+off+len * es)=i - len * es:=by omega
           rw [this]
           exact k1
        ·refine RelC.sl (Io.set_self _ _ _) hfit ?_ (fun c hc=>by cases hc) q6
         show L.base+off+0+k * es≤L.n
         omega
       ·obtain ⟨r1,r2,r3⟩:=grow (s2:=s) h2 (by omega) h7 h5
        refine Does.value r2 ⟨_,?_,r3⟩
        rw [e1,e2]
        exact Go1.move hi ht hb rfl q1 b2 rfl rfl rfl (by rw [du]; omega) (fun B hB _=>gK w.drew _ hB) (.inr (Nat.le_refl _)) (by rw [du]; exact Nat.lt_succ_self _) hbn r1
      ·cases h5
    ·cases h
   ·-- to a slice of no length,whose capacity is not known
    rename_i b es' hv
    rw [hv] at hx hm0
    have e0 : 0=m0:=Option.some.inj hm0
    subst e0
    replace h:=ag h; obtain ⟨hee,h⟩:=h
    have hee:=Nat.eq_of_beq_eq_true hee
    subst hee
    split at h
    ·rename_i tb m hb
     obtain ⟨L,o',k,q1,q2,q3,q4,q5⟩:=iq hx
     obtain ⟨L',cs,el,fz,b1,b2,b3,b4,b5,b6,b7⟩:=hi.blk b _ hb
     have eL:=Option.some.inj (q1.symm.trans b1)
     subst eL
     have hbn : b < s.nx:=Nat.lt_of_not_le fun hle=>by have:=ht b hle; rw [q1] at this; cases this
     unfold C4 at h
     simp only [Nat.mul_eq] at h
     replace h:=fg h; obtain ⟨h,rfl⟩:=h
     obtain ⟨s1,h3,h4⟩:=rA h
     obtain ⟨d1,d2⟩:=fb h3
     obtain ⟨tr,h5,h6⟩:=gP h4
     obtain ⟨e1,e2⟩:=dC h6
     rw [d1,d2] at e1
     rw [d2] at e2
     have hnone:=ht s.nx (Nat.le_refl _)
     by_cases hfit : n≤k
     ·have hkm : n * es≤k * es:=Nat.mul_le_mul_right _ hfit
      have hrun:=kF (P:=P) (ty:=o.type) (xk:=ky) (n:=0) hu hsz b6 b3 (by omega) (q:=o') (cap:=k) (by omega) hnl (y5.one) hnews
      simp only [Nat.zero_add,Nat.zero_mul,Nat.add_zero] at hrun
      have hw:=bp w L.B (ao cs o' news)
      refine Does.value (bV q2 y1 hrun) ⟨ι.set s.nx ⟨L.B,o',L.n⟩,?_,?_⟩
      ·rw [e1,e2]
       refine Go1.move hi ht hb rfl q1 b2 hw.os hw.tape hw.output (Nat.le_of_eq hw.size.symm) (fun B _ hB=>hw.block B hB) (.inl rfl) (by rw [hw.size]; exact hi.lt b L q1) hbn ?_
       refine ⟨_,ao cs o' news,el,fz,Io.set_self _ _ _,b2,setRow_heap w L.B cs _ el _ b3,?_,?_,b6,?_⟩
       ·rw [aO _ _ _ (by omega)]; exact b4
       ·show o'+n * es≤L.n; omega
       ·refine RelR.mono (Io.set_le hnone) ?_
        intro i hi'
        have hi' : i < n * es:=hi'
        have s1:=cg h5 i
        have s2:=b8 cs o' news (by omega) (o'+i)
        rw [if_pos (by omega)] at s1
        rw [if_pos (by omega)] at s2
        have hlt : i < c.length:=by omega
        obtain ⟨u1,k1,k2⟩:=y5.get (List.getElem?_eq_getElem hlt)
        refine ⟨_,u1,by rw [s1,Nat.sub_zero,List.getElem?_eq_getElem hlt],?_,k2⟩
        rw [s2]
        have : o'+i - o'=i:=by omega
        rw [this]
        exact k1
      ·refine RelC.sl (Io.set_self _ _ _) hfit ?_ (fun c hc=>by cases hc) q5
       show o'+0+k * es≤L.n
       omega
     ·have hge:=grownCap_ge w (0+n) k e
      have hcm : grownCap w (0+n) k e≤maxLen:=grownCap_le_maxLen _ _ _ _ (by unfold maxLen; omega)
      have hrun:=iA (P:=P) (ty:=o.type) (xk:=ky) (olds:=[]) (ad:=some ⟨L.B,o',none⟩) (n:=0) (cap:=k) hu i1 i2 i3 i4 (w:=w) (by omega) (by omega) (by simp) (fun b hb j u hj=>by simp at hj) (fun hq=>by cases hq) hnl hnews
      have hev:=bV q2 y1 hrun
      simp only [Nat.zero_add,List.nil_append,Array.append_assoc] at hev hge hcm
      rw [show (#[] : Array Value)++(news.toArray++Builtin.zeroCells zv.cells (grownCap w n k e - n))=news.toArray++Builtin.zeroCells zv.cells (grownCap w n k e - n) by simp] at hev
      obtain ⟨r1,r2⟩:=jN (w0:=w0) (w:=w) (e:=e) (nx:=s.nx) (t:=tr) hnone hzs i5 y5 hcl (fun i hi'=>by have:=cg h5 i; rw [if_pos (by omega)] at this; simpa using this) hge hcm hi.kept.size
      refine Does.value hev ⟨_,?_,r2⟩
      rw [e1,e2]
      exact Go1.move hi ht hb rfl q1 b2 rfl rfl rfl (by rw [du]; omega) (fun B hB _=>gK w.drew _ hB) (.inr (Nat.le_refl _)) (by rw [du]; exact Nat.lt_succ_self _) hbn r1
    ·cases h
   ·cases h
 ·cases h
theorem uN {t : TypeId} (h : kR P t=true) : P.underlying t=some (.int .i64):=by
 unfold kR at h
 split at h
 ·assumption
 ·cases h
theorem qs {t ti ty e : TypeId} {n : Nat} {ky : IntKind} {inf : TypeInfo} {zv : Value} (hu : P.underlying t=some (.slice e)) (hi : P.underlying ti=some (.int .i64)) (h1 : P.info? e=some inf) (h3 : inf.bytes≤100000) (h4 : inf.zero=some zv) (w : World) (h0 : 1≤n) (hlim : n≤1000000) (hz : 1≤inf.size) :
  (Builtin.append_ #[t,ti] ty #[.slice none 0 0,.int ky (n : Int)]).run P w=.ok (.slice (some ⟨w.heap.size,0,none⟩) n (grownCap w n 0 e)) (w.drew.alloc (.cells (Builtin.zeroCells zv.cells n++Builtin.zeroCells zv.cells (grownCap w n 0 e - n)) e)):=by
 have hw : IntKind.i64.wrap (n : Int)=n:=IntWalk.i64_in _ (by omega)
 have hb : (n : Int) * inf.bytes≤100000000000:=by
  have h1 : n * inf.bytes≤1000000 * 100000:=Nat.mul_le_mul hlim h3
  have h2 : ((n * inf.bytes : Nat) : Int)=(n : Int) * inf.bytes:=Int.natCast_mul _ _
  omega
 have h48 : (2 : Int) ^ 48=281474976710656:=by decide
 have n1 : ¬ (281474976710656 < (n : Int) * inf.bytes):=by omega
 have n2 : ¬ ((n : Int) < 0):=by omega
 have hn0 : n≠0:=by omega
 have hns : ¬ (n * inf.size=0):=by
  intro e
  rcases Nat.mul_eq_zero.1 e with h | h <;> omega
 have h63' : ¬ (9223372036854775807 < (n : Int)):=by omega
 have h48' : ¬ (281474976710656 < Builtin.nextslicecap n 0 * inf.bytes):=by
  rw [nextslicecap_zero (by omega)]
  have h1 : n * inf.bytes≤1000000 * 100000:=Nat.mul_le_mul hlim h3
  omega
 simp [Builtin.append_,run_underlying hu,run_underlying hi,sizeOf,typeInfo,zeroValue,h1,h4,asInt,asIntOf,hw,n1,n2,hn0,hns,h63',h48',Question.forced,run_firstCells_none,newRow,grownCap,Int.not_lt.2 (Int.natCast_nonneg n),Nat.ne_of_gt hz]
theorem F3 {t t' : TypeId} {x y : Operand} (ho : o.op=.call { callee:=.builtin .append,args:=#[x,y],argTypes:=#[t,t'] }) (ht : kR P t'=true) (hS : ∀ x∈o.op.operands,RelV ι (a.eval x) (ev x)) {ob : RO}
  (h : AK (mm P t) (Bt P t) (ev x) (ixN (ev y))=some (.new ob v)) : th P ι a o ob v:=by
 intro w
 rw [ho] at hS
 have hx:=hS x (by simp [Op.operands,Call.operands])
 have hy:=hS y (by simp [Op.operands,Call.operands])
 unfold AK at h
 split at h
 ·rename_i es z n he hz hv hn
  obtain ⟨h0,h⟩:=ag h
  simp only [Bool.and_eq_true] at h0
  have b1:=Nat.le_of_ble_eq_true h0.1
  have b2:=Nat.le_of_ble_eq_true h0.2
  obtain ⟨ob',h1,h2⟩:=gG h
  cases h2
  obtain ⟨tr,h3,rfl⟩:=eh h1
  obtain ⟨e,z0,inf,zv,hu,hsz,hes,i1,i2,i3,i4,i5,hz0,hzs⟩:=ip he
  have hzz : z=z0:=by
   unfold Bt at hz
   split at hz
   ·rename_i e' he'
    have:=ce he'
    rw [hu] at this
    cases this
    rw [hz0] at hz
    exact (Option.some.inj hz).symm
   ·cases hz
  subst hzz
  obtain ⟨ky,vy,_,hk⟩:=fK hn hy
  rw [hv] at hx
  have hge:=grownCap_ge w (0+n) 0 e
  have hcm : grownCap w (0+n) 0 e≤maxLen:=grownCap_le_maxLen _ _ _ _ (by unfold maxLen; omega)
  rw [Nat.zero_add] at hge hcm
  have hrun:=qs (P:=P) (ty:=o.type) (ky:=ky) hu (uN ht) i1 i3 i4 w b1 b2 (by omega)
  have hzc : Builtin.zeroCells zv.cells n=(List.replicate n zv.cells.toList).flatten.toArray:=by apply Array.ext'; exact mh zv.cells n
  have hev : (execOp a.eval o).run P w=.ok (.value (.slice (some ⟨w.heap.size,0,none⟩) n (grownCap w n 0 e))) (w.drew.alloc (.cells ((List.replicate n zv.cells.toList).flatten.toArray++Builtin.zeroCells zv.cells (grownCap w n 0 e - n)) e)):=by
   rw [← hzc]
   simp [execOp,ho,resolve,invoke,builtin,(dP hx).1,vy,hrun]
  have hl : ((List.replicate n z).flatten).length=n * es:=by
   have:=(eV (ι:=ι) hzs).len
   have : z.length=es:=by simp at this; omega
   simp [List.length_flatten,this]
  refine ⟨_,_,⟨w.heap.size,0,grownCap w n 0 e * es⟩,hev,my w _,rfl,by rw [du]; exact Nat.lt_succ_self _,fun w0 nx hw hn=>?_⟩
  rw [hl]
  exact jN (w0:=w0) (w:=w) (e:=e) (nx:=nx) (t:=tr) hn hzs i5 ((eV (ι:=ι) hzs).rep n) hl (fun i hi'=>by have:=cg h3 i; rw [if_pos (by omega)] at this; simpa using this) hge hcm hw
 ·cases h
end
end Go.Rx

/-
 The evaluator's operations against the model's: copy, clear, maps.
-/
namespace Go.Rx
open Go.Vm
section
variable {P : Program} {GL : List Nat} {w0 : World} {ι : Io} {o : Oper} {a : Act} {ev : Ev} {v : RV} {s s' : RS}
theorem mU {n : Nat} {q : Option RS} (h : CG n q=some (v,s')) : q=some s'∧v=.one (.nat n)∧n≤maxI:=by
 unfold CG at h
 split at h
 ·rename_i s1 v1 hv
  cases h
  obtain ⟨m,h1,h2,h3⟩:=me hv
  cases h1
  exact ⟨rfl,h3,h2⟩
 ·cases h
theorem F4 {t t' : TypeId} {x y : Operand} (ho : o.op=.call { callee:=.builtin .copy,args:=#[x,y],argTypes:=#[t,t'] }) (hS : ∀ x∈o.op.operands,RelV ι (a.eval x) (ev x))
  (h : Be (mm P t) (ev x) (ev y) s=some (v,s')) : jn P GL w0 ι a o s v s':=by
 intro w hi ht
 rw [ho] at hS
 have hx:=hS x (by simp [Op.operands,Call.operands])
 have hy:=hS y (by simp [Op.operands,Call.operands])
 have bV : ∀ {r : Value} {w' : World} {u u' : Value},a.eval x=u→a.eval y=u'→(Builtin.copy_ #[t,t'] o.type #[u,u']).run P w=.ok r w'→(execOp a.eval o).run P w=.ok (.value r) w':=by
  intro r w' u u' e1 e2 h
  simp [execOp,ho,resolve,invoke,builtin,e1,e2,h]
 -- nothing is copied
 have none0 : ∀ {es : Nat} {ad xd : Option Addr} {k n xk : Nat},mm P t=some es→a.eval x=.slice ad 0 k→a.eval y=.slice xd n xk→(execOp a.eval o).run P w=.ok (.value (goInt 0)) w:=by
  intro es ad xd k n xk he e1 e2
  obtain ⟨e,z,inf,zv,hu,hsz,_⟩:=ip he
  refine bV e1 e2 ?_
  cases ad <;> cases xd <;> simp [Builtin.copy_,run_underlying hu,aY hsz,Builtin.lenOf,Builtin.firstCells,loadCells,loadCellsFrom,storeCells]
 unfold Be at h
 split at h
 ·rename_i es b off len cap es' c n he hv hc
  replace h:=ag h; obtain ⟨h1,h⟩:=h
  simp only [Bool.and_eq_true] at h1
  have hee:=Nat.eq_of_beq_eq_true h1.1
  have hcl:=Nat.eq_of_beq_eq_true h1.2
  rw [lB] at hcl
  have hcl : c.length=n * es':=hcl
  rw [hv] at hx
  split at h
  ·rename_i tb m c' hb hc'
   replace h:=ag h; obtain ⟨h2,h⟩:=h
   have h2:=Nat.le_of_ble_eq_true h2
   simp only [Nat.add_eq,Nat.mul_eq] at h2 hc'
   obtain ⟨h3,h4,h5⟩:=mU h
   obtain ⟨t2,h6,h7⟩:=jZ h3
   obtain ⟨rfl,hcn⟩:=ol hc'
   obtain ⟨L,k,q1,q2,q3,q4,q5,q6⟩:=gl hx
   obtain ⟨e,z,inf,zv,hu,hsz,e1,i1,i2,i3,i4,i5,hz,hzs⟩:=ip he
   rw [h4]
   have hlc' : (c.take (min len n * es')).length=min len n * es':=by rw [List.length_take]; omega
   rcases mg hi hc hy with ⟨rfl,hn0,xd,xk,y1⟩ | ⟨Ly,offy,ky,csy,ely,fzy,news,y1,y2,y3,y4,y5,_⟩
   ·-- from nothing
    subst hn0
    have hm : min len 0=0:=by omega
    rw [hm] at h6 ⊢
    simp only [Nat.zero_mul,List.take_zero] at h6
    obtain ⟨L2,cs2,el2,fz2,r1,hfz2,r2,r3,r4,r5,r6⟩:=ep hi ht hb h6 (by simp; omega) h7 (us:=[]) RelL.nil
    have eL:=Option.some.inj (q1.symm.trans r1)
    subst eL
    rw [kZ,setRow_self w L.B cs2 el2 fz2 r2] at r6
    refine Does.value (w':=w) (v:=goInt 0) (bV q2 y1 ?_) ⟨ι,r6,fv (Nat.zero_le _)⟩
    cases xd <;> simp [Builtin.copy_,run_underlying hu,aY hsz,Builtin.lenOf,Builtin.firstCells,loadCells,loadCellsFrom,storeCells]
   ·have hnl : news.length=c.length:=y5.len
    have hr:=y5.take (min len n * es')
    obtain ⟨L2,cs2,el2,fz2,r1,hfz2,r2,r3,r4,r5,r6⟩:=ep hi ht hb h6 (by omega) h7 hr
    have eL:=Option.some.inj (q1.symm.trans r1)
    subst eL
    refine Does.value (w':=w.setRow L.B (ao cs2 (L.base+off) (news.take (min len n * es')))) (v:=goInt (min len n : Nat)) (bV q2 y1 ?_) ⟨ι,r6,fv h5⟩
    have hnt : (news.take (min len n * es')).length=min len n * es':=by rw [List.length_take]; omega
    have hfc:=run_firstCells_some (P:=P) w es' (min len n) ⟨Ly.B,Ly.base+offy,none⟩ n ky (news.take (min len n * es')) hnt (fun j u hj=>by
     have hjl : j < min len n * es':=by have:=(List.getElem?_eq_some_iff.1 hj).1; omega
     rw [List.getElem?_take,if_pos hjl] at hj
     rw [aD,cb y2,← seg_getElem? csy _ c.length j (by omega),← y3]
     exact hj)
    have hst:=ba (P:=P) (te:=.bool) L.B (L.base+off) el2 fz2 (news.take (min len n * es')) 0 cs2 w r2 (.inl hfz2) (by omega) r5
    simp only [Nat.add_zero] at hst
    have hst : (storeCells ⟨L.B,L.base+off,none⟩ (news.take (min len n * es'))).run P w=.ok () (w.setRow L.B (ao cs2 (L.base+off) (news.take (min len n * es')))):=hst
    have hmin : Nat.min n len=min len n:=Nat.min_comm n len
    rw [← hee] at hst hfc ⊢
    simp only [Builtin.copy_,List.getElem?_toArray,List.getElem?_cons_zero,List.getElem?_cons_succ,Sem.run_bind,run_underlying hu,Result.andThen_ok,Builtin.lenOf,Sem.run_pure,aY hsz,hmin,hfc,hst]
  ·cases h
 ·rename_i es c' he hv hc
  obtain ⟨h3,h4,h5⟩:=mU h
  cases h3
  rw [hv] at hx
  rw [h4]
  have hy0 : ∃ xd n xk,a.eval y=.slice xd n xk:=by
   rcases mg hi (c:=c'.1) (n:=c'.2) hc hy with ⟨_,_,xd,xk,y1⟩ | ⟨Ly,offy,ky,csy,ely,fzy,news,y1,_⟩
   ·exact ⟨xd,0,xk,y1⟩
   ·exact ⟨_,_,ky,y1⟩
  obtain ⟨xd,n,xk,y1⟩:=hy0
  exact Does.value (none0 he (dP hx).1 y1) ⟨ι,Go1.refl hi ht,fv (Nat.zero_le _)⟩
 ·rename_i es b' es' c' he hv hc
  obtain ⟨h3,h4,h5⟩:=mU h
  cases h3
  rw [hv] at hx
  rw [h4]
  obtain ⟨L,o',k,q1,q2,_⟩:=iq hx
  have hy0 : ∃ xd n xk,a.eval y=.slice xd n xk:=by
   rcases mg hi (c:=c'.1) (n:=c'.2) hc hy with ⟨_,_,xd,xk,y1⟩ | ⟨Ly,offy,ky,csy,ely,fzy,news,y1,_⟩
   ·exact ⟨xd,0,xk,y1⟩
   ·exact ⟨_,_,ky,y1⟩
  obtain ⟨xd,n,xk,y1⟩:=hy0
  exact Does.value (none0 he q2 y1) ⟨ι,Go1.refl hi ht,fv (Nat.zero_le _)⟩
 ·cases h
theorem zA {b : Nat} {q : Option Ents} (h : Fw s b q=some s') : ∃ es,q=some es∧gp s b (.map es)=some s':=by
 unfold Fw at h
 split at h
 ·rename_i es; exact ⟨es,rfl,h⟩
 ·cases h
theorem jL {w : World} (hi : RInv GL w0 w ι s.H.get) (ht : ∀ b,s.nx≤b→ι b=none) {b : Nat} {es es' : Ents} (hb : s.H.get b=some (.map es)) (hset : gp s b (.map es')=some s') {L : Loc} (hL : ι b=some L) {ents : Array MapEntry} {clock : Nat} {ents' : Array MapEntry} {clock' : Nat}
  (hh : w.heap[L.B]?=some (.map ents clock)) (hB : w0.heap.size≤L.B) (hr : RelM ι es' ents'.toList) (hst : Stp ents'.toList clock') :
  Go1 GL w0 s.nx w ι s.H.get s'.nx { w with heap:=w.heap.setIfInBounds L.B (.map ents' clock') } ι s'.H.get:=by
 obtain ⟨e1,e2⟩:=fb hset
 rw [e1,e2]
 have hlt : L.B < w.heap.size:=hi.lt b L hL
 refine Go1.write hi ht hb rfl hL hB rfl rfl rfl (by simp) (fun B hne=>by simp [Array.getElem?_setIfInBounds_ne (Ne.symm hne)]) ⟨L,ents',clock',hL,hB,?_,hr,hst⟩
 simp [hlt]
theorem wo {x : RV} {c : Bool×List RC} {u : Value} (h : vS x=some c) (hr : RelV ι u x) : ∃ us,u=cw c.1 us∧RelL ι c.2 us∧(c.1=false→c.2.length=1):=by
 unfold vS at h
 split at h
 ·cases h; exact ⟨[u],rfl,.cons hr .nil,fun _=>rfl⟩
 ·cases h; obtain ⟨us,h1,h2⟩:=hr; exact ⟨us,by simpa [cw] using h1,h2,fun h=>by cases h⟩
 ·cases h
theorem qN : ∀ {l : Ents} {es : List MapEntry} {k : Value} {c : Bool×List RC} {us : List Value} {born : Nat},RelM ι l es→RelL ι c.2 us→(c.1=false→c.2.length=1) →
  RelM ι (l++[(k,c)]) (es++[{ key:=k,val:=cw c.1 us,born:=born }])
 | _,_,k,c,us,born,.nil,hr,hg=>by obtain ⟨g,l⟩:=c; exact .cons rfl rfl hr hg .nil
 | _,_,k,c,us,born,.cons hk hv h hg' t,hr,hg=>.cons hk hv h hg' (qN t hr hg)
theorem uF : ∀ {l : Ents} {es : List MapEntry} {i : Nat} {k : Value} {c : Bool×List RC} {us : List Value},RelM ι l es→RelL ι c.2 us→(c.1=false→c.2.length=1) →
  RelM ι (l.set i (k,c)) (es.modify i fun e=>{ e with key:=k,val:=cw c.1 us })
 | _,_,i,k,c,us,.nil,hr,hg=>by simp; exact .nil
 | _,_,i,k,c,us,.cons hk hv h hg' t,hr,hg=>by
  cases i with
  | zero=>obtain ⟨g,l⟩:=c; simp; exact .cons rfl rfl hr hg t
  | succ i=>simpa using RelM.cons hk hv h hg' (uF (i:=i) (k:=k) t hr hg)
theorem oz : ∀ {l : Ents} {es : List MapEntry} {i : Nat},RelM ι l es→RelM ι (l.eraseIdx i) (es.eraseIdx i)
 | _,_,i,.nil=>by simp; exact .nil
 | _,_,i,.cons hk hv h hg t=>by
  cases i with
  | zero=>simpa using t
  | succ i=>simpa using RelM.cons hk hv h hg (oz (i:=i) t)
theorem CH {es : List MapEntry} {k u : Value} {clock : Nat} (h : Stp es clock) : Stp (es++[{ key:=k,val:=u,born:=clock }]) (clock+1):=by
 obtain ⟨h1,h2⟩:=h
 refine ⟨?_,fun x hx=>?_⟩
 ·rw [List.map_append,List.pairwise_append]
  refine ⟨h1,by simp,fun a ha b hb=>?_⟩
  obtain ⟨x,hx,rfl⟩:=List.mem_map.1 ha
  simp at hb
  subst hb
  exact h2 x hx
 ·rcases List.mem_append.1 hx with hx | hx
  ·exact Nat.lt_succ_of_lt (h2 x hx)
  ·simp at hx; subst hx; exact Nat.lt_succ_self _
theorem nB {f : MapEntry→MapEntry} (hf : ∀ e,(f e).born=e.born) : ∀ (es : List MapEntry) (i : Nat),(es.modify i f).map (·.born)=es.map (·.born)
 | [],i=>by simp
 | e :: r,0=>by simp [hf]
 | e :: r,i+1=>by simp [nB hf r i]
theorem lS {es es' : List MapEntry} {clock : Nat} (h : Stp es clock) (hs : (es'.map (·.born)).Sublist (es.map (·.born))) : Stp es' clock:=by
 refine ⟨h.1.sublist hs,fun x hx=>?_⟩
 obtain ⟨y,hy,e⟩:=List.mem_map.1 (hs.subset (List.mem_map.2 ⟨x,hx,rfl⟩))
 rw [← e]; exact h.2 y hy
theorem vH {t : TypeId} {x ix y : Operand} (ho : o.op=.mapUpdate t x ix y) (hS : ∀ x∈o.op.operands,RelV ι (a.eval x) (ev x)) (h : Dg (kP P t (ev x) (ev ix) (ev y) s)=some (v,s')) : jn P GL w0 ι a o s v s':=by
 intro w hi ht
 rw [ho] at hS
 have hx:=hS x (by simp [Op.operands])
 have hix:=hS ix (by simp [Op.operands])
 have hy:=hS y (by simp [Op.operands])
 replace h:=qP h; obtain ⟨h,rfl⟩:=h
 unfold kP at h
 split at h
 ·rename_i kt vt b k hu hv hk
  rw [hv] at hx
  have ek:=cM hk hix
  split at h
  ·rename_i es c hb hc
   obtain ⟨es',h1,h2⟩:=zA h
   obtain ⟨L,ents,clock,r1,r2,r3,r4,r5⟩:=hi.blk b _ hb
   obtain ⟨L',q1,q2⟩:=kK hx
   have eL:=Option.some.inj (r1.symm.trans q1)
   subst eL
   obtain ⟨us,e1,e2,e3⟩:=wo hc hy
   unfold AT at h1
   split at h1
   ·-- a new key
    rename_i hidx
    cases h1
    obtain ⟨c1,q,c2,c3,c4⟩:=jt hidx r4
    have hq : q=none:=by cases q with | none=>rfl | some p=>simp at c3
    subst hq
    have hr:=qN (k:=k) (c:=c) (us:=us) (born:=clock) r4 e2 e3
    have:=jL (ents':=ents.push { key:=k,val:=cw c.1 us,born:=clock }) (clock':=clock+1) hi ht hb h2 r1 r3 r2 (by simpa using hr) (by simpa using CH r5)
    refine Does.skip ?_ ⟨ι,this,trivial⟩
    simp [execOp,ho,Instr.mapUpdate,run_underlying hu,q2,ek,cU r3,c1,c2,e1,fx _ r3]
   ·rename_i i hidx
    split at h1
    ·rename_i k' hst
     cases h1
     obtain ⟨c1,q,c2,c3,c4⟩:=jt hidx r4
     obtain ⟨p,hp⟩ : ∃ p,q=some p:=by cases q with | none=>simp at c3 | some p=>exact ⟨p,rfl⟩
     subst hp
     simp only [Option.map_some,Option.some.injEq] at c3
     unfold E7 at hst
     split at hst
     ·rename_i e he
      split at hst
      ·rename_i k1 hk1
       obtain ⟨_,hst⟩:=ag hst
       cases hst
       obtain ⟨e',s1,s2,_⟩:=pG r4 he
       have hr:=uF (i:=i) (k:=k') (c:=c) (us:=us) r4 e2 e3
       have:=jL (ents':=ents.modify i fun e=>{ e with key:=k',val:=cw c.1 us }) (clock':=clock) hi ht hb h2 r1 r3 r2 (by simpa using hr) (lS r5 (by rw [Array.toList_modify,nB (f:=fun e=>{ e with key:=k',val:=cw c.1 us }) (fun _=>rfl)]; exact List.Sublist.refl _))
       refine Does.skip ?_ ⟨ι,this,trivial⟩
       have hstay:=cz hk1 w
       rw [← s2] at hstay
       have s1' : ents[i]?=some e':=by simpa using s1
       simp [execOp,ho,Instr.mapUpdate,run_underlying hu,q2,ek,cU r3,c1,c2,c3,s1',hstay,e1,fx _ r3]
      ·cases hst
     ·cases hst
    ·cases h1
   ·cases h1
  ·cases h
 ·cases h
theorem Df {t t' : TypeId} {x ix : Operand} (ho : o.op=.call { callee:=.builtin .delete,args:=#[x,ix],argTypes:=#[t,t'] }) (hS : ∀ x∈o.op.operands,RelV ι (a.eval x) (ev x)) (h : pL (tH P t (ev x) (ev ix) s)=some (v,s')) : jn P GL w0 ι a o s v s':=by
 intro w hi ht
 rw [ho] at hS
 have hx:=hS x (by simp [Op.operands,Call.operands])
 have hix:=hS ix (by simp [Op.operands,Call.operands])
 replace h:=nr h; obtain ⟨h,rfl⟩:=h
 unfold tH at h
 split at h
 ·rename_i kt vt b k hu hv hk
  rw [hv] at hx
  have ek:=cM hk hix
  split at h
  ·rename_i es hb
   obtain ⟨L,ents,clock,r1,r2,r3,r4,r5⟩:=hi.blk b _ hb
   obtain ⟨L',q1,q2⟩:=kK hx
   have eL:=Option.some.inj (r1.symm.trans q1)
   subst eL
   split at h
   ·rename_i hidx
    cases h
    obtain ⟨c1,q,c2,c3,c4⟩:=jt hidx r4
    rw [kI r4] at c1
    have hq : q=none:=by cases q with | none=>rfl | some p=>simp at c3
    subst hq
    have hsame : ({ w with heap:=w.heap.setIfInBounds L.B (.map ents clock) } : World)=w:=by
     have : w.heap.setIfInBounds L.B (.map ents clock)=w.heap:=by
      apply Array.ext_getElem?
      intro j
      rw [Array.getElem?_setIfInBounds]
      split
      ·rename_i e; subst e; rw [if_pos (hi.lt b L r1),r3]
      ·rfl
     rw [this]
    refine Does.value (w':=w) (v:=.tuple #[]) ?_ ⟨ι,Go1.refl hi ht,fc⟩
    have hset:=fx (P:=P) (.map ents clock) r3
    rw [hsame] at hset
    simp [execOp,ho,resolve,invoke,builtin,Builtin.delete_,run_underlying hu,q2,ek,cU r3,c1,c2,hset]
   ·rename_i i hidx
    obtain ⟨c1,q,c2,c3,c4⟩:=jt hidx r4
    rw [kI r4] at c1
    obtain ⟨p,hp⟩ : ∃ p,q=some p:=by cases q with | none=>simp at c3 | some p=>exact ⟨p,rfl⟩
    subst hp
    simp only [Option.map_some,Option.some.injEq] at c3
    have hr:=oz (i:=i) r4
    have he : (ents.eraseIdxIfInBounds i).toList=ents.toList.eraseIdx i:=by
     unfold Array.eraseIdxIfInBounds
     split
     ·simp
     ·rename_i hlt
      rw [List.eraseIdx_of_length_le]; simpa using hlt
    have:=jL (ents':=ents.eraseIdxIfInBounds i) (clock':=clock) hi ht hb h r1 r3 r2 (by rw [he]; exact hr) (lS r5 (by rw [he]; exact (List.eraseIdx_sublist ..).map _))
    refine Does.value (v:=.tuple #[]) ?_ ⟨ι,this,fc⟩
    simp [execOp,ho,resolve,invoke,builtin,Builtin.delete_,run_underlying hu,q2,ek,cU r3,c1,c2,c3,fx _ r3]
   ·cases h
  ·cases h
 ·cases h
theorem Ey {t : TypeId} {x : Operand} (ho : o.op=.call { callee:=.builtin .clear,args:=#[x],argTypes:=#[t] }) (hS : ∀ x∈o.op.operands,RelV ι (a.eval x) (ev x)) (h : pL (w5 P t (ev x) s)=some (v,s')) : jn P GL w0 ι a o s v s':=by
 intro w hi ht
 rw [ho] at hS
 have hx:=hS x (by simp [Op.operands,Call.operands])
 replace h:=nr h; obtain ⟨h,rfl⟩:=h
 have bV : ∀ {w' : World} {u : Value},a.eval x=u→(Builtin.clear_ #[t] o.type #[u]).run P w=.ok (.tuple #[]) w'→(execOp a.eval o).run P w=.ok (.value (.tuple #[])) w':=by
  intro w' u e1 h
  simp [execOp,ho,resolve,invoke,builtin,e1,h]
 unfold w5 at h
 split at h
 ·rename_i e b off len cap es hu hv
  rw [hv] at hx
  split at h
  ·rename_i tb m z hb hz
   replace h:=ag h; obtain ⟨h1,h⟩:=h
   simp only [Bool.and_eq_true] at h1
   have h2:=Nat.eq_of_beq_eq_true h1.1
   have h3:=Nat.le_of_ble_eq_true h1.2
   simp only [Nat.add_eq,Nat.mul_eq] at h3
   obtain ⟨t2,h6,h7⟩:=jZ h
   obtain ⟨zv,k1,k2⟩:=bE (ι:=ι) hz
   have hzs : zv.cells.size=es:=by have:=k2.len; simp at this; omega
   have hr:=k2.rep len
   have hlen : (List.replicate len z).flatten.length=len * es:=by simp [List.length_flatten,h2]
   obtain ⟨L,k,q1,q2,q3,q4,q5,q6⟩:=gl hx
   obtain ⟨L2,cs2,el2,fz2,r1,hfz2,r2,r3,r4,r5,r6⟩:=ep hi ht hb h6 (by omega) h7 hr
   have eL:=Option.some.inj (q1.symm.trans r1)
   subst eL
   refine Does.value (bV q2 ?_) ⟨ι,r6,fc⟩
   have hst:=ba (P:=P) (te:=.bool) L.B (L.base+off) el2 fz2 (List.replicate len zv.cells.toList).flatten 0 cs2 w r2 (.inl hfz2) (by omega) r5
   simp only [Nat.add_zero] at hst
   have hst : (storeCells ⟨L.B,L.base+off,none⟩ (List.replicate len zv.cells.toList).flatten).run P w=.ok () (w.setRow L.B (ao cs2 (L.base+off) (List.replicate len zv.cells.toList).flatten)):=hst
   have hzc : (Builtin.zeroCells zv.cells len).toList=(List.replicate len zv.cells.toList).flatten:=mh zv.cells len
   by_cases hl0 : len=0
   ·subst hl0
    simp only [List.replicate_zero,List.flatten_nil] at hst ⊢
    rw [kZ,setRow_self w L.B cs2 el2 fz2 r2]
    simp [Builtin.clear_,run_underlying hu]
   ·obtain ⟨n',hn'⟩ : ∃ n',len=n'+1:=⟨len - 1,by omega⟩
    rw [hn'] at hst hzc ⊢
    simp [Builtin.clear_,run_underlying hu,k1,hzc,hst]
  ·cases h
 ·rename_i e hu hv
  rw [hv] at hx
  cases h
  refine Does.value (bV (dP hx).1 ?_) ⟨ι,Go1.refl hi ht,fc⟩
  simp [Builtin.clear_,run_underlying hu]
 ·rename_i kt vt b hu hv
  rw [hv] at hx
  split at h
  ·rename_i es hb
   obtain ⟨L,ents,clock,r1,r2,r3,r4,r5⟩:=hi.blk b _ hb
   obtain ⟨L',q1,q2⟩:=kK hx
   have eL:=Option.some.inj (r1.symm.trans q1)
   subst eL
   have:=jL (ents':=#[]) (clock':=clock) hi ht hb h r1 r3 r2 .nil ⟨List.Pairwise.nil,fun x hx=>by cases hx⟩
   refine Does.value (bV q2 ?_) ⟨ι,this,fc⟩
   simp [Builtin.clear_,run_underlying hu,cU r3,fx _ r3]
  ·cases h
 ·cases h
end
end Go.Rx

/-
 The evaluator's operations against the model's: all of them.
-/
namespace Go.Rx
open Go.Vm
def ic (P : Program) (GL : List Nat) (call : Call1) : Prop:=∀ f args s v s',call f args s=some (v,s')→∀ w0 w ι us,RInv GL w0 w ι s.H.get→(∀ b,s.nx≤b→ι b=none)→All2 (fun u v=>RelV ι u v) us args →
 Goes P f us.toArray w fun u w'=>∃ ι',Go1 GL w0 s.nx w ι s.H.get s'.nx w' ι' s'.H.get∧RelV ι' u v
section
variable {P : Program} {GL : List Nat} {w0 : World} {ι : Io} {o : Oper} {a : Act} {ev : Ev} {v : RV} {s s' : RS}
theorem aI {b : Bool} {x y z : RK} (h : cond b x y=z) : x=z∨y=z:=by cases b; exact .inr h; exact .inl h
theorem dE {α : Type} {l : Array α} {x : α} (h : l.toList=[x]) : l=#[x]:=Array.ext' (by simpa using h)
theorem eH {α : Type} {l : Array α} {x y : α} (h : l.toList=[x,y]) : l=#[x,y]:=Array.ext' (by simpa using h)
theorem Iz {x : Operand} (hk : rk P o=.m x) (hS : ∀ x∈o.op.operands,RelV ι (a.eval x) (ev x)) : eW P ι a o (ev x):=by
 intro w
 unfold rk at hk
 split at hk <;> first
  | (cases hk; done)
  | (rename_i y ho
     cases hk
     rw [ho] at hS
     exact ⟨_,by simp [execOp,ho],hS x (by simp [Op.operands])⟩)
  | skip
 ·unfold pU at hk; split at hk <;> cases hk
 ·unfold v7 at hk; split at hk <;> cases hk
 ·unfold kT at hk; rcases aI hk with hk | hk <;> cases hk
 ·unfold lh at hk
  split at hk <;> first | (cases hk; done) | skip
  all_goals first
   | (split at hk <;> cases hk; done)
   | (rcases aI hk with hk | hk <;> first | (cases hk; done) | (rcases aI hk with hk | hk <;> cases hk))
theorem HV {f : Ev→Option RV} (hk : rk P o=.v f) (h : f ev=some v) (hS : ∀ x∈o.op.operands,RelV ι (a.eval x) (ev x)) : eW P ι a o v:=by
 unfold rk at hk
 split at hk <;> first | (cases hk; done) | skip
 ·rename_i ho; cases hk; exact FN ho hS h
 ·rename_i ho; cases hk; exact DR ho hS h
 ·rename_i ho; cases hk; exact xi ho hS h
 ·rename_i ho
  unfold pU at hk
  split at hk
  ·rename_i g hg
   cases hk
   exact Cr hg ho hS h
  ·cases hk; exact oj ho hS h
 ·rename_i ho
  unfold v7 at hk
  split at hk
  ·cases hk; exact GG ho hS h
  ·cases hk; exact AN ho hS h
 ·rename_i ho
  unfold kT at hk
  rcases aI hk with hk | hk
  ·cases hk
  ·cases hk; exact Am ho hS h
 ·rename_i ho; cases hk; exact wX ho hS h
 ·rename_i ho; cases hk; exact Eg ho hS h
 ·rename_i ho; cases hk; exact vz ho hS h
 ·rename_i ho; cases hk; exact D0 ho hS h
 ·rename_i ho; cases hk; exact u5 ho hS h
 ·rename_i ho; cases hk; exact Es ho hS h
 ·rename_i ho; cases hk; exact AG ho hS h
 ·rename_i ho
  unfold lh at hk
  split at hk <;> first | (cases hk; done) | skip
  ·rename_i x t ha ht
   rw [dE ha,dE ht] at ho
   split at hk
   ·cases hk
   ·rename_i k _
    cases hk
    exact GJ ho hS h
  ·cases hk
   exact BI ho (fun vs c=>rfl) hS h
  ·cases hk
   exact BI ho (fun vs c=>rfl) hS h
  ·rcases aI hk with hk | hk <;> first | (cases hk; done) | (rcases aI hk with hk | hk <;> cases hk)
  ·rcases aI hk with hk | hk <;> first | (cases hk; done) | (rcases aI hk with hk | hk <;> cases hk)
  ·rename_i x t ha ht
   rw [dE ha,dE ht] at ho
   cases hs : yq P t with
   | true=>rw [hs] at hk; cases hk; exact Gv ho hS hs h
   | false=>rw [hs] at hk; cases hk
theorem Hz {x : Operand} {f : Option RO→Ev→Option RV} (hk : rk P o=.r x f) : x∈o.op.operands:=by
 unfold rk at hk
 split at hk <;> first | (cases hk; done) | skip
 ·rename_i ho; cases hk; rw [ho]; simp [Op.operands]
 ·unfold pU at hk; split at hk <;> cases hk
 ·unfold v7 at hk; split at hk <;> cases hk
 ·unfold kT at hk; rcases aI hk with hk | hk <;> cases hk
 ·rename_i ho; cases hk; rw [ho]; simp [Op.operands]
 ·rename_i ho
  unfold lh at hk
  split at hk <;> first | (cases hk; done) | skip
  ·rename_i y t ha ht
   split at hk
   ·cases hk; rw [ho,dE ha]; simp [Op.operands,Call.operands]
   ·cases hk
  all_goals (rcases aI hk with hk | hk <;> first | (cases hk; done) | (rcases aI hk with hk | hk <;> cases hk))
theorem Is {w : World} {x : Operand} {f : Option RO→Ev→Option RV} {ob : Option RO} (hk : rk P o=.r x f) (h : f ob ev=some v) (hS : ∀ x∈o.op.operands,RelV ι (a.eval x) (ev x)) (hb : lI w0 w ι (ev x) ob) :
  ∃ u,(execOp a.eval o).run P w=.ok (.value u) w∧RelV ι u v:=by
 unfold rk at hk
 split at hk <;> first | (cases hk; done) | skip
 ·rename_i ho; cases hk; exact FD ho hS hb h
 ·unfold pU at hk; split at hk <;> cases hk
 ·unfold v7 at hk; split at hk <;> cases hk
 ·unfold kT at hk; rcases aI hk with hk | hk <;> cases hk
 ·rename_i ho; cases hk; exact Di ho hS hb h
 ·rename_i ho
  unfold lh at hk
  split at hk <;> first | (cases hk; done) | skip
  ·rename_i y t ha ht
   rw [dE ha,dE ht] at ho
   split at hk
   ·rename_i hl
    cases hk
    obtain ⟨k,e,hu⟩ : ∃ k e,P.underlying t=some (.map k e):=by
     unfold DI at hl
     split at hl <;> first | (cases hl; done) | skip
     rename_i k e hu
     exact ⟨k,e,hu⟩
    exact Dt hu ho hS hb h
   ·cases hk
  all_goals (rcases aI hk with hk | hk <;> first | (cases hk; done) | (rcases aI hk with hk | hk <;> cases hk))
theorem It {f : Ev→Option PR} {ob : RO} (hk : rk P o=.b f) (h : f ev=some (.new ob v)) (hS : ∀ x∈o.op.operands,RelV ι (a.eval x) (ev x)) : th P ι a o ob v:=by
 unfold rk at hk
 split at hk <;> first | (cases hk; done) | skip
 ·rename_i ho; cases hk; exact DP ho h
 ·rename_i ho; cases hk; exact Hb ho hS h
 ·rename_i ho; cases hk; exact sW ho hS h
 ·unfold pU at hk; split at hk <;> cases hk
 ·unfold v7 at hk; split at hk <;> cases hk
 ·rename_i ho
  unfold kT at hk
  cases ht : lR P _ _ with
  | true=>rw [ht] at hk; cases hk; exact D2 ho hS ht h
  | false=>rw [ht] at hk; cases hk
 ·rename_i ho; cases hk; cases h; exact zI ho
 ·rename_i ho; cases hk; exact tY ho hS h
 ·rename_i ho
  unfold lh at hk
  split at hk <;> first | (cases hk; done) | skip
  ·split at hk <;> cases hk
  ·rename_i bx x t t' ha hts
   rw [eH ha,eH hts] at ho
   by_cases htt : t=t'
   ·rw [decide_eq_true htt] at hk; cases hk
   ·rw [decide_eq_false htt] at hk
    cases hi : kR P t' with
    | true=>rw [hi] at hk; cases hk; exact F3 ho hi hS h
    | false=>rw [hi] at hk; cases hk
  all_goals (rcases aI hk with hk | hk <;> first | (cases hk; done) | (rcases aI hk with hk | hk <;> cases hk))
theorem CP {call : Call1} (hC : ic P GL call) {g : Operand} {args : Array Operand} {ts : Array TypeId} (ho : o.op=.call { callee:=.value g,args:=args,argTypes:=ts }) (hS : ∀ x∈o.op.operands,RelV ι (a.eval x) (ev x))
  (h : Dd call (ev g) (args.toList.map ev) s=some (v,s')) : jn P GL w0 ι a o s v s':=by
 intro w hi ht
 rw [ho] at hS
 have hg:=hS g (by simp [Op.operands,Call.operands])
 have hargs:=n8 (a:=a) (ι:=ι) (ev:=ev) (xs:=args.toList) fun x hx=>hS x (by simp [Op.operands,Call.operands]; exact .inr (by simpa using hx))
 unfold Dd at h
 split at h
 ·rename_i f sh k cells hf
  rw [hf] at hg
  obtain ⟨us,h1,h2⟩:=xw hg
  unfold um at h
  split at h
  ·rename_i l hl
   have hl:=o7 hl h1
   have take : ∀ {n : Nat} {us : List Value} {l : List RV},All2 (fun u v=>RelV ι u v) us l→All2 (fun u v=>RelV ι u v) (us.take n) (l.take n):=by
    intro n
    induction n with
    | zero=>intro us l h; exact .nil
    | succ n ih=>intro us l h; cases h with
     | nil=>exact .nil
     | cons h t=>exact .cons h (ih t)
   have drop : ∀ {n : Nat} {us : List Value} {l : List RV},All2 (fun u v=>RelV ι u v) us l→All2 (fun u v=>RelV ι u v) (us.drop n) (l.drop n):=by
    intro n
    induction n with
    | zero=>intro us l h; exact h
    | succ n ih=>intro us l h; cases h with
     | nil=>exact .nil
     | cons h t=>exact ih t
   have app : ∀ {us us' : List Value} {l l' : List RV},All2 (fun u v=>RelV ι u v) us l→All2 (fun u v=>RelV ι u v) us' l'→All2 (fun u v=>RelV ι u v) (us++us') (l++l'):=by
    intro us us' l l' h1 h2
    induction h1 with
    | nil=>exact h2
    | cons h t ih=>exact .cons h ih
   have hgo:=hC _ _ _ _ _ h w0 w ι _ hi ht (app (app (take (n:=k) hl) hargs) (drop (n:=k) hl))
   have e : ((cF sh us).take k).toArray++(args.map a.eval++((cF sh us).drop k).toArray)=(((cF sh us).take k++args.toList.map a.eval)++(cF sh us).drop k).toArray:=by
    apply Array.ext'; simp
   have run : ∀ w,(execOp a.eval o).run P w=(callFunc f (((cF sh us).take k++args.toList.map a.eval)++(cF sh us).drop k).toArray).run P w:=by
    intro w
    rw [← e]
    simp [execOp,ho,resolve,Deferred.ofValue,h2,invoke]
   rcases hgo with ⟨g1,g2⟩ | ⟨u,w',g1,g2⟩
   ·exact Does.call (by rw [run,g1]) g2
   ·exact Does.value (by rw [run,g1]) g2
  ·cases h
 ·cases h
def isC (k : RK) : Bool:=match k with
 | .m _=>false
 | .v _=>false
 | .r _ _=>false
 | .b _=>false
 | _=>true
def uq (k : RK) : Bool:=match k with
 | .r _ _=>true
 | .b _=>true
 | _=>false
theorem Gw {call : Call1} (hC : ic P GL call) (h : rc P call (rk P o) ev s=some (v,s')) (hS : ∀ x∈o.op.operands,RelV ι (a.eval x) (ev x)) : jn P GL w0 ι a o s v s':=by
 generalize hk : rk P o=k at h
 unfold rk at hk
 split at hk <;> first | (subst hk; cases h; done) | skip
 ·unfold pU at hk; split at hk <;> (subst hk; cases h)
 ·unfold v7 at hk; split at hk <;> (subst hk; cases h)
 ·unfold kT at hk; rcases aI hk with hk | hk <;> (subst hk; cases h)
 ·rename_i ho; subst hk; exact D1 ho hS h
 ·rename_i ho; subst hk; exact vH ho hS h
 ·rename_i ho
  unfold lh at hk
  split at hk <;> first | (subst hk; cases h; done) | skip
  ·split at hk <;> (subst hk; cases h)
  ·rename_i x y t t' ha ht
   rw [eH ha,eH ht] at ho
   by_cases htt : t=t'
   ·rw [decide_eq_true htt] at hk
    subst hk
    exact AO ho htt hS h
   ·rw [decide_eq_false htt] at hk
    cases hi : kR P t' <;> rw [hi] at hk <;> (subst hk; cases h)
  ·rename_i x y t t' ha ht
   rw [eH ha,eH ht] at ho
   by_cases htt : t=t'
   ·rw [decide_eq_true htt] at hk
    subst hk
    exact F4 ho hS h
   ·rw [decide_eq_false htt] at hk
    subst hk
    cases h
  ·rename_i x t ha ht
   rw [dE ha,dE ht] at ho
   subst hk
   exact Ey ho hS h
  ·rename_i x k t t' ha ht
   rw [eH ha,eH ht] at ho
   subst hk
   exact Df ho hS h
  ·rcases aI hk with hk | hk <;> (subst hk; cases h)
 ·rename_i ho; subst hk; exact CP hC ho hS h
end
end Go.Rx

