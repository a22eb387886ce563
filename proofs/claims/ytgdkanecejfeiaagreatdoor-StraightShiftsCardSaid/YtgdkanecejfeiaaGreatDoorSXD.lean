/-
 Operations: append, copy, maps, calls.
-/
import Derived.Test.YtgdkanecejfeiaaGreatDoorSXC
import Derived.Test.YtgdkanecejfeiaaGreatDoorSVmB
open Option.some renaming injEq→A1,inj→B4
open List renaming getElem?_eq_getElem→A2,getElem?_eq_some_iff→A3,nil_append→LW,getElem?_append_left→L8,mem_map→MO
open Bool renaming and_eq_true→A4
open Nat renaming eq_of_beq_eq_true→A5,le_refl→A7,le_of_ble_eq_true→B7,mul_le_mul_right→K9,add_mul→Lf,ble→Lh,zero_add→Ln,add_zero→L7,lt_succ_self→Mf,lt_of_not_le→NY,le_of_eq→OC,mul_eq→OI
open Prod.mk renaming injEq→Ld
open Array renaming ext'→MW,append_assoc→Ov
open List.Sublist renaming refl→NG
set_option linter.unusedVariables false
set_option linter.unusedSimpArgs false
/-
 The evaluator's operations against the model's: what writes.
-/
namespace Go.Rx
open Go.Vm
theorem dP {s s':RS} {b:Nat} {o:RO} (h:iJ s b o=some s'):s'.H.get=Hp.set s.H.get b o∧s'.nx=s.nx:=by
 unfold iJ at h
 rw [Tr.putK_eq] at h
 split at h
 ·rename_i u hu
  cases h
  refine ⟨?_,rfl⟩
  funext j
  rw [Tr.get_put (t:=s.H) hu j]
  simp only [Hp.set,eq_comm]
 ·cases h
theorem eX {R:Type} (n:Nat) (K:Nat→R):o5 n K=K n:=by cases n <;> rfl
theorem tu {R:Type} {s:RS} {b:Nat} {r:Option R} {x:R} (h:wv s b none r=some x):s.H.get b=none∧r=some x:=by
 unfold wv at h
 cases hg:s.H.get b with
 | none=>rw [hg] at h; exact ⟨rfl,h⟩
 | some o=>rw [hg] at h; cases h
theorem dW {s s':RS} {o:RO} (h:th s o=some s'):s'.H.get=Hp.set s.H.get s.nx o∧s'.nx=s.nx+1:=by
 unfold th at h
 rw [eX] at h
 replace h:=(tu h).2
 rw [Tr.putK_eq] at h
 split at h
 ·rename_i u hu
  cases h
  refine ⟨?_,rfl⟩
  funext j
  rw [Tr.get_put (t:=s.H) hu j]
  simp only [Hp.set,eq_comm]
 ·cases h
theorem tI {s s':RS} {b n:Nat} {t:Option (Tr RC)} (h:CI s b n t=some s'):∃ t',t=some t'∧iJ s b (.cells t' n)=some s':=by
 unfold CI at h
 split at h
 ·rename_i t'; exact ⟨t',rfl,h⟩
 ·cases h
theorem fH {s s':RS} {n:Nat} {t:Option (Tr RC)} (h:yq s n t=some s'):∃ t',t=some t'∧th s (.cells t' n)=some s':=by
 unfold yq at h
 split at h
 ·rename_i t'; exact ⟨t',rfl,h⟩
 ·cases h
section
variable {P:Program} {GL:List Nat} {w0:World} {ι : Io} {o:Oper} {a:Act} {ev:Ev} {v:RV} {s s':RS}
def rp (P:Program) (GL:List Nat) (w0:World) (ι : Io) (a:Act) (o:Oper) (s:RS) (v:RV) (s':RS):Prop:=∀ w,RInv GL w0 w ι s.H.get→(∀ b,s.nx≤b→ι b=none) →
 Does P o a w fun u w'=>∃ ι',Go1 GL w0 s.nx w ι s.H.get s'.nx w' ι' s'.H.get∧RelV ι' u v
theorem xo {t t':Tr RC} {m off base:Nat} {c:Array Value} {l:List RC} {us:List Value} (hR:RelR ι t m c base) (hs:gP l off t=some t') (hr:RelL ι l us) (hm:base+m≤c.size) (hle:off+l.length≤m) :
  RelR ι t' m (aF c (base+off) us) base:=by
 have hlen:=hr.len
 intro i hi
 have h1:=dr hs i
 have h2:=cB c (base+off) us (by omega) (base+i)
 by_cases hin:off≤i∧i < off+l.length
 ·rw [if_pos hin] at h1
  rw [if_pos (by omega)] at h2
  have hlt:i - off < l.length:=by omega
  rw [A2 hlt] at h1
  obtain ⟨u,k1,k2⟩:=hr.get (A2 hlt)
  refine ⟨_,u,h1,?_,k2⟩
  rw [h2]
  have:base+i - (base+off)=i - off:=by omega
  rw [this,k1]
 ·rw [if_neg hin] at h1
  rw [if_neg (by omega)] at h2
  rw [h1,h2]
  exact hR i hi
theorem pA {w:World} (hi:RInv GL w0 w ι s.H.get) (ht:∀ b,s.nx≤b→ι b=none) {b m off:Nat} {t t':Tr RC} {c:List RC} {us:List Value} (hb:s.H.get b=some (.cells t m)) (hs:gP c off t=some t')
  (hle:off+c.length≤m) (hset:iJ s b (.cells t' m)=some s') (hr:RelL ι c us):∃ L cs el fz,ι b=some L∧fz.2≤fz.1∧w.heap[L.B]?=some (.cells cs el fz)∧cs.size=L.n∧L.base+off+us.length≤cs.size∧(∀ u∈us,u.oneCell'=true) ∧
   Go1 GL w0 s.nx w ι s.H.get s'.nx (w.setRow L.B (aF cs (L.base+off) us)) ι s'.H.get:=by
 obtain ⟨L,cs,el,fz,h1,h2,h3,h4,h5,h6,h7⟩:=hi.blk b _ hb
 have hlen:=hr.len
 have hw:=bX w L.B (aF cs (L.base+off) us)
 obtain ⟨e1,e2⟩:=dP hset
 refine ⟨L,cs,el,fz,h1,h6,h3,h4,by omega,hr.one,?_⟩
 rw [e1,e2]
 refine Go1.write hi ht hb rfl h1 h2 hw.os hw.tape hw.output hw.size hw.block ⟨L,aF cs (L.base+off) us,el,fz,h1,h2,setRow_heap w L.B cs _ el _ h3,?_,h5,h6,xo h7 hs hr (by omega) hle⟩
 rw [bt _ _ _ (by omega),h4]
theorem uA {q:Option RS} (h:DV q=some (v,s')):q=some s'∧v=.unk:=by
 cases q with
 | none=>cases h
 | some x=>cases h; exact ⟨rfl,rfl⟩
theorem Dd:RelV ι (.tuple #[]) rundef:=⟨[],rfl,.nil⟩
theorem G5 {t:TypeId} {x y:Operand} (ho:o.op=.store t x y) (hS:∀ x∈o.op.operands,RelV ι (a.eval x) (ev x)) (h:DV (zd (dG P t) (ev x) (ev y) s)=some (v,s')):rp P GL w0 ι a o s v s':=by
 intro w hi ht
 rw [ho] at hS
 have hx:=hS x (by simp [Op.operands])
 have hy:=hS y (by simp [Op.operands])
 replace h:=uA h; obtain ⟨h,rfl⟩:=h
 unfold zd at h
 replace h:=bF h rfl; obtain ⟨n,h1,h⟩:=h
 replace h:=bF h rfl; obtain ⟨⟨b,off⟩,h2,h⟩:=h
 replace h:=bF h rfl; obtain ⟨c,h3,h⟩:=h
 unfold Jw at h
 replace h:=bF h rfl; obtain ⟨⟨t',m⟩,h4,h⟩:=h
 replace h:=ag h; obtain ⟨h5,h⟩:=h
 simp only [A4] at h5
 have h6:=A5 h5.1
 have h7:off+n≤m:=B7 h5.2
 obtain ⟨t2,h8,h9⟩:=tI h
 obtain ⟨ob,k1,k2⟩:=bF h4 rfl
 have hb:s.H.get b=some (.cells t' m):=by
  rw [k1]
  cases ob <;> simp [RO.asC] at k2
  obtain ⟨rfl,rfl⟩:=k2
  rfl
 rw [fC h2] at hx
 obtain ⟨L',q1,q2⟩:=eE hx
 obtain ⟨us,q3,q4⟩:=mb h3 hy
 have hlen:=q4.len
 obtain ⟨L,cs,el,fz,r1,hfz,r2,r3,r4,r5,r6⟩:=pA hi ht hb h8 (by omega) h9 q4
 have e:=B4 (r1.symm.trans q1)
 subst e
 refine Does.skip (w':=w.setRow L.B (aF cs (L.base+off) us)) ?_ ⟨ι,r6,trivial⟩
 have hst:=cH (P:=P) (te:=.bool) L.B (L.base+off) el fz us 0 cs w r2 (.inl hfz) (by omega) r5
 simp only [L7] at hst
 have hst:(storeCells ⟨L.B,L.base+off,none⟩ us).run P w=.ok () (w.setRow L.B (aF cs (L.base+off) us)):=hst
 have hsz:us.length=n:=by omega
 simp [execOp,ho,q2,Instr.storeAt,Instr.sureAddr,storeVar,q3,bS h1,hsz,hst]
theorem Fh {w:World} (hi:RInv GL w0 w ι s.H.get) {x:RV} {u:Value} {c:List RC} {n:Nat} (h:cL s x=some (c,n)) (hx:RelV ι u x) :
  (c=[]∧n=0∧∃ ad k,u=.slice ad 0 k)∨∃ (L:Loc) (off k:Nat) (cs:Array Value) (el:TypeId) (fz:Nat×Nat) (news:List Value),u=.slice (some ⟨L.B,L.base+off,none⟩) n k∧w.heap[L.B]?=some (.cells cs el fz)∧news=seg cs (L.base+off) c.length∧L.base+off+c.length≤cs.size∧RelL ι c news ∧
   ∃ es,c.length=n * es:=by
 unfold cL at h
 split at h
 ·cases h; exact .inl ⟨rfl,rfl,none,0,(gG hx).1⟩
 ·cases h; obtain ⟨L,o',k,q1,q2,_⟩:=ma hx; exact .inl ⟨rfl,rfl,_,k,q2⟩
 ·rename_i b off len cap es
  split at h
  ·rename_i l hl
   simp only [A1,Ld] at h
   obtain ⟨rfl,rfl⟩:=h
   obtain ⟨t,m,k1,k2,k3⟩:=dk hl
   obtain ⟨o',k4,k5⟩:=dM k1
   obtain ⟨L,cs,el,fz,r1,r2,r3,r4,r5⟩:=eW k5 (hi.blk b o' k4)
   obtain ⟨L',k,q1,q2,q3,q4,q5,q6⟩:=kb hx
   have e:=B4 (r1.symm.trans q1)
   subst e
   have hlen:=(dU k3).1
   have:=eo r5 k3 k2
   refine .inr ⟨L,off,k,cs,el,fz,_,q2,r2,rfl,?_,by rw [hlen]; exact this,es,hlen⟩
   rw [hlen]
   have:off+len * es≤m:=k2
   change L.base+off+len * es≤_
   omega
  ·cases h
 ·cases h
theorem Ai {t:TypeId} {es:Nat} (h:xW P t=some es):∃ e z inf zv,P.underlying t=some (.slice e)∧dG P e=some es∧1≤es∧P.info? e=some inf∧inf.size=es∧inf.bytes≤100000∧inf.zero=some zv∧zv.cells.size=es∧iH P e=some z∧scs zv.cells.toList=some z:=by
 unfold xW at h
 split at h
 ·rename_i e he
  split at h
  ·rename_i n z hn hz
   obtain ⟨h1,h2⟩:=ag h
   cases h2
   simp only [A4] at h1
   obtain ⟨inf,i1,i2,i3⟩:=io hn
   have hz':=hz
   unfold iH at hz
   rw [i1] at hz
   simp only at hz
   split at hz
   ·rename_i zv hzv
    have hl:=(jQ (ι:=fun _=>none) hz).len
    have:=A5 h1.2
    exact ⟨e,z,inf,zv,dK he,hn,B7 h1.1,i1,i2,i3,hzv,by simp at hl; omega,hz',hz⟩
   ·cases hz
  ·cases h
 ·cases h
theorem mN {t ty e:TypeId} {es n k cap B q xk:Nat} {xa:Addr} {news:List Value} {cs:Array Value} {el:TypeId} {fz:Nat×Nat} (hu:P.underlying t=some (.slice e)) (hs:dG P e=some es) {w:World}
  (hfz:fz.2≤fz.1) (hh:w.heap[B]?=some (.cells cs el fz)) (hfit:n+k≤cap) (hc:q+cap * es≤cs.size) (hl:news.length=k * es) (hone:∀ u∈news,u.oneCell'=true) (hnews:∀ j v,news[j]?=some v→w.cell? (xa.add j)=some v) :
  (Builtin.append_ #[t,t] ty #[.slice (some ⟨B,q,none⟩) n cap,.slice (some xa) k xk]).run P w=.ok (.slice (some ⟨B,q,none⟩) (n+k) cap) (w.setRow B (aF cs (q+n * es) news)):=by
 have hmul:n * es+k * es≤cap * es:=by rw [← Lf]; exact K9 _ hfit
 have hfc:=run_firstCells_some (P:=P) w es k xa k xk news hl hnews
 have hst:=cH (P:=P) (te:=.bool) B (q+n * es) el fz news 0 cs w hh (.inl hfz) (by omega) hone
 simp only [L7] at hst
 have hst:(storeCells ⟨B,q+n * es,none⟩ news).run P w=.ok () (w.setRow B (aF cs (q+n * es) news)):=hst
 simp [Builtin.append_,run_underlying hu,bS hs,Builtin.lenOf,hfc,hfit,bd,hst]
theorem jy {t ty e:TypeId} {es n k cap xk:Nat} {ad:Option Addr} {xa:Addr} {olds news:List Value} {inf:TypeInfo} {zv:Value} (hu:P.underlying t=some (.slice e)) (h1:P.info? e=some inf) (h2:inf.size=es) (h3:inf.bytes≤100000)
  (h4:inf.zero=some zv) {w:World} (hg:cap < n+k) (hlim:n+k≤1000000) (hol:olds.length=n * es) (hold:∀ b,ad=some b→∀ j v,olds[j]?=some v→w.cell? (b.add j)=some v) (hnil:ad=none→n=0∧cap=0)
  (hl:news.length=k * es) (hnews:∀ j v,news[j]?=some v→w.cell? (xa.add j)=some v) :
  (Builtin.append_ #[t,t] ty #[.slice ad n cap,.slice (some xa) k xk]).run P w =
   .ok (.slice (some ⟨w.heap.size,0,none⟩) (n+k) (grownCap w (n+k) cap e)) (w.drew.alloc (.cells (olds.toArray++news.toArray++Builtin.zeroCells zv.cells (grownCap w (n+k) cap e - (n+k))) e)):=by
 have hfits:Builtin.nextslicecap (n+k) cap * inf.bytes≤281474976710656:=growslice_fits hg (by
  have:(n+k) * inf.bytes≤1000000 * 100000:=Nat.mul_le_mul hlim h3
  omega)
 cases ad with
 | some b=>exact run_append_grow (P:=P) w t ty e inf zv hu h1 h4 b n cap olds (by rw [h2]; exact hol) (hold b rfl) xa k xk news (by rw [h2]; exact hl) hnews hg (by omega) hfits
 | none =>
  obtain ⟨rfl,rfl⟩:=hnil rfl
  have:olds=[]:=List.eq_nil_of_length_eq_zero (by rw [hol]; simp)
  subst this
  have hn0:Builtin.nextslicecap k 0=k:=nextslicecap_zero (by omega)
  have:=run_append_nil (P:=P) w t ty e inf zv hu h1 h4 xa k xk news (by rw [h2]; exact hl) hnews (by omega) (by omega) (by simp only [Ln,hn0] at hfits; exact hfits)
  simpa using this
theorem eT {nx n es:Nat} {q:Option RS} (h:pP nx n es q=some (v,s')):q=some s'∧v=.one (.sl nx 0 n none es):=by
 unfold pP at h
 split at h
 ·rename_i x
  rw [eX,eX] at h
  cases h
  exact ⟨rfl,rfl⟩
 ·cases h
theorem yL {b off len k es:Nat} {q:Option RS} (h:D8 b off len k es q=some (v,s')):q=some s'∧v=.one (.sl b off len (some k) es):=by
 unfold D8 at h
 split at h
 ·rename_i x
  rw [eX] at h
  cases h
  exact ⟨rfl,rfl⟩
 ·cases h
theorem iZ {b:Nat} {K:RS→Option RS} (h:kill s b K=some s'):∃ s1,iJ s b .dead=some s1∧K s1=some s':=by
 unfold kill at h
 split at h
 ·rename_i s1 h1; exact ⟨s1,h1,h⟩
 ·cases h
theorem CB {t:Tr RC} {n:Nat} {l:List RC} {us rest:List Value} (h:∀ i,i < n→t.get i=l[i]?) (hl:l.length=n) (hr:RelL ι l us):RelR ι t n (us++rest).toArray 0:=by
 intro i hi
 have hlt:i < l.length:=by omega
 obtain ⟨u,k1,k2⟩:=hr.get (A2 hlt)
 refine ⟨_,u,by rw [h i hi,A2 hlt],?_,k2⟩
 have hlen:=hr.len
 simp only [Ln,List.getElem?_toArray]
 rw [L8 (by omega)]
 exact k1
theorem tQ (w:World) (ob:Go.Obj):Kept w NoM (w.drew.alloc ob):=eF w ob
theorem DS (w:World) (ob:Go.Obj):(w.drew.alloc ob).heap[w.heap.size]?=some ob:=bU w.drew ob
theorem pj {w:World} {all:List RC} {us:List Value} {t:Tr RC} {e:TypeId} {zv:Value} {z:List RC} {len cap' es nx:Nat} (hn : ι nx=none) (hz:scs zv.cells.toList=some z) (hzs:zv.cells.size=es) (hr:RelL ι all us) (hl:all.length=len * es)
  (ht:∀ i,i < len * es→t.get i=all[i]?) (hc:len≤cap') (hm:cap'≤maxLen) (h0:w0.heap.size≤w.heap.size) :
  RBlk w0 (w.drew.alloc (.cells (us.toArray++Builtin.zeroCells zv.cells (cap' - len)) e)) (ι.set nx ⟨w.heap.size,0,cap' * es⟩) nx (.cells t (len * es)) ∧
  RelV (ι.set nx ⟨w.heap.size,0,cap' * es⟩) (.slice (some ⟨w.heap.size,0,none⟩) len cap') (.one (.sl nx 0 len none es)):=by
 have hlen:=hr.len
 have hsum:len * es+(cap' - len) * es=cap' * es:=by rw [← Lf]; congr 1; omega
 have hzc:(Builtin.zeroCells zv.cells (cap' - len)).size=(cap' - len) * es:=by rw [size_zeroCells,hzs]
 refine ⟨⟨⟨w.heap.size,0,cap' * es⟩,_,e,(0,0),Io.set_self _ _ _,h0,DS w _,?_,?_,A7 _,?_⟩,?_⟩
 ·simp only [Array.size_append,List.size_toArray,hzc]; omega
 ·simp only [Ln]; exact K9 _ hc
 ·have:=CB (ι:=ι) (rest:=(Builtin.zeroCells zv.cells (cap' - len)).toList) ht hl hr
  have e1:(us++(Builtin.zeroCells zv.cells (cap' - len)).toList).toArray=us.toArray++Builtin.zeroCells zv.cells (cap' - len):=by apply MW; simp
  rw [e1] at this
  exact this.mono (Io.set_le hn)
 ·refine RelC.sl (Io.set_self _ _ _) hc ?_ (fun c hc=>by cases hc) hm
  simp
theorem fB (w:World) (ob:Go.Obj):(w.drew.alloc ob).heap.size=w.heap.size+1:=by show (w.heap.push ob).size=_; simp
theorem Eo {t t':TypeId} {x y:Operand} (ho:o.op=.call { callee:=.builtin .append,args:=#[x,y],argTypes:=#[t,t'] }) (htt:t=t') (hS:∀ x∈o.op.operands,RelV ι (a.eval x) (ev x))
  (h:uJ (xW P t) (ev x) (ev y) s=some (v,s')):rp P GL w0 ι a o s v s':=by
 subst htt
 intro w hi ht
 rw [ho] at hS
 have hx:=hS x (by simp [Op.operands,Call.operands])
 have hy:=hS y (by simp [Op.operands,Call.operands])
 have dd:∀ {r:Value} {w':World} {u u':Value},a.eval x=u→a.eval y=u'→(Builtin.append_ #[t,t] o.type #[u,u']).run P w=.ok r w'→(execOp a.eval o).run P w=.ok (.value r) w':=by
  intro r w' u u' e1 e2 h
  simp [execOp,ho,resolve,invoke,builtin,e1,e2,h]
 unfold uJ at h
 split at h
 ·rename_i es c n he hc
  replace h:=ag h; obtain ⟨hcl,h⟩:=h
  have hcl:=A5 hcl
  rw [qt] at hcl
  have hcl:c.length=n * es:=hcl
  unfold xQ at h
  replace h:=ag h; obtain ⟨hok,h⟩:=h
  obtain ⟨e,z,inf,zv,hu,hsz,h1,i1,i2,i3,i4,i5,hz,hzs⟩:=Ai he
  have hlim:∃ m,sm (ev x)=some m∧m+n≤1000000:=by
   unfold Hi at hok
   cases hl:sm (ev x) with
   | none=>rw [hl] at hok; cases hok
   | some m=>rw [hl] at hok; exact ⟨m,rfl,B7 hok⟩
  obtain ⟨m0,hm0,hlim⟩:=hlim
  have hycells:=Fh hi hc hy
  cases n with
  | zero =>
   -- nothing is appended
   cases h
   have hy0:∃ ad k,a.eval y=.slice ad 0 k:=by
    rcases hycells with ⟨_,_,ad,k,hq⟩ | ⟨L,off,k,cs,el,fz,news,hq,_⟩
    ·exact ⟨ad,k,hq⟩
    ·exact ⟨_,k,hq⟩
   obtain ⟨yd,yk,hy0⟩:=hy0
   have hx0:∃ ad m k,a.eval x=.slice ad m k∧m≤k:=by
    unfold sm at hm0
    cases hsl:(ev x).asSl with
    | some q =>
     rw [pk hsl] at hx
     obtain ⟨L,k,_,q2,q3,_⟩:=kb hx
     exact ⟨_,_,k,q2,q3⟩
    | none =>
     rw [hsl] at hm0
     change wj (ev x)=some m0 at hm0
     unfold wj at hm0
     split at hm0
     ·rename_i hv; rw [hv] at hx; obtain ⟨L,o',k,_,q2,_⟩:=ma hx; exact ⟨_,_,k,q2,Nat.zero_le _⟩
     ·rename_i hv; rw [hv] at hx; exact ⟨_,_,_,(gG hx).1,A7 _⟩
     ·cases hm0
   obtain ⟨xd,xm,xk,hx0,hle⟩:=hx0
   refine Does.value (v:=a.eval x) (w':=w) ?_ ⟨ι,Go1.refl hi ht,hx⟩
   rw [hx0]
   refine dd hx0 hy0 ?_
   cases xd <;> cases yd <;> simp [Builtin.append_,run_underlying hu,bS hsz,Builtin.lenOf,Builtin.firstCells,loadCells,loadCellsFrom,hle,storeCells]
  | succ n' =>
   obtain ⟨n,hn⟩ : ∃ n,n=n'+1:=⟨_,rfl⟩
   rw [← hn] at hc hcl hlim hycells
   replace h:sy es (ev x) c n s=some (v,s'):=by rw [hn]; exact h
   have hn1:1≤n:=by omega
   rcases hycells with ⟨_,h0,_⟩ | ⟨Ly,offy,ky,csy,ely,fzy,news,y1,y2,y3,y4,y5,_⟩
   ·omega
   have hnl:news.length=n * es:=by rw [y5.len,hcl]
   have hnews:∀ j u,news[j]?=some u→w.cell? ((⟨Ly.B,Ly.base+offy,none⟩ : Addr).add j)=some u:=by
    intro j u hj
    have hjl:j < c.length:=by have:=(A3.1 hj).1; rw [y5.len] at this; exact this
    rw [bd,bO y2,← seg_getElem? csy _ c.length j hjl,← y3]
    exact hj
   unfold sy at h
   split at h
   ·-- to nothing
    rename_i hv
    rw [hv] at hx hm0
    have e0:0=m0:=B4 hm0
    subst e0
    unfold vN at h
    simp only [OI] at h
    replace h:=eT h; obtain ⟨h,rfl⟩:=h
    obtain ⟨tr,h2,h3⟩:=fH h
    obtain ⟨e1,e2⟩:=dW h3
    have hge:=grownCap_ge w (0+n) 0 e
    have hcm:grownCap w (0+n) 0 e≤maxLen:=grownCap_le_maxLen _ _ _ _ (by unfold maxLen; omega)
    have hrun:=jy (P:=P) (ty:=o.type) (xk:=ky) (olds:=[]) (ad:=none) (n:=0) (cap:=0) hu i1 i2 i3 i4 (w:=w) (by omega) (by omega) (by simp) (fun b hb=>by cases hb) (fun _=>⟨rfl,rfl⟩) hnl hnews
    have hev:=dd (gG hx).1 y1 hrun
    simp only [Ln,LW,Ov] at hev hge hcm
    rw [show (#[]:Array Value)++(news.toArray++Builtin.zeroCells zv.cells (grownCap w n 0 e - n))=news.toArray++Builtin.zeroCells zv.cells (grownCap w n 0 e - n) by simp] at hev
    have hnone:=ht s.nx (A7 _)
    obtain ⟨r1,r2⟩:=pj (w0:=w0) (w:=w) (e:=e) (nx:=s.nx) (t:=tr) hnone hzs i5 y5 hcl (fun i hi'=>by have:=dr h2 i; rw [if_pos (by omega)] at this; simpa using this) hge hcm hi.kept.size
    refine Does.value hev ⟨_,?_,r2⟩
    rw [e1,e2]
    exact Go1.new hi ht (tQ w _) (A7 _) (by rw [fB]; exact Mf _) r1
   ·-- to a slice
    rename_i b off len cap es' hv
    rw [hv] at hx hm0
    have e0:len=m0:=B4 hm0
    subst e0
    replace h:=ag h; obtain ⟨hee,h⟩:=h
    have hee:=A5 hee
    subst hee
    split at h
    ·rename_i tb m hb
     obtain ⟨L,k,q1,q2,q3,q4,q5,q6⟩:=kb hx
     obtain ⟨L',cs,el,fz,b1,b2,b3,b4,b5,b6,b7⟩:=hi.blk b _ hb
     have eL:=B4 (q1.symm.trans b1)
     subst eL
     have hbn:b < s.nx:=NY fun hle=>by have:=ht b hle; rw [q1] at this; cases this
     -- where it grows
     have grow:∀ {s2:RS} {tr tr0:Tr RC},off+len * es≤m→k < len+n→FU tb off (len * es)=some tr0→gP c (len * es) tr0=some tr →
       ∃ r1:RBlk w0 (w.drew.alloc (.cells ((seg cs (L.base+off) (len * es)).toArray++news.toArray++Builtin.zeroCells zv.cells (grownCap w (len+n) k e - (len+n))) e)) (ι.set s.nx ⟨w.heap.size,0,grownCap w (len+n) k e * es⟩) s.nx (.cells tr ((len+n) * es)),
        (execOp a.eval o).run P w=.ok (.value (.slice (some ⟨w.heap.size,0,none⟩) (len+n) (grownCap w (len+n) k e))) (w.drew.alloc (.cells ((seg cs (L.base+off) (len * es)).toArray++news.toArray++Builtin.zeroCells zv.cells (grownCap w (len+n) k e - (len+n))) e)) ∧
        RelV (ι.set s.nx ⟨w.heap.size,0,grownCap w (len+n) k e * es⟩) (.slice (some ⟨w.heap.size,0,none⟩) (len+n) (grownCap w (len+n) k e)) (.one (.sl s.nx 0 (len+n) none es)):=by
      intro s2 tr tr0 g1 g2 g3 g4
      have hol:(seg cs (L.base+off) (len * es)).length=len * es:=cA _ _ _ (by omega)
      have hgath:∃ l,l.length=len * es∧RelL ι l (seg cs (L.base+off) (len * es))∧∀ i,i < len * es→tr0.get i=l[i]?:=by
       unfold FU at g3
       cases off with
       | zero =>
        cases g3
        -- the row as it is
        have hex:∀ q,q≤m→∃ l,sY tb 0 q=some l:=by
         intro q hq
         have:∀ q off,off+q≤m→∃ l,sY tb off q=some l:=by
          intro q
          induction q with
          | zero=>intro off _; exact ⟨[],rfl⟩
          | succ q ih =>
           intro off hoq
           obtain ⟨x1,_,k1,_⟩:=b7 off (by omega)
           obtain ⟨l,hl⟩:=ih (Nat.succ off) (by omega)
           exact ⟨x1 :: l,by unfold sY; rw [k1,hl]⟩
         exact this q 0 (by omega)
        obtain ⟨l,hl⟩:=hex (len * es) (by omega)
        have:=dU hl
        exact ⟨l,this.1,eo b7 hl (by omega),fun i hi'=>by simpa using this.2 i hi'⟩
       | succ off' =>
        simp only at g3
        split at g3
        ·rename_i l hl
         have:=dU hl
         refine ⟨l,this.1,eo b7 hl g1,fun i hi'=>?_⟩
         have h2:=dr g3 i
         rw [if_pos (by omega)] at h2
         simpa using h2
        ·cases g3
      obtain ⟨l,l1,l2,l3⟩:=hgath
      have hge:=grownCap_ge w (len+n) k e
      have hcm:grownCap w (len+n) k e≤maxLen:=grownCap_le_maxLen _ _ _ _ (by unfold maxLen; omega)
      have hrun:=jy (P:=P) (ty:=o.type) (xk:=ky) (ad:=some ⟨L.B,L.base+off,none⟩) (n:=len) (cap:=k) (olds:=seg cs (L.base+off) (len * es)) hu i1 i2 i3 i4 (w:=w) g2 hlim hol (fun b' hb' j u hj=>by
       cases hb'
       have hjl:j < len * es:=by rw [← hol]; exact (A3.1 hj).1
       rw [bd,bO b3,← seg_getElem? cs _ _ j hjl]
       exact hj) (fun hq=>by cases hq) hnl hnews
      have hev:=dd q2 y1 hrun
      have hadd:(len+n) * es=len * es+n * es:=Lf _ _ _
      obtain ⟨r1,r2⟩:=pj (w0:=w0) (w:=w) (e:=e) (nx:=s.nx) (t:=tr) (len:=len+n) (ht s.nx (A7 _)) hzs i5 (l2.append y5) (by simp; omega) (fun i hi'=>by
       have h2:=dr g4 i
       by_cases hil:i < len * es
       ·rw [if_neg (by omega)] at h2
        rw [h2,l3 i hil,L8 (by omega)]
       ·rw [if_pos (by omega)] at h2
        rw [h2,List.getElem?_append_right (by omega),l1]) hge hcm hi.kept.size
      have e3:(seg cs (L.base+off) (len * es)++news).toArray=(seg cs (L.base+off) (len * es)).toArray++news.toArray:=by simp
      rw [e3] at r1
      exact ⟨r1,hev,r2⟩
     unfold H9 at h
     simp only [Nat.add_eq,OI] at h
     split at h
     ·rename_i k0
      have:=q5 k0 rfl
      subst this
      cases hfit:Lh (len+n) k with
      | true =>
       rw [hfit] at h
       replace h:=ag (show cond _ _ none=_ from h); obtain ⟨h2,h⟩:=h
       have hfit:len+n≤k:=B7 hfit
       have h2:off+(len+n) * es≤m:=B7 h2
       replace h:=yL h; obtain ⟨h,rfl⟩:=h
       obtain ⟨t2,h3,h4⟩:=tI h
       have hadd:(len+n) * es=len * es+n * es:=Lf _ _ _
       obtain ⟨L2,cs2,el2,fz2,r1,hfz2,r2,r3,r4,r5,r6⟩:=pA hi ht hb h3 (by omega) h4 y5
       have eL:=B4 (q1.symm.trans r1)
       subst eL
       rw [b3] at r2
       simp only [A1,Obj.cells.injEq] at r2
       obtain ⟨e5,e6,e7⟩:=r2
       subst e5
       have hrun:=mN (P:=P) (ty:=o.type) (xk:=ky) hu hsz b6 b3 hfit (q:=L.base+off) (by omega) hnl r5 hnews
       refine Does.value (dd q2 y1 hrun) ⟨ι,?_,RelC.sl q1 hfit q4 (fun c hc=>B4 hc) q6⟩
       have e4:L.base+off+len * es=L.base+(off+len * es):=by omega
       rw [e4]
       exact r6
      | false =>
       rw [hfit] at h
       replace h:=ag (show cond _ _ none=_ from h); obtain ⟨h2,h⟩:=h
       have h2:off+len * es≤m:=B7 h2
       have hnf:k < len+n:=by
        refine NY fun hle=>?_
        rw [show Lh (len+n) k=true from Nat.ble_eq_true_of_le hle] at hfit
        cases hfit
       replace h:=eT h; obtain ⟨h,rfl⟩:=h
       obtain ⟨tr,h3,h4⟩:=fH h
       unfold Ha at h3
       split at h3
       ·rename_i tr0 h5
        obtain ⟨e1,e2⟩:=dW h4
        obtain ⟨r1,r2,r3⟩:=grow (s2:=s) h2 hnf h5 h3
        refine Does.value r2 ⟨_,?_,r3⟩
        rw [e1,e2]
        exact Go1.new hi ht (tQ w _) (A7 _) (by rw [fB]; exact Mf _) r1
       ·cases h3
     ·replace h:=ag h; obtain ⟨h2,h⟩:=h
      have h2:off+len * es≤m:=B7 h2
      replace h:=eT h; obtain ⟨h,rfl⟩:=h
      obtain ⟨s1,h3,h4⟩:=iZ h
      obtain ⟨d1,d2⟩:=dP h3
      obtain ⟨tr,h5,h6⟩:=fH h4
      unfold Ha at h5
      split at h5
      ·rename_i tr0 h7
       obtain ⟨e1,e2⟩:=dW h6
       rw [d1,d2] at e1
       rw [d2] at e2
       by_cases hfit:len+n≤k
       ·have hadd:(len+n) * es=len * es+n * es:=Lf _ _ _
        have hkm:(len+n) * es≤k * es:=K9 _ hfit
        have hrun:=mN (P:=P) (ty:=o.type) (xk:=ky) hu hsz b6 b3 hfit (q:=L.base+off) (by omega) hnl (y5.one) hnews
        have hw:=bX w L.B (aF cs (L.base+off+len * es) news)
        have hnone:=ht s.nx (A7 _)
        refine Does.value (dd q2 y1 hrun) ⟨ι.set s.nx ⟨L.B,L.base+off,L.n⟩,?_,?_⟩
        ·rw [e1,e2]
         refine Go1.move hi ht hb rfl q1 b2 hw.os hw.tape hw.output (OC hw.size.symm) (fun B _ hB=>hw.block B hB) (.inl rfl) (by rw [hw.size]; exact hi.lt b L q1) hbn ?_
         refine ⟨_,aF cs (L.base+off+len * es) news,el,fz,Io.set_self _ _ _,b2,setRow_heap w L.B cs _ el _ b3,?_,?_,b6,?_⟩
         ·rw [bt _ _ _ (by omega)]; exact b4
         ·show L.base+off+(len+n) * es≤L.n; omega
         ·-- the cells there
          refine RelR.mono (Io.set_le hnone) ?_
          intro i hi'
          have s1:=dr h5 i
          have s2:=cB cs (L.base+off+len * es) news (by omega) (L.base+off+i)
          by_cases hil:i < len * es
          ·rw [if_neg (by omega)] at s1
           rw [if_neg (by omega)] at s2
           rw [s1,s2]
           have hrow:tr0.get i=tb.get (off+i):=by
            unfold FU at h7
            cases off with
            | zero=>cases h7; rw [Ln]
            | succ off' =>
             simp only at h7
             split at h7
             ·rename_i l hl
              have g:=dU hl
              have h2:=dr h7 i
              rw [if_pos (by omega)] at h2
              rw [h2,g.2 i hil]
              simp
             ·cases h7
           rw [hrow]
           obtain ⟨x1,u1,k1,k2,k3⟩:=b7 (off+i) (by omega)
           exact ⟨x1,u1,k1,by rw [← k2]; congr 1; omega,k3⟩
          ·rw [if_pos (by omega)] at s1
           rw [if_pos (by omega)] at s2
           have hlt:i - len * es < c.length:=by omega
           obtain ⟨u1,k1,k2⟩:=y5.get (A2 hlt)
           refine ⟨_,u1,by rw [s1,A2 hlt],?_,k2⟩
           rw [s2]
           have:L.base+off+i - (L.base+off+len * es)=i - len * es:=by omega
           rw [this]
           exact k1
        ·refine RelC.sl (Io.set_self _ _ _) hfit ?_ (fun c hc=>by cases hc) q6
         show L.base+off+0+k * es≤L.n
         omega
       ·obtain ⟨r1,r2,r3⟩:=grow (s2:=s) h2 (by omega) h7 h5
        refine Does.value r2 ⟨_,?_,r3⟩
        rw [e1,e2]
        exact Go1.move hi ht hb rfl q1 b2 rfl rfl rfl (by rw [fB]; omega) (fun B hB _=>fN w.drew _ hB) (.inr (A7 _)) (by rw [fB]; exact Mf _) hbn r1
      ·cases h5
    ·cases h
   ·-- to a slice of no length,whose capacity is not known
    rename_i b es' hv
    rw [hv] at hx hm0
    have e0:0=m0:=B4 hm0
    subst e0
    replace h:=ag h; obtain ⟨hee,h⟩:=h
    have hee:=A5 hee
    subst hee
    split at h
    ·rename_i tb m hb
     obtain ⟨L,o',k,q1,q2,q3,q4,q5⟩:=ma hx
     obtain ⟨L',cs,el,fz,b1,b2,b3,b4,b5,b6,b7⟩:=hi.blk b _ hb
     have eL:=B4 (q1.symm.trans b1)
     subst eL
     have hbn:b < s.nx:=NY fun hle=>by have:=ht b hle; rw [q1] at this; cases this
     unfold DP at h
     simp only [OI] at h
     replace h:=eT h; obtain ⟨h,rfl⟩:=h
     obtain ⟨s1,h3,h4⟩:=iZ h
     obtain ⟨d1,d2⟩:=dP h3
     obtain ⟨tr,h5,h6⟩:=fH h4
     obtain ⟨e1,e2⟩:=dW h6
     rw [d1,d2] at e1
     rw [d2] at e2
     have hnone:=ht s.nx (A7 _)
     by_cases hfit:n≤k
     ·have hkm:n * es≤k * es:=K9 _ hfit
      have hrun:=mN (P:=P) (ty:=o.type) (xk:=ky) (n:=0) hu hsz b6 b3 (by omega) (q:=o') (cap:=k) (by omega) hnl (y5.one) hnews
      simp only [Ln,Nat.zero_mul,L7] at hrun
      have hw:=bX w L.B (aF cs o' news)
      refine Does.value (dd q2 y1 hrun) ⟨ι.set s.nx ⟨L.B,o',L.n⟩,?_,?_⟩
      ·rw [e1,e2]
       refine Go1.move hi ht hb rfl q1 b2 hw.os hw.tape hw.output (OC hw.size.symm) (fun B _ hB=>hw.block B hB) (.inl rfl) (by rw [hw.size]; exact hi.lt b L q1) hbn ?_
       refine ⟨_,aF cs o' news,el,fz,Io.set_self _ _ _,b2,setRow_heap w L.B cs _ el _ b3,?_,?_,b6,?_⟩
       ·rw [bt _ _ _ (by omega)]; exact b4
       ·show o'+n * es≤L.n; omega
       ·refine RelR.mono (Io.set_le hnone) ?_
        intro i hi'
        have hi':i < n * es:=hi'
        have s1:=dr h5 i
        have s2:=cB cs o' news (by omega) (o'+i)
        rw [if_pos (by omega)] at s1
        rw [if_pos (by omega)] at s2
        have hlt:i < c.length:=by omega
        obtain ⟨u1,k1,k2⟩:=y5.get (A2 hlt)
        refine ⟨_,u1,by rw [s1,Nat.sub_zero,A2 hlt],?_,k2⟩
        rw [s2]
        have:o'+i - o'=i:=by omega
        rw [this]
        exact k1
      ·refine RelC.sl (Io.set_self _ _ _) hfit ?_ (fun c hc=>by cases hc) q5
       show o'+0+k * es≤L.n
       omega
     ·have hge:=grownCap_ge w (0+n) k e
      have hcm:grownCap w (0+n) k e≤maxLen:=grownCap_le_maxLen _ _ _ _ (by unfold maxLen; omega)
      have hrun:=jy (P:=P) (ty:=o.type) (xk:=ky) (olds:=[]) (ad:=some ⟨L.B,o',none⟩) (n:=0) (cap:=k) hu i1 i2 i3 i4 (w:=w) (by omega) (by omega) (by simp) (fun b hb j u hj=>by simp at hj) (fun hq=>by cases hq) hnl hnews
      have hev:=dd q2 y1 hrun
      simp only [Ln,LW,Ov] at hev hge hcm
      rw [show (#[]:Array Value)++(news.toArray++Builtin.zeroCells zv.cells (grownCap w n k e - n))=news.toArray++Builtin.zeroCells zv.cells (grownCap w n k e - n) by simp] at hev
      obtain ⟨r1,r2⟩:=pj (w0:=w0) (w:=w) (e:=e) (nx:=s.nx) (t:=tr) hnone hzs i5 y5 hcl (fun i hi'=>by have:=dr h5 i; rw [if_pos (by omega)] at this; simpa using this) hge hcm hi.kept.size
      refine Does.value hev ⟨_,?_,r2⟩
      rw [e1,e2]
      exact Go1.move hi ht hb rfl q1 b2 rfl rfl rfl (by rw [fB]; omega) (fun B hB _=>fN w.drew _ hB) (.inr (A7 _)) (by rw [fB]; exact Mf _) hbn r1
    ·cases h
   ·cases h
 ·cases h
end
end Go.Rx

/-
 The evaluator's operations against the model's: copy, clear, maps.
-/
namespace Go.Rx
open Go.Vm
section
variable {P:Program} {GL:List Nat} {w0:World} {ι : Io} {o:Oper} {a:Act} {ev:Ev} {v:RV} {s s':RS}
theorem CV {b:Nat} {q:Option Ents} (h:IT s b q=some s'):∃ es,q=some es∧iJ s b (.map es)=some s':=by
 unfold IT at h
 split at h
 ·rename_i es; exact ⟨es,rfl,h⟩
 ·cases h
theorem tY {w:World} (hi:RInv GL w0 w ι s.H.get) (ht:∀ b,s.nx≤b→ι b=none) {b:Nat} {es es':Ents} (hb:s.H.get b=some (.map es)) (hset:iJ s b (.map es')=some s') {L:Loc} (hL : ι b=some L) {ents:Array MapEntry} {clock:Nat} {ents':Array MapEntry} {clock':Nat}
  (hh:w.heap[L.B]?=some (.map ents clock)) (hB:w0.heap.size≤L.B) (hr:RelM ι es' ents'.toList) (hst:Stp ents'.toList clock') :
  Go1 GL w0 s.nx w ι s.H.get s'.nx { w with heap:=w.heap.setIfInBounds L.B (.map ents' clock') } ι s'.H.get:=by
 obtain ⟨e1,e2⟩:=dP hset
 rw [e1,e2]
 have hlt:L.B < w.heap.size:=hi.lt b L hL
 refine Go1.write hi ht hb rfl hL hB rfl rfl rfl (by simp) (fun B hne=>by simp [Array.getElem?_setIfInBounds_ne (Ne.symm hne)]) ⟨L,ents',clock',hL,hB,?_,hr,hst⟩
 simp [hlt]
theorem yH {x:RV} {c:Bool×List RC} {u:Value} (h:AC x=some c) (hr:RelV ι u x):∃ us,u=da c.1 us∧RelL ι c.2 us∧(c.1=false→c.2.length=1):=by
 unfold AC at h
 split at h
 ·cases h; exact ⟨[u],rfl,.cons hr .nil,fun _=>rfl⟩
 ·cases h; obtain ⟨us,h1,h2⟩:=hr; exact ⟨us,by simpa [da] using h1,h2,fun h=>by cases h⟩
 ·cases h
theorem uj:∀ {l:Ents} {es:List MapEntry} {k:Value} {c:Bool×List RC} {us:List Value} {born:Nat},RelM ι l es→RelL ι c.2 us→(c.1=false→c.2.length=1) →
  RelM ι (l++[(k,c)]) (es++[{ key:=k,val:=da c.1 us,born:=born }])
 | _,_,k,c,us,born,.nil,hr,hg=>by obtain ⟨g,l⟩:=c; exact .cons rfl rfl hr hg .nil
 | _,_,k,c,us,born,.cons hk hv h hg' t,hr,hg=>.cons hk hv h hg' (uj t hr hg)
theorem wX:∀ {l:Ents} {es:List MapEntry} {i:Nat} {k:Value} {c:Bool×List RC} {us:List Value},RelM ι l es→RelL ι c.2 us→(c.1=false→c.2.length=1) →
  RelM ι (l.set i (k,c)) (es.modify i fun e=>{ e with key:=k,val:=da c.1 us })
 | _,_,i,k,c,us,.nil,hr,hg=>by simp; exact .nil
 | _,_,i,k,c,us,.cons hk hv h hg' t,hr,hg=>by
  cases i with
  | zero=>obtain ⟨g,l⟩:=c; simp; exact .cons rfl rfl hr hg t
  | succ i=>simpa using RelM.cons hk hv h hg' (wX (i:=i) (k:=k) t hr hg)
theorem EL {es:List MapEntry} {k u:Value} {clock:Nat} (h:Stp es clock):Stp (es++[{ key:=k,val:=u,born:=clock }]) (clock+1):=by
 obtain ⟨h1,h2⟩:=h
 refine ⟨?_,fun x hx=>?_⟩
 ·rw [List.map_append,List.pairwise_append]
  refine ⟨h1,by simp,fun a ha b hb=>?_⟩
  obtain ⟨x,hx,rfl⟩:=MO.1 ha
  simp at hb
  subst hb
  exact h2 x hx
 ·rcases List.mem_append.1 hx with hx | hx
  ·exact Nat.lt_succ_of_lt (h2 x hx)
  ·simp at hx; subst hx; exact Mf _
theorem pT {f:MapEntry→MapEntry} (hf:∀ e,(f e).born=e.born):∀ (es:List MapEntry) (i:Nat),(es.modify i f).map (·.born)=es.map (·.born)
 | [],i=>by simp
 | e :: r,0=>by simp [hf]
 | e :: r,i+1=>by simp [pT hf r i]
theorem wb {es es':List MapEntry} {clock:Nat} (h:Stp es clock) (hs:(es'.map (·.born)).Sublist (es.map (·.born))):Stp es' clock:=by
 refine ⟨h.1.sublist hs,fun x hx=>?_⟩
 obtain ⟨y,hy,e⟩:=MO.1 (hs.subset (MO.2 ⟨x,hx,rfl⟩))
 rw [← e]; exact h.2 y hy
theorem wH {t:TypeId} {x ix y:Operand} (ho:o.op=.mapUpdate t x ix y) (hS:∀ x∈o.op.operands,RelV ι (a.eval x) (ev x)) (h:DV (mW P t (ev x) (ev ix) (ev y) s)=some (v,s')):rp P GL w0 ι a o s v s':=by
 intro w hi ht
 rw [ho] at hS
 have hx:=hS x (by simp [Op.operands])
 have hix:=hS ix (by simp [Op.operands])
 have hy:=hS y (by simp [Op.operands])
 replace h:=uA h; obtain ⟨h,rfl⟩:=h
 unfold mW at h
 split at h
 ·rename_i kt vt b k hu hv hk
  rw [hv] at hx
  have ek:=eJ hk hix
  split at h
  ·rename_i es c hb hc
   obtain ⟨es',h1,h2⟩:=CV h
   obtain ⟨L,ents,clock,r1,r2,r3,r4,r5⟩:=hi.blk b _ hb
   obtain ⟨L',q1,q2⟩:=v7 hx
   have eL:=B4 (r1.symm.trans q1)
   subst eL
   obtain ⟨us,e1,e2,e3⟩:=yH hc hy
   unfold E5 at h1
   split at h1
   ·-- a new key
    rename_i hidx
    cases h1
    obtain ⟨c1,q,c2,c3,c4⟩:=sx hidx r4
    have hq:q=none:=by cases q with | none=>rfl | some p=>simp at c3
    subst hq
    have hr:=uj (k:=k) (c:=c) (us:=us) (born:=clock) r4 e2 e3
    have:=tY (ents':=ents.push { key:=k,val:=da c.1 us,born:=clock }) (clock':=clock+1) hi ht hb h2 r1 r3 r2 (by simpa using hr) (by simpa using EL r5)
    refine Does.skip ?_ ⟨ι,this,trivial⟩
    simp [execOp,ho,Instr.mapUpdate,run_underlying hu,q2,ek,il r3,c1,c2,e1,qM _ r3]
   ·rename_i i hidx
    split at h1
    ·rename_i k' hst
     cases h1
     obtain ⟨c1,q,c2,c3,c4⟩:=sx hidx r4
     obtain ⟨p,hp⟩ : ∃ p,q=some p:=by cases q with | none=>simp at c3 | some p=>exact ⟨p,rfl⟩
     subst hp
     simp only [Option.map_some,A1] at c3
     unfold Hx at hst
     split at hst
     ·rename_i e he
      split at hst
      ·rename_i k1 hk1
       obtain ⟨_,hst⟩:=ag hst
       cases hst
       obtain ⟨e',s1,s2,_⟩:=sV r4 he
       have hr:=wX (i:=i) (k:=k') (c:=c) (us:=us) r4 e2 e3
       have:=tY (ents':=ents.modify i fun e=>{ e with key:=k',val:=da c.1 us }) (clock':=clock) hi ht hb h2 r1 r3 r2 (by simpa using hr) (wb r5 (by rw [Array.toList_modify,pT (f:=fun e=>{ e with key:=k',val:=da c.1 us }) (fun _=>rfl)]; exact NG _))
       refine Does.skip ?_ ⟨ι,this,trivial⟩
       have hstay:=de hk1 w
       rw [← s2] at hstay
       have s1':ents[i]?=some e':=by simpa using s1
       simp [execOp,ho,Instr.mapUpdate,run_underlying hu,q2,ek,il r3,c1,c2,c3,s1',hstay,e1,qM _ r3]
      ·cases hst
     ·cases hst
    ·cases h1
   ·cases h1
  ·cases h
 ·cases h
end
end Go.Rx

/-
 The evaluator's operations against the model's: all of them.
-/
namespace Go.Rx
open Go.Vm
def jW (P:Program) (GL:List Nat) (call:Call1):Prop:=∀ f args s v s',call f args s=some (v,s')→∀ w0 w ι us,RInv GL w0 w ι s.H.get→(∀ b,s.nx≤b→ι b=none)→All2 (fun u v=>RelV ι u v) us args →
 Goes P f us.toArray w fun u w'=>∃ ι',Go1 GL w0 s.nx w ι s.H.get s'.nx w' ι' s'.H.get∧RelV ι' u v
section
variable {P:Program} {GL:List Nat} {w0:World} {ι : Io} {o:Oper} {a:Act} {ev:Ev} {v:RV} {s s':RS}
theorem bL {b:Bool} {x y z:RK} (h:cond b x y=z):x=z∨y=z:=by cases b; exact .inr h; exact .inl h
theorem iu {α : Type} {l:Array α} {x : α} (h:l.toList=[x]):l=#[x]:=MW (by simpa using h)
theorem jc {α : Type} {l:Array α} {x y : α} (h:l.toList=[x,y]):l=#[x,y]:=MW (by simpa using h)
theorem KJ {x:Operand} (hk:rk P o=.m x) (hS:∀ x∈o.op.operands,RelV ι (a.eval x) (ev x)):gM P ι a o (ev x):=by
 intro w
 unfold rk at hk
 split at hk <;> first
  | (cases hk; done)
  | (rename_i y ho
     cases hk
     rw [ho] at hS
     exact ⟨_,by simp [execOp,ho],hS x (by simp [Op.operands])⟩)
  | skip
 ·unfold rh at hk; split at hk <;> cases hk
 ·unfold AG at hk; split at hk <;> cases hk
 ·unfold mZ at hk
  split at hk <;> first | (cases hk; done) | skip
  all_goals first
   | (split at hk <;> cases hk; done)
   | (rcases bL hk with hk | hk <;> first | (cases hk; done) | (rcases bL hk with hk | hk <;> cases hk))
theorem KG {f:Ev→Option RV} (hk:rk P o=.v f) (h:f ev=some v) (hS:∀ x∈o.op.operands,RelV ι (a.eval x) (ev x)):gM P ι a o v:=by
 unfold rk at hk
 split at hk <;> first | (cases hk; done) | skip
 ·rename_i ho; cases hk; exact Ix ho hS h
 ·rename_i ho; cases hk; exact Gs ho hS h
 ·rename_i ho; cases hk; exact yR ho hS h
 ·rename_i ho
  unfold rh at hk
  split at hk
  ·rename_i g hg
   cases hk
   exact Er hg ho hS h
  ·cases hk; exact qh ho hS h
 ·rename_i ho
  unfold AG at hk
  split at hk
  ·cases hk; exact JO ho hS h
  ·cases hk; exact Fg ho hS h
 ·rename_i ho
  unfold FE at hk
  cases hk; exact CE ho hS h
 ·rename_i ho; cases hk; exact Aw ho hS h
 ·rename_i ho; cases hk; exact GU ho hS h
 ·rename_i ho; cases hk; exact xq ho hS h
 ·rename_i ho; cases hk; exact G9 ho hS h
 ·rename_i ho; cases hk; exact yr ho hS h
 ·rename_i ho; cases hk; exact Gp ho hS h
 ·rename_i ho; cases hk; exact Cw ho hS h
 ·rename_i ho
  unfold mZ at hk
  split at hk <;> first | (cases hk; done) | skip
  ·rename_i x t ha ht
   rw [iu ha,iu ht] at ho
   split at hk
   ·cases hk
   ·rename_i k _
    cases hk
    exact JY ho hS h
  ·cases hk
   exact Ec ho (fun vs c=>rfl) hS h
  ·cases hk
   exact Ec ho (fun vs c=>rfl) hS h
  ·rcases bL hk with hk | hk <;> first | (cases hk; done) | (rcases bL hk with hk | hk <;> cases hk)
  ·rcases bL hk with hk | hk <;> first | (cases hk; done) | (rcases bL hk with hk | hk <;> cases hk)
  ·rename_i x t ha ht
   rw [iu ha,iu ht] at ho
   cases hs:Ba P t with
   | true=>rw [hs] at hk; cases hk; exact I5 ho hS hs h
   | false=>rw [hs] at hk; cases hk
theorem Jr {x:Operand} {f:Option RO→Ev→Option RV} (hk:rk P o=.r x f):x∈o.op.operands:=by
 unfold rk at hk
 split at hk <;> first | (cases hk; done) | skip
 ·rename_i ho; cases hk; rw [ho]; simp [Op.operands]
 ·unfold rh at hk; split at hk <;> cases hk
 ·unfold AG at hk; split at hk <;> cases hk
 ·rename_i ho; cases hk; rw [ho]; simp [Op.operands]
 ·rename_i ho
  unfold mZ at hk
  split at hk <;> first | (cases hk; done) | skip
  ·rename_i y t ha ht
   split at hk
   ·cases hk; rw [ho,iu ha]; simp [Op.operands,Call.operands]
   ·cases hk
  all_goals (rcases bL hk with hk | hk <;> first | (cases hk; done) | (rcases bL hk with hk | hk <;> cases hk))
theorem KF {w:World} {x:Operand} {f:Option RO→Ev→Option RV} {ob:Option RO} (hk:rk P o=.r x f) (h:f ob ev=some v) (hS:∀ x∈o.op.operands,RelV ι (a.eval x) (ev x)) (hb:nS w0 w ι (ev x) ob) :
  ∃ u,(execOp a.eval o).run P w=.ok (.value u) w∧RelV ι u v:=by
 unfold rk at hk
 split at hk <;> first | (cases hk; done) | skip
 ·rename_i ho; cases hk; exact Ij ho hS hb h
 ·unfold rh at hk; split at hk <;> cases hk
 ·unfold AG at hk; split at hk <;> cases hk
 ·rename_i ho; cases hk; exact EW ho hS hb h
 ·rename_i ho
  unfold mZ at hk
  split at hk <;> first | (cases hk; done) | skip
  ·rename_i y t ha ht
   rw [iu ha,iu ht] at ho
   split at hk
   ·rename_i hl
    cases hk
    obtain ⟨k,e,hu⟩ : ∃ k e,P.underlying t=some (.map k e):=by
     unfold GF at hl
     split at hl <;> first | (cases hl; done) | skip
     rename_i k e hu
     exact ⟨k,e,hu⟩
    exact ES hu ho hS hb h
   ·cases hk
  all_goals (rcases bL hk with hk | hk <;> first | (cases hk; done) | (rcases bL hk with hk | hk <;> cases hk))
theorem Kx {f:Ev→Option PR} {ob:RO} (hk:rk P o=.b f) (h:f ev=some (.new ob v)) (hS:∀ x∈o.op.operands,RelV ι (a.eval x) (ev x)):yY P ι a o ob v:=by
 unfold rk at hk
 split at hk <;> first | (cases hk; done) | skip
 ·rename_i ho; cases hk; exact Gq ho h
 ·rename_i ho; cases hk; exact Jb ho hS h
 ·rename_i ho; cases hk; exact wc ho hS h
 ·unfold rh at hk; split at hk <;> cases hk
 ·unfold AG at hk; split at hk <;> cases hk
 ·rename_i ho; cases hk; cases h; exact Cc ho
 ·rename_i ho; cases hk; exact ye ho hS h
 ·rename_i ho
  unfold mZ at hk
  split at hk <;> first | (cases hk; done) | skip
  ·split at hk <;> cases hk
  ·rename_i bx x t t' ha hts
   rw [jc ha,jc hts] at ho
   by_cases htt:t=t'
   ·rw [decide_eq_true htt] at hk; cases hk
   ·rw [decide_eq_false htt] at hk
    cases hk
  all_goals (rcases bL hk with hk | hk <;> first | (cases hk; done) | (rcases bL hk with hk | hk <;> cases hk))
theorem En {call:Call1} (hC:jW P GL call) {g:Operand} {args:Array Operand} {ts:Array TypeId} (ho:o.op=.call { callee:=.value g,args:=args,argTypes:=ts }) (hS:∀ x∈o.op.operands,RelV ι (a.eval x) (ev x))
  (h:EO call (ev g) (args.toList.map ev) s=some (v,s')):rp P GL w0 ι a o s v s':=by
 intro w hi ht
 rw [ho] at hS
 have hg:=hS g (by simp [Op.operands,Call.operands])
 have hargs:=p9 (a:=a) (ι:=ι) (ev:=ev) (xs:=args.toList) fun x hx=>hS x (by simp [Op.operands,Call.operands]; exact .inr (by simpa using hx))
 unfold EO at h
 split at h
 ·rename_i f sh k cells hf
  rw [hf] at hg
  obtain ⟨us,h1,h2⟩:=Ao hg
  unfold wy at h
  split at h
  ·rename_i l hl
   have hl:=qT hl h1
   have take:∀ {n:Nat} {us:List Value} {l:List RV},All2 (fun u v=>RelV ι u v) us l→All2 (fun u v=>RelV ι u v) (us.take n) (l.take n):=by
    intro n
    induction n with
    | zero=>intro us l h; exact .nil
    | succ n ih=>intro us l h; cases h with
     | nil=>exact .nil
     | cons h t=>exact .cons h (ih t)
   have drop:∀ {n:Nat} {us:List Value} {l:List RV},All2 (fun u v=>RelV ι u v) us l→All2 (fun u v=>RelV ι u v) (us.drop n) (l.drop n):=by
    intro n
    induction n with
    | zero=>intro us l h; exact h
    | succ n ih=>intro us l h; cases h with
     | nil=>exact .nil
     | cons h t=>exact ih t
   have app:∀ {us us':List Value} {l l':List RV},All2 (fun u v=>RelV ι u v) us l→All2 (fun u v=>RelV ι u v) us' l'→All2 (fun u v=>RelV ι u v) (us++us') (l++l'):=by
    intro us us' l l' h1 h2
    induction h1 with
    | nil=>exact h2
    | cons h t ih=>exact .cons h ih
   have hgo:=hC _ _ _ _ _ h w0 w ι _ hi ht (app (app (take (n:=k) hl) hargs) (drop (n:=k) hl))
   have e:((dh sh us).take k).toArray++(args.map a.eval++((dh sh us).drop k).toArray)=(((dh sh us).take k++args.toList.map a.eval)++(dh sh us).drop k).toArray:=by
    apply MW; simp
   have run:∀ w,(execOp a.eval o).run P w=(callFunc f (((dh sh us).take k++args.toList.map a.eval)++(dh sh us).drop k).toArray).run P w:=by
    intro w
    rw [← e]
    simp [execOp,ho,resolve,Deferred.ofValue,h2,invoke]
   rcases hgo with ⟨g1,g2⟩ | ⟨u,w',g1,g2⟩
   ·exact Does.call (by rw [run,g1]) g2
   ·exact Does.value (by rw [run,g1]) g2
  ·cases h
 ·cases h
def isC (k:RK):Bool:=match k with
 | .m _=>false
 | .v _=>false
 | .r _ _=>false
 | .b _=>false
 | _=>true
def xB (k:RK):Bool:=match k with
 | .r _ _=>true
 | .b _=>true
 | _=>false
theorem JX {call:Call1} (hC:jW P GL call) (h:rc P call (rk P o) ev s=some (v,s')) (hS:∀ x∈o.op.operands,RelV ι (a.eval x) (ev x)):rp P GL w0 ι a o s v s':=by
 generalize hk:rk P o=k at h
 unfold rk at hk
 split at hk <;> first | (subst hk; cases h; done) | skip
 ·unfold rh at hk; split at hk <;> (subst hk; cases h)
 ·unfold AG at hk; split at hk <;> (subst hk; cases h)
 ·rename_i ho; subst hk; exact G5 ho hS h
 ·rename_i ho; subst hk; exact wH ho hS h
 ·rename_i ho
  unfold mZ at hk
  split at hk <;> first | (subst hk; cases h; done) | skip
  ·split at hk <;> (subst hk; cases h)
  ·rename_i x y t t' ha ht
   rw [jc ha,jc ht] at ho
   by_cases htt:t=t'
   ·rw [decide_eq_true htt] at hk
    subst hk
    exact Eo ho htt hS h
   ·rw [decide_eq_false htt] at hk
    subst hk; cases h
  ·rename_i x y t t' ha ht
   rw [jc ha,jc ht] at ho
   by_cases htt:t=t'
   ·rw [decide_eq_true htt] at hk
    subst hk
    cases h
   ·rw [decide_eq_false htt] at hk
    subst hk
    cases h
  ·rcases bL hk with hk | hk <;> (subst hk; cases h)
 ·rename_i ho; subst hk; exact En hC ho hS h
end
end Go.Rx

