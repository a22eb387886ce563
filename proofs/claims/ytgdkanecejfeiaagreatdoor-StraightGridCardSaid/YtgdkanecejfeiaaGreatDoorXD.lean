/-
 Operations: append, copy, maps, calls.
-/
import Derived.Test.YtgdkanecejfeiaaGreatDoorXC
import Derived.Test.YtgdkanecejfeiaaGreatDoorVmB
open List renaming getElem?_eq_getElem→gr,getElem?_eq_some_iff→A2,nil_append→MF,getElem?_append_left→MS,mem_map→Nv
open Option.some renaming injEq→A1,inj→B6
open Bool renaming and_eq_true→A3
open Nat renaming eq_of_beq_eq_true→A4,le_refl→A7,le_of_ble_eq_true→B5,mul_le_mul_right→LW,add_mul→L4,ble→L6,zero_add→L9,lt_succ_self→MY,add_zero→M4,lt_of_not_le→Oq,le_of_eq→Pv,mul_eq→PB
open Prod.mk renaming injEq→Mg
open Array renaming ext'→NN,append_assoc→Pn
open List.Sublist renaming refl→PN
set_option linter.unusedVariables false
set_option linter.unusedSimpArgs false
/-
 The evaluator's operations against the model's: what writes.
-/
namespace Go.Rx
open Go.Vm
theorem dz {s s':RS} {b:Nat} {o:RO} (h:hZ s b o=some s'):s'.H.get=Hp.set s.H.get b o∧s'.nx=s.nx:=by
 unfold hZ at h
 rw [Tr.putK_eq] at h
 split at h
 ·rename_i u hu
  cases h
  refine ⟨?_,rfl⟩
  funext j
  rw [Tr.get_put (t:=s.H) hu j]
  simp only [Hp.set,eq_comm]
 ·cases h
theorem eu {R:Type} (n:Nat) (K:Nat→R):nQ n K=K n:=by cases n <;> rfl
theorem uv {R:Type} {s:RS} {b:Nat} {r:Option R} {x:R} (h:wC s b none r=some x):s.H.get b=none∧r=some x:=by
 unfold wC at h
 cases hg:s.H.get b with
 | none=>rw [hg] at h; exact ⟨rfl,h⟩
 | some o=>rw [hg] at h; cases h
theorem dy {s s':RS} {o:RO} (h:s6 s o=some s'):s'.H.get=Hp.set s.H.get s.nx o∧s'.nx=s.nx+1:=by
 unfold s6 at h
 rw [eu] at h
 replace h:=(uv h).2
 rw [Tr.putK_eq] at h
 split at h
 ·rename_i u hu
  cases h
  refine ⟨?_,rfl⟩
  funext j
  rw [Tr.get_put (t:=s.H) hu j]
  simp only [Hp.set,eq_comm]
 ·cases h
theorem uw {s s':RS} {b n:Nat} {t:Option (Tr RC)} (h:CL s b n t=some s'):∃ t',t=some t'∧hZ s b (.cells t' n)=some s':=by
 unfold CL at h
 split at h
 ·rename_i t'; exact ⟨t',rfl,h⟩
 ·cases h
theorem fc {s s':RS} {n:Nat} {t:Option (Tr RC)} (h:yn s n t=some s'):∃ t',t=some t'∧s6 s (.cells t' n)=some s':=by
 unfold yn at h
 split at h
 ·rename_i t'; exact ⟨t',rfl,h⟩
 ·cases h
section
variable {P:Program} {GL:List Nat} {w0:World} {ι : Io} {o:Oper} {a:Act} {ev:Ev} {v:RV} {s s':RS}
def so (P:Program) (GL:List Nat) (w0:World) (ι : Io) (a:Act) (o:Oper) (s:RS) (v:RV) (s':RS):Prop:=∀ w,RInv GL w0 w ι s.H.get→(∀ b,s.nx≤b→ι b=none) →
 Does P o a w fun u w'=>∃ ι',Go1 GL w0 s.nx w ι s.H.get s'.nx w' ι' s'.H.get∧RelV ι' u v
theorem xl {t t':Tr RC} {m off base:Nat} {c:Array Value} {l:List RC} {us:List Value} (hR:RelR ι t m c base) (hs:fZ l off t=some t') (hr:RelL ι l us) (hm:base+m≤c.size) (hle:off+l.length≤m) :
  RelR ι t' m (aB c (base+off) us) base:=by
 have hlen:=hr.len
 intro i hi
 have h1:=cW hs i
 have h2:=ch c (base+off) us (by omega) (base+i)
 by_cases hin:off≤i∧i < off+l.length
 ·rw [if_pos hin] at h1
  rw [if_pos (by omega)] at h2
  have hlt:i - off < l.length:=by omega
  rw [gr hlt] at h1
  obtain ⟨u,k1,k2⟩:=hr.get (gr hlt)
  refine ⟨_,u,h1,?_,k2⟩
  rw [h2]
  have:base+i - (base+off)=i - off:=by omega
  rw [this,k1]
 ·rw [if_neg hin] at h1
  rw [if_neg (by omega)] at h2
  rw [h1,h2]
  exact hR i hi
theorem pn {w:World} (hi:RInv GL w0 w ι s.H.get) (ht:∀ b,s.nx≤b→ι b=none) {b m off:Nat} {t t':Tr RC} {c:List RC} {us:List Value} (hb:s.H.get b=some (.cells t m)) (hs:fZ c off t=some t')
  (hle:off+c.length≤m) (hset:hZ s b (.cells t' m)=some s') (hr:RelL ι c us):∃ L cs el fz,ι b=some L∧fz.2≤fz.1∧w.heap[L.B]?=some (.cells cs el fz)∧cs.size=L.n∧L.base+off+us.length≤cs.size∧(∀ u∈us,u.oneCell'=true) ∧
   Go1 GL w0 s.nx w ι s.H.get s'.nx (w.setRow L.B (aB cs (L.base+off) us)) ι s'.H.get:=by
 obtain ⟨L,cs,el,fz,h1,h2,h3,h4,h5,h6,h7⟩:=hi.blk b _ hb
 have hlen:=hr.len
 have hw:=bL w L.B (aB cs (L.base+off) us)
 obtain ⟨e1,e2⟩:=dz hset
 refine ⟨L,cs,el,fz,h1,h6,h3,h4,by omega,hr.one,?_⟩
 rw [e1,e2]
 refine Go1.write hi ht hb rfl h1 h2 hw.os hw.tape hw.output hw.size hw.block ⟨L,aB cs (L.base+off) us,el,fz,h1,h2,setRow_heap w L.B cs _ el _ h3,?_,h5,h6,xl h7 hs hr (by omega) hle⟩
 rw [aY _ _ _ (by omega),h4]
theorem tm {q:Option RS} (h:Gv q=some (v,s')):q=some s'∧v=.unk:=by
 cases q with
 | none=>cases h
 | some x=>cases h; exact ⟨rfl,rfl⟩
theorem Dq:RelV ι (.tuple #[]) rundef:=⟨[],rfl,.nil⟩
theorem GS {t:TypeId} {x y:Operand} (ho:o.op=.store t x y) (hS:∀ x∈o.op.operands,RelV ι (a.eval x) (ev x)) (h:Gv (Al (dv P t) (ev x) (ev y) s)=some (v,s')):so P GL w0 ι a o s v s':=by
 intro w hi ht
 rw [ho] at hS
 have hx:=hS x (by simp [Op.operands])
 have hy:=hS y (by simp [Op.operands])
 replace h:=tm h; obtain ⟨h,rfl⟩:=h
 unfold Al at h
 replace h:=bi h rfl; obtain ⟨n,h1,h⟩:=h
 replace h:=bi h rfl; obtain ⟨⟨b,off⟩,h2,h⟩:=h
 replace h:=bi h rfl; obtain ⟨c,h3,h⟩:=h
 unfold KP at h
 replace h:=bi h rfl; obtain ⟨⟨t',m⟩,h4,h⟩:=h
 replace h:=ag h; obtain ⟨h5,h⟩:=h
 simp only [A3] at h5
 have h6:=A4 h5.1
 have h7:off+n≤m:=B5 h5.2
 obtain ⟨t2,h8,h9⟩:=uw h
 obtain ⟨ob,k1,k2⟩:=bi h4 rfl
 have hb:s.H.get b=some (.cells t' m):=by
  rw [k1]
  cases ob <;> simp [RO.asC] at k2
  obtain ⟨rfl,rfl⟩:=k2
  rfl
 rw [eY h2] at hx
 obtain ⟨L',q1,q2⟩:=dZ hx
 obtain ⟨us,q3,q4⟩:=ln h3 hy
 have hlen:=q4.len
 obtain ⟨L,cs,el,fz,r1,hfz,r2,r3,r4,r5,r6⟩:=pn hi ht hb h8 (by omega) h9 q4
 have e:=B6 (r1.symm.trans q1)
 subst e
 refine Does.skip (w':=w.setRow L.B (aB cs (L.base+off) us)) ?_ ⟨ι,r6,trivial⟩
 have hst:=ct (P:=P) (te:=.bool) L.B (L.base+off) el fz us 0 cs w r2 (.inl hfz) (by omega) r5
 simp only [M4] at hst
 have hst:(storeCells ⟨L.B,L.base+off,none⟩ us).run P w=.ok () (w.setRow L.B (aB cs (L.base+off) us)):=hst
 have hsz:us.length=n:=by omega
 simp [execOp,ho,q2,Instr.storeAt,Instr.sureAddr,storeVar,q3,bI h1,hsz,hst]
theorem DZ {w:World} (hi:RInv GL w0 w ι s.H.get) {x:RV} {u:Value} {c:List RC} {n:Nat} (h:cA s x=some (c,n)) (hx:RelV ι u x) :
  (c=[]∧n=0∧∃ ad k,u=.slice ad 0 k)∨∃ (L:Loc) (off k:Nat) (cs:Array Value) (el:TypeId) (fz:Nat×Nat) (news:List Value),u=.slice (some ⟨L.B,L.base+off,none⟩) n k∧w.heap[L.B]?=some (.cells cs el fz)∧news=seg cs (L.base+off) c.length∧L.base+off+c.length≤cs.size∧RelL ι c news ∧
   ∃ es,c.length=n * es:=by
 unfold cA at h
 split at h
 ·cases h; exact .inl ⟨rfl,rfl,none,0,(fN hx).1⟩
 ·cases h; obtain ⟨L,o',k,q1,q2,_⟩:=lz hx; exact .inl ⟨rfl,rfl,_,k,q2⟩
 ·rename_i b off len cap es
  split at h
  ·rename_i l hl
   simp only [A1,Mg] at h
   obtain ⟨rfl,rfl⟩:=h
   obtain ⟨t,m,k1,k2,k3⟩:=cR hl
   obtain ⟨o',k4,k5⟩:=dk k1
   obtain ⟨L,cs,el,fz,r1,r2,r3,r4,r5⟩:=ew k5 (hi.blk b o' k4)
   obtain ⟨L',k,q1,q2,q3,q4,q5,q6⟩:=jh hx
   have e:=B6 (r1.symm.trans q1)
   subst e
   have hlen:=(dE k3).1
   have:=dO r5 k3 k2
   refine .inr ⟨L,off,k,cs,el,fz,_,q2,r2,rfl,?_,by rw [hlen]; exact this,es,hlen⟩
   rw [hlen]
   have:off+len * es≤m:=k2
   change L.base+off+len * es≤_
   omega
  ·cases h
 ·cases h
theorem AA {t:TypeId} {es:Nat} (h:x6 P t=some es):∃ e z inf zv,P.underlying t=some (.slice e)∧dv P e=some es∧1≤es∧P.info? e=some inf∧inf.size=es∧inf.bytes≤100000∧inf.zero=some zv∧zv.cells.size=es∧gT P e=some z∧scs zv.cells.toList=some z:=by
 unfold x6 at h
 split at h
 ·rename_i e he
  split at h
  ·rename_i n z hn hz
   obtain ⟨h1,h2⟩:=ag h
   cases h2
   simp only [A3] at h1
   obtain ⟨inf,i1,i2,i3⟩:=gv hn
   have hz':=hz
   unfold gT at hz
   rw [i1] at hz
   simp only at hz
   split at hz
   ·rename_i zv hzv
    have hl:=(i8 (ι:=fun _=>none) hz).len
    have:=A4 h1.2
    exact ⟨e,z,inf,zv,dw he,hn,B5 h1.1,i1,i2,i3,hzv,by simp at hl; omega,hz',hz⟩
   ·cases hz
  ·cases h
 ·cases h
theorem mK {t ty e:TypeId} {es n k cap B q xk:Nat} {xa:Addr} {news:List Value} {cs:Array Value} {el:TypeId} {fz:Nat×Nat} (hu:P.underlying t=some (.slice e)) (hs:dv P e=some es) {w:World}
  (hfz:fz.2≤fz.1) (hh:w.heap[B]?=some (.cells cs el fz)) (hfit:n+k≤cap) (hc:q+cap * es≤cs.size) (hl:news.length=k * es) (hone:∀ u∈news,u.oneCell'=true) (hnews:∀ j v,news[j]?=some v→w.cell? (xa.add j)=some v) :
  (Builtin.append_ #[t,t] ty #[.slice (some ⟨B,q,none⟩) n cap,.slice (some xa) k xk]).run P w=.ok (.slice (some ⟨B,q,none⟩) (n+k) cap) (w.setRow B (aB cs (q+n * es) news)):=by
 have hmul:n * es+k * es≤cap * es:=by rw [← L4]; exact LW _ hfit
 have hfc:=run_firstCells_some (P:=P) w es k xa k xk news hl hnews
 have hst:=ct (P:=P) (te:=.bool) B (q+n * es) el fz news 0 cs w hh (.inl hfz) (by omega) hone
 simp only [M4] at hst
 have hst:(storeCells ⟨B,q+n * es,none⟩ news).run P w=.ok () (w.setRow B (aB cs (q+n * es) news)):=hst
 simp [Builtin.append_,run_underlying hu,bI hs,Builtin.lenOf,hfc,hfit,aU,hst]
theorem jc {t ty e:TypeId} {es n k cap xk:Nat} {ad:Option Addr} {xa:Addr} {olds news:List Value} {inf:TypeInfo} {zv:Value} (hu:P.underlying t=some (.slice e)) (h1:P.info? e=some inf) (h2:inf.size=es) (h3:inf.bytes≤100000)
  (h4:inf.zero=some zv) {w:World} (hg:cap < n+k) (hlim:n+k≤1000000) (hol:olds.length=n * es) (hold:∀ b,ad=some b→∀ j v,olds[j]?=some v→w.cell? (b.add j)=some v) (hnil:ad=none→n=0∧cap=0)
  (hl:news.length=k * es) (hnews:∀ j v,news[j]?=some v→w.cell? (xa.add j)=some v) :
  (Builtin.append_ #[t,t] ty #[.slice ad n cap,.slice (some xa) k xk]).run P w =
   .ok (.slice (some ⟨w.heap.size,0,none⟩) (n+k) (grownCap w (n+k) cap e)) (w.drew.alloc (.cells (olds.toArray++news.toArray++Builtin.zeroCells zv.cells (grownCap w (n+k) cap e - (n+k))) e)):=by
 have hfits:Builtin.nextslicecap (n+k) cap * inf.bytes≤281474976710656:=growslice_fits hg (by
  have:(n+k) * inf.bytes≤1000000 * 100000:=Nat.mul_le_mul hlim h3
  omega)
 cases ad with
 | some b=>exact run_append_grow (P:=P) w t ty e inf zv hu h1 h4 b n cap olds (by rw [h2]; exact hol) (hold b rfl) xa k xk news (by rw [h2]; exact hl) hnews hg (by omega) hfits
 | none =>
  obtain ⟨rfl,rfl⟩:=hnil rfl
  have:olds=[]:=List.eq_nil_of_length_eq_zero (by rw [hol]; simp)
  subst this
  have hn0:Builtin.nextslicecap k 0=k:=nextslicecap_zero (by omega)
  have:=run_append_nil (P:=P) w t ty e inf zv hu h1 h4 xa k xk news (by rw [h2]; exact hl) hnews (by omega) (by omega) (by simp only [L9,hn0] at hfits; exact hfits)
  simpa using this
theorem eh {nx n es:Nat} {q:Option RS} (h:pw nx n es q=some (v,s')):q=some s'∧v=.one (.sl nx 0 n none es):=by
 unfold pw at h
 split at h
 ·rename_i x
  rw [eu,eu] at h
  cases h
  exact ⟨rfl,rfl⟩
 ·cases h
theorem Ax {b off len k es:Nat} {q:Option RS} (h:EO b off len k es q=some (v,s')):q=some s'∧v=.one (.sl b off len (some k) es):=by
 unfold EO at h
 split at h
 ·rename_i x
  rw [eu] at h
  cases h
  exact ⟨rfl,rfl⟩
 ·cases h
theorem iv {b:Nat} {K:RS→Option RS} (h:kill s b K=some s'):∃ s1,hZ s b .dead=some s1∧K s1=some s':=by
 unfold kill at h
 split at h
 ·rename_i s1 h1; exact ⟨s1,h1,h⟩
 ·cases h
theorem Dz {t:Tr RC} {n:Nat} {l:List RC} {us rest:List Value} (h:∀ i,i < n→t.get i=l[i]?) (hl:l.length=n) (hr:RelL ι l us):RelR ι t n (us++rest).toArray 0:=by
 intro i hi
 have hlt:i < l.length:=by omega
 obtain ⟨u,k1,k2⟩:=hr.get (gr hlt)
 refine ⟨_,u,by rw [h i hi,gr hlt],?_,k2⟩
 have hlen:=hr.len
 simp only [L9,List.getElem?_toArray]
 rw [MS (by omega)]
 exact k1
theorem tB (w:World) (ob:Go.Obj):Kept w NoM (w.drew.alloc ob):=d8 w ob
theorem Fi (w:World) (ob:Go.Obj):(w.drew.alloc ob).heap[w.heap.size]?=some ob:=bK w.drew ob
theorem oH {w:World} {all:List RC} {us:List Value} {t:Tr RC} {e:TypeId} {zv:Value} {z:List RC} {len cap' es nx:Nat} (hn : ι nx=none) (hz:scs zv.cells.toList=some z) (hzs:zv.cells.size=es) (hr:RelL ι all us) (hl:all.length=len * es)
  (ht:∀ i,i < len * es→t.get i=all[i]?) (hc:len≤cap') (hm:cap'≤maxLen) (h0:w0.heap.size≤w.heap.size) :
  RBlk w0 (w.drew.alloc (.cells (us.toArray++Builtin.zeroCells zv.cells (cap' - len)) e)) (ι.set nx ⟨w.heap.size,0,cap' * es⟩) nx (.cells t (len * es)) ∧
  RelV (ι.set nx ⟨w.heap.size,0,cap' * es⟩) (.slice (some ⟨w.heap.size,0,none⟩) len cap') (.one (.sl nx 0 len none es)):=by
 have hlen:=hr.len
 have hsum:len * es+(cap' - len) * es=cap' * es:=by rw [← L4]; congr 1; omega
 have hzc:(Builtin.zeroCells zv.cells (cap' - len)).size=(cap' - len) * es:=by rw [size_zeroCells,hzs]
 refine ⟨⟨⟨w.heap.size,0,cap' * es⟩,_,e,(0,0),Io.set_self _ _ _,h0,Fi w _,?_,?_,A7 _,?_⟩,?_⟩
 ·simp only [Array.size_append,List.size_toArray,hzc]; omega
 ·simp only [L9]; exact LW _ hc
 ·have:=Dz (ι:=ι) (rest:=(Builtin.zeroCells zv.cells (cap' - len)).toList) ht hl hr
  have e1:(us++(Builtin.zeroCells zv.cells (cap' - len)).toList).toArray=us.toArray++Builtin.zeroCells zv.cells (cap' - len):=by apply NN; simp
  rw [e1] at this
  exact this.mono (Io.set_le hn)
 ·refine RelC.sl (Io.set_self _ _ _) hc ?_ (fun c hc=>by cases hc) hm
  simp
theorem fa (w:World) (ob:Go.Obj):(w.drew.alloc ob).heap.size=w.heap.size+1:=by show (w.heap.push ob).size=_; simp
theorem EP {t t':TypeId} {x y:Operand} (ho:o.op=.call { callee:=.builtin .append,args:=#[x,y],argTypes:=#[t,t'] }) (htt:t=t') (hS:∀ x∈o.op.operands,RelV ι (a.eval x) (ev x))
  (h:vM (x6 P t) (ev x) (ev y) s=some (v,s')):so P GL w0 ι a o s v s':=by
 subst htt
 intro w hi ht
 rw [ho] at hS
 have hx:=hS x (by simp [Op.operands,Call.operands])
 have hy:=hS y (by simp [Op.operands,Call.operands])
 have cM:∀ {r:Value} {w':World} {u u':Value},a.eval x=u→a.eval y=u'→(Builtin.append_ #[t,t] o.type #[u,u']).run P w=.ok r w'→(execOp a.eval o).run P w=.ok (.value r) w':=by
  intro r w' u u' e1 e2 h
  simp [execOp,ho,resolve,invoke,builtin,e1,e2,h]
 unfold vM at h
 split at h
 ·rename_i es c n he hc
  replace h:=ag h; obtain ⟨hcl,h⟩:=h
  have hcl:=A4 hcl
  rw [pH] at hcl
  have hcl:c.length=n * es:=hcl
  unfold wv at h
  replace h:=ag h; obtain ⟨hok,h⟩:=h
  obtain ⟨e,z,inf,zv,hu,hsz,h1,i1,i2,i3,i4,i5,hz,hzs⟩:=AA he
  have hlim:∃ m,rO (ev x)=some m∧m+n≤1000000:=by
   unfold Ib at hok
   cases hl:rO (ev x) with
   | none=>rw [hl] at hok; cases hok
   | some m=>rw [hl] at hok; exact ⟨m,rfl,B5 hok⟩
  obtain ⟨m0,hm0,hlim⟩:=hlim
  have hycells:=DZ hi hc hy
  cases n with
  | zero =>
   -- nothing is appended
   cases h
   have hy0:∃ ad k,a.eval y=.slice ad 0 k:=by
    rcases hycells with ⟨_,_,ad,k,hq⟩ | ⟨L,off,k,cs,el,fz,news,hq,_⟩
    ·exact ⟨ad,k,hq⟩
    ·exact ⟨_,k,hq⟩
   obtain ⟨yd,yk,hy0⟩:=hy0
   have hx0:∃ ad m k,a.eval x=.slice ad m k∧m≤k:=by
    unfold rO at hm0
    cases hsl:(ev x).asSl with
    | some q =>
     rw [nX hsl] at hx
     obtain ⟨L,k,_,q2,q3,_⟩:=jh hx
     exact ⟨_,_,k,q2,q3⟩
    | none =>
     rw [hsl] at hm0
     change wn (ev x)=some m0 at hm0
     unfold wn at hm0
     split at hm0
     ·rename_i hv; rw [hv] at hx; obtain ⟨L,o',k,_,q2,_⟩:=lz hx; exact ⟨_,_,k,q2,Nat.zero_le _⟩
     ·rename_i hv; rw [hv] at hx; exact ⟨_,_,_,(fN hx).1,A7 _⟩
     ·cases hm0
   obtain ⟨xd,xm,xk,hx0,hle⟩:=hx0
   refine Does.value (v:=a.eval x) (w':=w) ?_ ⟨ι,Go1.refl hi ht,hx⟩
   rw [hx0]
   refine cM hx0 hy0 ?_
   cases xd <;> cases yd <;> simp [Builtin.append_,run_underlying hu,bI hsz,Builtin.lenOf,Builtin.firstCells,loadCells,loadCellsFrom,hle,storeCells]
  | succ n' =>
   obtain ⟨n,hn⟩ : ∃ n,n=n'+1:=⟨_,rfl⟩
   rw [← hn] at hc hcl hlim hycells
   replace h:rp es (ev x) c n s=some (v,s'):=by rw [hn]; exact h
   have hn1:1≤n:=by omega
   rcases hycells with ⟨_,h0,_⟩ | ⟨Ly,offy,ky,csy,ely,fzy,news,y1,y2,y3,y4,y5,_⟩
   ·omega
   have hnl:news.length=n * es:=by rw [y5.len,hcl]
   have hnews:∀ j u,news[j]?=some u→w.cell? ((⟨Ly.B,Ly.base+offy,none⟩ : Addr).add j)=some u:=by
    intro j u hj
    have hjl:j < c.length:=by have:=(A2.1 hj).1; rw [y5.len] at this; exact this
    rw [aU,bD y2,← seg_getElem? csy _ c.length j hjl,← y3]
    exact hj
   unfold rp at h
   split at h
   ·-- to nothing
    rename_i hv
    rw [hv] at hx hm0
    have e0:0=m0:=B6 hm0
    subst e0
    unfold vI at h
    simp only [PB] at h
    replace h:=eh h; obtain ⟨h,rfl⟩:=h
    obtain ⟨tr,h2,h3⟩:=fc h
    obtain ⟨e1,e2⟩:=dy h3
    have hge:=grownCap_ge w (0+n) 0 e
    have hcm:grownCap w (0+n) 0 e≤maxLen:=grownCap_le_maxLen _ _ _ _ (by unfold maxLen; omega)
    have hrun:=jc (P:=P) (ty:=o.type) (xk:=ky) (olds:=[]) (ad:=none) (n:=0) (cap:=0) hu i1 i2 i3 i4 (w:=w) (by omega) (by omega) (by simp) (fun b hb=>by cases hb) (fun _=>⟨rfl,rfl⟩) hnl hnews
    have hev:=cM (fN hx).1 y1 hrun
    simp only [L9,MF,Pn] at hev hge hcm
    rw [show (#[]:Array Value)++(news.toArray++Builtin.zeroCells zv.cells (grownCap w n 0 e - n))=news.toArray++Builtin.zeroCells zv.cells (grownCap w n 0 e - n) by simp] at hev
    have hnone:=ht s.nx (A7 _)
    obtain ⟨r1,r2⟩:=oH (w0:=w0) (w:=w) (e:=e) (nx:=s.nx) (t:=tr) hnone hzs i5 y5 hcl (fun i hi'=>by have:=cW h2 i; rw [if_pos (by omega)] at this; simpa using this) hge hcm hi.kept.size
    refine Does.value hev ⟨_,?_,r2⟩
    rw [e1,e2]
    exact Go1.new hi ht (tB w _) (A7 _) (by rw [fa]; exact MY _) r1
   ·-- to a slice
    rename_i b off len cap es' hv
    rw [hv] at hx hm0
    have e0:len=m0:=B6 hm0
    subst e0
    replace h:=ag h; obtain ⟨hee,h⟩:=h
    have hee:=A4 hee
    subst hee
    split at h
    ·rename_i tb m hb
     obtain ⟨L,k,q1,q2,q3,q4,q5,q6⟩:=jh hx
     obtain ⟨L',cs,el,fz,b1,b2,b3,b4,b5,b6,b7⟩:=hi.blk b _ hb
     have eL:=B6 (q1.symm.trans b1)
     subst eL
     have hbn:b < s.nx:=Oq fun hle=>by have:=ht b hle; rw [q1] at this; cases this
     -- where it grows
     have grow:∀ {s2:RS} {tr tr0:Tr RC},off+len * es≤m→k < len+n→F4 tb off (len * es)=some tr0→fZ c (len * es) tr0=some tr →
       ∃ r1:RBlk w0 (w.drew.alloc (.cells ((seg cs (L.base+off) (len * es)).toArray++news.toArray++Builtin.zeroCells zv.cells (grownCap w (len+n) k e - (len+n))) e)) (ι.set s.nx ⟨w.heap.size,0,grownCap w (len+n) k e * es⟩) s.nx (.cells tr ((len+n) * es)),
        (execOp a.eval o).run P w=.ok (.value (.slice (some ⟨w.heap.size,0,none⟩) (len+n) (grownCap w (len+n) k e))) (w.drew.alloc (.cells ((seg cs (L.base+off) (len * es)).toArray++news.toArray++Builtin.zeroCells zv.cells (grownCap w (len+n) k e - (len+n))) e)) ∧
        RelV (ι.set s.nx ⟨w.heap.size,0,grownCap w (len+n) k e * es⟩) (.slice (some ⟨w.heap.size,0,none⟩) (len+n) (grownCap w (len+n) k e)) (.one (.sl s.nx 0 (len+n) none es)):=by
      intro s2 tr tr0 g1 g2 g3 g4
      have hol:(seg cs (L.base+off) (len * es)).length=len * es:=cg _ _ _ (by omega)
      have hgath:∃ l,l.length=len * es∧RelL ι l (seg cs (L.base+off) (len * es))∧∀ i,i < len * es→tr0.get i=l[i]?:=by
       unfold F4 at g3
       cases off with
       | zero =>
        cases g3
        -- the row as it is
        have hex:∀ q,q≤m→∃ l,sR tb 0 q=some l:=by
         intro q hq
         have:∀ q off,off+q≤m→∃ l,sR tb off q=some l:=by
          intro q
          induction q with
          | zero=>intro off _; exact ⟨[],rfl⟩
          | succ q ih =>
           intro off hoq
           obtain ⟨x1,_,k1,_⟩:=b7 off (by omega)
           obtain ⟨l,hl⟩:=ih (Nat.succ off) (by omega)
           exact ⟨x1 :: l,by unfold sR; rw [k1,hl]⟩
         exact this q 0 (by omega)
        obtain ⟨l,hl⟩:=hex (len * es) (by omega)
        have:=dE hl
        exact ⟨l,this.1,dO b7 hl (by omega),fun i hi'=>by simpa using this.2 i hi'⟩
       | succ off' =>
        simp only at g3
        split at g3
        ·rename_i l hl
         have:=dE hl
         refine ⟨l,this.1,dO b7 hl g1,fun i hi'=>?_⟩
         have h2:=cW g3 i
         rw [if_pos (by omega)] at h2
         simpa using h2
        ·cases g3
      obtain ⟨l,l1,l2,l3⟩:=hgath
      have hge:=grownCap_ge w (len+n) k e
      have hcm:grownCap w (len+n) k e≤maxLen:=grownCap_le_maxLen _ _ _ _ (by unfold maxLen; omega)
      have hrun:=jc (P:=P) (ty:=o.type) (xk:=ky) (ad:=some ⟨L.B,L.base+off,none⟩) (n:=len) (cap:=k) (olds:=seg cs (L.base+off) (len * es)) hu i1 i2 i3 i4 (w:=w) g2 hlim hol (fun b' hb' j u hj=>by
       cases hb'
       have hjl:j < len * es:=by rw [← hol]; exact (A2.1 hj).1
       rw [aU,bD b3,← seg_getElem? cs _ _ j hjl]
       exact hj) (fun hq=>by cases hq) hnl hnews
      have hev:=cM q2 y1 hrun
      have hadd:(len+n) * es=len * es+n * es:=L4 _ _ _
      obtain ⟨r1,r2⟩:=oH (w0:=w0) (w:=w) (e:=e) (nx:=s.nx) (t:=tr) (len:=len+n) (ht s.nx (A7 _)) hzs i5 (l2.append y5) (by simp; omega) (fun i hi'=>by
       have h2:=cW g4 i
       by_cases hil:i < len * es
       ·rw [if_neg (by omega)] at h2
        rw [h2,l3 i hil,MS (by omega)]
       ·rw [if_pos (by omega)] at h2
        rw [h2,List.getElem?_append_right (by omega),l1]) hge hcm hi.kept.size
      have e3:(seg cs (L.base+off) (len * es)++news).toArray=(seg cs (L.base+off) (len * es)).toArray++news.toArray:=by simp
      rw [e3] at r1
      exact ⟨r1,hev,r2⟩
     unfold HW at h
     simp only [Nat.add_eq,PB] at h
     split at h
     ·rename_i k0
      have:=q5 k0 rfl
      subst this
      cases hfit:L6 (len+n) k with
      | true =>
       rw [hfit] at h
       replace h:=ag (show cond _ _ none=_ from h); obtain ⟨h2,h⟩:=h
       have hfit:len+n≤k:=B5 hfit
       have h2:off+(len+n) * es≤m:=B5 h2
       replace h:=Ax h; obtain ⟨h,rfl⟩:=h
       obtain ⟨t2,h3,h4⟩:=uw h
       have hadd:(len+n) * es=len * es+n * es:=L4 _ _ _
       obtain ⟨L2,cs2,el2,fz2,r1,hfz2,r2,r3,r4,r5,r6⟩:=pn hi ht hb h3 (by omega) h4 y5
       have eL:=B6 (q1.symm.trans r1)
       subst eL
       rw [b3] at r2
       simp only [A1,Obj.cells.injEq] at r2
       obtain ⟨e5,e6,e7⟩:=r2
       subst e5
       have hrun:=mK (P:=P) (ty:=o.type) (xk:=ky) hu hsz b6 b3 hfit (q:=L.base+off) (by omega) hnl r5 hnews
       refine Does.value (cM q2 y1 hrun) ⟨ι,?_,RelC.sl q1 hfit q4 (fun c hc=>B6 hc) q6⟩
       have e4:L.base+off+len * es=L.base+(off+len * es):=by omega
       rw [e4]
       exact r6
      | false =>
       rw [hfit] at h
       replace h:=ag (show cond _ _ none=_ from h); obtain ⟨h2,h⟩:=h
       have h2:off+len * es≤m:=B5 h2
       have hnf:k < len+n:=by
        refine Oq fun hle=>?_
        rw [show L6 (len+n) k=true from Nat.ble_eq_true_of_le hle] at hfit
        cases hfit
       replace h:=eh h; obtain ⟨h,rfl⟩:=h
       obtain ⟨tr,h3,h4⟩:=fc h
       unfold GN at h3
       split at h3
       ·rename_i tr0 h5
        obtain ⟨e1,e2⟩:=dy h4
        obtain ⟨r1,r2,r3⟩:=grow (s2:=s) h2 hnf h5 h3
        refine Does.value r2 ⟨_,?_,r3⟩
        rw [e1,e2]
        exact Go1.new hi ht (tB w _) (A7 _) (by rw [fa]; exact MY _) r1
       ·cases h3
     ·replace h:=ag h; obtain ⟨h2,h⟩:=h
      have h2:off+len * es≤m:=B5 h2
      replace h:=eh h; obtain ⟨h,rfl⟩:=h
      obtain ⟨s1,h3,h4⟩:=iv h
      obtain ⟨d1,d2⟩:=dz h3
      obtain ⟨tr,h5,h6⟩:=fc h4
      unfold GN at h5
      split at h5
      ·rename_i tr0 h7
       obtain ⟨e1,e2⟩:=dy h6
       rw [d1,d2] at e1
       rw [d2] at e2
       by_cases hfit:len+n≤k
       ·have hadd:(len+n) * es=len * es+n * es:=L4 _ _ _
        have hkm:(len+n) * es≤k * es:=LW _ hfit
        have hrun:=mK (P:=P) (ty:=o.type) (xk:=ky) hu hsz b6 b3 hfit (q:=L.base+off) (by omega) hnl (y5.one) hnews
        have hw:=bL w L.B (aB cs (L.base+off+len * es) news)
        have hnone:=ht s.nx (A7 _)
        refine Does.value (cM q2 y1 hrun) ⟨ι.set s.nx ⟨L.B,L.base+off,L.n⟩,?_,?_⟩
        ·rw [e1,e2]
         refine Go1.move hi ht hb rfl q1 b2 hw.os hw.tape hw.output (Pv hw.size.symm) (fun B _ hB=>hw.block B hB) (.inl rfl) (by rw [hw.size]; exact hi.lt b L q1) hbn ?_
         refine ⟨_,aB cs (L.base+off+len * es) news,el,fz,Io.set_self _ _ _,b2,setRow_heap w L.B cs _ el _ b3,?_,?_,b6,?_⟩
         ·rw [aY _ _ _ (by omega)]; exact b4
         ·show L.base+off+(len+n) * es≤L.n; omega
         ·-- the cells there
          refine RelR.mono (Io.set_le hnone) ?_
          intro i hi'
          have s1:=cW h5 i
          have s2:=ch cs (L.base+off+len * es) news (by omega) (L.base+off+i)
          by_cases hil:i < len * es
          ·rw [if_neg (by omega)] at s1
           rw [if_neg (by omega)] at s2
           rw [s1,s2]
           have hrow:tr0.get i=tb.get (off+i):=by
            unfold F4 at h7
            cases off with
            | zero=>cases h7; rw [L9]
            | succ off' =>
             simp only at h7
             split at h7
             ·rename_i l hl
              have g:=dE hl
              have h2:=cW h7 i
              rw [if_pos (by omega)] at h2
              rw [h2,g.2 i hil]
              simp
             ·cases h7
           rw [hrow]
           obtain ⟨x1,u1,k1,k2,k3⟩:=b7 (off+i) (by omega)
           exact ⟨x1,u1,k1,by rw [← k2]; congr 1; omega,k3⟩
          ·rw [if_pos (by omega)] at s1
           rw [if_pos (by omega)] at s2
           have hlt:i - len * es < c.length:=by omega
           obtain ⟨u1,k1,k2⟩:=y5.get (gr hlt)
           refine ⟨_,u1,by rw [s1,gr hlt],?_,k2⟩
           rw [s2]
           have:L.base+off+i - (L.base+off+len * es)=i - len * es:=by omega
           rw [this]
           exact k1
        ·refine RelC.sl (Io.set_self _ _ _) hfit ?_ (fun c hc=>by cases hc) q6
         show L.base+off+0+k * es≤L.n
         omega
       ·obtain ⟨r1,r2,r3⟩:=grow (s2:=s) h2 (by omega) h7 h5
        refine Does.value r2 ⟨_,?_,r3⟩
        rw [e1,e2]
        exact Go1.move hi ht hb rfl q1 b2 rfl rfl rfl (by rw [fa]; omega) (fun B hB _=>e9 w.drew _ hB) (.inr (A7 _)) (by rw [fa]; exact MY _) hbn r1
      ·cases h5
    ·cases h
   ·-- to a slice of no length,whose capacity is not known
    rename_i b es' hv
    rw [hv] at hx hm0
    have e0:0=m0:=B6 hm0
    subst e0
    replace h:=ag h; obtain ⟨hee,h⟩:=h
    have hee:=A4 hee
    subst hee
    split at h
    ·rename_i tb m hb
     obtain ⟨L,o',k,q1,q2,q3,q4,q5⟩:=lz hx
     obtain ⟨L',cs,el,fz,b1,b2,b3,b4,b5,b6,b7⟩:=hi.blk b _ hb
     have eL:=B6 (q1.symm.trans b1)
     subst eL
     have hbn:b < s.nx:=Oq fun hle=>by have:=ht b hle; rw [q1] at this; cases this
     unfold Ei at h
     simp only [PB] at h
     replace h:=eh h; obtain ⟨h,rfl⟩:=h
     obtain ⟨s1,h3,h4⟩:=iv h
     obtain ⟨d1,d2⟩:=dz h3
     obtain ⟨tr,h5,h6⟩:=fc h4
     obtain ⟨e1,e2⟩:=dy h6
     rw [d1,d2] at e1
     rw [d2] at e2
     have hnone:=ht s.nx (A7 _)
     by_cases hfit:n≤k
     ·have hkm:n * es≤k * es:=LW _ hfit
      have hrun:=mK (P:=P) (ty:=o.type) (xk:=ky) (n:=0) hu hsz b6 b3 (by omega) (q:=o') (cap:=k) (by omega) hnl (y5.one) hnews
      simp only [L9,Nat.zero_mul,M4] at hrun
      have hw:=bL w L.B (aB cs o' news)
      refine Does.value (cM q2 y1 hrun) ⟨ι.set s.nx ⟨L.B,o',L.n⟩,?_,?_⟩
      ·rw [e1,e2]
       refine Go1.move hi ht hb rfl q1 b2 hw.os hw.tape hw.output (Pv hw.size.symm) (fun B _ hB=>hw.block B hB) (.inl rfl) (by rw [hw.size]; exact hi.lt b L q1) hbn ?_
       refine ⟨_,aB cs o' news,el,fz,Io.set_self _ _ _,b2,setRow_heap w L.B cs _ el _ b3,?_,?_,b6,?_⟩
       ·rw [aY _ _ _ (by omega)]; exact b4
       ·show o'+n * es≤L.n; omega
       ·refine RelR.mono (Io.set_le hnone) ?_
        intro i hi'
        have hi':i < n * es:=hi'
        have s1:=cW h5 i
        have s2:=ch cs o' news (by omega) (o'+i)
        rw [if_pos (by omega)] at s1
        rw [if_pos (by omega)] at s2
        have hlt:i < c.length:=by omega
        obtain ⟨u1,k1,k2⟩:=y5.get (gr hlt)
        refine ⟨_,u1,by rw [s1,Nat.sub_zero,gr hlt],?_,k2⟩
        rw [s2]
        have:o'+i - o'=i:=by omega
        rw [this]
        exact k1
      ·refine RelC.sl (Io.set_self _ _ _) hfit ?_ (fun c hc=>by cases hc) q5
       show o'+0+k * es≤L.n
       omega
     ·have hge:=grownCap_ge w (0+n) k e
      have hcm:grownCap w (0+n) k e≤maxLen:=grownCap_le_maxLen _ _ _ _ (by unfold maxLen; omega)
      have hrun:=jc (P:=P) (ty:=o.type) (xk:=ky) (olds:=[]) (ad:=some ⟨L.B,o',none⟩) (n:=0) (cap:=k) hu i1 i2 i3 i4 (w:=w) (by omega) (by omega) (by simp) (fun b hb j u hj=>by simp at hj) (fun hq=>by cases hq) hnl hnews
      have hev:=cM q2 y1 hrun
      simp only [L9,MF,Pn] at hev hge hcm
      rw [show (#[]:Array Value)++(news.toArray++Builtin.zeroCells zv.cells (grownCap w n k e - n))=news.toArray++Builtin.zeroCells zv.cells (grownCap w n k e - n) by simp] at hev
      obtain ⟨r1,r2⟩:=oH (w0:=w0) (w:=w) (e:=e) (nx:=s.nx) (t:=tr) hnone hzs i5 y5 hcl (fun i hi'=>by have:=cW h5 i; rw [if_pos (by omega)] at this; simpa using this) hge hcm hi.kept.size
      refine Does.value hev ⟨_,?_,r2⟩
      rw [e1,e2]
      exact Go1.move hi ht hb rfl q1 b2 rfl rfl rfl (by rw [fa]; omega) (fun B hB _=>e9 w.drew _ hB) (.inr (A7 _)) (by rw [fa]; exact MY _) hbn r1
    ·cases h
   ·cases h
 ·cases h
end
end Go.Rx

/-
 The evaluator's operations against the model's: copy, clear, maps.
-/
namespace Go.Rx
open Go.Vm
section
variable {P:Program} {GL:List Nat} {w0:World} {ι : Io} {o:Oper} {a:Act} {ev:Ev} {v:RV} {s s':RS}
theorem Dy {b:Nat} {q:Option Ents} (h:Jk s b q=some s'):∃ es,q=some es∧hZ s b (.map es)=some s':=by
 unfold Jk at h
 split at h
 ·rename_i es; exact ⟨es,rfl,h⟩
 ·cases h
theorem tw {w:World} (hi:RInv GL w0 w ι s.H.get) (ht:∀ b,s.nx≤b→ι b=none) {b:Nat} {es es':Ents} (hb:s.H.get b=some (.map es)) (hset:hZ s b (.map es')=some s') {L:Loc} (hL : ι b=some L) {ents:Array MapEntry} {clock:Nat} {ents':Array MapEntry} {clock':Nat}
  (hh:w.heap[L.B]?=some (.map ents clock)) (hB:w0.heap.size≤L.B) (hr:RelM ι es' ents'.toList) (hst:Stp ents'.toList clock') :
  Go1 GL w0 s.nx w ι s.H.get s'.nx { w with heap:=w.heap.setIfInBounds L.B (.map ents' clock') } ι s'.H.get:=by
 obtain ⟨e1,e2⟩:=dz hset
 rw [e1,e2]
 have hlt:L.B < w.heap.size:=hi.lt b L hL
 refine Go1.write hi ht hb rfl hL hB rfl rfl rfl (by simp) (fun B hne=>by simp [Array.getElem?_setIfInBounds_ne (Ne.symm hne)]) ⟨L,ents',clock',hL,hB,?_,hr,hst⟩
 simp [hlt]
theorem AW {x:RV} {c:Bool×List RC} {u:Value} (h:Av x=some c) (hr:RelV ι u x):∃ us,u=cL c.1 us∧RelL ι c.2 us∧(c.1=false→c.2.length=1):=by
 unfold Av at h
 split at h
 ·cases h; exact ⟨[u],rfl,.cons hr .nil,fun _=>rfl⟩
 ·cases h; obtain ⟨us,h1,h2⟩:=hr; exact ⟨us,by simpa [cL] using h1,h2,fun h=>by cases h⟩
 ·cases h
theorem uh:∀ {l:Ents} {es:List MapEntry} {k:Value} {c:Bool×List RC} {us:List Value} {born:Nat},RelM ι l es→RelL ι c.2 us→(c.1=false→c.2.length=1) →
  RelM ι (l++[(k,c)]) (es++[{ key:=k,val:=cL c.1 us,born:=born }])
 | _,_,k,c,us,born,.nil,hr,hg=>by obtain ⟨g,l⟩:=c; exact .cons rfl rfl hr hg .nil
 | _,_,k,c,us,born,.cons hk hv h hg' t,hr,hg=>.cons hk hv h hg' (uh t hr hg)
theorem xj:∀ {l:Ents} {es:List MapEntry} {i:Nat} {k:Value} {c:Bool×List RC} {us:List Value},RelM ι l es→RelL ι c.2 us→(c.1=false→c.2.length=1) →
  RelM ι (l.set i (k,c)) (es.modify i fun e=>{ e with key:=k,val:=cL c.1 us })
 | _,_,i,k,c,us,.nil,hr,hg=>by simp; exact .nil
 | _,_,i,k,c,us,.cons hk hv h hg' t,hr,hg=>by
  cases i with
  | zero=>obtain ⟨g,l⟩:=c; simp; exact .cons rfl rfl hr hg t
  | succ i=>simpa using RelM.cons hk hv h hg' (xj (i:=i) (k:=k) t hr hg)
theorem Fq {es:List MapEntry} {k u:Value} {clock:Nat} (h:Stp es clock):Stp (es++[{ key:=k,val:=u,born:=clock }]) (clock+1):=by
 obtain ⟨h1,h2⟩:=h
 refine ⟨?_,fun x hx=>?_⟩
 ·rw [List.map_append,List.pairwise_append]
  refine ⟨h1,by simp,fun a ha b hb=>?_⟩
  obtain ⟨x,hx,rfl⟩:=Nv.1 ha
  simp at hb
  subst hb
  exact h2 x hx
 ·rcases List.mem_append.1 hx with hx | hx
  ·exact Nat.lt_succ_of_lt (h2 x hx)
  ·simp at hx; subst hx; exact MY _
theorem po {f:MapEntry→MapEntry} (hf:∀ e,(f e).born=e.born):∀ (es:List MapEntry) (i:Nat),(es.modify i f).map (·.born)=es.map (·.born)
 | [],i=>by simp
 | e :: r,0=>by simp [hf]
 | e :: r,i+1=>by simp [po hf r i]
theorem vF {es es':List MapEntry} {clock:Nat} (h:Stp es clock) (hs:(es'.map (·.born)).Sublist (es.map (·.born))):Stp es' clock:=by
 refine ⟨h.1.sublist hs,fun x hx=>?_⟩
 obtain ⟨y,hy,e⟩:=Nv.1 (hs.subset (Nv.2 ⟨x,hx,rfl⟩))
 rw [← e]; exact h.2 y hy
theorem wH {t:TypeId} {x ix y:Operand} (ho:o.op=.mapUpdate t x ix y) (hS:∀ x∈o.op.operands,RelV ι (a.eval x) (ev x)) (h:Gv (mz P t (ev x) (ev ix) (ev y) s)=some (v,s')):so P GL w0 ι a o s v s':=by
 intro w hi ht
 rw [ho] at hS
 have hx:=hS x (by simp [Op.operands])
 have hix:=hS ix (by simp [Op.operands])
 have hy:=hS y (by simp [Op.operands])
 replace h:=tm h; obtain ⟨h,rfl⟩:=h
 unfold mz at h
 split at h
 ·rename_i kt vt b k hu hv hk
  rw [hv] at hx
  have ek:=dW hk hix
  split at h
  ·rename_i es c hb hc
   obtain ⟨es',h1,h2⟩:=Dy h
   obtain ⟨L,ents,clock,r1,r2,r3,r4,r5⟩:=hi.blk b _ hb
   obtain ⟨L',q1,q2⟩:=uK hx
   have eL:=B6 (r1.symm.trans q1)
   subst eL
   obtain ⟨us,e1,e2,e3⟩:=AW hc hy
   unfold D0 at h1
   split at h1
   ·-- a new key
    rename_i hidx
    cases h1
    obtain ⟨c1,q,c2,c3,c4⟩:=rW hidx r4
    have hq:q=none:=by cases q with | none=>rfl | some p=>simp at c3
    subst hq
    have hr:=uh (k:=k) (c:=c) (us:=us) (born:=clock) r4 e2 e3
    have:=tw (ents':=ents.push { key:=k,val:=cL c.1 us,born:=clock }) (clock':=clock+1) hi ht hb h2 r1 r3 r2 (by simpa using hr) (by simpa using Fq r5)
    refine Does.skip ?_ ⟨ι,this,trivial⟩
    simp [execOp,ho,Instr.mapUpdate,run_underlying hu,q2,ek,gB r3,c1,c2,e1,qj _ r3]
   ·rename_i i hidx
    split at h1
    ·rename_i k' hst
     cases h1
     obtain ⟨c1,q,c2,c3,c4⟩:=rW hidx r4
     obtain ⟨p,hp⟩ : ∃ p,q=some p:=by cases q with | none=>simp at c3 | some p=>exact ⟨p,rfl⟩
     subst hp
     simp only [Option.map_some,A1] at c3
     unfold H3 at hst
     split at hst
     ·rename_i e he
      split at hst
      ·rename_i k1 hk1
       obtain ⟨_,hst⟩:=ag hst
       cases hst
       obtain ⟨e',s1,s2,_⟩:=sn r4 he
       have hr:=xj (i:=i) (k:=k') (c:=c) (us:=us) r4 e2 e3
       have:=tw (ents':=ents.modify i fun e=>{ e with key:=k',val:=cL c.1 us }) (clock':=clock) hi ht hb h2 r1 r3 r2 (by simpa using hr) (vF r5 (by rw [Array.toList_modify,po (f:=fun e=>{ e with key:=k',val:=cL c.1 us }) (fun _=>rfl)]; exact PN _))
       refine Does.skip ?_ ⟨ι,this,trivial⟩
       have hstay:=cN hk1 w
       rw [← s2] at hstay
       have s1':ents[i]?=some e':=by simpa using s1
       simp [execOp,ho,Instr.mapUpdate,run_underlying hu,q2,ek,gB r3,c1,c2,c3,s1',hstay,e1,qj _ r3]
      ·cases hst
     ·cases hst
    ·cases h1
   ·cases h1
  ·cases h
 ·cases h
end
end Go.Rx

/-
 The evaluator's operations against the model's: all of them.
-/
namespace Go.Rx
open Go.Vm
def jo (P:Program) (GL:List Nat) (call:Call1):Prop:=∀ f args s v s',call f args s=some (v,s')→∀ w0 w ι us,RInv GL w0 w ι s.H.get→(∀ b,s.nx≤b→ι b=none)→All2 (fun u v=>RelV ι u v) us args →
 Goes P f us.toArray w fun u w'=>∃ ι',Go1 GL w0 s.nx w ι s.H.get s'.nx w' ι' s'.H.get∧RelV ι' u v
section
variable {P:Program} {GL:List Nat} {w0:World} {ι : Io} {o:Oper} {a:Act} {ev:Ev} {v:RV} {s s':RS}
theorem bz {b:Bool} {x y z:RK} (h:cond b x y=z):x=z∨y=z:=by cases b; exact .inr h; exact .inl h
theorem gw {α : Type} {l:Array α} {x : α} (h:l.toList=[x]):l=#[x]:=NN (by simpa using h)
theorem iJ {α : Type} {l:Array α} {x y : α} (h:l.toList=[x,y]):l=#[x,y]:=NN (by simpa using h)
theorem KV {x:Operand} (hk:rk P o=.m x) (hS:∀ x∈o.op.operands,RelV ι (a.eval x) (ev x)):fW P ι a o (ev x):=by
 intro w
 unfold rk at hk
 split at hk <;> first
  | (cases hk; done)
  | (rename_i y ho
     cases hk
     rw [ho] at hS
     exact ⟨_,by simp [execOp,ho],hS x (by simp [Op.operands])⟩)
  | skip
 ·unfold sj at hk; split at hk <;> cases hk
 ·unfold Aq at hk; split at hk <;> cases hk
 ·unfold mf at hk
  split at hk <;> first | (cases hk; done) | skip
  all_goals first
   | (split at hk <;> cases hk; done)
   | (rcases bz hk with hk | hk <;> first | (cases hk; done) | (rcases bz hk with hk | hk <;> cases hk))
theorem K3 {f:Ev→Option RV} (hk:rk P o=.v f) (h:f ev=some v) (hS:∀ x∈o.op.operands,RelV ι (a.eval x) (ev x)):fW P ι a o v:=by
 unfold rk at hk
 split at hk <;> first | (cases hk; done) | skip
 ·rename_i ho; cases hk; exact Jx ho hS h
 ·rename_i ho; cases hk; exact G9 ho hS h
 ·rename_i ho; cases hk; exact zi ho hS h
 ·rename_i ho
  unfold sj at hk
  split at hk
  ·rename_i g hg
   cases hk
   exact F5 hg ho hS h
  ·cases hk; exact pN ho hS h
 ·rename_i ho
  unfold Aq at hk
  split at hk
  ·cases hk; exact Ky ho hS h
  ·cases hk; exact Ew ho hS h
 ·rename_i ho
  unfold EZ at hk
  cases hk; exact Dx ho hS h
 ·rename_i ho; cases hk; exact zo ho hS h
 ·rename_i ho; cases hk; exact He ho hS h
 ·rename_i ho; cases hk; exact wW ho hS h
 ·rename_i ho; cases hk; exact HA ho hS h
 ·rename_i ho; cases hk; exact wK ho hS h
 ·rename_i ho; cases hk; exact GG ho hS h
 ·rename_i ho; cases hk; exact CR ho hS h
 ·rename_i ho
  unfold mf at hk
  split at hk <;> first | (cases hk; done) | skip
  ·rename_i x t ha ht
   rw [gw ha,gw ht] at ho
   split at hk
   ·cases hk
   ·rename_i k _
    cases hk
    exact JL ho hS h
  ·cases hk
   exact Gs ho (fun vs c=>rfl) hS h
  ·cases hk
   exact Gs ho (fun vs c=>rfl) hS h
  ·rcases bz hk with hk | hk <;> first | (cases hk; done) | (rcases bz hk with hk | hk <;> cases hk)
  ·rcases bz hk with hk | hk <;> first | (cases hk; done) | (rcases bz hk with hk | hk <;> cases hk)
  ·rename_i x t ha ht
   rw [gw ha,gw ht] at ho
   cases hs:B9 P t with
   | true=>rw [hs] at hk; cases hk; exact JV ho hS hs h
   | false=>rw [hs] at hk; cases hk
theorem J9 {x:Operand} {f:Option RO→Ev→Option RV} (hk:rk P o=.r x f):x∈o.op.operands:=by
 unfold rk at hk
 split at hk <;> first | (cases hk; done) | skip
 ·rename_i ho; cases hk; rw [ho]; simp [Op.operands]
 ·unfold sj at hk; split at hk <;> cases hk
 ·unfold Aq at hk; split at hk <;> cases hk
 ·rename_i ho; cases hk; rw [ho]; simp [Op.operands]
 ·rename_i ho
  unfold mf at hk
  split at hk <;> first | (cases hk; done) | skip
  ·rename_i y t ha ht
   split at hk
   ·cases hk; rw [ho,gw ha]; simp [Op.operands,Call.operands]
   ·cases hk
  all_goals (rcases bz hk with hk | hk <;> first | (cases hk; done) | (rcases bz hk with hk | hk <;> cases hk))
theorem LG {w:World} {x:Operand} {f:Option RO→Ev→Option RV} {ob:Option RO} (hk:rk P o=.r x f) (h:f ob ev=some v) (hS:∀ x∈o.op.operands,RelV ι (a.eval x) (ev x)) (hb:mO w0 w ι (ev x) ob) :
  ∃ u,(execOp a.eval o).run P w=.ok (.value u) w∧RelV ι u v:=by
 unfold rk at hk
 split at hk <;> first | (cases hk; done) | skip
 ·rename_i ho; cases hk; exact IS ho hS hb h
 ·unfold sj at hk; split at hk <;> cases hk
 ·unfold Aq at hk; split at hk <;> cases hk
 ·rename_i ho; cases hk; exact Eq ho hS hb h
 ·rename_i ho
  unfold mf at hk
  split at hk <;> first | (cases hk; done) | skip
  ·rename_i y t ha ht
   rw [gw ha,gw ht] at ho
   split at hk
   ·rename_i hl
    cases hk
    obtain ⟨k,e,hu⟩ : ∃ k e,P.underlying t=some (.map k e):=by
     unfold Hz at hl
     split at hl <;> first | (cases hl; done) | skip
     rename_i k e hu
     exact ⟨k,e,hu⟩
    exact Gg hu ho hS hb h
   ·cases hk
  all_goals (rcases bz hk with hk | hk <;> first | (cases hk; done) | (rcases bz hk with hk | hk <;> cases hk))
theorem Lm {f:Ev→Option PR} {ob:RO} (hk:rk P o=.b f) (h:f ev=some (.new ob v)) (hS:∀ x∈o.op.operands,RelV ι (a.eval x) (ev x)):AK P ι a o ob v:=by
 unfold rk at hk
 split at hk <;> first | (cases hk; done) | skip
 ·rename_i ho; cases hk; exact GZ ho h
 ·rename_i ho; cases hk; exact Ks ho hS h
 ·rename_i ho; cases hk; exact vm ho hS h
 ·unfold sj at hk; split at hk <;> cases hk
 ·unfold Aq at hk; split at hk <;> cases hk
 ·rename_i ho; cases hk; cases h; exact CI ho
 ·rename_i ho; cases hk; exact xi ho hS h
 ·rename_i ho
  unfold mf at hk
  split at hk <;> first | (cases hk; done) | skip
  ·split at hk <;> cases hk
  ·rename_i bx x t t' ha hts
   rw [iJ ha,iJ hts] at ho
   by_cases htt:t=t'
   ·rw [decide_eq_true htt] at hk; cases hk
   ·rw [decide_eq_false htt] at hk
    cases hk
  all_goals (rcases bz hk with hk | hk <;> first | (cases hk; done) | (rcases bz hk with hk | hk <;> cases hk))
theorem EQ {call:Call1} (hC:jo P GL call) {g:Operand} {args:Array Operand} {ts:Array TypeId} (ho:o.op=.call { callee:=.value g,args:=args,argTypes:=ts }) (hS:∀ x∈o.op.operands,RelV ι (a.eval x) (ev x))
  (h:E8 call (ev g) (args.toList.map ev) s=some (v,s')):so P GL w0 ι a o s v s':=by
 intro w hi ht
 rw [ho] at hS
 have hg:=hS g (by simp [Op.operands,Call.operands])
 have hargs:=pO (a:=a) (ι:=ι) (ev:=ev) (xs:=args.toList) fun x hx=>hS x (by simp [Op.operands,Call.operands]; exact .inr (by simpa using hx))
 unfold E8 at h
 split at h
 ·rename_i f sh k cells hf
  rw [hf] at hg
  obtain ⟨us,h1,h2⟩:=zM hg
  unfold wq at h
  split at h
  ·rename_i l hl
   have hl:=rI hl h1
   have take:∀ {n:Nat} {us:List Value} {l:List RV},All2 (fun u v=>RelV ι u v) us l→All2 (fun u v=>RelV ι u v) (us.take n) (l.take n):=by
    intro n
    induction n with
    | zero=>intro us l h; exact .nil
    | succ n ih=>intro us l h; cases h with
     | nil=>exact .nil
     | cons h t=>exact .cons h (ih t)
   have drop:∀ {n:Nat} {us:List Value} {l:List RV},All2 (fun u v=>RelV ι u v) us l→All2 (fun u v=>RelV ι u v) (us.drop n) (l.drop n):=by
    intro n
    induction n with
    | zero=>intro us l h; exact h
    | succ n ih=>intro us l h; cases h with
     | nil=>exact .nil
     | cons h t=>exact ih t
   have app:∀ {us us':List Value} {l l':List RV},All2 (fun u v=>RelV ι u v) us l→All2 (fun u v=>RelV ι u v) us' l'→All2 (fun u v=>RelV ι u v) (us++us') (l++l'):=by
    intro us us' l l' h1 h2
    induction h1 with
    | nil=>exact h2
    | cons h t ih=>exact .cons h ih
   have hgo:=hC _ _ _ _ _ h w0 w ι _ hi ht (app (app (take (n:=k) hl) hargs) (drop (n:=k) hl))
   have e:((cQ sh us).take k).toArray++(args.map a.eval++((cQ sh us).drop k).toArray)=(((cQ sh us).take k++args.toList.map a.eval)++(cQ sh us).drop k).toArray:=by
    apply NN; simp
   have run:∀ w,(execOp a.eval o).run P w=(callFunc f (((cQ sh us).take k++args.toList.map a.eval)++(cQ sh us).drop k).toArray).run P w:=by
    intro w
    rw [← e]
    simp [execOp,ho,resolve,Deferred.ofValue,h2,invoke]
   rcases hgo with ⟨g1,g2⟩ | ⟨u,w',g1,g2⟩
   ·exact Does.call (by rw [run,g1]) g2
   ·exact Does.value (by rw [run,g1]) g2
  ·cases h
 ·cases h
def isC (k:RK):Bool:=match k with
 | .m _=>false
 | .v _=>false
 | .r _ _=>false
 | .b _=>false
 | _=>true
def xu (k:RK):Bool:=match k with
 | .r _ _=>true
 | .b _=>true
 | _=>false
theorem Kv {call:Call1} (hC:jo P GL call) (h:rc P call (rk P o) ev s=some (v,s')) (hS:∀ x∈o.op.operands,RelV ι (a.eval x) (ev x)):so P GL w0 ι a o s v s':=by
 generalize hk:rk P o=k at h
 unfold rk at hk
 split at hk <;> first | (subst hk; cases h; done) | skip
 ·unfold sj at hk; split at hk <;> (subst hk; cases h)
 ·unfold Aq at hk; split at hk <;> (subst hk; cases h)
 ·rename_i ho; subst hk; exact GS ho hS h
 ·rename_i ho; subst hk; exact wH ho hS h
 ·rename_i ho
  unfold mf at hk
  split at hk <;> first | (subst hk; cases h; done) | skip
  ·split at hk <;> (subst hk; cases h)
  ·rename_i x y t t' ha ht
   rw [iJ ha,iJ ht] at ho
   by_cases htt:t=t'
   ·rw [decide_eq_true htt] at hk
    subst hk
    exact EP ho htt hS h
   ·rw [decide_eq_false htt] at hk
    subst hk; cases h
  ·rename_i x y t t' ha ht
   rw [iJ ha,iJ ht] at ho
   by_cases htt:t=t'
   ·rw [decide_eq_true htt] at hk
    subst hk
    cases h
   ·rw [decide_eq_false htt] at hk
    subst hk
    cases h
  ·rcases bz hk with hk | hk <;> (subst hk; cases h)
 ·rename_i ho; subst hk; exact EQ hC ho hS h
end
end Go.Rx

