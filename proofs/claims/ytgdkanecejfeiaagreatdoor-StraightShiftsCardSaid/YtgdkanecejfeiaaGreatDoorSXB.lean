/-
 What the reckoned memory says of the machine's.
-/
import Derived.Test.YtgdkanecejfeiaaGreatDoorSXA
import Derived.Test.YtgdkanecejfeiaaGreatDoorSVmC
open List renaming replicate→A6
open Nat renaming le_refl→A7,beq→A8,le_of_ble_eq_true→B7,ble→Lh,lt_of_lt_of_le→LA,le_trans→LQ,ne_of_beq_eq_false→M8,ble_eq→Ob,ne_of_lt→O5,le_succ→O8,beq_eq→Pc
open Option.some renaming inj→B4
open Int renaming ofNat_eq_natCast→My,ofNat_sub→O2
open Bool renaming eq_iff_iff→MV
set_option linter.unusedVariables false
set_option linter.unusedSimpArgs false
/-
 How the evaluator's values and blocks stand in the model's memory.
-/
namespace Go.Rx
open Go.Vm
structure Loc where
 B:Nat
 base:Nat
 n:Nat
abbrev Io:=Nat→Option Loc
def da (agg:Bool) (us:List Value):Value:=cond agg (.agg us.toArray) (us.headD undef)
def dh:List (Bool×Nat)→List Value→List Value
 | [],_=>[]
 | p :: r,us=>da p.1 (us.take p.2) :: dh r (us.drop p.2)
mutual
inductive RelC (ι : Io):RC→Value→Prop
 | nat {m:Nat} (h:m≤maxI):RelC ι (.nat m) (.int .i64 (.ofNat m))
 | int {k:IntKind} {n:Int} (h1:k.min≤n) (h2:n≤k.max):RelC ι (.int k n) (.int k n)
 | bool {b:Bool}:RelC ι (.bool b) (.bool b)
 | sc {v:Value} (h:jZ v=true):RelC ι (.sc v) v
 | ptr {b off:Nat} {L:Loc} (h : ι b=some L):RelC ι (.ptr b off) (.pointer (some ⟨L.B,L.base+off,none⟩))
 | sl {b off len es k:Nat} {cap:Option Nat} {L:Loc} (h : ι b=some L) (h1:len≤k) (h2:L.base+off+k * es≤L.n) (h3:∀ c,cap=some c→k=c) (h4:k≤maxLen) :
   RelC ι (.sl b off len cap es) (.slice (some ⟨L.B,L.base+off,none⟩) len k)
 | emp {b es o k:Nat} {L:Loc} (h : ι b=some L) (h1:L.base≤o) (h2:o+k * es≤L.n) (h4:k≤maxLen):RelC ι (.emp b es) (.slice (some ⟨L.B,o,none⟩) 0 k)
 | mp {b:Nat} {L:Loc} (h : ι b=some L):RelC ι (.mp b) (.map (some L.B))
 | fn {f k:Nat} {sh:List (Bool×Nat)} {cells:List RC} {us:List Value} (h:RelL ι cells us) :
   RelC ι (.fn f sh k cells) (.func (.func f) ((dh sh us).take k).toArray ((dh sh us).drop k).toArray)
inductive RelL (ι : Io):List RC→List Value→Prop
 | nil:RelL ι [] []
 | cons {c:RC} {v:Value} {l:List RC} {us:List Value} (h:RelC ι c v) (t:RelL ι l us):RelL ι (c :: l) (v :: us)
end
def Io.le (ι ι':Io):Prop:=∀ b L,ι b=some L→ι' b=some L
theorem Io.le.refl (ι : Io) : ι.le ι:=fun _ _ h=>h
theorem Io.le.trans {ι ι' ι'':Io} (h : ι.le ι') (h' : ι'.le ι'') : ι.le ι'':=fun b L e=>h' b L (h b L e)
mutual
theorem RelC.mono {ι ι':Io} (hl : ι.le ι'):∀ {c:RC} {v:Value},RelC ι c v→RelC ι' c v
 | _,_,.nat h=>.nat h
 | _,_,.int h1 h2=>.int h1 h2
 | _,_,.bool=>.bool
 | _,_,.sc h=>.sc h
 | _,_,.ptr h=>.ptr (hl _ _ h)
 | _,_,.sl h h1 h2 h3 h4=>.sl (hl _ _ h) h1 h2 h3 h4
 | _,_,.emp h h1 h2 h4=>.emp (hl _ _ h) h1 h2 h4
 | _,_,.mp h=>.mp (hl _ _ h)
 | _,_,.fn h=>.fn (RelL.mono hl h)
theorem RelL.mono {ι ι':Io} (hl : ι.le ι'):∀ {l:List RC} {us:List Value},RelL ι l us→RelL ι' l us
 | _,_,.nil=>.nil
 | _,_,.cons h t=>.cons (h.mono hl) (t.mono hl)
end
theorem yS {v:Value} (h:jZ v=true):v.oneCell'=true:=by
 unfold jZ at h
 split at h <;> first | rfl | cases h
theorem RelC.one {ι : Io} {c:RC} {v:Value} (h:RelC ι c v):v.oneCell'=true:=by
 cases h with
 | sc h=>exact yS h
 | _=>rfl
section
variable {ι : Io}
theorem RelL.len {l:List RC} {us:List Value} (h:RelL ι l us):us.length=l.length:=by
 induction l generalizing us with
 | nil=>cases h; rfl
 | cons c l ih=>cases h with | cons h t=>simp [ih t]
theorem RelL.one {l:List RC} {us:List Value} (h:RelL ι l us):∀ u∈us,u.oneCell'=true:=by
 induction l generalizing us with
 | nil=>cases h; simp
 | cons c l ih =>
  cases h with
  | cons h t =>
   intro u hu
   rcases List.mem_cons.1 hu with rfl | hu
   ·exact h.one
   ·exact ih t u hu
theorem RelL.append {l l':List RC} {us us':List Value} (h:RelL ι l us) (h':RelL ι l' us'):RelL ι (l++l') (us++us'):=by
 induction l generalizing us with
 | nil=>cases h; exact h'
 | cons c l ih=>cases h with | cons h t=>exact .cons h (ih t)
theorem RelL.drop {l:List RC} {us:List Value} (h:RelL ι l us) (n:Nat):RelL ι (l.drop n) (us.drop n):=by
 induction n generalizing l us with
 | zero=>exact h
 | succ n ih =>
  cases h with
  | nil=>exact .nil
  | cons h t=>exact ih t
theorem RelL.take {l:List RC} {us:List Value} (h:RelL ι l us) (n:Nat):RelL ι (l.take n) (us.take n):=by
 induction n generalizing l us with
 | zero=>exact .nil
 | succ n ih =>
  cases h with
  | nil=>exact .nil
  | cons h t=>exact .cons h (ih t)
theorem RelL.get {l:List RC} {us:List Value} (h:RelL ι l us) {i:Nat} {c:RC} (hc:l[i]?=some c):∃ v,us[i]?=some v∧RelC ι c v:=by
 induction l generalizing us i with
 | nil=>simp at hc
 | cons d l ih =>
  cases h with
  | cons h t =>
   cases i with
   | zero=>simp at hc; subst hc; exact ⟨_,rfl,h⟩
   | succ i=>simpa using ih t (by simpa using hc)
theorem RelL.flat {α : Type} {f : α→List RC} {g : α→List Value}:∀ {l:List α},(∀ x∈l,RelL ι (f x) (g x))→RelL ι (l.flatMap f) (l.flatMap g)
 | [],_=>.nil
 | x :: l,h=>by simpa using (h x (by simp)).append (RelL.flat fun y hy=>h y (by simp [hy]))
theorem RelL.rep {l:List RC} {us:List Value} (h:RelL ι l us):∀ n,RelL ι (A6 n l).flatten (A6 n us).flatten
 | 0=>.nil
 | n+1=>by simpa [List.replicate_succ] using h.append (h.rep n)
end
inductive RelT (ι : Io):List (Bool×List RC)→List Value→Prop
 | nil:RelT ι [] []
 | cons {g:Bool} {l:List RC} {us:List Value} {r:List (Bool×List RC)} {vs:List Value} (h:RelL ι l us) (hg:g=false→l.length=1) (t:RelT ι r vs):RelT ι ((g,l) :: r) (da g us :: vs)
def RelV (ι : Io) (v:Value):RV→Prop
 | .unk=>True
 | .one c=>RelC ι c v
 | .agg l=>∃ us,v=.agg us.toArray∧RelL ι l us
 | .tup l=>∃ us,v=.tuple us.toArray∧RelT ι l us
theorem RelT.mono {ι ι':Io} (hl : ι.le ι') {l:List (Bool×List RC)} {us:List Value} (h:RelT ι l us):RelT ι' l us:=by
 induction h with
 | nil=>exact .nil
 | cons h hg t ih=>exact .cons (h.mono hl) hg ih
theorem RelV.mono {ι ι':Io} (hl : ι.le ι') {v:Value} {r:RV} (h:RelV ι v r):RelV ι' v r:=by
 cases r with
 | unk=>trivial
 | one c=>exact RelC.mono hl h
 | agg l=>obtain ⟨us,h1,h2⟩:=h; exact ⟨us,h1,h2.mono hl⟩
 | tup l=>obtain ⟨us,h1,h2⟩:=h; exact ⟨us,h1,h2.mono hl⟩
theorem RelT.get {ι : Io} {l:List (Bool×List RC)} {us:List Value} (h:RelT ι l us) {i:Nat} {p:Bool×List RC} (hp:l[i]?=some p) :
  ∃ vs,us[i]?=some (da p.1 vs)∧RelL ι p.2 vs∧(p.1=false→p.2.length=1):=by
 induction h generalizing i with
 | nil=>simp at hp
 | cons h hg t ih =>
  cases i with
  | zero=>simp at hp; subst hp; exact ⟨_,rfl,h,hg⟩
  | succ i=>simpa using ih (by simpa using hp)
theorem i0 {ι : Io} {g:Bool} {l:List RC} {us:List Value} {v:RV} (hc:pg g l=some v) (h:RelL ι l us):RelV ι (da g us) v:=by
 unfold pg at hc
 split at hc
 ·cases hc; exact ⟨us,rfl,h⟩
 ·cases hc
  cases h with
  | cons h t=>exact h
 ·cases hc
theorem mb {ι : Io} {r:RV} {l:List RC} {v:Value} (hc:oV r=some l) (h:RelV ι v r):∃ us,v.cells=us.toArray∧RelL ι l us:=by
 unfold oV at hc
 split at hc
 ·cases hc; exact ⟨[v],by simpa using jm (RelC.one h),.cons h .nil⟩
 ·cases hc; obtain ⟨us,rfl,h2⟩:=h; exact ⟨us,rfl,h2⟩
 ·cases hc
theorem I7 (n:Nat):sN n=.nat n:=by cases n <;> rfl
theorem nA {ι : Io} {k:IntKind} {n:Int} {c:RC} (h:Df k n=some c):RelC ι c (.int k n):=by
 unfold Df at h
 split at h
 ·rename_i m
  cases hb:Lh m maxI with
  | false=>rw [hb] at h; cases h
  | true=>rw [hb] at h; cases h; rw [I7]; exact .nat (B7 hb)
 ·cases hb:(decide (k.min≤n) && decide (n≤k.max)) with
  | false=>rw [hb] at h; cases h
  | true =>
   rw [hb] at h; cases h
   simp only [Bool.and_eq_true,decide_eq_true_eq] at hb
   exact .int hb.1 hb.2
theorem vz {ι : Io} {v:Value} {c:RC} (h:ofC v=some c):RelC ι c v:=by
 unfold ofC at h
 split at h
 ·exact nA h
 ·cases h; exact .bool
 ·cases hc:jZ v with
  | false=>rw [hc] at h; cases h
  | true=>rw [hc] at h; cases h; exact .sc hc
theorem xn {ι : Io} {c:RC} {v u:Value} (h:Gt c=some v) (hr:RelC ι c u):u=v:=by
 unfold Gt at h
 split at h <;> cases h <;> cases hr <;> rfl
theorem jQ {ι : Io}:∀ {vs:List Value} {l:List RC},scs vs=some l→RelL ι l vs
 | [],_,h=>by cases h; exact .nil
 | v :: r,l,h=>by
  unfold scs at h
  split at h
  ·rename_i c l' h1 h2; cases h; exact .cons (vz h1) (jQ h2)
  ·cases h
theorem ue {ι : Io}:∀ {l:List RC} {vs us:List Value},Bp l=some vs→RelL ι l us→us=vs
 | [],_,_,h,hr=>by cases h; cases hr; rfl
 | c :: r,vs,us,h,hr=>by
  unfold Bp at h
  split at h
  ·rename_i v l h1 h2
   cases h
   cases hr with
   | cons h3 t=>rw [xn h1 h3,ue h2 t]
  ·cases h
theorem mh {ι : Io} {v:Value} {r:RV} (h:ofV v=some r):RelV ι v r:=by
 unfold ofV at h
 split at h
 ·split at h
  ·rename_i cs _ l hl
   cases h
   exact ⟨cs.toList,by simp,jQ hl⟩
  ·cases h
 ·split at h
  ·rename_i c hc; cases h; exact vz hc
  ·cases h
theorem eJ {ι : Io} {r:RV} {v u:Value} (h:vOf r=some v) (hr:RelV ι u r):u=v:=by
 unfold vOf at h
 split at h
 ·exact xn h hr
 ·split at h
  ·rename_i l vs hl
   cases h
   obtain ⟨us,rfl,h2⟩:=hr
   rw [ue hl h2]
  ·cases h
 ·cases h
def kq:RO→Bool
 | .cells _ _=>true
 | .map _=>true
 | _=>false
def RelR (ι : Io) (t:Tr RC) (n:Nat) (cs:Array Value) (base:Nat):Prop:=∀ i,i < n→∃ c v,t.get i=some c∧cs[base+i]?=some v∧RelC ι c v
theorem RelR.mono {ι ι':Io} (hl : ι.le ι') {t:Tr RC} {n:Nat} {cs:Array Value} {base:Nat} (h:RelR ι t n cs base):RelR ι' t n cs base :=
 fun i hi=>let ⟨c,v,h1,h2,h3⟩:=h i hi; ⟨c,v,h1,h2,h3.mono hl⟩
inductive RelM (ι : Io):List (Value×(Bool×List RC))→List MapEntry→Prop
 | nil:RelM ι [] []
 | cons {e:MapEntry} {k:Value} {g:Bool} {l:List RC} {us:List Value} {r:List (Value×(Bool×List RC))} {es:List MapEntry}
   (hk:e.key=k) (hv:e.val=da g us) (h:RelL ι l us) (hg:g=false→l.length=1) (t:RelM ι r es):RelM ι ((k,(g,l)) :: r) (e :: es)
theorem RelM.mono {ι ι':Io} (hl : ι.le ι') {l:List (Value×(Bool×List RC))} {es:List MapEntry} (h:RelM ι l es):RelM ι' l es:=by
 induction h with
 | nil=>exact .nil
 | cons hk hv h hg t ih=>exact .cons hk hv (h.mono hl) hg ih
def Stp (es:List MapEntry) (clock:Nat):Prop:=(es.map (·.born)).Pairwise (· < ·)∧∀ x∈es,x.born < clock
def RBlk (w0 w:World) (ι : Io) (b:Nat):RO→Prop
 | .dead=>True
 | .cells t n=>∃ L c el fz,ι b=some L∧w0.heap.size≤L.B∧w.heap[L.B]?=some (.cells c el fz)∧c.size=L.n∧L.base+n≤L.n∧fz.2≤fz.1∧RelR ι t n c L.base
 | .ro t n=>∃ L c el fz,ι b=some L∧w.heap[L.B]?=some (.cells c el fz)∧c.size=L.n∧L.base+n≤L.n∧RelR ι t n c L.base
 | .map es=>∃ L ents clock,ι b=some L∧w0.heap.size≤L.B∧w.heap[L.B]?=some (.map ents clock)∧RelM ι es ents.toList∧Stp ents.toList clock
theorem RBlk.mono {w0 w w':World} {ι ι':Io} {b:Nat} {o:RO} (hl : ι.le ι') (hw:∀ L,ι b=some L→w'.heap[L.B]?=w.heap[L.B]?) (h:RBlk w0 w ι b o):RBlk w0 w' ι' b o:=by
 cases o with
 | dead=>trivial
 | cells t n =>
  obtain ⟨L,c,el,fz,h1,h2,h3,h4,h5,h6,h7⟩:=h
  exact ⟨L,c,el,fz,hl _ _ h1,h2,by rw [hw L h1]; exact h3,h4,h5,h6,h7.mono hl⟩
 | ro t n =>
  obtain ⟨L,c,el,fz,h1,h3,h4,h5,h6⟩:=h
  exact ⟨L,c,el,fz,hl _ _ h1,by rw [hw L h1]; exact h3,h4,h5,h6.mono hl⟩
 | map es =>
  obtain ⟨L,ents,clock,h1,h2,h3,h4,h5⟩:=h
  exact ⟨L,ents,clock,hl _ _ h1,h2,by rw [hw L h1]; exact h3,h4.mono hl,h5⟩
theorem RBlk.ro {w0 w:World} {ι : Io} {b:Nat} {t:Tr RC} {n:Nat} (h:RBlk w0 w ι b (.cells t n)):RBlk w0 w ι b (.ro t n):=by
 obtain ⟨L,c,el,fz,h1,h2,h3,h4,h5,h6,h7⟩:=h
 exact ⟨L,c,el,fz,h1,h3,h4,h5,h7⟩
def NoM (_:Nat):Prop:=False
def dy:RO→Bool
 | .dead=>false
 | _=>true
theorem ch {o:RO} (h:kq o=true):dy o=true:=by cases o <;> simp_all [kq,dy]
structure RInv (GL:List Nat) (w0 w:World) (ι : Io) (h:Hp):Prop where
 kept:Kept w0 NoM w
 blk:∀ b o,h b=some o→RBlk w0 w ι b o
 inj:∀ b b' o o' L L',h b=some o→h b'=some o'→kq o=true→dy o'=true→ι b=some L→ι b'=some L'→L.B=L'.B→b=b'
 lt:∀ b L,ι b=some L→L.B < w.heap.size
 glob:∀ g∈GL,∃ n,ι g=some ⟨g,0,n⟩
theorem RBlk.at {w0 w:World} {ι : Io} {b:Nat} {o:RO} (h:RBlk w0 w ι b o) (ha:dy o=true):∃ L,ι b=some L:=by
 cases o with
 | dead=>cases ha
 | cells t n=>obtain ⟨L,c,el,fz,h1,_⟩:=h; exact ⟨L,h1⟩
 | ro t n=>obtain ⟨L,c,el,fz,h1,_⟩:=h; exact ⟨L,h1⟩
 | map es=>obtain ⟨L,ents,clock,h1,_⟩:=h; exact ⟨L,h1⟩
structure Go1 (GL:List Nat) (w0:World) (nx:Nat) (w:World) (ι : Io) (h:Hp) (nx':Nat) (w':World) (ι':Io) (h':Hp):Prop where
 inv:RInv GL w0 w' ι' h'
 le : ι.le ι'
 low:∀ b,b < nx→ι' b=ι b
 up:nx≤nx'
 top:∀ b,nx'≤b→ι' b=none
 size:w.heap.size≤w'.heap.size
 frame:∀ B,B < w.heap.size→(∀ b o L,h b=some o→kq o=true→ι b=some L→L.B≠B)→w'.heap[B]?=w.heap[B]?
 news:∀ b o L,h' b=some o→dy o=true→ι' b=some L→w.heap.size≤L.B∨∃ b0 o0 L0,h b0=some o0∧dy o0=true∧(kq o0=true∨b0=b)∧(kq o=true→kq o0=true)∧ι b0=some L0∧L0.B=L.B
section
variable {GL:List Nat} {w0:World}
theorem Go1.trans {n1 n2 n3:Nat} {w1 w2 w3:World} {ι1 ι2 ι3:Io} {h1 h2 h3:Hp} (a:Go1 GL w0 n1 w1 ι1 h1 n2 w2 ι2 h2) (b:Go1 GL w0 n2 w2 ι2 h2 n3 w3 ι3 h3) :
  Go1 GL w0 n1 w1 ι1 h1 n3 w3 ι3 h3:=by
 refine ⟨b.inv,a.le.trans b.le,fun x hx=>(b.low x (LA hx a.up)).trans (a.low x hx),LQ a.up b.up,b.top,LQ a.size b.size,?_,?_⟩
 ·intro B hB hn
  rw [b.frame B (LA hB a.size) ?_,a.frame B hB hn]
  intro x o L hx ho hL e
  rcases a.news x o L hx (ch ho) hL with h | ⟨b0,o0,L0,q1,q2,q3,q4,q5,q6⟩
  ·omega
  ·exact hn b0 o0 L0 q1 (q4 ho) q5 (q6.trans e)
 ·intro x o L hx ho hL
  rcases b.news x o L hx ho hL with h | ⟨b0,o0,L0,q1,q2,q3,q4,q5,q6⟩
  ·exact .inl (LQ a.size h)
  ·rcases a.news b0 o0 L0 q1 q2 q5 with h | ⟨b1,o1,L1,r1,r2,r3,r4,r5,r6⟩
   ·exact .inl (by omega)
   ·refine .inr ⟨b1,o1,L1,r1,r2,?_,fun h=>r4 (q4 h),r5,r6.trans q6⟩
    rcases r3 with r3 | r3
    ·exact .inl r3
    ·rcases q3 with q3 | q3
     ·exact .inl (r4 q3)
     ·exact .inr (r3.trans q3)
theorem Go1.refl {w:World} {n:Nat} {ι : Io} {h:Hp} (hi:RInv GL w0 w ι h) (ht:∀ b,n≤b→ι b=none):Go1 GL w0 n w ι h n w ι h :=
 ⟨hi,Io.le.refl ι,fun _ _=>rfl,A7 _,ht,A7 _,fun _ _ _=>rfl,fun b o L hb ho hL=>.inr ⟨b,o,L,hb,ho,.inr rfl,fun h=>h,hL,rfl⟩⟩
def Weak (h h':Hp):Prop:=∀ b o',h' b=some o'→o'=.dead∨∃ o,h b=some o∧(o'=o∨∃ t n,o=.cells t n∧o'=.ro t n)
theorem Weak.own {h h':Hp} (hw:Weak h h') {b:Nat} {o:RO} (hb:h' b=some o) (ho:kq o=true):h b=some o:=by
 rcases hw b o hb with rfl | ⟨o1,h1,rfl | ⟨t,n,rfl,rfl⟩⟩
 ·cases ho
 ·exact h1
 ·cases ho
theorem Weak.alive {h h':Hp} (hw:Weak h h') {b:Nat} {o:RO} (hb:h' b=some o) (ho:dy o=true):∃ o1,h b=some o1∧dy o1=true∧(kq o=true→kq o1=true):=by
 rcases hw b o hb with rfl | ⟨o1,h1,rfl | ⟨t,n,rfl,rfl⟩⟩
 ·cases ho
 ·exact ⟨o,h1,ho,id⟩
 ·exact ⟨_,h1,rfl,fun h=>by cases h⟩
theorem RInv.weak {w:World} {ι : Io} {h h':Hp} (hi:RInv GL w0 w ι h) (hw:Weak h h'):RInv GL w0 w ι h':=by
 refine ⟨hi.kept,?_,?_,hi.lt,hi.glob⟩
 ·intro b o hb
  rcases hw b o hb with rfl | ⟨o1,h1,rfl | ⟨t,n,rfl,rfl⟩⟩
  ·trivial
  ·exact hi.blk b o h1
  ·exact (hi.blk b _ h1).ro
 ·intro b b' o o' L L' hb hb' ho ho' hL hL' e
  obtain ⟨o1,h1,h2,_⟩:=hw.alive hb' ho'
  exact hi.inj b b' o o1 L L' (hw.own hb ho) h1 ho h2 hL hL' e
theorem Go1.back {nx nx':Nat} {w w':World} {ι ι':Io} {h h1 h2 hr:Hp} (hi:RInv GL w0 w ι h) (hw:Weak h h1) (g:Go1 GL w0 nx w ι h1 nx' w' ι' h2) (wk:Nat→Bool)
  (h3:∀ b,wk b=true→hr b=h b) (h4:∀ b,wk b=false→hr b=h2 b) (h5:∀ b o,wk b=true→h1 b=some o→kq o=false):Go1 GL w0 nx w ι h nx' w' ι' hr:=by
 have same:∀ b o L,wk b=true→h b=some o→dy o=true→ι b=some L→w'.heap[L.B]?=w.heap[L.B]?:=by
  intro b o L hb ho ha hL
  refine g.frame L.B (hi.lt b L hL) ?_
  intro b1 o1 L1 k1 k2 k3 k4
  have e:=hi.inj b1 b o1 o L1 L (hw.own k1 k2) ho k2 ha k3 hL k4
  subst e
  rw [h5 b1 o1 hb k1] at k2
  cases k2
 refine ⟨⟨g.inv.kept,?_,?_,g.inv.lt,g.inv.glob⟩,g.le,g.low,g.up,g.top,g.size,?_,?_⟩
 ·intro b o hb
  cases hk:wk b with
  | false=>rw [h4 b hk] at hb; exact g.inv.blk b o hb
  | true =>
   rw [h3 b hk] at hb
   cases ha:dy o with
   | false=>cases o <;> first | trivial | cases ha
   | true=>exact (hi.blk b o hb).mono g.le fun L hL=>same b o L hk hb ha hL
 ·intro b b' o o' L L' hb hb' ho ho' hL hL' e
  cases hk:wk b with
  | true =>
   rw [h3 b hk] at hb
   obtain ⟨L1,hL1⟩:=(hi.blk b o hb).at (ch ho)
   have:L1=L:=by have:=g.le b L1 hL1; rw [hL] at this; exact (B4 this).symm
   subst this
   cases hk':wk b' with
   | true =>
    rw [h3 b' hk'] at hb'
    obtain ⟨L2,hL2⟩:=(hi.blk b' o' hb').at ho'
    have:L2=L':=by have:=g.le b' L2 hL2; rw [hL'] at this; exact (B4 this).symm
    subst this
    exact hi.inj b b' o o' L1 L2 hb hb' ho ho' hL1 hL2 e
   | false =>
    rw [h4 b' hk'] at hb'
    rcases g.news b' o' L' hb' ho' hL' with h | ⟨b0,o0,L0,q1,q2,q3,q4,q5,q6⟩
    ·have:=hi.lt b L1 hL1; omega
    ·obtain ⟨o1,r1,r2,r3⟩:=hw.alive q1 q2
     have e1:=hi.inj b b0 o o1 L1 L0 hb r1 ho r2 hL1 q5 (by rw [q6]; exact e)
     subst e1
     rcases q3 with q3 | q3
     ·rw [h5 b o0 hk q1] at q3; cases q3
     ·exact q3
  | false =>
   rw [h4 b hk] at hb
   cases hk':wk b' with
   | true =>
    rw [h3 b' hk'] at hb'
    obtain ⟨L2,hL2⟩:=(hi.blk b' o' hb').at ho'
    have:L2=L':=by have:=g.le b' L2 hL2; rw [hL'] at this; exact (B4 this).symm
    subst this
    rcases g.news b o L hb (ch ho) hL with h | ⟨b0,o0,L0,q1,q2,q3,q4,q5,q6⟩
    ·have:=hi.lt b' L2 hL2; omega
    ·have ho0:=q4 ho
     have e1:=hi.inj b0 b' o0 o' L0 L2 (hw.own q1 ho0) hb' ho0 ho' q5 hL2 (q6.trans e)
     subst e1
     rw [h5 b0 o0 hk' q1] at ho0; cases ho0
   | false =>
    rw [h4 b' hk'] at hb'
    exact g.inv.inj b b' o o' L L' hb hb' ho ho' hL hL' e
 ·intro B hB hn
  exact g.frame B hB fun b o L hb ho hL=>hn b o L (hw.own hb ho) ho hL
 ·intro b o L hb ho hL
  cases hk:wk b with
  | true =>
   rw [h3 b hk] at hb
   obtain ⟨L1,hL1⟩:=(hi.blk b o hb).at ho
   have:L1=L:=by have:=g.le b L1 hL1; rw [hL] at this; exact (B4 this).symm
   subst this
   exact .inr ⟨b,o,L1,hb,ho,.inr rfl,id,hL1,rfl⟩
  | false =>
   rw [h4 b hk] at hb
   rcases g.news b o L hb ho hL with h | ⟨b0,o0,L0,q1,q2,q3,q4,q5,q6⟩
   ·exact .inl h
   ·obtain ⟨o1,r1,r2,r3⟩:=hw.alive q1 q2
    exact .inr ⟨b0,o1,L0,r1,r2,q3.imp r3 id,fun h=>r3 (q4 h),q5,q6⟩
def Io.set (ι : Io) (b:Nat) (L:Loc):Io:=fun x=>if x=b then some L else ι x
def Hp.set (h:Hp) (b:Nat) (o:RO):Hp:=fun x=>if x=b then some o else h x
theorem Io.set_le {ι : Io} {b:Nat} {L:Loc} (h : ι b=none) : ι.le (ι.set b L):=by
 intro x L' hx
 unfold Io.set
 split
 ·rename_i e; subst e; rw [h] at hx; cases hx
 ·exact hx
theorem Io.set_self (ι : Io) (b:Nat) (L:Loc):(ι.set b L) b=some L:=by simp [Io.set]
theorem Go1.new {nx:Nat} {w w':World} {ι : Io} {h:Hp} {o:RO} {L:Loc} (hi:RInv GL w0 w ι h) (ht:∀ b,nx≤b→ι b=none) (hk:Kept w NoM w') (h1:w.heap.size≤L.B) (h2:L.B < w'.heap.size)
  (hb:RBlk w0 w' (ι.set nx L) nx o):Go1 GL w0 nx w ι h (nx+1) w' (ι.set nx L) (Hp.set h nx o):=by
 have hle : ι.le (ι.set nx L):=Io.set_le (ht nx (A7 _))
 have hold:∀ b,b < w.heap.size→w'.heap[b]?=w.heap[b]?:=fun b hb=>hk.block b hb (fun h=>h)
 have inset:∀ b L',(ι.set nx L) b=some L'→b≠nx→ι b=some L':=fun b L' h1 h2=>by simpa [Io.set,h2] using h1
 have atnew:∀ L',(ι.set nx L) nx=some L'→L'=L:=fun L' h=>by rw [Io.set_self] at h; exact (B4 h).symm
 have hlt:∀ b L',(ι.set nx L) b=some L'→b≠nx→L'.B < w.heap.size:=fun b L' h1 h2=>hi.lt b L' (inset b L' h1 h2)
 refine ⟨⟨?_,?_,?_,?_,?_⟩,hle,?_,O8 _,?_,hk.size,fun B hB _=>hold B hB,?_⟩
 ·have:=hi.kept.size
  exact ⟨hk.os.trans hi.kept.os,hk.tape.trans hi.kept.tape,hk.output.trans hi.kept.output,LQ hi.kept.size hk.size,fun b hb hM=>(hold b (by omega)).trans (hi.kept.block b hb hM)⟩
 ·intro b o' hb'
  unfold Hp.set at hb'
  split at hb'
  ·rename_i e; subst e; cases hb'; exact hb
  ·exact (hi.blk b o' hb').mono hle fun L' hL'=>hold L'.B (hi.lt b L' hL')
 ·intro b b' o1 o2 L1 L2 k1 k2 k3 k4 k5 k6 k7
  by_cases e1:b=nx <;> by_cases e2:b'=nx
  ·exact e1.trans e2.symm
  ·subst e1; have:=atnew _ k5; subst this; have:=hlt _ _ k6 e2; omega
  ·subst e2; have:=atnew _ k6; subst this; have:=hlt _ _ k5 e1; omega
  ·simp only [Hp.set,e1,e2,if_false] at k1 k2
   exact hi.inj b b' o1 o2 L1 L2 k1 k2 k3 k4 (inset _ _ k5 e1) (inset _ _ k6 e2) k7
 ·intro b L' hL'
  by_cases e:b=nx
  ·subst e; rw [atnew _ hL']; exact h2
  ·exact LA (hlt b L' hL' e) hk.size
 ·intro g hg
  obtain ⟨n,hn⟩:=hi.glob g hg
  exact ⟨n,hle _ _ hn⟩
 ·intro b hb; simp [Io.set,O5 hb]
 ·intro b hb
  have:b≠nx:=by omega
  simp only [Io.set,this,if_false]; exact ht b (by omega)
 ·intro b o' L' hb' ho' hL'
  by_cases e:b=nx
  ·subst e; rw [atnew _ hL']; exact .inl h1
  ·simp only [Hp.set,e,if_false] at hb'
   exact .inr ⟨b,o',L',hb',ho',.inr rfl,id,inset _ _ hL' e,rfl⟩
theorem Go1.write {nx:Nat} {w w':World} {ι : Io} {h:Hp} {o o':RO} {b:Nat} {L:Loc} (hi:RInv GL w0 w ι h) (ht:∀ b,nx≤b→ι b=none) (hb:h b=some o) (ho:kq o=true) (hL : ι b=some L)
  (hB:w0.heap.size≤L.B) (h1:w'.os=w.os) (h2:w'.tape=w.tape) (h3:w'.output=w.output) (h4:w'.heap.size=w.heap.size) (h5:∀ B,B≠L.B→w'.heap[B]?=w.heap[B]?)
  (hn:RBlk w0 w' ι b o'):Go1 GL w0 nx w ι h nx w' ι (Hp.set h b o'):=by
 refine ⟨⟨?_,?_,?_,?_,hi.glob⟩,Io.le.refl _,fun _ _=>rfl,A7 _,ht,Nat.le_of_eq h4.symm,?_,?_⟩
 ·exact ⟨h1.trans hi.kept.os,h2.trans hi.kept.tape,h3.trans hi.kept.output,h4 ▸ hi.kept.size,fun B hB' hM=>(h5 B (by omega)).trans (hi.kept.block B hB' hM)⟩
 ·intro x ox hx
  unfold Hp.set at hx
  split at hx
  ·rename_i e; subst e; cases hx; exact hn
  ·rename_i e
   cases ha:dy ox with
   | false=>cases ox <;> first | trivial | cases ha
   | true=>exact (hi.blk x ox hx).mono (Io.le.refl _) fun Lx hLx=>h5 Lx.B fun eB=>e (hi.inj b x o ox L Lx hb hx ho ha hL hLx eB.symm).symm
 ·intro x y ox oy Lx Ly hx hy k1 k2 k3 k4 k5
  have hx':∃ ox',h x=some ox'∧kq ox'=true:=by
   unfold Hp.set at hx; split at hx
   ·rename_i e; subst e; exact ⟨o,hb,ho⟩
   ·exact ⟨ox,hx,k1⟩
  have hy':∃ oy',h y=some oy'∧dy oy'=true:=by
   unfold Hp.set at hy; split at hy
   ·rename_i e; subst e; exact ⟨o,hb,ch ho⟩
   ·exact ⟨oy,hy,k2⟩
  obtain ⟨ox',p1,p2⟩:=hx'
  obtain ⟨oy',q1,q2⟩:=hy'
  exact hi.inj x y ox' oy' Lx Ly p1 q1 p2 q2 k3 k4 k5
 ·intro x Lx hLx; rw [h4]; exact hi.lt x Lx hLx
 ·intro B hB' hn'
  exact h5 B fun e=>hn' b o L hb ho hL e.symm
 ·intro x ox Lx hx hox hLx
  unfold Hp.set at hx
  split at hx
  ·rename_i e; subst e; rw [hL] at hLx; cases hLx; exact .inr ⟨x,o,L,hb,ch ho,.inl ho,fun _=>ho,hL,rfl⟩
  ·exact .inr ⟨x,ox,Lx,hx,hox,.inr rfl,id,hLx,rfl⟩
theorem Go1.move {nx:Nat} {w w':World} {ι : Io} {h:Hp} {o o':RO} {b:Nat} {L L':Loc} (hi:RInv GL w0 w ι h) (ht:∀ b,nx≤b→ι b=none) (hb:h b=some o) (ho:kq o=true) (hL : ι b=some L)
  (hB:w0.heap.size≤L.B) (h1:w'.os=w.os) (h2:w'.tape=w.tape) (h3:w'.output=w.output) (h4:w.heap.size≤w'.heap.size) (h5:∀ B,B < w.heap.size→B≠L.B→w'.heap[B]?=w.heap[B]?)
  (h6:L'.B=L.B∨w.heap.size≤L'.B) (h7:L'.B < w'.heap.size) (hbn:b < nx)
  (hn:RBlk w0 w' (ι.set nx L') nx o'):Go1 GL w0 nx w ι h (nx+1) w' (ι.set nx L') (Hp.set (Hp.set h b .dead) nx o'):=by
 have hle : ι.le (ι.set nx L'):=Io.set_le (ht nx (A7 _))
 have inset:∀ b L1,(ι.set nx L') b=some L1→b≠nx→ι b=some L1:=fun b L1 h1 h2=>by simpa [Io.set,h2] using h1
 have atnew:∀ L1,(ι.set nx L') nx=some L1→L1=L':=fun L1 h=>by rw [Io.set_self] at h; exact (B4 h).symm
 have get:∀ x ox,(Hp.set (Hp.set h b .dead) nx o') x=some ox→dy ox=true→x≠nx→x≠b∧h x=some ox:=by
  intro x ox hx ha hne
  simp only [Hp.set,hne,if_false] at hx
  split at hx
  ·cases hx; cases ha
  ·rename_i e; exact ⟨e,hx⟩
 refine ⟨⟨?_,?_,?_,?_,?_⟩,hle,?_,O8 _,?_,h4,?_,?_⟩
 ·have hs:=hi.kept.size
  exact ⟨h1.trans hi.kept.os,h2.trans hi.kept.tape,h3.trans hi.kept.output,LQ hs h4,fun B hB' hM=>(h5 B (by omega) (by omega)).trans (hi.kept.block B hB' hM)⟩
 ·intro x ox hx
  by_cases e:x=nx
  ·subst e; simp [Hp.set] at hx; subst hx; exact hn
  ·cases ha:dy ox with
   | false=>cases ox <;> first | trivial | cases ha
   | true =>
    obtain ⟨e2,hx'⟩:=get x ox hx ha e
    exact (hi.blk x ox hx').mono hle fun Lx hLx=>h5 Lx.B (hi.lt x Lx hLx) fun eB=>e2 (hi.inj b x o ox L Lx hb hx' ho ha hL hLx eB.symm).symm
 ·intro x y ox oy Lx Ly hx hy k1 k2 k3 k4 k5
  by_cases e1:x=nx <;> by_cases e2:y=nx
  ·exact e1.trans e2.symm
  ·subst e1
   have:=atnew _ k3; subst this
   obtain ⟨n1,n2⟩:=get y oy hy k2 e2
   have hy':=inset _ _ k4 e2
   have hyl:=hi.lt y Ly hy'
   rcases h6 with h6 | h6
   ·exact absurd (hi.inj b y o oy L Ly hb n2 ho k2 hL hy' (by omega)).symm n1
   ·omega
  ·subst e2
   have:=atnew _ k4; subst this
   obtain ⟨n1,n2⟩:=get x ox hx (ch k1) e1
   have hx':=inset _ _ k3 e1
   have hxl:=hi.lt x Lx hx'
   rcases h6 with h6 | h6
   ·exact absurd (hi.inj x b ox o Lx L n2 hb k1 (ch ho) hx' hL (by omega)) n1
   ·omega
  ·exact hi.inj x y ox oy Lx Ly (get x ox hx (ch k1) e1).2 (get y oy hy k2 e2).2 k1 k2 (inset _ _ k3 e1) (inset _ _ k4 e2) k5
 ·intro x Lx hLx
  by_cases e:x=nx
  ·subst e; rw [atnew _ hLx]; exact h7
  ·exact LA (hi.lt x Lx (inset _ _ hLx e)) h4
 ·intro g hg
  obtain ⟨n,hn⟩:=hi.glob g hg
  exact ⟨n,hle _ _ hn⟩
 ·intro x hx; simp [Io.set,O5 hx]
 ·intro x hx
  have:x≠nx:=by omega
  simp only [Io.set,this,if_false]; exact ht x (by omega)
 ·intro B hB' hn'
  exact h5 B hB' fun e=>hn' b o L hb ho hL e.symm
 ·intro x ox Lx hx hox hLx
  by_cases e:x=nx
  ·subst e; rw [atnew _ hLx]
   rcases h6 with h6 | h6
   ·exact .inr ⟨b,o,L,hb,ch ho,.inl ho,fun _=>ho,hL,h6.symm⟩
   ·exact .inl h6
  ·obtain ⟨_,hx'⟩:=get x ox hx hox e
   exact .inr ⟨x,ox,Lx,hx',hox,.inr rfl,id,inset _ _ hLx e,rfl⟩
theorem Go1.more {n1 n2 n3:Nat} {w w':World} {ι ι':Io} {h h':Hp} (g:Go1 GL w0 n1 w ι h n2 w' ι' h') (hn:n2≤n3):Go1 GL w0 n1 w ι h n3 w' ι' h' :=
 ⟨g.inv,g.le,g.low,LQ g.up hn,fun b hb=>g.top b (LQ hn hb),g.size,g.frame,g.news⟩
theorem Go1.then {n1 n2 m n3:Nat} {w1 w2 w3:World} {ι1 ι2 ι3:Io} {h1 h2 h3:Hp} (a:Go1 GL w0 n1 w1 ι1 h1 n2 w2 ι2 h2) (b:Go1 GL w0 m w2 ι2 h2 n3 w3 ι3 h3) (hm:n1≤m) :
  Go1 GL w0 n1 w1 ι1 h1 n3 w3 ι3 h3:=by
 have b':Go1 GL w0 n1 w2 ι2 h2 n3 w3 ι3 h3:=⟨b.inv,b.le,fun x hx=>b.low x (LA hx hm),LQ hm b.up,b.top,b.size,b.frame,b.news⟩
 refine ⟨b'.inv,a.le.trans b'.le,fun x hx=>(b'.low x hx).trans (a.low x hx),b'.up,b'.top,LQ a.size b'.size,?_,?_⟩
 ·intro B hB hn
  rw [b'.frame B (LA hB a.size) ?_,a.frame B hB hn]
  intro x o L hx ho hL e
  rcases a.news x o L hx (ch ho) hL with h | ⟨b0,o0,L0,q1,q2,q3,q4,q5,q6⟩
  ·omega
  ·exact hn b0 o0 L0 q1 (q4 ho) q5 (q6.trans e)
 ·intro x o L hx ho hL
  rcases b'.news x o L hx ho hL with h | ⟨b0,o0,L0,q1,q2,q3,q4,q5,q6⟩
  ·exact .inl (LQ a.size h)
  ·rcases a.news b0 o0 L0 q1 q2 q5 with h | ⟨b1,o1,L1,r1,r2,r3,r4,r5,r6⟩
   ·exact .inl (by omega)
   ·refine .inr ⟨b1,o1,L1,r1,r2,?_,fun h=>r4 (q4 h),r5,r6.trans q6⟩
    rcases r3 with r3 | r3
    ·exact .inl r3
    ·rcases q3 with q3 | q3
     ·exact .inl (r4 q3)
     ·exact .inr (r3.trans q3)
theorem Go1.add {n1 nx b0:Nat} {w1 w w':World} {ι1 ι : Io} {h1 h:Hp} {o:RO} {L:Loc} (g:Go1 GL w0 n1 w1 ι1 h1 nx w ι h) (hb0:n1≤b0) (hb1:b0 < nx) (hn : ι b0=none) (hk:Kept w NoM w') (k1:w.heap.size≤L.B) (k2:L.B < w'.heap.size)
  (hb:RBlk w0 w' (ι.set b0 L) b0 o):Go1 GL w0 n1 w1 ι1 h1 nx w' (ι.set b0 L) (Hp.set h b0 o):=by
 have hi:=g.inv
 have hle : ι.le (ι.set b0 L):=Io.set_le hn
 have hold:∀ b,b < w.heap.size→w'.heap[b]?=w.heap[b]?:=fun b hb=>hk.block b hb (fun h=>h)
 have inset:∀ b L',(ι.set b0 L) b=some L'→b≠b0→ι b=some L':=fun b L' h1 h2=>by simpa [Io.set,h2] using h1
 have atnew:∀ L',(ι.set b0 L) b0=some L'→L'=L:=fun L' h=>by rw [Io.set_self] at h; exact (B4 h).symm
 have hlt:∀ b L',(ι.set b0 L) b=some L'→b≠b0→L'.B < w.heap.size:=fun b L' h1 h2=>hi.lt b L' (inset b L' h1 h2)
 have g2:Go1 GL w0 n1 w ι h nx w' (ι.set b0 L) (Hp.set h b0 o):=by
  refine ⟨⟨?_,?_,?_,?_,?_⟩,hle,?_,LQ hb0 (Nat.le_of_lt hb1),?_,hk.size,fun B hB _=>hold B hB,?_⟩
  ·have:=hi.kept.size
   exact ⟨hk.os.trans hi.kept.os,hk.tape.trans hi.kept.tape,hk.output.trans hi.kept.output,LQ hi.kept.size hk.size,fun b hb hM=>(hold b (by omega)).trans (hi.kept.block b hb hM)⟩
  ·intro b o' hb'
   unfold Hp.set at hb'
   split at hb'
   ·rename_i e; subst e; cases hb'; exact hb
   ·exact (hi.blk b o' hb').mono hle fun L' hL'=>hold L'.B (hi.lt b L' hL')
  ·intro b b' o1 o2 L1 L2 k1 k2 k3 k4 k5 k6 k7
   by_cases e1:b=b0 <;> by_cases e2:b'=b0
   ·exact e1.trans e2.symm
   ·subst e1; have:=atnew _ k5; subst this; have:=hlt _ _ k6 e2; omega
   ·subst e2; have:=atnew _ k6; subst this; have:=hlt _ _ k5 e1; omega
   ·simp only [Hp.set,e1,e2,if_false] at k1 k2
    exact hi.inj b b' o1 o2 L1 L2 k1 k2 k3 k4 (inset _ _ k5 e1) (inset _ _ k6 e2) k7
  ·intro b L' hL'
   by_cases e:b=b0
   ·subst e; rw [atnew _ hL']; exact k2
   ·exact LA (hlt b L' hL' e) hk.size
  ·intro g hg
   obtain ⟨n,hn⟩:=hi.glob g hg
   exact ⟨n,hle _ _ hn⟩
  ·intro b hb
   have:b≠b0:=by omega
   simp [Io.set,this]
  ·intro b hb
   have:b≠b0:=by omega
   simp only [Io.set,this,if_false]; exact g.top b hb
  ·intro b o' L' hb' ho' hL'
   by_cases e:b=b0
   ·subst e; rw [atnew _ hL']; exact .inl k1
   ·simp only [Hp.set,e,if_false] at hb'
    exact .inr ⟨b,o',L',hb',ho',.inr rfl,id,inset _ _ hL' e,rfl⟩
 exact g.then g2 (A7 _)
end
end Go.Rx

/-
 The evaluator's operations against the model's: values.
-/
namespace Go.Rx
open Go.Vm
theorem bF {α R:Type} {o:Option α} {no:Option R} {K : α→Option R} {r:R} (h:onO o no K=some r) (hn:no=none):∃ x,o=some x∧K x=some r:=by
 cases o with
 | none=>subst hn; cases h
 | some x=>exact ⟨x,rfl,h⟩
theorem ag {R:Type} {b:Bool} {x:Option R} {r:R} (h:cond b x none=some r):b=true∧x=some r:=by
 cases b with
 | true=>exact ⟨rfl,h⟩
 | false=>cases h
section
variable {P:Program} {ι : Io}
theorem de {α : Type}:∀ {m:Sem α} {x : α},iM P m=some x→∀ w,m.run P w=.ok x w:=by
 intro m
 induction m with
 | pure a=>intro x h w; cases h; rfl
 | program k ih=>intro x h w; exact ih P h w
 | mark q k ih=>intro x h w; exact ih h w
 | _=>intro x h; cases h
theorem io {t:TypeId} {n:Nat} (h:dG P t=some n):∃ i,P.info? t=some i∧i.size=n∧i.bytes≤100000:=by
 unfold dG at h
 split at h
 ·rename_i i hi
  obtain ⟨h1,h2⟩:=ag h
  exact ⟨i,hi,B4 h2,B7 h1⟩
 ·cases h
theorem bS {t:TypeId} {n:Nat} (h:dG P t=some n) (w:World):(sizeOf t).run P w=.ok n w:=by
 obtain ⟨i,h1,h2,_⟩:=io h
 simp [sizeOf,typeInfo,h1,h2]
theorem lL {t:TypeId} {g:Bool} (h:zn P t=some g) (w:World):(isAgg t).run P w=.ok g w:=by
 unfold zn at h
 unfold isAgg
 split at h
 ·rename_i hu; cases h; rw [Sem.run_bind,run_underlying hu w]; rfl
 ·rename_i hu; cases h; rw [Sem.run_bind,run_underlying hu w]; rfl
 ·rename_i d hu h1 h2
  cases h
  rw [Sem.run_bind,run_underlying h2 w]
  cases d <;> simp_all
 ·cases h
theorem zX {t:TypeId} {z:List RC} (h:iH P t=some z):∃ v,(∀ w,(zeroValue t).run P w=.ok v w)∧scs v.cells.toList=some z:=by
 unfold iH at h
 split at h
 ·rename_i i hi
  split at h
  ·rename_i v hv
   exact ⟨v,fun w=>by simp [zeroValue,typeInfo,hi,hv],h⟩
  ·cases h
 ·cases h
theorem dK {t e:TypeId} (h:fF P t=some e):P.underlying t=some (.slice e):=by
 unfold fF at h
 split at h
 ·rename_i hu; cases h; exact hu
 ·cases h
theorem eu {t:TypeId} {g:Bool} {n:Nat} (h:ldT P t=some (g,n)):zn P t=some g∧dG P t=some n∧(g=false→n=1):=by
 unfold ldT at h
 split at h
 ·rename_i g' n' h1 h2
  obtain ⟨h3,h4⟩:=ag h
  cases h4
  refine ⟨h1,h2,fun hg=>?_⟩
  subst hg
  simpa using h3
 ·cases h
theorem ku {t:TypeId} {f o:Nat} {q:Bool×Nat} (h:kS P t f=some (o,q)):∃ fs fd,P.underlying t=some (.struct fs)∧fs[f]?=some fd∧fd.offset=o∧ldT P fd.type=some q:=by
 unfold kS at h
 split at h
 ·rename_i fs hu
  split at h
  ·rename_i fd hf
   split at h
   ·rename_i p hp
    cases h
    exact ⟨fs,fd,hu,hf,rfl,hp⟩
   ·cases h
  ·cases h
 ·cases h
noncomputable def opS (GL:List Nat) (σ : Nat→RV) (x:Operand):RV:=match x with
 | .tmp t=>σ t
 | .const v=>E3 v
 | .global g=>cond (gIn GL g) (.one (.ptr g 0)) .unk
 | .func f=>.one (.fn f [] 0 [])
theorem uM (GL:List Nat) (msk:Nat) (e:cE) (l:Lc) (x:Operand):rev GL msk e l x=opS GL (egt msk e l) x:=by
 unfold rev JS opS
 cases x with
 | tmp t=>unfold egt; dsimp only; cases iE msk t <;> rfl
 | const v=>rfl
 | global g=>dsimp only; cases gIn GL g <;> rfl
 | func f=>rfl
theorem Ca:∀ {GL:List Nat} {g:Nat},gIn GL g=true→g∈GL
 | [],_,h=>by cases h
 | a :: r,g,h=>by
  change cond (A8 a g) true (gIn r g)=true at h
  cases hb:A8 a g with
  | true=>rw [Nat.eq_of_beq_eq_true hb]; exact List.mem_cons_self ..
  | false=>rw [hb] at h; exact List.mem_cons_of_mem _ (Ca h)
theorem uV {GL:List Nat} (hg:∀ g∈GL,∃ n,ι g=some ⟨g,0,n⟩) {a:Act} {σ : Nat→RV} {x:Operand} (hs:∀ t,x=.tmp t→RelV ι (a.tmps.getD t undef) (σ t)):RelV ι (a.eval x) (opS GL σ x):=by
 cases x with
 | tmp t=>exact hs t rfl
 | const v =>
  show RelV ι v ((ofV v).getD .unk)
  cases h:ofV v with
  | none=>trivial
  | some r=>exact mh h
 | global g =>
  show RelV ι (.pointer (some ⟨g,0,none⟩)) (cond (gIn GL g) (.one (.ptr g 0)) .unk)
  cases hb:gIn GL g with
  | false=>trivial
  | true=>obtain ⟨n,hn⟩:=hg g (Ca hb); exact RelC.ptr hn
 | func f=>exact RelC.fn (us:=[]) RelL.nil
theorem jH {x:RV} {m:Nat} (h:x.asNat=some m):x=.one (.nat m):=by
 cases x with
 | one c=>cases c <;> simp_all [RV.asNat,RC.asNat]
 | _=>simp [RV.asNat] at h
theorem iC {x:RV} {b:Bool} (h:x.asBool=some b):x=.one (.bool b):=by
 cases x with
 | one c=>cases c <;> simp_all [RV.asBool,RC.asBool]
 | _=>simp [RV.asBool] at h
theorem fC {x:RV} {p:Nat×Nat} (h:x.asPtr=some p):x=.one (.ptr p.1 p.2):=by
 cases x with
 | one c=>cases c <;> first | (cases h; done) | (cases h; rfl)
 | _=>simp [RV.asPtr] at h
theorem pk {x:RV} {s:SlH} (h:x.asSl=some s):x=.one (.sl s.b s.off s.len s.cap s.es):=by
 cases x with
 | one c=>cases c <;> first | (cases h; done) | (cases h; rfl)
 | _=>simp [RV.asSl] at h
theorem rel_bool {v:Value} {b:Bool} (h:RelV ι v (.one (.bool b))):v=.bool b:=by
 cases (show RelC ι (.bool b) v from h); rfl
theorem qp {v:Value} {m:Nat} (h:RelV ι v (.one (.nat m))):v=.int .i64 (.ofNat m)∧m≤maxI:=by
 cases (show RelC ι (.nat m) v from h); exact ⟨rfl,by assumption⟩
theorem rel_int {v:Value} {k:IntKind} {n:Int} (h:RelV ι v (.one (.int k n))):v=.int k n∧k.min≤n∧n≤k.max:=by
 cases (show RelC ι (.int k n) v from h); exact ⟨rfl,by assumption,by assumption⟩
theorem eE {v:Value} {b off:Nat} (h:RelV ι v (.one (.ptr b off))):∃ L,ι b=some L∧v=.pointer (some ⟨L.B,L.base+off,none⟩):=by
 cases (show RelC ι (.ptr b off) v from h); exact ⟨_,by assumption,rfl⟩
theorem kb {v:Value} {b off len es:Nat} {cap:Option Nat} (h:RelV ι v (.one (.sl b off len cap es))) :
  ∃ L k,ι b=some L∧v=.slice (some ⟨L.B,L.base+off,none⟩) len k∧len≤k∧L.base+off+k * es≤L.n∧(∀ c,cap=some c→k=c)∧k≤maxLen:=by
 cases (show RelC ι (.sl b off len cap es) v from h); exact ⟨_,_,by assumption,rfl,by assumption,by assumption,by assumption,by assumption⟩
theorem ma {v:Value} {b es:Nat} (h:RelV ι v (.one (.emp b es))) :
  ∃ L o k,ι b=some L∧v=.slice (some ⟨L.B,o,none⟩) 0 k∧L.base≤o∧o+k * es≤L.n∧k≤maxLen:=by
 cases (show RelC ι (.emp b es) v from h); exact ⟨_,_,_,by assumption,rfl,by assumption,by assumption,by assumption⟩
theorem v7 {v:Value} {b:Nat} (h:RelV ι v (.one (.mp b))):∃ L,ι b=some L∧v=.map (some L.B):=by
 cases (show RelC ι (.mp b) v from h); exact ⟨_,by assumption,rfl⟩
theorem gG {v u:Value} (h:RelV ι v (.one (.sc u))):v=u∧jZ u=true:=by
 cases (show RelC ι (.sc u) v from h); exact ⟨rfl,by assumption⟩
theorem Ao {v:Value} {f k:Nat} {sh:List (Bool×Nat)} {cells:List RC} (h:RelV ι v (.one (.fn f sh k cells))) :
  ∃ us,RelL ι cells us∧v=.func (.func f) ((dh sh us).take k).toArray ((dh sh us).drop k).toArray:=by
 cases (show RelC ι (.fn f sh k cells) v from h); exact ⟨_,by assumption,rfl⟩
theorem ud (n:Nat):bN n=some (.one (.nat n)):=by cases n <;> rfl
theorem Hr (b:Bool):bB b=some (.one (.bool b)):=by cases b <;> rfl
theorem jU {x:RV} {n:Nat} {v:Value} (h:ixN x=some n) (hr:RelV ι v x):∃ k:IntKind,v=.int k (.ofNat n)∧k.min≤(n:Int)∧(n:Int)≤k.max:=by
 unfold ixN at h
 cases ha:x.asNat with
 | some m =>
  rw [ha] at h
  cases h
  rw [jH ha] at hr
  obtain ⟨rfl,hm⟩:=qp hr
  refine ⟨.i64,rfl,?_,?_⟩ <;> simp [IntKind.min,IntKind.max,IntKind.signed,IntKind.bits] <;> simp [maxI] at hm <;> omega
 | none =>
  rw [ha] at h
  change ixI x=some n at h
  unfold ixI at h
  split at h
  ·rename_i k m
   obtain ⟨h1,h2⟩:=ag h
   cases h2
   obtain ⟨rfl,h3,h4⟩:=rel_int hr
   have h1:0≤m:=by simpa using h1
   have e:Int.ofNat m.toNat=m:=Int.toNat_of_nonneg h1
   exact ⟨k,by rw [e],by have:((m.toNat:Nat):Int)=m:=e; rw [this]; exact h3,by have:((m.toNat:Nat):Int)=m:=e; rw [this]; exact h4⟩
  ·cases h
theorem sw {n:Option Nat} {v:RV} (h:uR n=some v):∃ m,n=some m∧m≤maxI∧v=.one (.nat m):=by
 unfold uR at h
 split at h
 ·rename_i m
  obtain ⟨h1,h2⟩:=ag h
  rw [ud] at h2
  cases h2
  exact ⟨m,rfl,B7 h1,rfl⟩
 ·cases h
theorem qV {m:Nat} (h:m≤maxI):RelV ι (goInt m) (.one (.nat m)):=RelC.nat h
def gM (P:Program) (ι : Io) (a:Act) (o:Oper) (v:RV):Prop:=∀ w:World,∃ u,(execOp a.eval o).run P w=.ok (.value u) w∧RelV ι u v
variable {o:Oper} {a:Act} {ev:Ev} {v:RV}
theorem Ix {c x y:Operand} (ho:o.op=.pick c x y) (hS:∀ x∈o.op.operands,RelV ι (a.eval x) (ev x)) (h:Ia (ev c) (ev x) (ev y)=some v):gM P ι a o v:=by
 intro w
 rw [ho] at hS
 have hc:=hS c (by simp [Op.operands])
 have hx:=hS x (by simp [Op.operands])
 have hy:=hS y (by simp [Op.operands])
 obtain ⟨t,h1,h2⟩:=bF h rfl
 rw [iC h1] at hc
 have hb:=rel_bool hc
 cases t with
 | true=>cases h2; exact ⟨_,by simp [execOp,ho,hb,asBool],hx⟩
 | false=>cases h2; exact ⟨_,by simp [execOp,ho,hb,asBool],hy⟩
theorem E6 {f:Value→Sem Value} {x:Operand} (hrun:∀ w,(execOp a.eval o).run P w=((f (a.eval x)).run P w).andThen fun u w=>.ok (.value u) w) (hx:RelV ι (a.eval x) (ev x)) (h:unV P f (ev x)=some v):gM P ι a o v:=by
 intro w
 unfold unV at h
 split at h
 ·rename_i u hu
  split at h
  ·rename_i r hr
   have:=eJ hu hx
   exact ⟨r,by rw [hrun,this,de hr w]; rfl,mh h⟩
  ·cases h
 ·cases h
theorem Fg {op:UnOp} {t:TypeId} {x:Operand} (ho:o.op=.unOp op t x) (hS:∀ x∈o.op.operands,RelV ι (a.eval x) (ev x)) (h:unV P (Op.unary op) (ev x)=some v):gM P ι a o v:=by
 rw [ho] at hS
 exact E6 (f:=Op.unary op) (x:=x) (fun w=>by simp [execOp,ho]) (hS x (by simp [Op.operands])) h
theorem JO {t:TypeId} {x:Operand} (ho:o.op=.unOp .not t x) (hS:∀ x∈o.op.operands,RelV ι (a.eval x) (ev x)) (h:ID (ev x) (unV P (Op.unary .not) (ev x))=some v):gM P ι a o v:=by
 unfold ID at h
 cases hb:(ev x).asBool with
 | none=>rw [hb] at h; exact Fg ho hS h
 | some b =>
  rw [hb] at h
  change bB (!b)=some v at h
  rw [Hr] at h
  cases h
  intro w
  rw [ho] at hS
  have hx:=hS x (by simp [Op.operands])
  rw [iC hb] at hx
  exact ⟨.bool (!b),by simp [execOp,ho,rel_bool hx,Op.unary],RelC.bool⟩
theorem CE {s t:TypeId} {x:Operand} (ho:o.op=.convert s t x) (hS:∀ x∈o.op.operands,RelV ι (a.eval x) (ev x)) (h:unV P (convert s t) (ev x)=some v):gM P ι a o v:=by
 rw [ho] at hS
 exact E6 (f:=convert s t) (x:=x) (fun w=>by simp [execOp,ho]) (hS x (by simp [Op.operands])) h
theorem FF {op:BinOp} {k:IntKind} {m n:Int} {c:RC} (h:IX op k m n=some c) (t:TypeId) (w:World):∃ u,(binOp op t (.int k m) (.int k n)).run P w=.ok u w∧RelV ι u (.one c):=by
 unfold IX at h
 split at h
 ·rename_i k' n' hr
  obtain ⟨u,h1,h2⟩:=zO (P:=P) (m:=⟨w,fun _=>False,fun _=>undef,[]⟩) op t k m n hr w
  exact ⟨u,h1,by rw [(Go.Vm.rel_int h2).1]; exact nA h⟩
 ·rename_i b hr
  obtain ⟨u,h1,h2⟩:=zO (P:=P) (m:=⟨w,fun _=>False,fun _=>undef,[]⟩) op t k m n hr w
  cases h
  exact ⟨u,h1,by rw [Go.Vm.rel_bool h2]; exact RelC.bool⟩
 ·cases h
theorem Dg {op:BinOp} {f:Nat→Nat→Option RV} (hf:Bi op=some f) {m n:Nat} (hm:m≤maxI) (hn:n≤maxI) {r:RV} (h:f m n=some r) (t:TypeId) (w:World) :
  ∃ u,(binOp op t (.int .i64 (.ofNat m)) (.int .i64 (.ofNat n))).run P w=.ok u w∧RelV ι u r:=by
 have wr:∀ q:Nat,q≤maxI→IntKind.i64.wrap (q:Int)=(q:Int):=by
  intro q hq
  simp only [maxI] at hq
  simp [IntKind.wrap,IntKind.bits,IntKind.signed]
  omega
 have nat:∀ q:Nat,q≤maxI→RelV ι (.int .i64 (q:Int)) (.one (.nat q)):=fun q hq=>RelC.nat hq
 unfold Bi at hf
 split at hf <;> first | cases hf | skip
 all_goals dsimp only at h
 ·obtain ⟨h1,h2⟩:=ag h
  rw [ud] at h2; cases h2
  have h1:m+n≤maxI:=B7 h1
  refine ⟨.int .i64 ((m+n:Nat):Int),?_,nat _ h1⟩
  have:=wr (m+n) h1
  simp [binOp,Op.intArith]
  push_cast at this
  exact this
 ·obtain ⟨h1,h2⟩:=ag h
  rw [ud] at h2; cases h2
  have h1:n≤m:=B7 h1
  have h3:m - n≤maxI:=by omega
  refine ⟨.int .i64 ((m - n:Nat):Int),?_,nat _ h3⟩
  have:=wr (m - n) h3
  rw [O2 h1] at this
  simp [binOp,Op.intArith]
  rw [this,O2 h1]
 ·obtain ⟨h1,h2⟩:=ag h
  rw [ud] at h2; cases h2
  have h1:m * n≤maxI:=B7 h1
  refine ⟨.int .i64 ((m * n:Nat):Int),?_,nat _ h1⟩
  have:=wr (m * n) h1
  push_cast at this
  simp [binOp,Op.intArith]
  exact this
 ·cases hb:A8 n 0 with
  | true=>rw [hb] at h; cases h
  | false =>
   rw [hb] at h
   change bN (m / n)=some r at h
   rw [ud] at h; cases h
   have hn0:n≠0:=M8 hb
   have h3:m / n≤maxI:=LQ (Nat.div_le_self m n) hm
   refine ⟨.int .i64 ((m / n:Nat):Int),?_,nat _ h3⟩
   have:=wr (m / n) h3
   have e:(m:Int).tdiv (n:Int)=((m / n:Nat):Int):=Int.ofNat_tdiv m n
   have hn1:(n:Int)≠0:=by omega
   simp only [binOp,My,ne_eq,not_true_eq_false,if_false,Op.intDiv,if_neg hn1,e]
   rw [this]; rfl
 ·cases hb:A8 n 0 with
  | true=>rw [hb] at h; cases h
  | false =>
   rw [hb] at h
   change bN (m % n)=some r at h
   rw [ud] at h; cases h
   have hn0:n≠0:=M8 hb
   have h3:m % n≤maxI:=LQ (Nat.mod_le m n) hm
   refine ⟨.int .i64 ((m % n:Nat):Int),?_,nat _ h3⟩
   have e:(m:Int).tmod (n:Int)=((m % n:Nat):Int):=Int.ofNat_tmod m n
   have hn1:(n:Int)≠0:=by omega
   simp only [binOp,My,ne_eq,not_true_eq_false,if_false,Op.intDiv,if_neg hn1,e]
   rfl
 all_goals (rw [Hr] at h; cases h)
 ·refine ⟨.bool (A8 m n),?_,RelC.bool⟩
  have:((m:Int) == (n:Int))=A8 m n:=by
   rw [MV,beq_iff_eq,Pc]; omega
  simp [binOp,Op.intCmp,this]
 ·refine ⟨.bool (!A8 m n),?_,RelC.bool⟩
  have:((m:Int) != (n:Int))=!A8 m n:=by
   rw [MV,bne_iff_ne,Bool.not_eq_true',← Bool.not_eq_true,Pc]; omega
  simp [binOp,Op.intCmp,this]
 ·refine ⟨.bool (Lh (Nat.succ m) n),?_,RelC.bool⟩
  have:decide ((m:Int) < (n:Int))=Lh (Nat.succ m) n:=by
   rw [MV,decide_eq_true_eq,Ob]; omega
  simp only [binOp,My,ne_eq,not_true_eq_false,if_false,Op.intCmp,this]; rfl
 ·refine ⟨.bool (Lh m n),?_,RelC.bool⟩
  have:decide ((m:Int)≤(n:Int))=Lh m n:=by
   rw [MV,decide_eq_true_eq,Ob]; omega
  simp only [binOp,My,ne_eq,not_true_eq_false,if_false,Op.intCmp,this]; rfl
 ·refine ⟨.bool (Lh (Nat.succ n) m),?_,RelC.bool⟩
  have:decide ((m:Int) > (n:Int))=Lh (Nat.succ n) m:=by
   rw [MV,decide_eq_true_eq,Ob]; omega
  simp only [binOp,My,ne_eq,not_true_eq_false,if_false,Op.intCmp,this]; rfl
 ·refine ⟨.bool (Lh n m),?_,RelC.bool⟩
  have:decide ((m:Int) ≥ (n:Int))=Lh n m:=by
   rw [MV,decide_eq_true_eq,Ob]; omega
  simp only [binOp,My,ne_eq,not_true_eq_false,if_false,Op.intCmp,this]; rfl
theorem wz {op:BinOp} {k:IntKind} {m n:Int} (hm:k.min≤m∧m≤k.max) {c:RC} (h:vd op k m n=some c) (t:TypeId) (w:World):∃ u,(binOp op t (.int k m) (.int k n)).run P w=.ok u w∧RelV ι u (.one c):=by
 unfold vd at h
 split at h
 ·cases hz:eqI n 0 with
  | true=>rw [hz] at h; cases h
  | false =>
   rw [hz] at h
   have hn0:n≠0:=by intro e; subst e; simp [eqI] at hz
   exact ⟨_,by simp [binOp,Op.intDiv,hn0]; rfl,nA h⟩
 ·cases hz:eqI n 0 with
  | true=>rw [hz] at h; cases h
  | false =>
   rw [hz] at h
   have hn0:n≠0:=by intro e; subst e; simp [eqI] at hz
   exact ⟨_,by simp [binOp,Op.intDiv,hn0]; rfl,nA h⟩
 ·exact FF h t w
theorem wF {op:BinOp} {t yt:TypeId} {x y:Operand} (ho:o.op=.binOp op t x y yt) {u u':Value} (hu:a.eval x=u) (hu':a.eval y=u') (h:ql P op t x y u u'=some v):gM P ι a o v:=by
 intro w
 unfold ql at h
 split at h
 ·rename_i r hr
  refine ⟨r,?_,mh h⟩
  have:=de hr w
  simp only [Sem.run_bind] at this
  simp only [execOp,ho,hu,hu',Sem.run_bind]
  cases hg:(eqGuard op t x y u u').run P w with
  | ok q w' =>
   rw [hg] at this
   simp only [Result.andThen_ok] at this ⊢
   simp [this]
  | halt q w'=>rw [hg] at this; cases this
 ·cases h
theorem Fu {op:BinOp} {t yt:TypeId} {x y:Operand} (ho:o.op=.binOp op t x y yt) {u u':Value} (hu:a.eval x=u) (hu':a.eval y=u') (hk:∀ k m,u=.int k m→k.min≤m∧m≤k.max) (h:vf P op t x y u u'=some v):gM P ι a o v:=by
 unfold vf at h
 split at h
 ·rename_i k m k' n
  cases hb:Hs op with
  | true =>
   rw [hb] at h
   exact wF ho hu hu' h
  | false =>
   rw [hb,cond_false] at h
   intro w
   have dd:∀ r,(eqGuard op t x y (.int k m) (.int k' n)).run P w=.ok () w→(binOp op t (.int k m) (.int k' n)).run P w=.ok r w→(execOp a.eval o).run P w=.ok (.value r) w:=fun r h1 h2=>by
    simp [execOp,ho,hu,hu',h1,h2]
   obtain ⟨hkk,h1⟩:=ag h
   clear h
   have hkk:k=k':=by simpa using hkk
   subst hkk
   unfold HD at h1
   split at h1
   ·rename_i c hc
    cases h1
    obtain ⟨r,h1,h2⟩:=wz (hk k m rfl) hc t w
    exact ⟨r,dd r (cJ (P:=P) op t x y (.inl ⟨k,m,rfl⟩) w) h1,h2⟩
   ·cases h1
 ·exact wF ho hu hu' h
theorem CN {x:RV} {u u':Value} (h:vOf x=some u) (hr:RelV ι u' x):∀ k m,u=.int k m→k.min≤m∧m≤k.max:=by
 intro k m e
 have:=eJ h hr
 subst this
 subst e
 unfold vOf at h
 split at h
 ·rename_i c
  cases (show RelC ι c (.int k m) from hr) with
  | nat hm=>simp [IntKind.min,IntKind.max,IntKind.signed,IntKind.bits]; simp [maxI] at hm; omega
  | int h1 h2=>exact ⟨h1,h2⟩
  | sc h1=>simp [jZ] at h1
 ·obtain ⟨us,h1,_⟩:=hr; cases h1
 ·cases h
theorem yB {d:TypeDesc} {t:TypeId} {c:RC} {r u:Value} (hd:P.underlying t=some d) (hk:iY d c u=true) (hr:RelC ι c r) (w:World) :
  (Op.equal t r u).run P w=.ok false w∧(Op.equal t u r).run P w=.ok false w:=by
 have key:∀ d',(Op.equalIn (d'+1) t r u).run P w=.ok false w∧(Op.equalIn (d'+1) t u r).run P w=.ok false w:=by
  intro d'
  unfold iY at hk
  split at hk <;> first | cases hk | skip
  all_goals
   cases hr
   constructor <;>
   ·unfold Op.equalIn
    rw [Sem.run_bind,run_underlying hd]
    rfl
 exact key 9999
theorem qX {op:BinOp} {t yt:TypeId} {x y:Operand} (ho:o.op=.binOp op t x y yt) {c:RC} {u:Value} (h:vQ P op t c u=some v) {r:Value} (hr:RelC ι c r)
  (hxy:(a.eval x=r∧a.eval y=u)∨(a.eval x=u∧a.eval y=r)):gM P ι a o v:=by
 intro w
 unfold vQ at h
 split at h
 ·rename_i d hd
  obtain ⟨hk,h⟩:=ag h
  have hop:(op=.eql∧v=.one (.bool false))∨(op=.neq∧v=.one (.bool true)):=by
   split at h
   ·cases h; exact .inl ⟨rfl,rfl⟩
   ·cases h; exact .inr ⟨rfl,rfl⟩
   ·cases h
  have dd:∀ z,(eqGuard op t x y (a.eval x) (a.eval y)).run P w=.ok () w→(binOp op t (a.eval x) (a.eval y)).run P w=.ok z w→(execOp a.eval o).run P w=.ok (.value z) w:=fun z h1 h2=>by
   simp [execOp,ho,h1,h2]
  have guard:(eqGuard op t x y (a.eval x) (a.eval y)).run P w=.ok () w:=by
   unfold iY at hk
   split at hk <;> first | cases hk | skip
   all_goals (cases hr; rcases hxy with ⟨e1,e2⟩ | ⟨e1,e2⟩ <;> rw [e1,e2] <;> rcases hop with ⟨rfl,_⟩ | ⟨rfl,_⟩ <;> simp [eqGuard])
  have bin:(Op.equal t (a.eval x) (a.eval y)).run P w=.ok false w:=by
   rcases hxy with ⟨e1,e2⟩ | ⟨e1,e2⟩ <;> rw [e1,e2]
   ·exact (yB hd hk hr w).1
   ·exact (yB hd hk hr w).2
  rcases hop with ⟨rfl,rfl⟩ | ⟨rfl,rfl⟩
  ·refine ⟨.bool false,dd _ guard ?_,RelC.bool⟩
   unfold iY at hk
   split at hk <;> first | cases hk | skip
   all_goals (cases hr; rcases hxy with ⟨e1,e2⟩ | ⟨e1,e2⟩ <;> rw [e1,e2] at bin ⊢ <;> simp [binOp,bin])
  ·refine ⟨.bool true,dd _ guard ?_,RelC.bool⟩
   unfold iY at hk
   split at hk <;> first | cases hk | skip
   all_goals (cases hr; rcases hxy with ⟨e1,e2⟩ | ⟨e1,e2⟩ <;> rw [e1,e2] at bin ⊢ <;> simp [binOp,bin])
 ·cases h
theorem qh {op:BinOp} {t yt:TypeId} {x y:Operand} (ho:o.op=.binOp op t x y yt) (hS:∀ x∈o.op.operands,RelV ι (a.eval x) (ev x)) (h:DY P op t x y (ev x) (ev y)=some v):gM P ι a o v:=by
 rw [ho] at hS
 have hx:=hS x (by simp [Op.operands])
 have hy:=hS y (by simp [Op.operands])
 unfold DY at h
 split at h
 ·rename_i u u' hu hu'
  exact Fu ho (eJ hu hx) (eJ hu' hy) (CN hu hx) h
 ·rename_i u' _ hu'
  split at h
  ·rename_i c hc
   rw [hc] at hx
   exact qX ho h (show RelC ι c _ from hx) (.inl ⟨rfl,eJ hu' hy⟩)
  ·cases h
 ·rename_i u hu _
  split at h
  ·rename_i c hc
   rw [hc] at hy
   exact qX ho h (show RelC ι c _ from hy) (.inr ⟨eJ hu hx,rfl⟩)
  ·cases h
 ·cases h
theorem Er {op:BinOp} {t yt:TypeId} {x y:Operand} {f:Nat→Nat→Option RV} (hf:Bi op=some f) (ho:o.op=.binOp op t x y yt) (hS:∀ x∈o.op.operands,RelV ι (a.eval x) (ev x))
  (h:zz f (ev x) (ev y) (DY P op t x y (ev x) (ev y))=some v):gM P ι a o v:=by
 unfold zz at h
 cases hm:(ev x).asNat with
 | none=>rw [hm] at h; exact qh ho hS h
 | some m =>
  rw [hm] at h
  change onO (ev y).asNat _ _=some v at h
  cases hn:(ev y).asNat with
  | none=>rw [hn] at h; exact qh ho hS h
  | some n =>
   rw [hn] at h
   change onO (f m n) _ some=some v at h
   cases hr:f m n with
   | none=>rw [hr] at h; exact qh ho hS h
   | some r =>
    rw [hr] at h
    cases h
    intro w
    have hS':=hS
    rw [ho] at hS'
    have hx:=hS' x (by simp [Op.operands])
    have hy:=hS' y (by simp [Op.operands])
    rw [jH hm] at hx
    rw [jH hn] at hy
    obtain ⟨ex,lx⟩:=qp hx
    obtain ⟨ey,ly⟩:=qp hy
    obtain ⟨u,h1,h2⟩:=Dg (P:=P) hf lx ly hr t w
    refine ⟨u,?_,h2⟩
    have hg:=cJ (P:=P) op t x y (u:=a.eval x) (v:=a.eval y) (.inl ⟨_,_,ex⟩) w
    rw [← ex,← ey] at h1
    simp [execOp,ho,hg,h1]
end
end Go.Rx

