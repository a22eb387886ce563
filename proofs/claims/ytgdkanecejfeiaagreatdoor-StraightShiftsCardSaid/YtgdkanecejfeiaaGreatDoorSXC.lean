/-
 Operations: numbers, records, cells.
-/
import Derived.Test.YtgdkanecejfeiaaGreatDoorSXB
import Derived.Lib.ConvBytes
open List renaming getElem?_eq_getElem→A2,replicate→A6,length_cons→La,map_cons→Li,map_append→ME,zip_cons_cons→Ni,drop_eq_getElem_cons→Nk,zip→NK,length_flatten→Ou,zip_nil_left→OH,map_map→O3
open Bool renaming and_eq_true→A4,false_eq_true→LR
open Nat renaming eq_of_beq_eq_true→A5,le_refl→A7,beq→A8,le_of_ble_eq_true→B7,add_mul→Lf,ble→Lh,zero_add→Ln,add_assoc→Lo,le_trans→LQ,zero_le→Mr,mul_le_mul→Na,sub_zero→Nv,sub_le_sub_right→NH,not_le→Oc,not_lt→Od,mul_eq_zero→OV
open Option.some renaming inj→B4
open Array renaming getElem?_eq_some_iff→Lw,range→Mb,ext'→MW,toList_map→Nq
open List.Pairwise renaming nil→Mo
open List.cons renaming injEq→Mx
open Int renaming natCast_mul→OU
set_option linter.unusedVariables false
set_option linter.unusedSimpArgs false
/-
 The evaluator's operations against the model's: parts, places, functions.
-/
namespace Go.Rx
open Go.Vm
inductive All2 {α β : Type} (R : α→β→Prop):List α→List β→Prop
 | nil:All2 R [] []
 | cons {a : α} {b : β} {l:List α} {r:List β} (h:R a b) (t:All2 R l r):All2 R (a :: l) (b :: r)
section
variable {P:Program} {ι : Io} {o:Oper} {a:Act} {ev:Ev} {v:RV}
theorem vo {α : Type}:∀ {n:Nat} {l r:List α},tk n l=some r→r=l.take n∧n≤l.length
 | 0,l,r,h=>by cases h; simp
 | n+1,[],r,h=>by cases h
 | n+1,x :: l,r,h=>by
  unfold tk at h
  split at h
  ·rename_i r' hr; cases h; obtain ⟨rfl,h2⟩:=vo hr; simpa using h2
  ·cases h
theorem wm {t:TypeId} {g:Bool} {n off:Nat} (ht:ldT P t=some (g,n)) {us:List Value} (hl:off+n≤us.length) (w:World) :
  (part t us.toArray off).run P w=.ok (da g ((us.drop off).take n)) w:=by
 obtain ⟨h1,h2,h3⟩:=eu ht
 cases g with
 | true=>simp [part,lL h1,bS h2,da,List.take_drop]
 | false =>
  have:=h3 rfl
  subst this
  have hlt:off < us.length:=by omega
  simp only [part,Sem.run_bind,lL h1,Result.andThen_ok,LR,if_false,List.getElem?_toArray,A2 hlt,da,cond_false,Sem.run_pure]
  rw [Nk hlt]; rfl
theorem yy {g:Bool} {n off:Nat} {l:List RC} {us:List Value} (hr:RelL ι l us) (h:Bc (g,n) off l=some v):off+n≤us.length∧RelV ι (da g ((us.drop off).take n)) v∨(n=0∧RelV ι (da g []) v):=by
 unfold Bc at h
 split at h
 ·rename_i c hc
  obtain ⟨rfl,hle⟩:=vo hc
  by_cases hn:n=0
  ·subst hn; exact .inr ⟨rfl,i0 h (by simpa using RelL.nil)⟩
  ·refine .inl ⟨?_,i0 h ((hr.drop off).take n)⟩
   have:=hr.len
   simp only [List.length_drop] at hle
   omega
 ·cases h
theorem G9 {t:TypeId} {x:Operand} {f:Nat} (ho:o.op=.field t x f) (hS:∀ x∈o.op.operands,RelV ι (a.eval x) (ev x)) (h:AK (kS P t f) (ev x)=some v):gM P ι a o v:=by
 intro w
 rw [ho] at hS
 have hx:=hS x (by simp [Op.operands])
 unfold AK at h
 split at h
 ·rename_i l off q hl hf
  rw [hl] at hx
  obtain ⟨us,hu,hr⟩:=hx
  obtain ⟨fs,fd,h1,h2,h3,h4⟩:=ku hf
  obtain ⟨g,n⟩:=q
  rcases yy hr h with ⟨hle,hv⟩ | ⟨rfl,hv⟩
  ·exact ⟨_,by simp [execOp,ho,hu,Instr.field,run_underlying h1,h2,asAgg,h3,wm h4 hle],hv⟩
  ·cases g with
   | false=>have:=(eu h4).2.2 rfl; omega
   | true =>
    obtain ⟨k1,k2,k3⟩:=eu h4
    refine ⟨.agg #[],?_,hv⟩
    simp [execOp,ho,hu,Instr.field,run_underlying h1,h2,asAgg,h3,part,lL k1,bS k2]
 ·cases h
theorem we {t:TypeId} {f o n:Nat} {g:Bool} (hf:kS P t f=some (o,(g,n))) (hn:1≤n) (b off:Nat) (w:World) :
  (Instr.fieldAt t (.pointer (some ⟨b,off,none⟩)) f).run P w=.ok (.pointer (some ⟨b,off+o,none⟩)) w:=by
 obtain ⟨fs,fd,h1,h2,h3,h4⟩:=ku hf
 have hs:=bS (eu h4).2.1 w
 have h0:n≠0:=by omega
 simp [Instr.fieldAt,run_underlying h1,h2,Instr.sureAddr,fieldPlace,hs,h0,h3,bd]
theorem xq {t:TypeId} {x:Operand} {f:Nat} (ho:o.op=.fieldAddr t x f) (hS:∀ x∈o.op.operands,RelV ι (a.eval x) (ev x)) (h:rT (kS P t f) (ev x)=some v):gM P ι a o v:=by
 intro w
 rw [ho] at hS
 have hx:=hS x (by simp [Op.operands])
 obtain ⟨⟨off,g,n⟩,h1,h⟩:=bF h rfl
 obtain ⟨p,h2,h⟩:=bF h rfl
 obtain ⟨h3,h⟩:=ag h
 rw [fC h2] at hx
 obtain ⟨L,k1,k2⟩:=eE hx
 cases h
 refine ⟨_,?_,RelC.ptr k1⟩
 simp [execOp,ho,k2,we h1 (B7 h3),Lo]
theorem yr {t:TypeId} {x ix:Operand} (ho:o.op=.indexAddr t x ix) (hS:∀ x∈o.op.operands,RelV ι (a.eval x) (ev x)) (h:mV (CR P t) (ev x) (ixN (ev ix))=some v):gM P ι a o v:=by
 intro w
 rw [ho] at hS
 have hx:=hS x (by simp [Op.operands])
 have hix:=hS ix (by simp [Op.operands])
 unfold mV at h
 split at h
 ·rename_i n hk
  obtain ⟨e,hu,hs⟩ : ∃ e,P.underlying t=some (.slice e)∧dG P e=some n:=by
   unfold CR at hk
   split at hk
   ·rename_i e hu
    split at hk
    ·rename_i n' hn; cases hk; exact ⟨e,hu,hn⟩
    ·cases hk
   ·split at hk <;> cases hk
   ·cases hk
  obtain ⟨i,hi,h⟩:=bF h rfl
  obtain ⟨s,hs',h⟩:=bF h rfl
  obtain ⟨h1,h⟩:=ag h
  obtain ⟨h2,h⟩:=ag h
  have h1:=A5 h1
  have h2:i < s.len:=B7 h2
  rw [pk hs'] at hx
  obtain ⟨L,k,q1,q2,q3,q4,q5,q6⟩:=kb hx
  obtain ⟨ki,q7,_,_⟩:=jU hi hix
  cases h
  refine ⟨_,?_,RelC.ptr q1⟩
  simp [execOp,ho,q2,q7,Instr.indexAt,asIntOf,run_underlying hu,bS hs,h2,Oc.2 h2,bd,Lo]
 ·rename_i len g n hk
  obtain ⟨e,hu,hs⟩ : ∃ e,P.underlying t=some (.array len e)∧dG P e=some n:=by
   unfold CR at hk
   split at hk
   ·split at hk <;> cases hk
   ·rename_i len' e hu
    split at hk
    ·rename_i g' n' hn; cases hk; exact ⟨e,hu,(eu hn).2.1⟩
    ·cases hk
   ·cases hk
  obtain ⟨i,hi,h⟩:=bF h rfl
  obtain ⟨p,hp,h⟩:=bF h rfl
  obtain ⟨h2,h⟩:=ag h
  have h2:i < len:=B7 h2
  rw [fC hp] at hx
  obtain ⟨L,q1,q2⟩:=eE hx
  obtain ⟨ki,q7,_,_⟩:=jU hi hix
  cases h
  refine ⟨_,?_,RelC.ptr q1⟩
  simp [execOp,ho,q2,q7,Instr.indexAt,Instr.sureAddr,asIntOf,run_underlying hu,bS hs,h2,Oc.2 h2,bd,Lo]
 ·cases h
theorem Gp {t:TypeId} {x ix:Operand} (ho:o.op=.index t x ix) (hS:∀ x∈o.op.operands,RelV ι (a.eval x) (ev x)) (h:zV P t (ev x) (ev ix)=some v):gM P ι a o v:=by
 intro w
 rw [ho] at hS
 have hx:=hS x (by simp [Op.operands])
 have hix:=hS ix (by simp [Op.operands])
 unfold zV at h
 split at h
 ·rename_i l hl
  rw [hl] at hx
  obtain ⟨us,hu,hr⟩:=hx
  unfold AO at h
  split at h
  ·rename_i len g n i hk hi
   obtain ⟨h2,h⟩:=ag h
   have h2:i < len:=B7 h2
   obtain ⟨e,hu',hs⟩ : ∃ e,P.underlying t=some (.array len e)∧ldT P e=some (g,n):=by
    unfold CR at hk
    split at hk
    ·split at hk <;> cases hk
    ·rename_i len' e hu
     split at hk
     ·rename_i g' n' hn; cases hk; exact ⟨e,hu,hn⟩
     ·cases hk
    ·cases hk
   obtain ⟨ki,q7,_,_⟩:=jU hi hix
   rcases yy hr h with ⟨hle,hv⟩ | ⟨rfl,hv⟩
   ·exact ⟨_,by simp [execOp,ho,hu,q7,Instr.index,asIntOf,run_underlying hu',h2,Oc.2 h2,bS (eu hs).2.1,wm hs (show i * n+n≤us.length from hle)],hv⟩
   ·cases g with
    | false=>have:=(eu hs).2.2 rfl; omega
    | true =>
     obtain ⟨k1,k2,k3⟩:=eu hs
     refine ⟨.agg #[],?_,hv⟩
     simp [execOp,ho,hu,q7,Instr.index,asIntOf,run_underlying hu',h2,Oc.2 h2,part,lL k1,bS k2,da]
  ·cases h
 ·unfold BP at h
  split at h
  ·rename_i s k i hu hi
   split at h
   ·rename_i r hr
    have e1:=eJ hu hx
    have e2:=eJ hi hix
    exact ⟨r,by simp [execOp,ho,e1,e2,de hr w],mh h⟩
   ·cases h
  ·cases h
theorem yR {x:Operand} (ho:o.op=.nilCheck x) (hS:∀ x∈o.op.operands,RelV ι (a.eval x) (ev x)) (h:IW (ev x)=some v):gM P ι a o v:=by
 intro w
 rw [ho] at hS
 have hx:=hS x (by simp [Op.operands])
 unfold IW at h
 cases hp:(ev x).asPtr with
 | some p =>
  rw [hp] at h
  cases h
  rw [fC hp] at hx ⊢
  obtain ⟨L,q1,q2⟩:=eE hx
  exact ⟨a.eval x,by simp [execOp,ho,q2],hx⟩
 | none =>
  rw [hp] at h
  change Dv (ev x)=some v at h
  unfold Dv at h
  split at h
  ·rename_i f sh k cells hf
   cases h
   rw [hf] at hx
   obtain ⟨us,_,q2⟩:=Ao hx
   exact ⟨a.eval x,by simp [execOp,ho,q2],hx⟩
  ·cases h
theorem sM:∀ {l:List RV} {us:List Value} {p:List (Bool×Nat)×List RC},BW l=some p→All2 (fun u v=>RelV ι u v) us l→∃ vs,RelL ι p.2 vs∧dh p.1 vs=us
 | [],_,p,h,hr=>by cases h; cases hr; exact ⟨[],RelL.nil,rfl⟩
 | x :: l,_,p,h,hr=>by
  cases hr with
  | cons h1 h2 =>
   rename_i u us
   unfold BW at h
   split at h
   ·rename_i c q hq
    cases h
    obtain ⟨vs,h3,h4⟩:=sM hq h2
    exact ⟨u :: vs,.cons h1 h3,by simp [dh,da,h4]⟩
   ·rename_i c q hq
    cases h
    obtain ⟨vs,h3,h4⟩:=sM hq h2
    obtain ⟨us',rfl,h5⟩:=h1
    refine ⟨us'++vs,h5.append h3,?_⟩
    have:=h5.len
    simp [dh,da,← this,h4]
   ·cases h
theorem qT:∀ {sh:List (Bool×Nat)} {l:List RC} {vs:List Value} {r:List RV},vk sh l=some r→RelL ι l vs→All2 (fun u v=>RelV ι u v) (dh sh vs) r
 | [],l,vs,r,h,hr=>by cases h; exact .nil
 | p :: sh,l,vs,r,h,hr=>by
  unfold vk at h
  split at h
  ·rename_i c rs hc hrs
   split at h
   ·rename_i v hv
    cases h
    obtain ⟨rfl,_⟩:=vo hc
    exact .cons (i0 hv (hr.take p.2)) (qT hrs (hr.drop p.2))
   ·cases h
  ·cases h
theorem p9 {xs:List Operand} (hS:∀ x∈xs,RelV ι (a.eval x) (ev x)):All2 (fun u v=>RelV ι u v) (xs.map a.eval) (xs.map ev):=by
 induction xs with
 | nil=>exact .nil
 | cons x xs ih=>exact .cons (hS x (by simp)) (ih fun y hy=>hS y (by simp [hy]))
theorem Aw {f:FuncId} {first caps:Array Operand} (ho:o.op=.makeFunc (.func f) first caps) (hS:∀ x∈o.op.operands,RelV ι (a.eval x) (ev x))
  (h:E1 f first.size (first.toList.map ev++caps.toList.map ev)=some v):gM P ι a o v:=by
 intro w
 rw [ho] at hS
 unfold E1 at h
 split at h
 ·rename_i p hp
  cases h
  rw [← ME] at hp
  obtain ⟨vs,h1,h2⟩:=sM hp (p9 (a:=a) (ι:=ι) (xs:=first.toList++caps.toList) fun x hx=>hS x (by simpa [Op.operands] using hx))
  refine ⟨_,?_,RelC.fn h1⟩
  rw [h2]
  have e1:((first.toList++caps.toList).map a.eval).take first.size=first.toList.map a.eval:=by
   rw [ME,List.take_left' (by simp)]
  have e2:((first.toList++caps.toList).map a.eval).drop first.size=caps.toList.map a.eval:=by
   rw [ME,List.drop_left' (by simp)]
  rw [e1,e2]
  have e3:first.map a.eval=(first.toList.map a.eval).toArray:=by apply MW; simp
  have e4:caps.map a.eval=(caps.toList.map a.eval).toArray:=by apply MW; simp
  simp [execOp,ho,Instr.makeFunc,e3,e4]
 ·cases h
theorem Cw {x:Operand} {i:Nat} (ho:o.op=.extract x i) (hS:∀ x∈o.op.operands,RelV ι (a.eval x) (ev x)) (h:rS (ev x) i=some v):gM P ι a o v:=by
 intro w
 rw [ho] at hS
 have hx:=hS x (by simp [Op.operands])
 unfold rS at h
 split at h
 ·rename_i l hl
  rw [hl] at hx
  obtain ⟨us,hu,hr⟩:=hx
  split at h
  ·rename_i p hp
   obtain ⟨vs,h1,h2,_⟩:=hr.get hp
   exact ⟨_,by simp [execOp,ho,hu,Instr.extract,h1],i0 h h2⟩
  ·cases h
 ·cases h
theorem wK:∀ {l:List RV} {us vs:List Value},F7 l=some vs→All2 (fun u v=>RelV ι u v) us l→us=vs
 | [],_,_,h,hr=>by cases h; cases hr; rfl
 | x :: l,_,vs,h,hr=>by
  cases hr with
  | cons h1 h2 =>
   unfold F7 at h
   split at h
   ·rename_i u q hu hq
    cases h
    rw [eJ hu h1,wK hq h2]
   ·cases h
theorem Ec {b:Builtin} {args:Array Operand} {ts:Array TypeId} {f:Array Value→Sem Value} (ho:o.op=.call { callee:=.builtin b,args:=args,argTypes:=ts })
  (hf:∀ vs c,builtin b ts o.type c vs=do pure (.value (← f vs))) (hS:∀ x∈o.op.operands,RelV ι (a.eval x) (ev x)) (h:G6 P f (args.toList.map ev)=some v):gM P ι a o v:=by
 intro w
 rw [ho] at hS
 unfold G6 at h
 split at h
 ·rename_i vs hvs
  split at h
  ·rename_i r hr
   have:=wK hvs (p9 (a:=a) (ι:=ι) (xs:=args.toList) fun x hx=>hS x (by simpa [Op.operands,Call.operands] using hx))
   refine ⟨r,?_,mh h⟩
   have e:args.map a.eval=vs.toArray:=by rw [← this]; apply MW; simp
   simp [execOp,ho,resolve,invoke,hf,e,de hr w]
  ·cases h
 ·cases h
theorem I5 {x:Operand} {t:TypeId} (ho:o.op=.call { callee:=.builtin .cap,args:=#[x],argTypes:=#[t] }) (hS:∀ x∈o.op.operands,RelV ι (a.eval x) (ev x)) (ht:Ba P t=true)
  (h:uR (Iu (ev x))=some v):gM P ι a o v:=by
 intro w
 rw [ho] at hS
 have hx:=hS x (by simp [Op.operands,Call.operands])
 obtain ⟨m,hm,hle,rfl⟩:=sw h
 unfold Ba at ht
 split at ht
 ·rename_i e he
  have hu:=dK he
  refine ⟨goInt m,?_,qV hle⟩
  unfold Iu at hm
  split at hm
  ·rename_i hv
   cases hm
   rw [hv] at hx
   simp [execOp,ho,resolve,invoke,builtin,Builtin.cap_,run_underlying hu,(gG hx).1]
  ·rename_i hv
   cases hm
   rw [hv] at hx
   obtain ⟨L,k,q1,q2,q3,q4,q5,q6⟩:=kb hx
   have:=q5 m rfl
   subst this
   simp [execOp,ho,resolve,invoke,builtin,Builtin.cap_,run_underlying hu,q2]
  ·cases hm
 ·cases ht
theorem JY {x:Operand} {t:TypeId} (ho:o.op=.call { callee:=.builtin .len,args:=#[x],argTypes:=#[t] }) (hS:∀ x∈o.op.operands,RelV ι (a.eval x) (ev x))
  (h:uR (JC (GF P t) (ev x))=some v):gM P ι a o v:=by
 intro w
 rw [ho] at hS
 have hx:=hS x (by simp [Op.operands,Call.operands])
 obtain ⟨m,hm,hle,rfl⟩:=sw h
 have run:∀ {d:TypeDesc},P.underlying t=some d→(execOp a.eval o).run P w=((Builtin.len_ #[t] o.type #[a.eval x]).run P w).andThen fun u w=>.ok (.value u) w:=fun _=>by
  simp [execOp,ho,resolve,invoke,builtin]
 refine ⟨goInt m,?_,qV hle⟩
 unfold GF at hm
 split at hm
 ·rename_i hu
  rw [run hu]
  change zl (ev x)=some m at hm
  unfold zl at hm
  split at hm
  ·rename_i s hs
   cases hm
   rw [hs] at hx
   simp [Builtin.len_,run_underlying hu,(gG hx).1]
  ·cases hm
 ·rename_i n e hu
  rw [run hu]
  cases hm
  simp [Builtin.len_,run_underlying hu]
 ·rename_i e hu
  rw [run hu]
  change sm (ev x)=some m at hm
  unfold sm at hm
  cases hs:(ev x).asSl with
  | some s =>
   rw [hs] at hm
   cases hm
   rw [pk hs] at hx
   obtain ⟨L,k,q1,q2,_⟩:=kb hx
   simp [Builtin.len_,run_underlying hu,q2]
  | none =>
   rw [hs] at hm
   change wj (ev x)=some m at hm
   unfold wj at hm
   split at hm
   ·rename_i hx'
    cases hm
    rw [hx'] at hx
    obtain ⟨L,o',k,q1,q2,_⟩:=ma hx
    simp [Builtin.len_,run_underlying hu,q2]
   ·rename_i hx'
    cases hm
    rw [hx'] at hx
    simp [Builtin.len_,run_underlying hu,(gG hx).1]
   ·cases hm
 ·cases hm
 ·cases hm
end
end Go.Rx

/-
 The evaluator's operations against the model's: parts of slices, new blocks, reading.
-/
namespace Go.Rx
open Go.Vm
theorem dU {α : Type} {t:Tr α}:∀ {n off:Nat} {l:List α},sY t off n=some l→l.length=n∧∀ i,i < n→t.get (off+i)=l[i]?
 | 0,off,l,h=>by cases h; exact ⟨rfl,fun i hi=>absurd hi (Nat.not_lt_zero i)⟩
 | n+1,off,l,h=>by
  unfold sY at h
  split at h
  ·rename_i c l' hc hl
   cases h
   obtain ⟨h1,h2⟩:=dU hl
   refine ⟨by simp [h1],fun i hi=>?_⟩
   cases i with
   | zero=>simpa using hc
   | succ i =>
    have:=h2 i (by omega)
    have e:off+(i+1)=Nat.succ off+i:=by omega
    rw [e,this]; simp
  ·cases h
theorem dr {α : Type}:∀ {l:List α} {off:Nat} {t t':Tr α},gP l off t=some t'→∀ j,t'.get j=if off≤j∧j < off+l.length then l[j - off]? else t.get j
 | [],off,t,t',h,j=>by
  cases h
  rw [if_neg (by simp only [List.length_nil]; omega)]
 | c :: l,off,t,t',h,j=>by
  unfold gP at h
  split at h
  ·rename_i t1 h1
   rw [dr h j,Tr.get_put h1 j]
   simp only [La]
   by_cases e:off=j
   ·subst e
    rw [if_neg (by omega),if_pos rfl,if_pos (by omega)]
    simp
   ·by_cases h2:off≤j∧j < off+(l.length+1)
    ·rw [if_pos (by omega),if_pos h2]
     have:j - off=(j - Nat.succ off)+1:=by omega
     rw [this]; simp
    ·rw [if_neg (by omega),if_neg e,if_neg h2]
  ·cases h
section
variable {P:Program} {ι : Io} {o:Oper} {a:Act} {ev:Ev} {v:RV}
theorem GG {t:Tr RC} {l:List RC} (h:gP l 0 .nil=some t) {us:List Value} (hr:RelL ι l us):RelR ι t l.length us.toArray 0:=by
 intro i hi
 have hlen:=hr.len
 have h1:=dr h i
 rw [if_pos ⟨Mr _,by omega⟩] at h1
 have hc:l[i]?=some l[i]:=A2 hi
 obtain ⟨u,h2,h3⟩:=hr.get hc
 exact ⟨l[i],u,by rw [h1,Nv,hc],by simpa using h2,h3⟩
theorem iL {l:List RC} {ob:RO} (h:iR l=some ob):∃ t,gP l 0 .nil=some t∧ob=.cells t l.length:=by
 unfold iR at h
 split at h
 ·rename_i t ht; cases h; exact ⟨t,ht,rfl⟩
 ·cases h
theorem mc {ob:Option RO} {v:RV} {p:PR} (h:Al ob v=some p):∃ o,ob=some o∧p=.new o v:=by
 unfold Al at h
 split at h
 ·rename_i o; cases h; exact ⟨o,rfl,rfl⟩
 ·cases h
def yY (P:Program) (ι : Io) (a:Act) (o:Oper) (ob:RO) (v:RV):Prop:=∀ w:World,∃ u w' L,(execOp a.eval o).run P w=.ok (.value u) w'∧Kept w NoM w'∧L.B=w.heap.size∧L.B < w'.heap.size ∧
 ∀ (w0:World) (nx:Nat),w0.heap.size≤w.heap.size→ι nx=none→RBlk w0 w' (ι.set nx L) nx ob∧RelV (ι.set nx L) u (v.at nx)
theorem ln (w:World) (ob:Go.Obj):w.heap.size < (w.alloc ob).heap.size:=by show _ < (w.heap.push ob).size; simp
theorem lw (w:World) (ob:Go.Obj):Kept w NoM (w.alloc ob):=eR w ob
theorem nI {w0 w:World} (hw:w0.heap.size≤w.heap.size) {us:List Value} {l:List RC} {t:Tr RC} {el:TypeId} {nx:Nat} (hn : ι nx=none) (h:gP l 0 .nil=some t) (hr:RelL ι l us) :
  RBlk w0 (w.alloc (.cells us.toArray el)) (ι.set nx ⟨w.heap.size,0,us.length⟩) nx (.cells t l.length):=by
 exact ⟨⟨w.heap.size,0,us.length⟩,us.toArray,el,(0,0),Io.set_self _ _ _,hw,bU w _,by simp,by simp [hr.len],A7 _,(GG h hr).mono (Io.set_le hn)⟩
theorem cD {t:TypeId} {z:List RC} (h:iH P t=some z):∃ v,(∀ w,(zeroValue t).run P w=.ok v w)∧RelL ι z v.cells.toList:=by
 obtain ⟨v,h1,h2⟩:=zX h
 exact ⟨v,h1,jQ h2⟩
theorem Gq {t:TypeId} (ho:o.op=.alloc t) {ob:RO} (h:zy P t=some (.new ob v)):yY P ι a o ob v:=by
 intro w
 unfold zy at h
 split at h
 ·rename_i z hz
  obtain ⟨ob',h1,h2⟩:=mc h
  cases h2
  obtain ⟨tr,h3,rfl⟩:=iL h1
  obtain ⟨zv,k1,k2⟩:=cD (ι:=ι) hz
  refine ⟨.pointer (some ⟨w.heap.size,0,none⟩),w.alloc (.cells zv.cells t),⟨w.heap.size,0,zv.cells.toList.length⟩,?_,lw w _,rfl,ln w _,fun w0 nx hw hn=>⟨?_,?_⟩⟩
  ·simp [execOp,ho,Instr.alloc,k1,newVar,newRow]
  ·have:=nI (ι:=ι) (w:=w) (el:=t) hw hn h3 k2
   simpa using this
  ·exact RelC.ptr (Io.set_self _ _ _)
 ·cases h
theorem Jb {t:TypeId} {x:Operand} (ho:o.op=.box t x) (hS:∀ x∈o.op.operands,RelV ι (a.eval x) (ev x)) {ob:RO} (h:Iq (ev x)=some (.new ob v)):yY P ι a o ob v:=by
 intro w
 rw [ho] at hS
 have hx:=hS x (by simp [Op.operands])
 unfold Iq at h
 split at h
 ·rename_i z hz
  obtain ⟨ob',h1,h2⟩:=mc h
  cases h2
  obtain ⟨tr,h3,rfl⟩:=iL h1
  obtain ⟨us,k1,k2⟩:=mb hz hx
  refine ⟨.pointer (some ⟨w.heap.size,0,none⟩),w.alloc (.cells us.toArray t),⟨w.heap.size,0,us.length⟩,?_,lw w _,rfl,ln w _,fun w0 nx hw hn=>⟨nI hw hn h3 k2,RelC.ptr (Io.set_self _ _ _)⟩⟩
  simp [execOp,ho,Instr.box,newVar,newRow,k1]
 ·cases h
theorem Cc {t:TypeId} (ho:o.op=.makeMap t none):yY P ι a o (.map []) (.one (.mp 0)):=by
 intro w
 refine ⟨.map (some w.heap.size),w.alloc (.map #[] 0),⟨w.heap.size,0,0⟩,?_,lw w _,rfl,ln w _,fun w0 nx hw hn=>⟨?_,RelC.mp (Io.set_self _ _ _)⟩⟩
 ·simp [execOp,ho,Instr.makeMap]
 ·exact ⟨⟨w.heap.size,0,0⟩,#[],0,Io.set_self _ _ _,hw,bU w _,RelM.nil,Mo,fun x hx=>by cases hx⟩
theorem wi (z:Array Value):∀ n,((Mb (n * z.size)).map (z[· % z.size]!)).toList=(A6 n z.toList).flatten:=by
 intro n
 simp only [Nq,Array.toList_range]
 induction n with
 | zero=>simp
 | succ n ih =>
  have hr:A6 (n+1) z.toList=A6 n z.toList++[z.toList]:=by rw [List.replicate_succ']
  rw [hr,List.flatten_append,← ih,Lf,Nat.one_mul,List.range_add,ME]
  congr 1
  simp only [O3,List.flatten_cons,List.flatten_nil,List.append_nil]
  apply List.ext_getElem
  ·simp
  ·intro i h1 h2
   have hi:i < z.size:=by simpa using h1
   have e:(n * z.size+i) % z.size=i:=by rw [Nat.add_comm,Nat.add_mul_mod_self_right,Nat.mod_eq_of_lt hi]
   simp [e,hi]
theorem ye {t:TypeId} {n c:Operand} (ho:o.op=.makeSlice t n c) (hS:∀ x∈o.op.operands,RelV ι (a.eval x) (ev x)) {ob:RO} (h:Fs P t (ixN (ev n)) (ixN (ev c))=some (.new ob v)):yY P ι a o ob v:=by
 intro w
 rw [ho] at hS
 have hn:=hS n (by simp [Op.operands])
 have hc:=hS c (by simp [Op.operands])
 unfold Fs at h
 split at h
 ·rename_i e x y he hx hy
  split at h
  ·rename_i es z hes hz
   obtain ⟨h0,h⟩:=ag h
   simp only [A4] at h0
   obtain ⟨⟨⟨b1,b2⟩,b3⟩,b4⟩:=h0
   have b1:=B7 b1
   have b2:=B7 b2
   have b3:=A5 b3
   have b4:=B7 b4
   obtain ⟨ob',h1,h2⟩:=mc h
   cases h2
   obtain ⟨tr,h3,rfl⟩:=iL h1
   obtain ⟨zv,k1,k2⟩:=cD (ι:=ι) hz
   obtain ⟨kx,vx,_,_⟩:=jU hx hn
   obtain ⟨ky,vy,_,_⟩:=jU hy hc
   obtain ⟨inf,i1,i2,i3⟩:=io hes
   have hu:=dK he
   have hzs:zv.cells.size=es:=by have:=k2.len; simp at this; omega
   have w1:IntKind.i64.wrap (x:Int)=x:=IntWalk.i64_in _ (by omega)
   have w2:IntKind.i64.wrap (y:Int)=y:=IntWalk.i64_in _ (by omega)
   have hb1:(inf.bytes:Int) * y≤100000 * 1000000:=by
    have h1:inf.bytes * y≤100000 * 1000000:=Na i3 b2
    have h2:((inf.bytes * y:Nat):Int)=(inf.bytes:Int) * y:=OU _ _
    omega
   have hb2:(inf.bytes:Int) * x≤100000 * 1000000:=by
    have h1:inf.bytes * x≤100000 * 1000000:=Na i3 (LQ b1 b2)
    have h2:((inf.bytes * x:Nat):Int)=(inf.bytes:Int) * x:=OU _ _
    omega
   have h48:(2:Int) ^ 48=281474976710656:=by decide
   have n3:¬ (inf.bytes:Int) * y > 2 ^ 48:=by omega
   have n4:¬ (x:Int) > y:=by omega
   have n5:¬ (y:Int) < 0:=by omega
   have n6:¬ (x:Int) < 0:=by omega
   have hrow:∀ q:Array Value,q=(if y * es=0 then #[] else zv.cells)→((Mb (y * es)).map (q[· % q.size]!))=(A6 y zv.cells.toList).flatten.toArray:=by
    intro q hq
    by_cases h0:y * es=0
    ·have:y=0:=by rcases OV.1 h0 with h | h <;> omega
     subst this; simp
    ·rw [if_neg h0] at hq
     subst hq
     rw [← hzs,← wi]
   refine ⟨.slice (some ⟨w.heap.size,0,none⟩) x y,w.alloc (.cells (A6 y zv.cells.toList).flatten.toArray e),⟨w.heap.size,0,(A6 y zv.cells.toList).flatten.length⟩,?_,lw w _,rfl,ln w _,fun w0 nx hw hn'=>⟨?_,?_⟩⟩
   ·have hs:=bS hes w
    have key:(Instr.makeSlice t (.int kx (x:Int)) (.int ky (y:Int))).run P w=.ok (.slice (some ⟨w.heap.size,0,none⟩) x y) (w.alloc (.cells (A6 y zv.cells.toList).flatten.toArray e)):=by
     simp only [Instr.makeSlice,Sem.run_bind,run_underlying hu,Result.andThen_ok,asInt,asIntOf,Sem.run_pure,typeInfo,run_program,i1,w1,w2]
     simp only [n3,n4,n5,n6,decide_false,Bool.or_self,Bool.false_or,Bool.or_false,LR,if_false]
     by_cases hz0:y * es=0
     ·have:=hrow #[] (by rw [if_pos hz0])
      simp [hs,hz0,newRow,← this]
     ·have:=hrow zv.cells (by rw [if_neg hz0])
      simp [hs,hz0,newRow,k1,← this]
    have vx':a.eval n=.int kx (x:Int):=vx
    have vy':a.eval c=.int ky (y:Int):=vy
    simp [execOp,ho,vx',vy',key]
   ·exact nI hw hn' h3 (k2.rep y)
   ·refine RelC.sl (Io.set_self _ _ _) b1 ?_ (fun c hc=>(B4 hc)) (by unfold maxLen; omega)
    simp only [Ln]
    have:=(k2.rep y).len
    rw [this]
    simp [Ou,b3]
  ·cases h
 ·cases h
end
end Go.Rx

/-
 The evaluator's operations against the model's: literals.
-/
namespace Go.Rx
open Go.Vm
theorem vZ {α : Type}:∀ {n:Nat} {xs l r:List α},pt n xs l=some r→r=l.take n++xs++l.drop (n+xs.length)∧n+xs.length≤l.length
 | 0,[],l,r,h=>by cases l <;> (cases h; simp)
 | 0,x :: xs,[],r,h=>by cases h
 | 0,x :: xs,y :: l,r,h=>by
  unfold pt at h
  split at h
  ·rename_i l' hl
   cases h
   obtain ⟨rfl,h2⟩:=vZ hl
   simp only [La,Ln] at h2 ⊢
   exact ⟨by simp,by omega⟩
  ·cases h
 | n+1,xs,[],r,h=>by cases h
 | n+1,xs,y :: l,r,h=>by
  unfold pt at h
  split at h
  ·rename_i l' hl
   cases h
   obtain ⟨rfl,h2⟩:=vZ hl
   simp only [La]
   exact ⟨by simp [Nat.add_right_comm],by omega⟩
  ·cases h
theorem qt {α : Type}:∀ l:List α,Co l=l.length
 | []=>rfl
 | _ :: l=>by show Nat.succ (Co l)=_; rw [qt l]; rfl
theorem BF {α : Type} (r:List α):∀ l:List α,Is l r=l++r
 | []=>rfl
 | x :: l=>by show x :: Is l r=_; rw [BF r l]; rfl
section
variable {P:Program} {ι : Io} {o:Oper} {a:Act} {ev:Ev} {v:RV}
theorem uG (ev:Ev):∀ l:List (Nat×Operand),C0 ev l=l.map fun p=>ev p.2
 | []=>rfl
 | p :: l=>by show ev p.2 :: C0 ev l=_; rw [uG ev l]; rfl
theorem uh (off:Nat):∀ (l:List (Value×Nat)) (c:Array Value),(l.foldl (fun cs (x:Value×Nat)=>cs.setIfInBounds (off+x.2) x.1) c).size=c.size
 | [],c=>rfl
 | x :: l,c=>by rw [List.foldl_cons,uh off l]; simp
theorem tn {place:Nat→Option (Nat×Nat)}:∀ {l:List (Nat×Value)} {c r:Array Value},Instr.fill place c l=some r→r.size=c.size
 | [],c,r,h=>by simp [Instr.fill] at h; rw [h]
 | (i,v) :: l,c,r,h=>by
  unfold Instr.fill at h
  split at h
  ·cases h
  ·rename_i off size hp
   split at h
   ·cases h
   ·rw [tn h,← Array.foldl_toList]
    exact uh off _ c
def Iy (ι : Io) (place:Nat→Option (Nat×Nat)) (z:List Value) (idx:List Nat) (us:List Value) (r:List RC):Prop :=
 ∃ cs,Instr.fill place z.toArray (NK idx us)=some cs.toArray∧RelL ι r cs
theorem yA {place:Nat→Option (Nat×Nat)} {pl:Nat→Option (Nat×Nat)} (hp:∀ i p,pl i=some p→place i=some p) {i o n:Nat} (hi:pl i=some (o,n)) {u:Value} {cs:List Value} (hc:u.cells=cs.toArray) (hn:cs.length=n)
  {z:List Value} (hz:o+n≤z.length) (rest:List (Nat×Value)):Instr.fill place z.toArray ((i,u) :: rest)=Instr.fill place (z.take o++cs++z.drop (o+n)).toArray rest:=by
 rw [oU place z.toArray i u rest (hp i _ hi) (by rw [hc]; simpa using hn) (by rw [hc]; simpa [hn] using hz)]
 congr 1
 unfold aF
 simp [hc,hn]
theorem ll {place pl:Nat→Option (Nat×Nat)} (hp:∀ i p,pl i=some p→place i=some p):∀ {idx:List Nat} {vs:List RV} {us:List Value} {l r:List RC} {z:List Value},
  BQ pl (NK idx vs) l=some r→RelL ι l z→All2 (fun u v=>RelV ι u v) us vs→Iy ι place z idx us r
 | [],vs,us,l,r,z,h,hz,_=>by
  simp only [OH] at h
  cases h
  exact ⟨z,by simp [Instr.fill],hz⟩
 | i :: idx,[],us,l,r,z,h,hz,hv=>by
  cases hv
  simp only [List.zip_nil_right] at h
  cases h
  exact ⟨z,by simp [Instr.fill],hz⟩
 | i :: idx,v :: vs,us,l,r,z,h,hz,hv=>by
  cases hv with
  | cons h1 h2 =>
   rename_i u us
   simp only [Ni] at h
   unfold BQ at h
   split at h
   ·rename_i o n c hi hc
    obtain ⟨h3,h⟩:=ag h
    have h3:=A5 h3
    split at h
    ·rename_i l' hl
     obtain ⟨rfl,h4⟩:=vZ hl
     obtain ⟨cs,k1,k2⟩:=mb hc h1
     have k3:=k2.len
     have k4:=hz.len
     have hr:RelL ι (l.take o++c++l.drop (o+c.length)) (z.take o++cs++z.drop (o+n)):=by
      rw [h3]
      exact ((hz.take o).append k2).append (hz.drop (o+n))
     obtain ⟨q,q1,q2⟩:=ll hp h hr h2
     refine ⟨q,?_,q2⟩
     rw [Ni,yA hp hi k1 (by omega) (by omega)]
     exact q1
    ·cases h
   ·cases h
theorem Bq {place pl:Nat→Option (Nat×Nat)} (hp:∀ i p,pl i=some p→place i=some p):∀ {idx:List Nat} {vs:List RV} {us:List Value} {r:List RC} {i o e:Nat} {ws:List Nat} {pre rest:List Value},
  CU pl i o idx=some (ws,e)→In (NK ws vs)=some r→idx.length=vs.length→All2 (fun u v=>RelV ι u v) us vs→pre.length=o→e≤(pre++rest).length →
  ∃ mid,Instr.fill place (pre++rest).toArray (NK idx us)=some (pre++mid++rest.drop (e - o)).toArray∧RelL ι r mid∧mid.length=e - o∧o≤e
 | [],vs,us,r,i,o,e,ws,pre,rest,h,hc,hl,hv,hpre,he=>by
  cases h
  simp only [OH] at hc
  cases hc
  exact ⟨[],by simp [Instr.fill],RelL.nil,by simp,A7 _⟩
 | j :: idx,[],us,r,i,o,e,ws,pre,rest,h,hc,hl,hv,hpre,he=>by simp at hl
 | j :: idx,v :: vs,us,r,i,o,e,ws,pre,rest,h,hc,hl,hv,hpre,he=>by
  cases hv with
  | cons h1 h2 =>
   rename_i u us
   unfold CU at h
   obtain ⟨hij,h⟩:=ag h
   have hij:=A5 hij
   subst hij
   split at h
   ·rename_i o' n hpl
    obtain ⟨ho,hq⟩:=ag h
    clear h
    have ho:=A5 ho
    subst ho
    split at hq
    ·rename_i ws' e' hw
     cases hq
     simp only [Ni] at hc
     change onO (In (NK ws' vs)) none _=some r at hc
     obtain ⟨r',hr',hc⟩:=bF hc rfl
     have step:∃ c,oV v=some c∧c.length=n∧r=c++r':=by
      cases v with
      | unk=>cases hc
      | one c =>
       obtain ⟨k1,k2⟩:=ag hc
       cases k2
       exact ⟨[c],rfl,(A5 k1).symm,rfl⟩
      | agg c =>
       obtain ⟨k1,k2⟩:=ag hc
       rw [BF] at k2
       cases k2
       have:=A5 k1
       rw [qt] at this
       exact ⟨c,rfl,this,rfl⟩
      | tup c=>cases hc
     obtain ⟨c,s1,s2,rfl⟩:=step
     obtain ⟨cs,k1,k2⟩:=mb s1 h1
     have k3:=k2.len
     have hpre':(pre++cs).length=o+n:=by simp; omega
     -- what stands behind is long enough
     have hole:∀ {idx:List Nat} {i o e:Nat} {ws:List Nat},CU pl i o idx=some (ws,e)→o≤e:=by
      intro idx
      induction idx with
      | nil=>intro i o e ws h; cases h; exact A7 _
      | cons j idx ih =>
       intro i o e ws h
       unfold CU at h
       obtain ⟨_,h⟩:=ag h
       split at h
       ·obtain ⟨_,h⟩:=ag h
        split at h
        ·rename_i hq; cases h; have:=ih hq; omega
        ·cases h
       ·cases h
     have hle:=hole hw
     have hrest:n≤rest.length:=by simp at he; omega
     obtain ⟨mid,q1,q2,q3,q4⟩:=Bq hp (pre:=pre++cs) (rest:=rest.drop n) hw hr' (by simpa using hl) h2 hpre' (by simp at he ⊢; omega)
     refine ⟨cs++mid,?_,k2.append q2,by simp; omega,by omega⟩
     rw [Ni,yA hp hpl k1 (by omega) (by simp at he ⊢; omega)]
     have e1:(pre++rest).take o++cs++(pre++rest).drop (o+n)=(pre++cs)++rest.drop n:=by
      rw [← hpre]
      simp [List.drop_append]
     rw [e1,q1]
     congr 2
     rw [List.drop_drop]
     have:n+(e - (o+n))=e - o:=by omega
     rw [this]; simp
    ·cases hq
   ·cases h
theorem vq {place pl:Nat→Option (Nat×Nat)} (hp:∀ i p,pl i=some p→place i=some p) {z:List RC} {zs:List Value} {parts:List (Nat×Operand)} {r:List RC}
  (h:(w8 pl z (parts.map (·.1))).run (C0 ev parts)=some r) (hz:RelL ι z zs) (hS:∀ x∈parts.map (·.2),RelV ι (a.eval x) (ev x)) :
  ∃ cs,Instr.fill place zs.toArray (parts.map fun p=>(p.1,a.eval p.2))=some cs.toArray∧RelL ι r cs:=by
 have hzip:(parts.map fun p=>(p.1,a.eval p.2))=NK (parts.map (·.1)) (parts.map fun p=>a.eval p.2):=by
  clear h hS
  induction parts with
  | nil=>rfl
  | cons p l ih=>simp [ih]
 have hv:All2 (fun u v=>RelV ι u v) (parts.map fun p=>a.eval p.2) (C0 ev parts):=by
  rw [uG]
  have:=p9 (a:=a) (ι:=ι) (ev:=ev) (xs:=parts.map (·.2)) hS
  simpa [O3,Function.comp_def] using this
 rw [hzip]
 unfold w8 at h
 split at h
 ·rename_i ws hws
  unfold Ic at hws
  split at hws
  ·rename_i ws' e he
   obtain ⟨h1,h2⟩:=ag hws
   cases h2
   have h1:=A5 h1
   have hlen:=hz.len
   obtain ⟨mid,q1,q2,q3,q4⟩:=Bq hp (pre:=[]) (rest:=zs) he h (by rw [uG]; simp) hv rfl (by simp; omega)
   refine ⟨mid,?_,q2⟩
   rw [List.nil_append] at q1
   rw [q1,h1,Nv,← hlen]
   simp
  ·cases hws
 ·exact ll hp h hz hv
theorem Gs {t:TypeId} {parts:Array (Nat×Operand)} (ho:o.op=.build t parts) (hS:∀ x∈o.op.operands,RelV ι (a.eval x) (ev x)) (h:zK P t parts.toList ev=some v):gM P ι a o v:=by
 intro w
 rw [ho] at hS
 unfold zK at h
 unfold Ei at h
 split at h
 ·rename_i l hl
  cases h
  have hS':∀ x∈parts.toList.map (·.2),RelV ι (a.eval x) (ev x):=fun x hx=>hS x (by simpa [Op.operands] using hx)
  unfold Ji at hl
  have key:∃ cs,P.built t (parts.toList.map fun p=>(p.1,a.eval p.2))=some cs.toArray∧RelL ι l cs:=by
   split at hl
   ·rename_i z fs hz hu
    cases hall:(fs.toList.all fun f=>(P.info? f.type).isSome) with
    | false=>rw [hall] at hl; cases hl
    | true =>
     rw [hall] at hl
     rw [List.all_eq_true] at hall
     unfold iH at hz
     split at hz
     ·rename_i inf hi
      split at hz
      ·rename_i zv hzv
       have hplaces:∀ r:List Field,(∀ f∈r,(P.info? f.type).isSome=true)→∃ places,r.mapM (fun (f:Field)=>(P.info? f.type).map fun i=>(f.offset,i.size))=some places ∧
         ∀ (j:Nat) (f:Field) (i:TypeInfo),r[j]?=some f→P.info? f.type=some i→places[j]?=some (f.offset,i.size):=by
        intro r
        induction r with
        | nil=>intro _; exact ⟨[],rfl,fun j f i hj=>by simp at hj⟩
        | cons f r ih =>
         intro hr
         obtain ⟨pl,p1,p2⟩:=ih fun x hx=>hr x (by simp [hx])
         have:=hr f (by simp)
         obtain ⟨i,hi⟩:=Option.isSome_iff_exists.1 this
         refine ⟨(f.offset,i.size) :: pl,by simp [List.mapM_cons,hi,p1],?_⟩
         intro j g i' hj hg
         cases j with
         | zero=>simp at hj; subst hj; rw [hi] at hg; cases hg; rfl
         | succ j=>simpa using p2 j g i' (by simpa using hj) hg
       obtain ⟨places,p1,p2⟩:=hplaces fs.toList hall
       obtain ⟨cs,q1,q2⟩:=vq (place:=fun i=>places.toArray[i]?) (pl:=uD P t) (a:=a) (ι:=ι) (zs:=zv.cells.toList) (fun i p hp=>by
        unfold uD at hp
        split at hp
        ·rename_i off g n hf
         cases hp
         obtain ⟨fs',fd,r1,r2,r3,r4⟩:=ku hf
         rw [hu] at r1
         cases r1
         obtain ⟨i',s1,s2,_⟩:=io (eu r4).2.1
         have:=p2 i fd i' (by simpa using r2) s1
         simp [this,r3,s2]
        ·cases hp) hl (jQ hz) hS'
       exact ⟨cs,by simp only [Program.built,hi,hu,hzv,p1]; simpa using q1,q2⟩
      ·cases hz
     ·cases hz
   ·rename_i z len e hz hu
    split at hl
    ·rename_i n hn
     unfold iH at hz
     split at hz
     ·rename_i inf hi
      split at hz
      ·rename_i zv hzv
       obtain ⟨i',s1,s2,_⟩:=io hn
       obtain ⟨cs,q1,q2⟩:=vq (place:=fun i=>some (i * n,n)) (a:=a) (ι:=ι) (zs:=zv.cells.toList) (fun i p hp=>hp) hl (jQ hz) hS'
       exact ⟨cs,by simp only [Program.built,hi,hu,hzv,s1,s2]; simpa using q1,q2⟩
      ·cases hz
     ·cases hz
    ·cases hl
   ·cases hl
  obtain ⟨cs,k1,k2⟩:=key
  refine ⟨.agg cs.toArray,?_,cs,rfl,k2⟩
  have:=run_build w t (parts.map fun p=>(p.1,a.eval p.2)) cs.toArray (by simpa using k1)
  simp [execOp,ho,this]
 ·cases h
theorem At {l:List RC} {ob:RO} (h:DN l=some ob):∃ t,gP l 0 .nil=some t∧ob=.cells t l.length:=by
 unfold DN at h
 obtain ⟨t,h1,h2⟩:=bF h rfl
 cases h2
 exact ⟨t,h1,by rw [qt]⟩
theorem wc {t:TypeId} {n:Nat} {parts:Array (Nat×Operand)} (ho:o.op=.buildSlice t n parts) (hS:∀ x∈o.op.operands,RelV ι (a.eval x) (ev x)) {ob:RO} (h:lD P t n parts.toList ev=some (.new ob v)):yY P ι a o ob v:=by
 intro w
 rw [ho] at hS
 have hS':∀ x∈parts.toList.map (·.2),RelV ι (a.eval x) (ev x):=fun x hx=>hS x (by simpa [Op.operands] using hx)
 unfold lD at h
 obtain ⟨l,hl,h⟩:=bF h rfl
 obtain ⟨ob',h1,h2⟩:=mc h
 cases h2
 obtain ⟨tr,h3,rfl⟩:=At h1
 unfold JJ at hl
 split at hl
 ·rename_i e he
  split at hl
  ·rename_i es z hes hz
   cases hb:(A8 z.length es && Lh 1 es && Lh (n * es) 1000000) with
   | false=>rw [hb] at hl; cases hl
   | true =>
    rw [hb] at hl
    simp only [A4] at hb
    obtain ⟨⟨b1,b2⟩,b3⟩:=hb
    have b1:=A5 b1
    have b2:=B7 b2
    have b3:=B7 b3
    have hu:=dK he
    obtain ⟨zv,k1,k2⟩:=cD (ι:=ι) hz
    have hzs:zv.cells.size=es:=by have:=k2.len; simp at this; omega
    obtain ⟨cs,q1,q2⟩:=vq (place:=fun i=>some (i * es,es)) (a:=a) (ι:=ι) (zs:=(A6 n zv.cells.toList).flatten) (fun i p hp=>hp) hl (k2.rep n) hS'
    have hcs:cs.length=n * es:=by
     have h1:=tn q1
     have h2:=(k2.rep n).len
     simp only [List.size_toArray] at h1
     rw [h1,h2]
     simp [Ou,b1]
    have hslv:slV (onO (fF P t) none (dG P)) n=.one (.sl 0 0 n (some n) es):=by
     unfold slV
     rw [he]
     show RV.one (.sl 0 0 n (some n) ((dG P e).getD 0))=_
     rw [hes]; rfl
    refine ⟨.slice (some ⟨w.heap.size,0,none⟩) n n,w.alloc (.cells cs.toArray e),⟨w.heap.size,0,cs.length⟩,?_,lw w _,rfl,ln w _,fun w0 nx hw hn'=>⟨?_,?_⟩⟩
    ·have hs:=bS hes w
     have hrow:∀ q:Array Value,q=(if n * es=0 then #[] else zv.cells)→((Mb (n * es)).map (q[· % q.size]!))=(A6 n zv.cells.toList).flatten.toArray:=by
      intro q hq
      by_cases h0:n * es=0
      ·have:n=0:=by rcases OV.1 h0 with h | h <;> omega
       subst this; simp
      ·rw [if_neg h0] at hq
       subst hq
       rw [← hzs,← wi]
     have hbig:¬ n * es > 2 ^ 24:=by omega
     have key:(Instr.buildSlice t n (parts.map fun p=>(p.1,a.eval p.2))).run P w=.ok (.slice (some ⟨w.heap.size,0,none⟩) n n) (w.alloc (.cells cs.toArray e)):=by
      by_cases hz0:n * es=0
      ·have hr:=hrow #[] (by rw [if_pos hz0])
       simp only [Instr.buildSlice,Sem.run_bind,run_underlying hu,Result.andThen_ok,hs,if_neg hbig,if_pos hz0,Sem.run_pure]
       rw [hr,Nq,q1]
       simp [newRow]
      ·have hr:=hrow zv.cells (by rw [if_neg hz0])
       simp only [Instr.buildSlice,Sem.run_bind,run_underlying hu,Result.andThen_ok,hs,if_neg hbig,if_neg hz0,Sem.run_pure,k1]
       rw [hr,Nq,q1]
       simp [newRow]
     simp [execOp,ho,key]
    ·exact nI hw hn' h3 q2
    ·rw [hslv]
     refine RelC.sl (Io.set_self _ _ _) (A7 _) ?_ (fun c hc=>B4 hc) ?_
     ·simp [hcs]
     ·unfold maxLen
      have:n≤n * es:=Nat.le_mul_of_pos_right n (by omega)
      omega
  ·cases hl
 ·cases hl
end
end Go.Rx

/-
 The evaluator's operations against the model's: parts of slices, reading.
-/
namespace Go.Rx
open Go.Vm
section
variable {P:Program} {ι : Io} {o:Oper} {a:Act} {ev:Ev} {v:RV}
def pH (x:Option Value) (d n:Nat):Prop:=(x=none∧n=d)∨∃ k:IntKind,x=some (.int k (n:Int))
theorem jg {x:Option Operand} {d n:Nat} (h:yI d (x.map ev)=some n) (hS:∀ y,x=some y→RelV ι (a.eval y) (ev y)):pH (x.map a.eval) d n:=by
 cases x with
 | none=>cases h; exact .inl ⟨rfl,rfl⟩
 | some y =>
  obtain ⟨k,h1,_⟩:=jU (show ixN (ev y)=some n from h) (hS y rfl)
  exact .inr ⟨k,by simpa using h1⟩
theorem vY (sl:Bool) (len cap:Nat) {lo hi mx:Option Value} {l h m:Nat} (hl:pH lo 0 l) (hh:pH hi len h) (hm:pH mx cap m) (hx:hi=none→mx=none) (h1:l≤h) (h2:h≤m) (h3:m≤cap) (w:World) :
  (Instr.sliceBounds sl len cap lo hi mx).run P w=.ok (l,h,m) w:=by
 have h4:h≤cap:=LQ h2 h3
 rcases hm with ⟨rfl,rfl⟩ | ⟨km,rfl⟩ <;> rcases hh with ⟨rfl,rfl⟩ | ⟨kh,rfl⟩ <;> rcases hl with ⟨rfl,rfl⟩ | ⟨kl,rfl⟩
 all_goals first
  | (have:=hx rfl; cases this; done)
  | simp [Instr.sliceBounds,Instr.sliceBound,asIntOf,h1,h2,h3,h4,Od.2 h1,Od.2 h2,Od.2 h3,Od.2 h4]
theorem cR {t:TypeId} {x:Operand} {lo hi mx:Option Operand} {u r:Value} {w:World} (ho:o.op=.slice t x lo hi mx) (hx:a.eval x=u)
  (h:(Instr.sliceAt t u (lo.map a.eval) (hi.map a.eval) (mx.map a.eval)).run P w=.ok r w):(execOp a.eval o).run P w=.ok (.value r) w:=by
 simp [execOp,ho,hx,h]
theorem GU {t:TypeId} {x:Operand} {lo hi mx:Option Operand} (ho:o.op=.slice t x lo hi mx) (hS:∀ x∈o.op.operands,RelV ι (a.eval x) (ev x))
  (h:yO P t (ev x) (lo.map ev) (hi.map ev) (mx.map ev)=some v):gM P ι a o v:=by
 intro w
 rw [ho] at hS
 have hx:=hS x (by simp [Op.operands])
 have hlo:∀ y,lo=some y→RelV ι (a.eval y) (ev y):=fun y hy=>hS y (by simp [Op.operands,hy])
 have hhi:∀ y,hi=some y→RelV ι (a.eval y) (ev y):=fun y hy=>hS y (by simp [Op.operands,hy])
 have hmx:∀ y,mx=some y→RelV ι (a.eval y) (ev y):=fun y hy=>hS y (by simp [Op.operands,hy])
 unfold yO at h
 replace h:=ag h; obtain ⟨hh,h⟩:=h
 have hhas:hi.map a.eval=none→mx.map a.eval=none:=by
  cases hi with
  | some y=>intro e; cases e
  | none =>
   cases mx with
   | none=>intro _; rfl
   | some y=>simp [H8] at hh
 split at h
 ·rename_i b off len cap es hv
  rw [hv] at hx
  obtain ⟨L,k,q1,q2,q3,q4,q5,q6⟩:=kb hx
  split at h
  ·rename_i e he
   split at h
   ·rename_i n hn
    have hu:=dK he
    unfold xH at h
    split at h
    ·rename_i l hh' hl hhq
     replace h:=ag h; obtain ⟨hc,h⟩:=h
     simp only [A4] at hc
     obtain ⟨⟨c1,c2⟩,c3⟩:=hc
     have c1:=A5 c1
     have c2:=B7 c2
     have c3:=B7 c3
     subst c1
     have bl:=jg hl hlo
     have bh:=jg hhq hhi
     have run:∀ m,pH (mx.map a.eval) k m→hh'≤m→m≤k→(execOp a.eval o).run P w=.ok (.value (.slice (some ⟨L.B,(if m=l then L.base+off else L.base+off+l * n),none⟩) (hh' - l) (m - l))) w:=by
      intro m bm h2 h3
      refine cR ho q2 ?_
      have:=vY (P:=P) true len k bl bh bm hhas c3 h2 h3 w
      by_cases e:m=l
      ·simp [Instr.sliceAt,Instr.slice,run_underlying hu,this,bS hn,e]
      ·simp [Instr.sliceAt,Instr.slice,run_underlying hu,this,bS hn,e,bd]
     have part:∀ m,hh'≤m→m≤k→RelV ι (.slice (some ⟨L.B,(if m=l then L.base+off else L.base+off+l * n),none⟩) (hh' - l) (m - l)) (vp b off n l hh' m):=by
      intro m h2 h3
      unfold vp
      have hmul:l * n+(m - l) * n=m * n:=by rw [← Lf]; congr 1; omega
      have hle:m * n≤k * n:=Nat.mul_le_mul_right _ h3
      by_cases e:m=l
      ·subst e
       simp only [Nat.beq_refl,cond_true,if_true]
       refine RelC.sl q1 (NH h2 _) ?_ (fun c hc=>B4 hc) (by omega)
       have:(m - m) * n=0:=by simp
       omega
      ·have hb:A8 m l=false:=by cases hq:A8 m l with | true=>exact absurd (A5 hq) e | false=>rfl
       rw [hb,if_neg e]
       simp only [cond_false]
       have e2:L.base+off+l * n=L.base+(off+l * n):=by omega
       rw [e2]
       exact RelC.sl q1 (NH h2 _) (by change L.base+(off+l * n)+(m - l) * n≤L.n; omega) (fun c hc=>B4 hc) (by omega)
     split at h
     ·rename_i m hm
      split at h
      ·rename_i m' hm'
       replace h:=ag h; obtain ⟨hb,h⟩:=h
       simp only [A4] at hb
       have b1:=B7 hb.1
       have b2:=B7 hb.2
       cases h
       have hmk:m'≤k:=by
        cases cap with
        | none=>simp at b2; omega
        | some c=>simp at b2; have:=q5 c rfl; omega
       cases mx with
       | none=>cases hm
       | some y =>
        cases hm
        obtain ⟨km,h1,_⟩:=jU hm' (hmx y rfl)
        exact ⟨_,run m' (.inr ⟨km,by simpa using h1⟩) b1 hmk,part m' b1 hmk⟩
      ·cases h
     ·rename_i hm
      have bm:pH (mx.map a.eval) k k:=by
       cases mx with
       | none=>exact .inl ⟨rfl,rfl⟩
       | some y=>cases hm
      split at h
      ·rename_i c
       replace h:=ag h; obtain ⟨hb,h⟩:=h
       have hb:=B7 hb
       have:=q5 c rfl
       subst this
       cases h
       exact ⟨_,run k bm hb (A7 _),part k hb (A7 _)⟩
      ·replace h:=ag h; obtain ⟨hb,h⟩:=h
       have hb:=B7 hb
       have hmul:l * n+(k - l) * n=k * n:=by rw [← Lf]; congr 1; omega
       cases hll:Lh len l with
       | true =>
        rw [hll] at h
        cases h
        have hll:=B7 hll
        have e0:hh' - l=0:=by omega
        refine ⟨_,run k bm (by omega) (A7 _),?_⟩
        rw [e0]
        by_cases e:k=l
        ·rw [if_pos e]
         refine RelC.emp q1 (by omega) ?_ (by omega)
         have:(k - l) * n=0:=by rw [e]; simp
         omega
        ·rw [if_neg e]
         exact RelC.emp q1 (by omega) (by omega) (by omega)
       | false =>
        rw [hll] at h
        cases h
        have hll:¬ len≤l:=fun h=>by rw [Nat.ble_eq_true_of_le h] at hll; cases hll
        refine ⟨_,run k bm (by omega) (A7 _),?_⟩
        rw [if_neg (by omega)]
        have e2:L.base+off+l * n=L.base+(off+l * n):=by omega
        rw [e2]
        exact RelC.sl q1 (NH (by omega) _) (by change L.base+(off+l * n)+(k - l) * n≤L.n; omega) (fun c hc=>by cases hc) (by omega)
    ·cases h
   ·cases h
  ·cases h
 ·rename_i b es hv
  rw [hv] at hx
  obtain ⟨L,o',k,q1,q2,q3,q4,q5⟩:=ma hx
  split at h
  ·rename_i e he
   split at h
   ·rename_i n hn
    have hu:=dK he
    unfold tE at h
    split at h
    ·rename_i hl hhq hm
     replace h:=ag h; obtain ⟨c1,h⟩:=h
     have c1:=A5 c1
     subst c1
     cases h
     have bl:=jg hl hlo
     have bh:=jg hhq hhi
     have bm:pH (mx.map a.eval) k k:=by
      cases mx with
      | none=>exact .inl ⟨rfl,rfl⟩
      | some y=>cases hm
     refine ⟨.slice (some ⟨L.B,o',none⟩) 0 k,cR ho q2 ?_,RelC.emp q1 q3 q4 q5⟩
     have:=vY (P:=P) true 0 k bl bh bm hhas (A7 _) (Mr _) (A7 _) w
     by_cases e:k=0
     ·subst e; simp [Instr.sliceAt,Instr.slice,run_underlying hu,this,bS hn]
     ·simp [Instr.sliceAt,Instr.slice,run_underlying hu,this,bS hn,e,bd]
    ·cases h
   ·cases h
  ·cases h
 ·rename_i s hv
  rw [hv] at hx
  unfold tt at h
  split at h
  ·rename_i p q hp hq hm
   split at h
   ·rename_i r hr
    have opt:∀ {x:Option Operand} {u:Option Value},Gv (x.map ev)=some u→(∀ y,x=some y→RelV ι (a.eval y) (ev y))→x.map a.eval=u:=by
     intro x u hu hy
     cases x with
     | none=>cases hu; rfl
     | some y =>
      simp only [Option.map_some,Gv] at hu
      split at hu
      ·rename_i u' hu'
       cases hu
       simp [eJ hu' (hy y rfl)]
      ·cases hu
    have e1:=opt hp hlo
    have e2:=opt hq hhi
    have e3:mx.map a.eval=none:=by
     cases mx with
     | none=>rfl
     | some y=>cases hm
    exact ⟨r,cR ho (gG hx).1 (by rw [e1,e2,e3]; exact de hr w),mh h⟩
   ·cases h
  ·cases h
 ·rename_i hv
  rw [hv] at hx
  split at h
  ·rename_i e he
   split at h
   ·rename_i n hn
    have hu:=dK he
    unfold tw at h
    split at h
    ·rename_i hl hhq hm
     cases h
     have bl:=jg hl hlo
     have bh:=jg hhq hhi
     have bm:pH (mx.map a.eval) 0 0:=by
      cases mx with
      | none=>exact .inl ⟨rfl,rfl⟩
      | some y=>cases hm
     refine ⟨.slice none 0 0,cR ho (gG hx).1 ?_,RelC.sc rfl⟩
     have:=vY (P:=P) true 0 0 bl bh bm hhas (A7 _) (Mr _) (A7 _) w
     simp [Instr.sliceAt,Instr.slice,run_underlying hu,this,bS hn]
    ·cases h
   ·cases h
  ·cases h
 ·cases h
theorem il {w:World} {r clock:Nat} {es:Array MapEntry} (h:w.heap[r]?=some (.map es clock)):(getObj r).run P w=.ok (.map es clock) w:=by
 show Sem.run P (.getObj r .pure) w=_
 simp only [Sem.run,h]
theorem qM {w:World} {r clock:Nat} {es:Array MapEntry} (o:Go.Obj) (h:w.heap[r]?=some (.map es clock)):(setObj r o).run P w=.ok () { w with heap:=w.heap.setIfInBounds r o }:=by
 show Sem.run P (.setObj r o (.pure ())) w=_
 simp only [Sem.run,h]
theorem eW {w0 w:World} {b:Nat} {ob:RO} {t:Tr RC} {m:Nat} (h:gk (some ob)=some (t,m)) (hb:RBlk w0 w ι b ob) :
  ∃ L c el fz,ι b=some L∧w.heap[L.B]?=some (.cells c el fz)∧c.size=L.n∧L.base+m≤L.n∧RelR ι t m c L.base:=by
 cases ob with
 | cells t' m' =>
  cases h
  obtain ⟨L,c,el,fz,h1,h2,h3,h4,h5,h6,h7⟩:=hb
  exact ⟨L,c,el,fz,h1,h3,h4,h5,h7⟩
 | ro t' m' =>
  cases h
  obtain ⟨L,c,el,fz,h1,h3,h4,h5,h7⟩:=hb
  exact ⟨L,c,el,fz,h1,h3,h4,h5,h7⟩
 | map es=>cases h
 | dead=>cases h
theorem eo {t:Tr RC} {m off n base:Nat} {c:Array Value} {l:List RC} (hR:RelR ι t m c base) (hl:sY t off n=some l) (hm:off+n≤m):RelL ι l (seg c (base+off) n):=by
 obtain ⟨h1,h2⟩:=dU hl
 have key:∀ (l:List RC) (o:Nat),(∀ i,i < l.length→∃ u,c[o+i]?=some u∧∃ x,l[i]?=some x∧RelC ι x u)→RelL ι l (seg c o l.length):=by
  intro l
  induction l with
  | nil=>intro o _; simp [seg]; exact RelL.nil
  | cons x l ih =>
   intro o h
   obtain ⟨u,hu,x',hx',hr⟩:=h 0 (by simp)
   simp at hx'
   subst hx'
   have hlt:o < c.toList.length:=by
    have:=(Lw.1 hu).1
    simpa using this
   have hseg:seg c o (x :: l).length=u :: seg c (o+1) l.length:=by
    unfold seg
    rw [Nk hlt]
    simp only [La,List.take_succ_cons]
    congr 1
    have:=(Lw.1 hu).2
    simpa using this
   rw [hseg]
   refine .cons hr (ih (o+1) fun i hi=>?_)
   obtain ⟨u',hu',x',hx',hr'⟩:=h (i+1) (by simpa using hi)
   exact ⟨u',by rw [← hu']; congr 1; omega,x',by simpa using hx',hr'⟩
 rw [← h1]
 refine key l (base+off) fun i hi=>?_
 rw [h1] at hi
 obtain ⟨x,u,k1,k2,k3⟩:=hR (off+i) (by omega)
 exact ⟨u,by rw [← k2]; congr 1; omega,x,by rw [← h2 i hi]; exact k1,k3⟩
theorem dk {q:Option (Tr RC×Nat)} {off n:Nat} {l:List RC} (h:iv q off n=some l):∃ t m,q=some (t,m)∧off+n≤m∧sY t off n=some l:=by
 unfold iv at h
 split at h
 ·rename_i t m
  obtain ⟨h1,h2⟩:=ag h
  exact ⟨t,m,rfl,B7 h1,h2⟩
 ·cases h
theorem dM {ob:Option RO} {q:Tr RC×Nat} (h:gk ob=some q):∃ o',ob=some o'∧gk (some o')=some q:=by
 cases ob with
 | none=>cases h
 | some o'=>exact ⟨o',rfl,h⟩
theorem pW {t:TypeId} {n:Nat} (hg:zn P t=some true) (hn:dG P t=some n) {w:World} {b off:Nat} {c:Array Value} {el:TypeId} {fz:Nat×Nat} (hh:w.heap[b]?=some (.cells c el fz))
  (hs:off+n≤c.size):(loadVar t ⟨b,off,none⟩).run P w=.ok (.agg (seg c off n).toArray) w:=by
 have hlen:=cA c off n hs
 have hl:=run_loadCells_list (P:=P) w ⟨b,off,none⟩ (seg c off n) (fun j v hv=>by
  rw [bd,bO hh]
  have hj:j < n:=by have:=(List.getElem?_eq_some_iff.1 hv).1; omega
  rw [← seg_getElem? c off n j hj]; exact hv)
 rw [hlen] at hl
 simp [loadVar,Sem.run_bind,lL hg,bS hn,hl]
theorem pX {t:TypeId} (hg:zn P t=some false) {w:World} {b off:Nat} {c:Array Value} {el:TypeId} {fz:Nat×Nat} (hh:w.heap[b]?=some (.cells c el fz))
  {u:Value} (hs:c[off]?=some u):(loadVar t ⟨b,off,none⟩).run P w=.ok u w:=by
 simp only [loadVar,Sem.run_bind,lL hg,Result.andThen_ok,LR,if_false,run_load,bO hh,hs]
def nS (w0 w:World) (ι : Io) (x:RV) (ob:Option RO):Prop:=∀ o',ob=some o'→∃ b,x.asBlk=some b∧RBlk w0 w ι b o'
theorem wq {w0 w:World} {t:TypeId} {x:RV} {u:Value} {ob:Option RO} (hx:RelV ι u x) (hb:nS w0 w ι x ob) (h:rr ob (ldT P t) x=some v) :
  ∃ r,(Instr.loadAt t u).run P w=.ok r w∧RelV ι r v:=by
 unfold rr at h
 replace h:=bF h rfl; obtain ⟨⟨g,n⟩,h1,h⟩:=h
 replace h:=bF h rfl; obtain ⟨⟨b,off⟩,h2,h⟩:=h
 have e:=fC h2
 rw [e] at hx hb
 obtain ⟨L,q1,q2⟩:=eE hx
 obtain ⟨t1,t2,t3⟩:=eu h1
 subst q2
 have load:∀ r,(loadVar t ⟨L.B,L.base+off,none⟩).run P w=.ok r w→(Instr.loadAt t (.pointer (some ⟨L.B,L.base+off,none⟩))).run P w=.ok r w:=fun r hr=>by
  simp [Instr.loadAt,Instr.sureAddr,hr]
 unfold I9 at h
 cases g with
 | true =>
  change Ei (iv (gk ob) off n)=some v at h
  unfold Ei at h
  split at h
  ·rename_i l hl
   cases h
   obtain ⟨tr,m,k1,k2,k3⟩:=dk hl
   obtain ⟨o',k4,k5⟩:=dM k1
   obtain ⟨b',hb1,hb2⟩:=hb o' k4
   cases hb1
   obtain ⟨L',c,el,fz,r1,r2,r3,r4,r5⟩:=eW k5 hb2
   rw [q1] at r1
   cases r1
   exact ⟨_,load _ (pW t1 t2 r2 (by omega)),seg c (L.base+off) n,rfl,eo r5 k3 k2⟩
  ·cases h
 | false =>
  change D2 (gk ob) off=some v at h
  unfold D2 at h
  replace h:=bF h rfl; obtain ⟨⟨tr,m⟩,k1,h⟩:=h
  replace h:=bF h rfl; obtain ⟨cc,k2,h⟩:=h
  cases h
  obtain ⟨k3,k4⟩:=ag (show cond (Lh (Nat.succ off) m) (tr.get off) none=some cc from k2)
  have k3:off < m:=B7 k3
  obtain ⟨o',k5,k6⟩:=dM k1
  obtain ⟨b',hb1,hb2⟩:=hb o' k5
  cases hb1
  obtain ⟨L',c,el,fz,r1,r2,r3,r4,r5⟩:=eW k6 hb2
  rw [q1] at r1
  cases r1
  obtain ⟨x',u',s1,s2,s3⟩:=r5 off k3
  rw [k4] at s1
  cases s1
  exact ⟨u',load _ (pX t1 r2 s2),s3⟩
theorem Ij {w0 w:World} {t:TypeId} {x:Operand} {ob:Option RO} (ho:o.op=.load t x) (hS:∀ x∈o.op.operands,RelV ι (a.eval x) (ev x)) (hb:nS w0 w ι (ev x) ob)
  (h:rr ob (ldT P t) (ev x)=some v):∃ u,(execOp a.eval o).run P w=.ok (.value u) w∧RelV ι u v:=by
 rw [ho] at hS
 obtain ⟨r,h1,h2⟩:=wq (P:=P) (hS x (by simp [Op.operands])) hb h
 exact ⟨r,by simp [execOp,ho,h1],h2⟩
theorem qI:∀ {l:List (Value×(Bool×List RC))} {es:List MapEntry},RelM ι l es→es.length=l.length
 | _,_,.nil=>rfl
 | _,_,.cons _ _ _ _ t=>by simp [qI t]
theorem ES {w0 w:World} {t:TypeId} {k e:TypeId} (hu:P.underlying t=some (.map k e)) {x:Operand} {ob:Option RO} (ho:o.op=.call { callee:=.builtin .len,args:=#[x],argTypes:=#[t] })
  (hS:∀ x∈o.op.operands,RelV ι (a.eval x) (ev x)) (hb:nS w0 w ι (ev x) ob) (h:uR (zR ob (ev x))=some v):∃ u,(execOp a.eval o).run P w=.ok (.value u) w∧RelV ι u v:=by
 rw [ho] at hS
 have hx:=hS x (by simp [Op.operands,Call.operands])
 obtain ⟨m,hm,hle,rfl⟩:=sw h
 refine ⟨goInt m,?_,qV hle⟩
 have run:(execOp a.eval o).run P w=((Builtin.len_ #[t] o.type #[a.eval x]).run P w).andThen fun u w=>.ok (.value u) w:=by
  simp [execOp,ho,resolve,invoke,builtin]
 rw [run]
 unfold zR at hm
 split at hm
 ·rename_i hv
  cases hm
  rw [hv] at hx
  simp [Builtin.len_,run_underlying hu,(gG hx).1]
 ·rename_i b hv
  rw [hv] at hx hb
  split at hm
  ·rename_i es hes
   cases hm
   obtain ⟨b',h1,h2⟩:=hb _ rfl
   cases h1
   obtain ⟨L,ents,clock,r1,r2,r3,r4,_⟩:=h2
   obtain ⟨L',q1,q2⟩:=v7 hx
   rw [r1] at q1
   cases q1
   have:=qI r4
   simp only [Array.length_toList] at this
   simp [Builtin.len_,run_underlying hu,q2,il r3,this]
  ·cases hm
 ·cases hm
theorem oM {α β : Type} {f : α→Sem β}:∀ {m:Sem α} {y : β},iM P (m >>= f)=some y→∃ x,iM P m=some x∧iM P (f x)=some y:=by
 intro m
 induction m with
 | pure a=>intro y h; exact ⟨a,rfl,h⟩
 | program k ih=>intro y h; exact ih P h
 | mark q k ih=>intro y h; exact ih h
 | _=>intro y h; cases h
theorem gJ {α β : Type} {f : α→Sem β}:∀ {m:Sem α} {x : α} {y : β},iM P m=some x→iM P (f x)=some y→iM P (m >>= f)=some y:=by
 intro m
 induction m with
 | pure a=>intro x y h1 h2; cases h1; exact h2
 | program k ih=>intro x y h1 h2; exact ih P h1 h2
 | mark q k ih=>intro x y h1 h2; exact ih h1 h2
 | _=>intro x y h1 h2; cases h1
def rI (l l':List MapEntry):Prop:=l.map (·.key)=l'.map (·.key)
theorem pJ {t:TypeId} {k:Value}:∀ {l l':List MapEntry} {i:Nat} {r:Option (Nat×Value)},rI l l'→iM P (Instr.findAsking t k l i)=some r →
  ∃ r',iM P (Instr.findAsking t k l' i)=some r'∧r'.map (·.1)=r.map (·.1)∧∀ p,r'=some p→i≤p.1∧∃ e,l'[p.1 - i]?=some e∧e.val=p.2
 | [],l',i,r,hk,h=>by
  cases l' with
  | nil=>cases h; exact ⟨none,rfl,rfl,fun p hp=>by cases hp⟩
  | cons e l'=>simp [rI] at hk
 | e :: l,[],i,r,hk,h=>by simp [rI] at hk
 | e :: l,e' :: l',i,r,hk,h=>by
  simp only [rI,Li,Mx] at hk
  unfold Instr.findAsking at h ⊢
  obtain ⟨b,h1,h2⟩:=oM h
  rw [hk.1] at h1
  cases b with
  | true =>
   cases h2
   exact ⟨some (i,e'.val),gJ h1 rfl,rfl,fun p hp=>by cases hp; exact ⟨A7 _,e',by simp,rfl⟩⟩
  | false =>
   obtain ⟨r',q1,q2,q3⟩:=pJ (l':=l') hk.2 (show iM P (Instr.findAsking t k l (i+1))=some r from h2)
   refine ⟨r',gJ h1 q1,q2,fun p hp=>?_⟩
   obtain ⟨p1,e1,p2,p3⟩:=q3 p hp
   refine ⟨by omega,e1,?_,p3⟩
   have:p.1 - i=(p.1 - (i+1))+1:=by omega
   rw [this]; simpa using p2
theorem wh {d:TypeDesc} {k:Value}:∀ {l l':List MapEntry} {i:Nat},rI l l' →
  (Instr.findNow d k l i=none→Instr.findNow d k l' i=none)∧∀ r,Instr.findNow d k l i=some r→∃ r',Instr.findNow d k l' i=some r'∧r'.map (·.1)=r.map (·.1)∧∀ p,r'=some p→i≤p.1∧∃ e,l'[p.1 - i]?=some e∧e.val=p.2
 | [],l',i,hk=>by
  cases l' with
  | nil=>exact ⟨id,fun r h=>⟨r,h,rfl,fun p hp=>by subst hp; simp [Instr.findNow] at h⟩⟩
  | cons e l'=>simp [rI] at hk
 | e :: l,[],i,hk=>by simp [rI] at hk
 | e :: l,e' :: l',i,hk=>by
  simp only [rI,Li,Mx] at hk
  unfold Instr.findNow
  rw [hk.1]
  split
  ·exact ⟨fun h=>by simp at h,fun r h=>by
    cases h
    exact ⟨some (i,e'.val),rfl,rfl,fun p hp=>by cases hp; exact ⟨A7 _,e',by simp,rfl⟩⟩⟩
  ·obtain ⟨k1,k2⟩:=wh (d:=d) (k:=k) (i:=i+1) hk.2
   refine ⟨k1,fun r h=>?_⟩
   obtain ⟨r',q1,q2,q3⟩:=k2 r h
   refine ⟨r',q1,q2,fun p hp=>?_⟩
   obtain ⟨p1,e1,p2,p3⟩:=q3 p hp
   refine ⟨by omega,e1,?_,p3⟩
   have:p.1 - i=(p.1 - (i+1))+1:=by omega
   rw [this]; simpa using p2
  ·exact ⟨fun _=>rfl,fun r h=>by cases h⟩
theorem Da {t:TypeId} {k:Value} {l l':List MapEntry} {r:Option (Nat×Value)} (hk:rI l l') (h:iM P (Instr.findKey t k l)=some r) :
  ∃ r',iM P (Instr.findKey t k l')=some r'∧r'.map (·.1)=r.map (·.1)∧∀ p,r'=some p→∃ e,l'[p.1]?=some e∧e.val=p.2:=by
 unfold Instr.findKey at h ⊢
 obtain ⟨d,h1,h2⟩:=oM h
 obtain ⟨k1,k2⟩:=wh (d:=d) (k:=k) (i:=0) hk
 cases hn:Instr.findNow d k l 0 with
 | none =>
  rw [hn] at h2
  obtain ⟨r',q1,q2,q3⟩:=pJ hk h2
  exact ⟨r',gJ h1 (by rw [k1 hn]; exact q1),q2,fun p hp=>by simpa using (q3 p hp).2⟩
 | some r1 =>
  rw [hn] at h2
  cases h2
  obtain ⟨r',q1,q2,q3⟩:=k2 _ hn
  exact ⟨r',gJ h1 (by rw [q1]; rfl),q2,fun p hp=>by simpa using (q3 p hp).2⟩
theorem tJ:∀ {l:Ents} {es:List MapEntry},RelM ι l es→rI (l.map fun e=>{ key:=e.1,val:=.nilFunc,born:=0 }) es
 | _,_,.nil=>rfl
 | _,_,.cons hk _ _ _ t=>by have:=tJ t; simp [rI] at this ⊢; exact ⟨hk.symm,this⟩
theorem sV:∀ {l:Ents} {es:List MapEntry} {i:Nat} {e:Value×(Bool×List RC)},RelM ι l es→l[i]?=some e→∃ e',es[i]?=some e'∧e'.key=e.1∧∃ us,e'.val=da e.2.1 us∧RelL ι e.2.2 us∧(e.2.1=false→e.2.2.length=1)
 | _,_,_,_,.nil,h=>by simp at h
 | _,_,i,_,.cons hk hv hr hg t,h=>by
  cases i with
  | zero=>simp at h; subst h; exact ⟨_,rfl,hk,_,hv,hr,hg⟩
  | succ i=>simpa using sV t (by simpa using h)
theorem sx {em:Bool} {kt:TypeId} {k:Value} {es:Ents} {r:Option Nat} (h:FL P em kt k es=some r) {ents:List MapEntry} (hr:RelM ι es ents) :
  (∀ w,(Instr.checkKey em 10000 kt k).run P w=.ok () w)∧∃ q,(∀ w,(Instr.findKey kt k ents).run P w=.ok q w)∧q.map (·.1)=r∧∀ p,q=some p→∃ e,ents[p.1]?=some e∧e.val=p.2:=by
 unfold FL at h
 split at h
 ·rename_i r' hr'
  cases h
  obtain ⟨_,h1,h2⟩:=oM hr'
  obtain ⟨q,q1,q2,q3⟩:=Da (tJ hr) h2
  exact ⟨fun w=>de h1 w,q,fun w=>de q1 w,q2,q3⟩
 ·cases h
theorem CW {t:TypeId} {g:Bool} {z:List RC} (h:D5 P t=some (g,z)):∃ v us,(∀ w,(zeroValue t).run P w=.ok v w)∧RelL ι z us∧v=da g us∧(g=false→z.length=1):=by
 unfold D5 at h
 split at h
 ·rename_i g' i hg hi
  split at h
  ·rename_i v hv
   have run:∀ w,(zeroValue t).run P w=.ok v w:=fun w=>by simp [zeroValue,typeInfo,hi,hv]
   unfold HZ at h
   split at h
   ·rename_i cs
    replace h:=ag h; obtain ⟨h1,h⟩:=h
    split at h
    ·rename_i l hl
     cases h
     exact ⟨_,cs.toList,run,jQ hl,by simp [da],fun h=>by cases h⟩
    ·cases h
   ·cases g' with
    | true=>cases h
    | false =>
     change (match ofC v with | some c=>some (false,[c]) | none=>none)=some (g,z) at h
     split at h
     ·rename_i c hc
      cases h
      exact ⟨_,[v],run,.cons (vz hc) .nil,rfl,fun _=>rfl⟩
     ·cases h
  ·cases h
 ·cases h
theorem AB {l:Ents} {es:Array MapEntry} (h:RelM ι l es.toList):l.isEmpty=es.isEmpty:=by
 have:=qI h
 cases l <;> cases es with | mk l'=>cases l' <;> simp_all
theorem EW {w0 w:World} {t:TypeId} {x ix:Operand} {ok:Bool} {ob:Option RO} (ho:o.op=.lookup t x ix ok) (hS:∀ x∈o.op.operands,RelV ι (a.eval x) (ev x)) (hb:nS w0 w ι (ev x) ob)
  (h:vL P ob t (ev x) (ev ix) ok=some v):∃ u,(execOp a.eval o).run P w=.ok (.value u) w∧RelV ι u v:=by
 rw [ho] at hS
 have hx:=hS x (by simp [Op.operands])
 have hix:=hS ix (by simp [Op.operands])
 unfold vL at h
 split at h
 ·rename_i kt vt b k hu hv hk
  rw [hv] at hx hb
  have ek:=eJ hk hix
  split at h
  ·rename_i es g z hz
   split at h
   ·rename_i r hr
    obtain ⟨b',h1,h2⟩:=hb _ rfl
    cases h1
    obtain ⟨L,ents,clock,r1,r2,r3,r4,_⟩:=h2
    obtain ⟨L',q1,q2⟩:=v7 hx
    rw [r1] at q1
    cases q1
    obtain ⟨c1,q,c2,c3,c4⟩:=sx hr r4
    rw [AB r4] at c1
    obtain ⟨zv,zs,z1,z2,z3,z4⟩:=CW (ι:=ι) hz
    -- the value that comes of it
    have run:∀ u:Value,(∀ p,q=some p→p.2=u)→(q=none→zv=u)→(execOp a.eval o).run P w=.ok (.value (if ok then .tuple #[u,.bool q.isSome] else u)) w:=by
     intro u h1 h2
     cases q with
     | none =>
      have:=h2 rfl
      subst this
      cases ok <;> simp [execOp,ho,q2,ek,Instr.lookup,run_underlying hu,il r3,c1,c2,z1]
     | some p =>
      have:=h1 p rfl
      subst this
      cases ok <;> simp [execOp,ho,q2,ek,Instr.lookup,run_underlying hu,il r3,c1,c2]
    have hsome:r.isSome=q.isSome:=by rw [← c3]; cases q <;> rfl
    unfold lkV at h
    split at h
    ·rename_i c hc
     have val:∃ us,RelL ι c.2 us∧(c.1=false→c.2.length=1)∧(∀ p,q=some p→p.2=da c.1 us)∧(q=none→zv=da c.1 us):=by
      unfold mAt at hc
      split at hc
      ·cases hc
       have hq:q=none:=by cases q with | none=>rfl | some p=>simp at c3
       exact ⟨zs,z2,z4,(fun p hp=>by rw [hq] at hp; cases hp),fun _=>z3⟩
      ·rename_i i
       split at hc
       ·rename_i e he
        cases hc
        obtain ⟨e',s1,s2,us,s3,s4,s5⟩:=sV r4 he
        obtain ⟨p,hp⟩ : ∃ p,q=some p:=by cases q with | none=>simp at c3 | some p=>exact ⟨p,rfl⟩
        obtain ⟨e2,t1,t2⟩:=c4 p hp
        rw [hp] at c3
        simp at c3
        rw [c3,s1] at t1
        cases t1
        refine ⟨us,s4,s5,fun p' hp'=>?_,fun hq=>by rw [hp] at hq; cases hq⟩
        rw [hp] at hp'
        cases hp'
        rw [← t2,s3]
       ·cases hc
     obtain ⟨us,v1,v2,v3,v4⟩:=val
     refine ⟨_,run (da c.1 us) v3 v4,?_⟩
     cases ok with
     | true =>
      cases h
      refine ⟨[da c.1 us,.bool q.isSome],rfl,.cons v1 v2 ?_⟩
      rw [hsome]
      exact RelT.cons (us:=[.bool q.isSome]) (g:=false) (.cons .bool .nil) (fun _=>rfl) .nil
     | false=>exact i0 h v1
    ·cases h
   ·cases h
  ·cases h
 ·cases h
end
end Go.Rx

