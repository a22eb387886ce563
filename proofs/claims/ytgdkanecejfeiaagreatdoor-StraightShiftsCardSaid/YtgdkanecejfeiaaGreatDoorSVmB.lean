/-
 A machine on typed values, small enough to be reckoned by the kernel, and the proof that it goes with the model: part 2 of 4. What it computes for a function is that function's contract. No condition of its own.
-/
import Derived.Test.YtgdkanecejfeiaaGreatDoorSVmA
import Derived.Lib.ConvBytes
import Derived.Laws.BytesArg
import Derived.Laws.Tables
import Derived.ArgAppend
import Derived.WalkSpells
import Derived.Laws.StructEq
import Derived.Laws.Cover3
import Derived.MapKept
open Option.some renaming injEq→A1,inj→B4
open List renaming getElem?_eq_getElem→A2,getElem?_eq_some_iff→A3,replicate→A6,mem_append→B1,mem_of_getElem?→B2,mem_cons→B3,length_cons→La,all_eq_true→Lg,map_cons→Li,eq_nil_of_length_eq_zero→Lj,mem_cons_of_mem→Ll,getElem?_cons_succ→Lp,pairwise_cons→Lr,getElem?_take→Ls,getElem?_cons_zero→Lt,length_append→Lu,getElem?_toArray→Lv,getElem_append_left→LB,length_nil→LG,append_assoc→LH,mem_cons_self→LL,mem_iff_getElem?→LM,pairwise_singleton→LP,getElem_append_right→LS,append_nil→LU,length_drop→LY,getElem?_drop→L5,getElem?_append_left→L8,getElem?_eq_none→Ml,ext_getElem?→MA,take_append_of_le_length→MK,getElem?_map→MP,length_pos_iff→MR,mem_flatMap→MT,drop_left→MZ,size_toArray→M0,length_replicate→M7,drop_append_of_le_length→Nc,getElem_replicate→Nu,headD_cons→NZ,getElem?_append_right→N5,getElem?_zipIdx→On,foldlM_cons→OM,zipIdx_cons→ON,map_nil→O1
open Bool renaming and_eq_true→A4,false_eq_true→LR
open Nat renaming eq_of_beq_eq_true→A5,le_refl→A7,beq→A8,le_of_ble_eq_true→B7,mul_le_mul_right→K9,add_mul→Lf,ble→Lh,zero_add→Ln,add_assoc→Lo,add_zero→L7,mul_one→M4,mul_le_mul→Na,add_comm→NM
open Option renaming bind_eq_some_iff→B6,map_some→Mn,map_eq_some_iff→MG,getD_some→Nl,map_map→OO
open Prod.mk renaming injEq→Ld
open Array renaming getElem?_eq_some_iff→Lw,length_toList→LJ,range→Mb,toArray_toList→Mv,ext'→MW,getElem?_setIfInBounds→M9,getElem?_eq_getElem→Nj,toList_map→Nq,size_append→NO,map→NU,getElem_toList→Oi,getElem_modify→Oj,getElem?_push→Om
open List.Pairwise renaming nil→Mo,cons→M6
open List.cons renaming injEq→Mx
open Int renaming mul_le_mul→OY
set_option linter.unusedVariables false
set_option linter.unusedSimpArgs false
/-
 The machine's operations against the model's: places, lengths, parts.
-/
namespace Go.Vm
section
variable {P:Program} {C:Ctx} {w0:World} {M:Own} {o:Oper} {a:Act} {m:Mem} {s s':St}
theorem mP {R:Type} {v:SV} {K:Int→Option R} {r:R} (h:mq v K=some r):∃ n:Int,v=.av (.val (.int .i64) n)∧K n=some r:=by
 unfold mq at h
 split at h
 ·exact ⟨_,rfl,h⟩
 ·simp at h
theorem jY {τ σ : Ty} {t:TypeId} {f q:Nat} (hck:chk P τ none t=true) (hf : τ.field f=some (q,σ)) (hp:1≤σ.size) (b off:Nat) (w:World) :
  (Instr.fieldAt t (.pointer (some ⟨b,off,none⟩)) f).run P w=.ok (.pointer (some ⟨b,off+q,none⟩)) w:=by
 obtain ⟨fs,fd,h1,h2,h3,h4⟩:=E8 hck hf
 have hs:=bK h4 w
 have h0 : σ.size≠0:=by omega
 simp [Instr.fieldAt,run_underlying h1,h2,Instr.sureAddr,fieldPlace,hs,h0,h3,bd]
theorem vU {t:TypeId} {x:Operand} {f:Nat} (hT:dX P C.tab=true) (hi:Inv C w0 M m) (hG:m.G=s.G) (hS:∀ x,RelSV m (a.eval x) (ap C s.env x)) (ho:o.op=.fieldAddr t x f)
  (h:aA C o s some=some s'):Does P o a m.w (Res C w0 M m s s' o.dst):=by
 simp only [aA,ho] at h
 have hx:=hS x
 split at h
 ·rename_i id off hp
  rw [hp] at hx
  obtain ⟨_,ob,hob,hv⟩:=(ah (m:=m) (a:=.ptr id off) (by intros; simp)).1 hx
  rw [hG] at hob
  split at h
  ·rename_i l τ hl ht
   have hck:=ak hT ht
   rw [hl] at hob
   simp only [A1] at hob
   subst hob
   obtain ⟨b,hι,hv⟩:=hv
   split at h
   ·rename_i o' t' hf
    cases hb:Lh 1 t'.size with
    | false=>rw [hb] at h; simp at h
    | true =>
     rw [hb] at h
     have hpos:=B7 hb
     exact aH hi hG (v:=.pointer (some ⟨b,off+o',none⟩)) (sv:=.av (.ptr id (off+o'))) (by simp [execOp,ho,hv,jY hck hf hpos]) (show ae m _ (.ptr id (off+o')) from ⟨rfl,.box l,hG ▸ hl,b,hι,rfl⟩) h
   ·simp at h
  ·simp at h
 ·rename_i id j p hp
  rw [hp] at hx
  obtain ⟨_,ob,hob,hv⟩:=(ah (m:=m) (a:=.aptr id j p) (by intros; simp)).1 hx
  rw [hG] at hob
  split at h
  ·rename_i σ l τ hl ht
   have hck:=ak hT ht
   rw [hl] at hob
   simp only [A1] at hob
   subst hob
   obtain ⟨hj,b,off,n,cap,q,hι,hq,hv⟩:=hv
   rw [hq] at h
   obtain ⟨q1,q2⟩:=q
   simp only at h hv
   cases hd:decide (q2=τ) with
   | false=>rw [hd] at h; simp at h
   | true =>
    rw [hd] at h
    have:q2=τ:=by simpa using hd
    subst this
    simp only [cond_true] at h
    split at h
    ·rename_i o' t' hf
     cases hb:Lh 1 t'.size with
     | false=>rw [hb] at h; simp at h
     | true =>
      rw [hb] at h
      have hpos:=B7 hb
      exact aH hi hG (v:=.pointer (some ⟨b,off+j * σ.size+q1+o',none⟩)) (sv:=.av (.aptr id j (p++[f]))) (by simp [execOp,ho,hv,jY hck hf hpos])
       (show ae m _ (.aptr id j (p++[f])) from ⟨rfl,.arr σ l,hG ▸ hl,hj,b,off,n,cap,_,hι,og hq hf,by simp [Lo]⟩) h
    ·simp at h
  ·simp at h
 ·rename_i τ y hp
  rw [hp] at hx
  split at h
  ·rename_i τ' ht
   have hck:=ak hT ht
   cases hd:decide (τ=τ') with
   | false=>rw [hd] at h; simp at h
   | true =>
    rw [hd] at h
    have : τ=τ':=by simpa using hd
    subst this
    simp only [cond_true] at h
    split at h
    ·rename_i t' z hz
     cases hb:Lh 1 t'.size with
     | false=>rw [hb] at h; simp at h
     | true =>
      rw [hb] at h
      have hpos:=B7 hb
      obtain ⟨b,off,c,el,fz,h1,h2,h3,h4,h5⟩:=eE hx
      obtain ⟨o',r1,r2,r3⟩:=lG hz h5
      have hseg:seg c (off+o') t'.size=((seg c off τ.size).drop o').take t'.size:=by unfold seg; rw [ew _ _ _ _ _ r2]
      exact aH hi hG (v:=.pointer (some ⟨b,off+o',none⟩)) (sv:=.av (.val (.ptr t') z)) (by simp [execOp,ho,h1,jY hck r1 hpos])
       (show ∃ cs,_∧_ from ⟨[.pointer (some ⟨b,off+o',none⟩)],rfl,b,off+o',c,el,fz,rfl,h2,h3,by omega,by rw [hseg]; exact r3⟩) h
    ·simp at h
  ·simp at h
 ·simp at h
theorem x8 {x:Operand} (hi:Inv C w0 M m) (hG:m.G=s.G) (hS:∀ x,RelSV m (a.eval x) (ap C s.env x)) (ho:o.op=.nilCheck x)
  (h:aA C o s some=some s'):Does P o a m.w (Res C w0 M m s s' o.dst):=by
 simp only [aA,ho] at h
 have hx:=hS x
 split at h
 ·rename_i i j hp
  rw [hp] at hx
  obtain ⟨_,ob,hob,hv⟩:=(ah (m:=m) (a:=.ptr i j) (by intros; simp)).1 hx
  rw [hG] at hob
  split at h
  ·rename_i l hl
   rw [hl] at hob
   simp only [A1] at hob
   subst hob
   obtain ⟨b,hι,hv⟩:=hv
   exact aH hi hG (v:=a.eval x) (sv:=.av (.ptr i j)) (by simp [execOp,ho,hv]) hx h
  ·simp at h
 ·rename_i i j p hp
  rw [hp] at hx
  obtain ⟨_,ob,hob,hv⟩:=(ah (m:=m) (a:=.aptr i j p) (by intros; simp)).1 hx
  rw [hG] at hob
  split at h
  ·rename_i σ l hl
   rw [hl] at hob
   simp only [A1] at hob
   subst hob
   obtain ⟨_,b,off,n,cap,q,hι,_,hv⟩:=hv
   exact aH hi hG (v:=a.eval x) (sv:=.av (.aptr i j p)) (by simp [execOp,ho,hv]) hx h
  ·rename_i ver σ l hole hl
   rw [hl] at hob
   simp only [A1] at hob
   subst hob
   obtain ⟨_,_,b,off,n,cap,us,_,_,hv⟩:=hv
   exact aH hi hG (v:=a.eval x) (sv:=.av (.aptr i j p)) (by simp [execOp,ho,hv]) hx h
  ·simp at h
 ·rename_i t y hp
  rw [hp] at hx
  obtain ⟨b,off,c,el,fz,h1,_⟩:=eE hx
  exact aH hi hG (v:=a.eval x) (sv:=.av (.val (.ptr t) y)) (by simp [execOp,ho,h1]) hx h
 ·rename_i g t y hp
  rw [hp] at hx
  have hx':=hx
  obtain ⟨cs,h1,vs,rfl,_⟩:=hx'
  simp only [toV,Ty.isAgg,cond_false,NZ] at h1
  exact aH hi hG (v:=a.eval x) (sv:=.av (.val (.clo g t) y)) (by simp [execOp,ho,h1]) hx h
 ·rename_i f c hp
  rw [hp] at hx
  obtain ⟨vs,h1,_⟩:=(ah (m:=m) (a:=.clo f c) (by intros; simp)).1 hx
  exact aH hi hG (v:=a.eval x) (sv:=.av (.clo f c)) (by simp [execOp,ho,h1]) hx h
 ·simp at h
theorem rx {i:Int} {n:Nat} {j:Nat} (h:aQ n i=some j):0≤i∧i < n∧j=i.toNat∧j < n:=by
 unfold aQ at h
 split at h
 ·rename_i hc; simp at h; omega
 ·simp at h
theorem uz {α : Type} {l:List α} {i:Int} {y : α} (h:aL l i=some y):0≤i∧i < l.length∧∃ hj:i.toNat < l.length,l[i.toNat]=y:=by
 unfold aL at h
 split at h
 ·rename_i hc
  obtain ⟨hj,hy⟩:=A3.1 h
  exact ⟨hc,by omega,hj,hy⟩
 ·simp at h
theorem cf {e:Ty} {t et:TypeId} (hu:P.underlying t=some (.slice et)) (hck:chk P e none et=true) {k:IntKind} {i:Int} {n cap b off:Nat} (h0:0≤i) (h1:i < n) (w:World) :
  (Instr.indexAt t (.slice (some ⟨b,off,none⟩) n cap) (.int k i)).run P w=.ok (.pointer (some ⟨b,off+i.toNat * e.size,none⟩)) w:=by
 have hc:0≤i∧i < (n:Int):=⟨h0,h1⟩
 simp [Instr.indexAt,asIntOf,run_underlying hu,hc,bK hck,bd]
theorem kk {e:Ty} {t et:TypeId} {n:Nat} (hu:P.underlying t=some (.array n et)) (hck:chk P e none et=true) {k:IntKind} {i:Int} {b off:Nat} (h0:0≤i) (h1:i < n) (w:World) :
  (Instr.indexAt t (.pointer (some ⟨b,off,none⟩)) (.int k i)).run P w=.ok (.pointer (some ⟨b,off+i.toNat * e.size,none⟩)) w:=by
 have hc:0≤i∧i < (n:Int):=⟨h0,h1⟩
 simp [Instr.indexAt,asIntOf,run_underlying hu,hc,bK hck,bd,Instr.sureAddr]
theorem uE {t:TypeId} {x ix:Operand} (hT:dX P C.tab=true) (hi:Inv C w0 M m) (hG:m.G=s.G) (hS:∀ x,RelSV m (a.eval x) (ap C s.env x)) (ho:o.op=.indexAddr t x ix)
  (h:aA C o s some=some s'):Does P o a m.w (Res C w0 M m s s' o.dst):=by
 simp only [aA,ho] at h
 have hx:=hS x
 obtain ⟨k,i,hix,h⟩:=iq h
 have hiv:=hS ix
 rw [hix] at hiv
 obtain ⟨hiv,_,_⟩:=rel_int hiv
 cases hty:fS C t s.G (ap C s.env x) with
 | false=>rw [hty] at h; simp at h
 | true =>
  rw [hty] at h
  simp only [cond_true] at h
  have fin {v:Value} {at':Atom} (hl:(Instr.indexAt t (a.eval x) (.int k i)).run P m.w=.ok v m.w) (hr:RelSV m v (.av at')) (hs:some (aG o.dst (.av at') s)=some s') :
    Does P o a m.w (Res C w0 M m s s' o.dst) :=
   aH hi hG (v:=v) (by simp [execOp,ho,hiv,hl]) hr hs
  unfold indexAt at h
  split at h
  ·rename_i e l hp
   rw [hp] at hx hty
   unfold fS at hty
   split at hty <;> try (simp_all; done)
   rename_i e1 e2 l2 ht hq
   simp only [SV.av.injEq,Atom.val.injEq,Ty.slice.injEq] at hq
   obtain ⟨rfl,hl2⟩:=hq
   have:e1=e:=by simpa using hty
   subst this
   obtain ⟨et,hu,hck⟩:=bc (ak hT ht)
   obtain ⟨y,hy,h⟩:=B6.1 h
   obtain ⟨h0,h1,hj,rfl⟩:=uz hy
   obtain ⟨ad,cap,hv,h2,h3,h4⟩:=gW hx
   obtain ⟨b,off,c,el,fz,rfl,q2,q3,q4,q5⟩:=h4 (by intro e; rw [e] at hj; simp at hj)
   refine fin (at':=.val (.ptr e1) l[i.toNat]) (by rw [hv]; exact cf hu hck h0 h1 _) ⟨[_],rfl,b,off+i.toNat * e1.size,c,el,fz,rfl,q2,q3,?_,q5 _ hj⟩ h
   have:(i.toNat+1) * e1.size≤l.length * e1.size:=K9 _ hj
   rw [Lf] at this; omega
  ·rename_i id hp
   rw [hp] at hx hty
   obtain ⟨_,ob,hob,hv⟩:=(ah (m:=m) (a:=.own id) (by intros; simp)).1 hx
   rw [hG] at hob
   split at h
   ·rename_i e l hl
    rw [hl] at hob
    simp only [A1] at hob
    subst hob
    unfold fS at hty
    split at hty <;> try (simp_all; done)
    rename_i e1 id2 ht hq
    simp only [SV.av.injEq,Atom.own.injEq] at hq
    subst hq
    rw [hl] at hty
    have:e1=e:=by simpa using hty
    subst this
    obtain ⟨et,hu,hck⟩:=bc (ak hT ht)
    obtain ⟨j,hj,h⟩:=B6.1 h
    obtain ⟨h0,h1,rfl,hj⟩:=rx hj
    obtain ⟨b,off,cap,c,el,fz,r1,r2,r3,r4,r5,r6,r7,r8,r9⟩:=pm hi (hG ▸ hl) hj
    exact fin (at':=.aptr id i.toNat []) (by rw [hv rfl,r1]; exact cf hu hck h0 h1 _)
     (show ae m _ (.aptr id i.toNat []) from ⟨rfl,.arr e1 l,hG ▸ hl,hj,b,off,l.length,cap,_,r1,rfl,by simp⟩) h
   ·simp at h
  ·rename_i id off' len hp
   rw [hp] at hx hty
   obtain ⟨_,ob,hob,hv⟩:=(ah (m:=m) (a:=.view id off' len) (by intros; simp)).1 hx
   rw [hG] at hob
   split at h
   ·rename_i e l hl
    rw [hl] at hob
    simp only [A1] at hob
    subst hob
    unfold fS at hty
    split at hty <;> try (simp_all; done)
    rename_i e1 id2 o2 l2 ht hq
    simp only [SV.av.injEq,Atom.view.injEq] at hq
    obtain ⟨rfl,rfl,rfl⟩:=hq
    rw [hl] at hty
    have:e1=e:=by simpa using hty
    subst this
    obtain ⟨et,hu,hck⟩:=bc (ak hT ht)
    obtain ⟨j,hj,h⟩:=B6.1 h
    obtain ⟨h0,h1,rfl,hj⟩:=rx hj
    simp only at hv
    obtain ⟨b,off,cap,c,el,fz,r1,r2,r3,r4,r5,r6,r7,r8,r9⟩:=pm hi (hG ▸ hl) (j:=off'+i.toNat) (by omega)
    refine fin (at':=.aptr id (off'+i.toNat) []) (v:=.pointer (some ⟨b,off+off' * e1.size+i.toNat * e1.size,none⟩)) ?_
     (show ae m _ (.aptr id (off'+i.toNat) []) from ⟨rfl,.arr e1 l,hG ▸ hl,by omega,b,off,l.length,cap,_,r1,rfl,by simp [Lf,Lo]⟩) h
    obtain ⟨a',n',cap',ad',v1,v2,v3⟩:=hv.2
    rw [r1] at v1
    simp only [Value.slice.injEq] at v1
    obtain ⟨rfl,rfl,rfl⟩:=v1
    rw [v2,v3 (by omega)]
    simp only [Mn,bd]
    exact cf hu hck h0 h1 _
   ·simp at h
  ·rename_i id off' len hp
   rw [hp] at hx hty
   obtain ⟨_,ob,hob,hv⟩:=(ah (m:=m) (a:=.cut id off' len) (by intros; simp)).1 hx
   rw [hG] at hob
   split at h
   ·rename_i e l hl
    rw [hl] at hob
    simp only [A1] at hob
    subst hob
    unfold fS at hty
    split at hty <;> try (simp_all; done)
    rename_i e1 id2 o2 l2 ht hq
    simp only [SV.av.injEq,Atom.cut.injEq] at hq
    obtain ⟨rfl,rfl,rfl⟩:=hq
    rw [hl] at hty
    have:e1=e:=by simpa using hty
    subst this
    obtain ⟨et,hu,hck⟩:=bc (ak hT ht)
    obtain ⟨j,hj,h⟩:=B6.1 h
    obtain ⟨h0,h1,rfl,hj⟩:=rx hj
    simp only at hv
    obtain ⟨hv1,hv2,b,off,n',cap',v1,v2⟩:=hv
    refine fin (at':=.aptr id (off'+i.toNat) []) (v:=.pointer (some ⟨b,off+off' * e1.size+i.toNat * e1.size,none⟩)) ?_
     (show ae m _ (.aptr id (off'+i.toNat) []) from ⟨rfl,.arr e1 l,hG ▸ hl,by omega,b,off,n',cap',_,v1,rfl,by simp [Lf,Lo]⟩) h
    rw [v2]
    exact cf hu hck h0 h1 _
   ·simp at h
  ·rename_i id hp
   rw [hp] at hx hty
   obtain ⟨_,ob,hob,hv⟩:=(ah (m:=m) (a:=.ownd id) (by intros; simp)).1 hx
   rw [hG] at hob
   split at h
   ·rename_i ver e l hole hl
    rw [hl] at hob
    simp only [A1] at hob
    subst hob
    unfold fS at hty
    split at hty <;> try (simp_all; done)
    rename_i e1 id2 ht hq
    simp only [SV.av.injEq,Atom.ownd.injEq] at hq
    subst hq
    rw [hl] at hty
    have:e1=.slice e:=by simpa using hty
    subst this
    obtain ⟨et,hu,hck⟩:=bc (ak hT ht)
    obtain ⟨j,hj,h⟩:=B6.1 h
    obtain ⟨h0,h1,rfl,hj⟩:=rx hj
    obtain ⟨u,hs,d1,d2⟩:=cg hi (hG ▸ hl)
    obtain ⟨us,hv1,hv2⟩:=hv
    rw [d1] at hv1
    simp only [Value.tuple.injEq] at hv1
    subst hv1
    simp only [Lv,Lt,A1] at hv2
    obtain ⟨b,off,cap,c,el,fz,v,r1,r2,r3,r4,r5,r6,_⟩:=ov d2 hj
    refine fin (at':=.aptr id i.toNat []) (v:=.pointer (some ⟨b,off+i.toNat * (Ty.slice e).size,none⟩)) (by rw [← hv2,r1]; exact cf hu hck h0 h1 _)
     (show ae m _ (.aptr id i.toNat []) from ⟨rfl,.deep ver e l hole,hG ▸ hl,hj,rfl,b,off,l.length,cap,_,d1,by simp [r1],by simp [Ty.size]⟩) h
   ·simp at h
  ·rename_i id ver j hp
   rw [hp] at hx hty
   obtain ⟨_,ob,hob,hv⟩:=(ah (m:=m) (a:=.sub id ver j) (by intros; simp)).1 hx
   rw [hG] at hob
   split at h
   ·rename_i ver' e l hl
    rw [hl] at hob
    simp only [A1] at hob
    subst hob
    unfold fS at hty
    split at hty <;> try (simp_all; done)
    rename_i e1 id2 ver2 j2 ht hq
    simp only [SV.av.injEq,Atom.sub.injEq] at hq
    obtain ⟨rfl,rfl,rfl⟩:=hq
    rw [hl] at hty
    have:e1=e:=by simpa using hty
    subst this
    obtain ⟨et,hu,hck⟩:=bc (ak hT ht)
    cases hb:A8 ver ver' with
    | false=>rw [hb] at h; simp at h
    | true =>
     rw [hb] at h
     have:=A5 hb
     subst this
     obtain ⟨hj,_,us,hv1,hv2⟩:=hv.2 rfl
     simp only [cond_true,fP hj] at h
     obtain ⟨k',hk',h⟩:=B6.1 h
     obtain ⟨h0,h1,rfl,hk'⟩:=rx hk'
     obtain ⟨u,hs,d1,d2⟩:=cg hi (hG ▸ hl)
     rw [d1] at hv1
     simp only [Value.tuple.injEq] at hv1
     subst hv1
     have hv3:=hv2
     simp only [Lv,Lp] at hv2
     obtain ⟨b,off,cap,c,el,fz,r1,r2,r3,r4,r5,r6⟩:=BV (d2.inner j hj _ hv2 (by simp)) hk'
     rw [r1] at hv3
     exact fin (at':=.saptr id ver j i.toNat) (v:=.pointer (some ⟨b,off+i.toNat * e1.size,none⟩)) (by rw [r1]; exact cf hu hck h0 h1 _)
      (show ae m _ (.saptr id ver j i.toNat) from ⟨rfl,.deep ver e1 l none,hG ▸ hl,A7 _,fun _=>⟨hj,rfl,_,b,off,_,cap,d1,hv3,hk',rfl⟩⟩) h
   ·simp at h
  ·rename_i n e l hp
   rw [hp] at hx hty
   unfold fS at hty
   split at hty <;> try (simp_all; done)
   rename_i n1 e1 n2 e2 l2 ht hq
   simp only [SV.av.injEq,Atom.val.injEq,Ty.ptr.injEq,Ty.arr.injEq] at hq
   obtain ⟨⟨rfl,rfl⟩,hl2⟩:=hq
   simp only [A4,decide_eq_true_eq] at hty
   obtain ⟨⟨rfl,hn⟩,_⟩:=hty
   have:=A5 hn
   subst this
   obtain ⟨et,hu,hck⟩:=rC (ak hT ht)
   obtain ⟨y,hy,h⟩:=B6.1 h
   obtain ⟨h0,h1,hj,rfl⟩:=uz hy
   obtain ⟨b,off,c,el,fz,hv,q2,q3,q4,q5,q6,q7⟩:=eE hx
   simp only [Ty.size] at q4 q6
   have hle:(i.toNat+1) * e1.size≤n1 * e1.size:=K9 _ (by omega)
   rw [Lf] at hle
   refine fin (at':=.val (.ptr e1) l[i.toNat]) (by rw [hv]; exact kk hu hck h0 (by omega) _) ⟨[_],rfl,b,off+i.toNat * e1.size,c,el,fz,rfl,q2,q3,by omega,?_⟩ h
   have hseg:seg c (off+i.toNat * e1.size) e1.size=((seg c off (n1 * e1.size)).drop (i.toNat * e1.size)).take e1.size:=by unfold seg; rw [ew _ _ _ _ _ (by omega)]
   rw [hseg]
   exact q7 _ hj
  ·rename_i id off hp
   rw [hp] at hx hty
   obtain ⟨_,ob,hob,hv⟩:=(ah (m:=m) (a:=.ptr id off) (by intros; simp)).1 hx
   split at h
   ·rename_i n e ht
    obtain ⟨et,hu,hck⟩:=rC (ak hT ht)
    split at h
    ·rename_i hc
     cases ob with
     | box l =>
      obtain ⟨b,hι,hv⟩:=hv
      exact fin (at':=.ptr id (off+i.toNat * e.size)) (by rw [hv]; exact kk hu hck hc.1 hc.2 _) (show ae m _ (.ptr id (off+i.toNat * e.size)) from ⟨rfl,.box l,hob,b,hι,rfl⟩) h
     | arr _ _=>exact hv.elim
     | deep _ _ _ _=>exact hv.elim
     | map _ _ _=>exact hv.elim
     | dead =>
      unfold fS at hty
      rw [ht] at hty
      simp only at hty
      rw [← hG,hob] at hty
      simp at hty
    ·simp at h
   ·simp at h
  ·simp at h
end
end Go.Vm

/-
 The machine's operations against the model's: new objects, lengths, conversions.
-/
namespace Go.Vm
section
variable {P:Program} {C:Ctx} {w0:World} {M:Own} {o:Oper} {a:Act} {m:Mem} {s s':St}
theorem gR {G:Heap} {i:Nat} (h:G.has i=false):G.get i=none:=by
 cases hg:G.get i with
 | none=>rfl
 | some o=>rw [Heap.has_of_get hg] at h; cases h
theorem cu {R:Type} {s:St} {site:Nat} {ob:Obj} {K:Nat→St→Option R} {r:R} (h:cv s site ob K=some r) :
  ∃ i,s.G.get i=none∧K i { env:=s.env,G:=(i,ob) :: s.G }=some r:=by
 unfold cv at h
 cases hh:s.G.has (aO 8 s.G site) with
 | true=>rw [hh] at h; simp at h
 | false=>rw [hh] at h; exact ⟨_,gR hh,h⟩
theorem fN (w:World) (ob:Go.Obj) {i:Nat} (h:i < w.heap.size):(w.alloc ob).heap[i]?=w.heap[i]?:=by
 show (w.heap.push ob)[i]?=_
 rw [Om,if_neg (by omega)]
theorem bU (w:World) (ob:Go.Obj):(w.alloc ob).heap[w.heap.size]?=some ob:=by
 show (w.heap.push ob)[w.heap.size]?=_
 rw [Om,if_pos rfl]
theorem eR (w:World) (ob:Go.Obj):Kept w (fun _=>False) (w.alloc ob) :=
 ⟨rfl,rfl,rfl,by simp,fun b hb _=>fN w ob hb⟩
theorem eF (w:World) (ob:Go.Obj):Kept w (fun _=>False) (w.drew.alloc ob) :=
 ⟨rfl,rfl,rfl,by simp,fun b hb _=>fN w.drew ob hb⟩
theorem Bb (hi:Inv C w0 M m) {i:Nat} (hn:m.G.get i=none) {t:TypeId} {cs:List Value} {l:List Atom} (h1:∀ u∈cs,u.oneCell'=true)
  (hr:∀ m':Mem,Evo m m'→Rel2 (ae m') cs l) :
  ∃ m',m'.w=m.w.alloc (.cells cs.toArray t)∧m'.G=(i,.box l) :: m.G∧Inv C w0 M m'∧Evo m m'∧RelSV m' (.pointer (some ⟨m.w.heap.size,0,none⟩)) (.av (.ptr i 0)):=by
 have hw:=eR m.w (.cells cs.toArray t)
 have hnew:=bU m.w (.cells cs.toArray t)
 have he:Evo m ⟨m.w.alloc (.cells cs.toArray t),m.F,fun k=>if k=i then .pointer (some ⟨m.w.heap.size,0,none⟩) else m.ι k,(i,.box l) :: m.G⟩:=by
  refine ⟨fun b hF=>⟨hF,fN _ _ (hi.fro b hF)⟩,fun id p hp=>?_⟩
  have hne:i≠id:=fun e=>by subst e; rw [hn] at hp; cases hp
  exact ⟨p,by rw [Heap.get_cons,if_neg hne]; exact hp,.inr (.inl ⟨by simp [Ne.symm hne],Alike.refl p⟩)⟩
 obtain ⟨g1,g2⟩:=nr hi hw (i:=i) (o:=.box l) (h:=.pointer (some ⟨m.w.heap.size,0,none⟩)) hn (by intro b hb; simp [HB,HB1] at hb; subst hb; simp)
  ⟨m.w.heap.size,cs.toArray,t,by simp,hnew,by simpa using h1,by simpa using hr _ he⟩
 refine ⟨_,rfl,rfl,g1,g2,?_⟩
 exact (ah (a:=.ptr i 0) (by intros; simp)).2 ⟨rfl,.box l,by rw [Heap.get_cons,if_pos rfl],m.w.heap.size,by simp,rfl⟩
theorem DU {t:TypeId} (hT:dX P C.tab=true) (hi:Inv C w0 M m) (hG:m.G=s.G) (ho:o.op=.alloc t)
  (h:aA C o s some=some s'):Does P o a m.w (Res C w0 M m s s' o.dst):=by
 simp only [aA,ho] at h
 split at h
 ·rename_i τ ht
  have hck:=ak hT ht
  obtain ⟨i,hn,h⟩:=cu h
  obtain ⟨z,hz,_,_,hrun⟩:=tR hck
  obtain ⟨c0,e0,hr0,_⟩:=cD (m:=m) hz
  rw [LU] at e0
  obtain ⟨m',q1,q2,q3,q4,q5⟩:=Bb (t:=t) hi (hG ▸ hn) (cs:=z.cells.toList) (l:=zeroCells τ) (by rw [e0]; exact hr0.one) (fun m' _=>by
   obtain ⟨c1,e1,_,hr1⟩:=cD (m:=m') hz
   rw [LU] at e1
   rw [e1]; exact hr1)
  refine Does.value (w':=m'.w) (v:=.pointer (some ⟨m.w.heap.size,0,none⟩)) ?_ ⟨m',_,rfl,?_,q3,q4,q5⟩
  ·simp [execOp,ho,Instr.alloc,hrun,newVar,newRow,q1]
  ·simp only [A1] at h
   rw [← h,q2,hG]
 ·simp at h
theorem IF {t:TypeId} {x:Operand} (hi:Inv C w0 M m) (hG:m.G=s.G) (hS:∀ x,RelSV m (a.eval x) (ap C s.env x)) (ho:o.op=.box t x)
  (h:aA C o s some=some s'):Does P o a m.w (Res C w0 M m s s' o.dst):=by
 simp only [aA,ho] at h
 split at h
 ·rename_i τ ht
  split at h
  ·rename_i c hc
   obtain ⟨i,hn,h⟩:=cu h
   obtain ⟨k1,k2⟩:=lJ hc (hS x)
   obtain ⟨m',q1,q2,q3,q4,q5⟩:=Bb (t:=t) hi (hG ▸ hn) (cs:=(a.eval x).cells.toList) (l:=c) k2 (fun m' he=>dw he k1)
   refine Does.value (w':=m'.w) (v:=.pointer (some ⟨m.w.heap.size,0,none⟩)) ?_ ⟨m',_,rfl,?_,q3,q4,q5⟩
   ·simp [execOp,ho,Instr.box,newVar,newRow,q1]
   ·simp only [A1] at h
    rw [← h,q2,hG]
  ·simp at h
 ·simp at h
theorem qr (hi:Inv C w0 M m) {i:Nat} (hn:m.G.get i=none) {w1:World} (hw:Kept m.w (fun _=>False) w1) {c:Array Value} {el:TypeId} {fz:Nat×Nat} {τ : Ty} {l:List τ.den} {cap:Nat}
  (hb:w1.heap[m.w.heap.size]?=some (.cells c el fz)) (hc:d8 τ c.size fz) (h1:l.length≤cap) (h2:cap≤maxLen) (h3:cap * τ.size≤c.size)
  (hr:∀ i (h:i < l.length),Rd m.w m.F τ (seg c (i * τ.size) τ.size) l[i]) :
  ∃ m',m'.w=w1∧m'.G=(i,.arr τ l) :: m.G∧Inv C w0 M m'∧Evo m m'∧RelSV m' (.slice (some ⟨m.w.heap.size,0,none⟩) l.length cap) (.av (.own i)):=by
 have he:Evo m ⟨w1,m.F,fun k=>if k=i then .slice (some ⟨m.w.heap.size,0,none⟩) l.length cap else m.ι k,(i,.arr τ l) :: m.G⟩:=by
  refine ⟨fun b hF=>⟨hF,hw.block b (hi.fro b hF) (fun h=>h)⟩,fun id p hp=>?_⟩
  have hne:i≠id:=fun e=>by subst e; rw [hn] at hp; cases hp
  exact ⟨p,by rw [Heap.get_cons,if_neg hne]; exact hp,.inr (.inl ⟨by simp [Ne.symm hne],Alike.refl p⟩)⟩
 have hlt:m.w.heap.size < w1.heap.size:=(Lw.1 hb).1
 obtain ⟨g1,g2⟩:=nr hi hw (i:=i) (o:=.arr τ l) (h:=.slice (some ⟨m.w.heap.size,0,none⟩) l.length cap) hn (by
   intro b hb
   obtain ⟨_,rfl⟩:=hb
   exact ⟨A7 _,hlt⟩)
  ⟨some ⟨m.w.heap.size,0,none⟩,cap,by simp,h1,h2,fun _=>⟨m.w.heap.size,0,c,el,fz,rfl,hb,hc,by omega,fun j hj=>by
   rw [Ln]; exact (hr j hj).mono he.fro⟩⟩
 refine ⟨_,rfl,rfl,g1,g2,?_⟩
 exact (ah (a:=.own i) (by intros; simp)).2 ⟨rfl,.arr τ l,by rw [Heap.get_cons,if_pos rfl],fun _=>by simp⟩
theorem rf (hi:Inv C w0 M m) {i:Nat} (hn:m.G.get i=none) {w1:World} (hw:Kept m.w (fun _=>False) w1) {c:Array Value} {el:TypeId} {fz:Nat×Nat} {τ : Ty} {l:List (List τ.den)} {cap:Nat} {hs:List Value}
  (hb:w1.heap[m.w.heap.size]?=some (.cells c el fz)) (hc:d8 (.slice τ) c.size fz) (h1:l.length≤cap) (h2:cap≤maxLen) (h3:cap≤c.size) (hl:hs.length=l.length) (hcs:∀ k,k < l.length→c[k]?=hs[k]?)
  (hr:∀ k (h:k < l.length) v,hs[k]?=some v→HdrW m.w m.F v τ l[k]) (ha:cz hs) (hf:∀ v∈hs,cZ w0 M m v) :
  ∃ m',m'.w=w1∧m'.G=(i,.deep 0 τ l none) :: m.G∧Inv C w0 M m'∧Evo m m'∧RelSV m' (.slice (some ⟨m.w.heap.size,0,none⟩) l.length cap) (.av (.ownd i)):=by
 have hlt:m.w.heap.size < w1.heap.size:=(Lw.1 hb).1
 obtain ⟨g1,g2⟩:=tq hi hw (fun b h=>h.elim)
 have hF:∀ b,m.F b→m.F b∧w1.heap[b]?=m.w.heap[b]?:=fun b hb'=>⟨hb',hw.block b (hi.fro b hb') (fun h=>h)⟩
 have hfree:∀ v∈hs,cZ w0 M ⟨w1,m.F,m.ι,m.G⟩ v:=by
  intro v hv b hb'
  obtain ⟨k1,k2,k3,k4⟩:=hf v hv b hb'
  exact ⟨k1,k2,Nat.lt_of_lt_of_le k3 hw.size,k4⟩
 have hub:∀ b,HB (.slice (some ⟨m.w.heap.size,0,none⟩) l.length cap) b→b=m.w.heap.size:=fun b hb'=>hb'.2.symm
 have hd:DeepW w1 m.F (.slice (some ⟨m.w.heap.size,0,none⟩) l.length cap) hs τ l none:=by
  refine ⟨hl,⟨_,cap,rfl,h1,h2,fun _=>⟨m.w.heap.size,0,c,el,fz,rfl,hb,hc,by omega,fun k hk _=>by rw [Ln]; exact hcs k hk⟩⟩,fun k hk v hv _=>?_,fun k v hk=>(by cases hk),?_⟩
  ·exact (hr k hk v hv).mono hF (fun b hb'=>hw.block b (hf v (B2 hv) b hb').2.2.1 (fun h=>h))
  ·refine M6 (fun v hv b hb1 hb2=>?_) ha
   have:=hub b hb1
   have:=(hf v hv b hb2).2.2.1
   omega
 obtain ⟨m',p1,p2,p3,p4,p5,p6,p7⟩:=ia (m:=⟨w1,m.F,m.ι,m.G⟩) g1 hn hd (fun v hv=>by
  rcases B3.1 hv with rfl | hv
  ·intro b hb'
   have:=hub b hb'
   subst this
   have:=hi.kept.size
   exact ⟨.inl this,fun hF'=>by have:=hi.fro _ hF'; omega,hlt,fun id o ho hob hb2=>by have:=(hi.own id o _ ho hob hb2).2.2; omega⟩
  ·exact hfree v hv)
 exact ⟨m',p1,p3,p5,g2.trans p6,(ah (a:=.ownd i) (by intros; simp)).2 p7⟩
theorem EK (hi:Inv C w0 M m) {i:Nat} (hn:m.G.get i=none) {w1:World} (hw:Kept m.w (fun _=>False) w1) {τ : Ty} (ad:Option Addr) :
  ∃ m',m'.w=w1∧m'.G=(i,.arr τ []) :: m.G∧Inv C w0 M m'∧Evo m m'∧RelSV m' (.slice ad 0 0) (.av (.own i)):=by
 obtain ⟨g1,g2⟩:=nr hi hw (i:=i) (o:=.arr τ []) (h:=.slice ad 0 0) hn (by intro b hb; cases ad <;> simp [HB,HB1] at hb)
  ⟨ad,0,by simp,by simp,by unfold maxLen; omega,fun h=>absurd rfl h⟩
 refine ⟨_,rfl,rfl,g1,g2,?_⟩
 exact (ah (a:=.own i) (by intros; simp)).2 ⟨rfl,.arr τ [],by rw [Heap.get_cons,if_pos rfl],fun _=>by simp⟩
theorem Gk (z:Array Value) (hz:0 < z.size) (n i:Nat) (h:i < n) :
  seg ((Mb (n * z.size)).map (z[· % z.size]!)) (i * z.size) z.size=z.toList:=by
 apply MA
 intro k
 by_cases hk:k < z.size
 ·rw [seg_getElem? _ _ _ _ hk]
  have hlt:i * z.size+k < n * z.size:=by
   have:(i+1) * z.size≤n * z.size:=K9 _ h
   rw [Lf] at this; omega
  have hm:(i * z.size+k) % z.size=k:=by rw [NM,Nat.add_mul_mod_self_right,Nat.mod_eq_of_lt hk]
  simp [hlt,hm,hk]
 ·have h2:z.toList[k]?=none:=Ml (by rw [LJ]; omega)
  rw [h2]
  unfold seg; rw [Ls]; simp [hk]
theorem vh {t:TypeId} {n c:Operand} (hT:dX P C.tab=true) (hi:Inv C w0 M m) (hG:m.G=s.G) (hS:∀ x,RelSV m (a.eval x) (ap C s.env x)) (ho:o.op=.makeSlice t n c)
  (h:aA C o s some=some s'):Does P o a m.w (Res C w0 M m s s' o.dst):=by
 simp only [aA,ho] at h
 split at h
 ·rename_i e ht
  obtain ⟨et,hu,hck⟩:=bc (ak hT ht)
  obtain ⟨k1,x,hx,h⟩:=iq h
  obtain ⟨k2,y,hy,h⟩:=iq h
  have hxv:=hS n
  have hyv:=hS c
  rw [hx] at hxv
  rw [hy] at hyv
  obtain ⟨hxv,_,_⟩:=rel_int hxv
  obtain ⟨hyv,_,_⟩:=rel_int hyv
  obtain ⟨l,hl,h⟩:=B6.1 h
  unfold eV at hl
  split at hl
  ·rename_i hc
   simp only [A1] at hl
   subst hl
   obtain ⟨c1,c2,c3⟩:=hc
   have hlim:lim=68719476736:=rfl
   rw [hlim] at c3
   obtain ⟨i,hn,h⟩:=cu h
   obtain ⟨inf,z,r1,r2,r3,r4,r5,r6,r7⟩:=eI hck
   obtain ⟨c0,e0,hr0,_⟩:=cD (m:=m) r5
   rw [LU] at e0
   have hzs:z.cells.size=e.size:=by rw [← LJ,e0]; exact hr0.len
   have w1:IntKind.i64.wrap x=x:=IntWalk.i64_in x (by omega)
   have w2:IntKind.i64.wrap y=y:=IntWalk.i64_in y (by omega)
   have hb1:(inf.bytes:Int) * y≤2048 * 68719476736:=by
    have:(inf.bytes:Int)≤2048:=by omega
    exact OY this c3 (by omega) (by omega)
   have hb2:(inf.bytes:Int) * x≤2048 * 68719476736:=by
    have:(inf.bytes:Int)≤2048:=by omega
    exact OY this (by omega) (by omega) (by omega)
   have h48:(2:Int) ^ 48=281474976710656:=by decide
   have n1:¬ y < 0:=by omega
   have n2:¬ x < 0:=by omega
   have n3:¬ (inf.bytes:Int) * y > 2 ^ 48:=by omega
   have n4:¬ x > y:=by omega
   obtain ⟨zc,hzc⟩ : ∃ zc,zc=(if y.toNat * e.size=0 then #[] else z.cells):=⟨_,rfl⟩
   have hrun:(Instr.makeSlice t (.int k1 x) (.int k2 y)).run P m.w=.ok (.slice (some ⟨m.w.heap.size,0,none⟩) x.toNat y.toNat)
     (m.w.alloc (.cells ((Mb (y.toNat * e.size)).map (zc[· % zc.size]!)) et)):=by
    have hs:=bK hck m.w
    simp only [Instr.makeSlice,Sem.run_bind,run_underlying hu,Result.andThen_ok,asInt,asIntOf,Sem.run_pure,typeInfo,run_program,r1,w1,w2]
    simp only [n1,n2,n3,n4,decide_false,Bool.or_self,Bool.false_or,Bool.or_false,LR,if_false]
    by_cases hz:y.toNat * e.size=0
    ·rw [if_pos hz] at hzc
     subst hzc
     simp [hs,hz,newRow]
    ·rw [if_neg hz] at hzc
     subst hzc
     simp [hs,hz,newRow,zeroValue,typeInfo,r1,r4]
   have hcsz:((Mb (y.toNat * e.size)).map (zc[· % zc.size]!)).size=y.toNat * e.size:=by simp
   have hsegz:∀ j,j < x.toNat→Rd m.w m.F e (seg ((Mb (y.toNat * e.size)).map (zc[· % zc.size]!)) (j * e.size) e.size) (az e)∧(e.size≠0→seg ((Mb (y.toNat * e.size)).map (zc[· % zc.size]!)) (j * e.size) e.size=c0):=by
    intro j hj
    by_cases hz:e.size=0
    ·have:c0=[]:=by have:=hr0.len; rw [hz] at this; exact Lj this
     subst this
     have:seg ((Mb (y.toNat * e.size)).map (zc[· % zc.size]!)) (j * e.size) e.size=[]:=by
      unfold seg; rw [hz]; simp
     rw [this]; exact ⟨hr0,fun h=>absurd hz h⟩
    ·have hne:y.toNat * e.size≠0:=by
      intro h0; rcases Nat.mul_eq_zero.1 h0 with h0 | h0 <;> omega
     rw [if_neg hne] at hzc
     subst hzc
     have:=Gk z.cells (by omega) y.toNat j (by omega)
     rw [hzs] at this
     rw [hzs,this,e0]
     exact ⟨hr0,fun _=>rfl⟩
   obtain ⟨d,hd⟩ : ∃ d,d=(C.deep.any fun d=>A8 d (o.dst.getD 0)):=⟨_,rfl⟩
   rw [← hd] at h
   have plain:∃ m',m'.w=m.w.alloc (.cells ((Mb (y.toNat * e.size)).map (zc[· % zc.size]!)) et)∧m'.G=(i,.arr e (A6 x.toNat (az e))) :: m.G∧Inv C w0 M m'∧Evo m m'∧RelSV m' (.slice (some ⟨m.w.heap.size,0,none⟩) x.toNat y.toNat) (.av (.own i)):=by
    obtain ⟨m',q1,q2,q3,q4,q5⟩:=qr (τ:=e) (l:=A6 x.toNat (az e)) (cap:=y.toNat) (fz:=(0,0)) hi (hG ▸ hn) (eR m.w (.cells ((Mb (y.toNat * e.size)).map (zc[· % zc.size]!)) et)) (bU m.w _) (.inl (A7 _)) (by simp; omega) (by unfold maxLen; omega) (by rw [hcsz]; exact A7 _) (fun j hj=>by
     simp only [M7] at hj
     rw [Nu]
     exact (hsegz j hj).1)
    exact ⟨m',q1,q2,q3,q4,by simpa using q5⟩
   obtain ⟨m',q1,q2,q3,q4,q5⟩ : ∃ m',m'.w=m.w.alloc (.cells ((Mb (y.toNat * e.size)).map (zc[· % zc.size]!)) et)∧m'.G=(i,iW d e (A6 x.toNat (az e))) :: m.G∧Inv C w0 M m'∧Evo m m'∧RelSV m' (.slice (some ⟨m.w.heap.size,0,none⟩) x.toNat y.toNat) (.av (fL d e i)):=by
    cases d with
    | false=>exact plain
    | true =>
     cases e with
     | slice σ =>
      have hc0:c0=[.slice none 0 0]:=by
       unfold zeroIs at r5
       split at r5 <;> simp_all
      obtain ⟨m',q1,q2,q3,q4,q5⟩:=rf (τ:=σ) (l:=A6 x.toNat ([]:List σ.den)) (hs:=A6 x.toNat (.slice none 0 0)) (cap:=y.toNat) (fz:=(0,0)) hi (hG ▸ hn) (eR m.w (.cells ((Mb (y.toNat * (Ty.slice σ).size)).map (zc[· % zc.size]!)) et)) (bU m.w _) (.inl (A7 _)) (by simp; omega) (by unfold maxLen; omega) (by rw [hcsz]; simp [Ty.size]) (by simp) (fun k hk=>by
       simp only [M7] at hk
       have e1:=(hsegz k hk).2 (by simp [Ty.size])
       rw [hc0] at e1
       simp only [Ty.size,M4] at e1 ⊢
       have e2:=seg_getElem? ((Mb (y.toNat * 1)).map (zc[· % zc.size]!)) k 1 0 (by omega)
       simp only [M4] at e2
       rw [e1,L7] at e2
       rw [← e2]
       simp [hk]) (fun k hk v hv=>by
        simp only [List.getElem?_replicate] at hv
        split at hv
        ·cases hv
         rw [Nu]
         exact ⟨none,0,rfl,by simp,by unfold maxLen; omega,fun h=>absurd rfl h⟩
        ·cases hv) (by
         rw [cz,List.pairwise_iff_getElem]
         intro p q hp hq _ b hb
         rw [Nu] at hb
         simp [HB,HB1] at hb) (fun v hv b hb=>by
          rw [List.mem_replicate] at hv
          rw [hv.2] at hb
          simp [HB,HB1] at hb)
      refine ⟨m',q1,q2,q3,q4,?_⟩
      rw [M7] at q5
      exact q5
     | _=>exact plain
   refine Does.value (w':=m'.w) (v:=.slice (some ⟨m.w.heap.size,0,none⟩) x.toNat y.toNat) ?_ ⟨m',.av (fL d e i),rfl,?_,q3,q4,q5⟩
   ·simp [execOp,ho,hxv,hyv,hrun,q1]
   ·simp only [A1] at h
    rw [← h,q2,hG]
  ·simp at hl
 ·simp at h
theorem dH {τ : Option Ty} {v:SV} (h:AS τ v=true):(∃ b,v=.av (.val .str b)∧τ=some .str)∨((∀ b,v≠.av (.val .str b))∧∃ e,τ=some (.slice e)):=by
 unfold AS at h
 split at h
 ·exact .inl ⟨_,rfl,rfl⟩
 all_goals first | exact .inr ⟨by intros; simp,_,rfl⟩ | cases h
theorem IZ {t:Call} (hT:dX P C.tab=true) (hi:Inv C w0 M m) (hG:m.G=s.G) (hS:∀ x,RelSV m (a.eval x) (ap C s.env x)) {args:Array Operand} {ats:Array TypeId}
  (ho:o.op=.call { callee:=.builtin .len,args,argTypes:=ats })
  (h:aA C o s some=some s'):Does P o a m.w (Res C w0 M m s s' o.dst):=by
 simp only [aA,ho] at h
 split at h
 ·rename_i x hargs
  have ha:args=#[x]:=by rw [← Mv (xs:=args),hargs]
  subst ha
  cases hc:(AS (C.tab.get (ats.getD 0 0)) (ap C s.env x) && Lh 1 ats.size) with
  | false=>rw [hc] at h; simp at h
  | true =>
   rw [hc] at h
   simp only [cond_true] at h
   simp only [A4] at hc
   obtain ⟨hty,hsz⟩:=hc
   have hsz:=B7 hsz
   have hx:=hS x
   have hat:ats[0]?=some (ats.getD 0 0):=by simp [Nj (show 0 < ats.size by omega)]
   have fin {n:Nat} (hn:n≤maxLen) (hv:(∃ b:ByteArray,P.underlying (ats.getD 0 0)=some .string∧a.eval x=.string b∧b.size=n)∨(∃ et ad cap,P.underlying (ats.getD 0 0)=some (.slice et)∧a.eval x=.slice ad n cap))
     (hs:some (aG o.dst (.av (.val (.int .i64) (n:Int))) s)=some s'):Does P o a m.w (Res C w0 M m s s' o.dst):=by
    refine aH hi hG (v:=.int .i64 n) ?_ (kU (GX hn)) hs
    clear hty
    generalize ats.getD 0 0=t0 at hat hv
    rcases hv with ⟨b,h1,h2,h3⟩ | ⟨et,ad,cap,h1,h2⟩
    ·simp [execOp,ho,resolve,invoke,builtin,h2,Builtin.len_,hat,run_underlying h1,goInt,h3]
    ·simp [execOp,ho,resolve,invoke,builtin,h2,Builtin.len_,hat,run_underlying h1,goInt]
   clear hsz
   generalize ats.getD 0 0=t0 at hat hty fin
   unfold lenOf at h
   split at h
   ·rename_i e l hp
    rw [hp] at hx hty
    obtain ⟨ad,cap,hv,h2,h3,_⟩:=gW hx
    obtain ⟨e1,ht⟩ : ∃ e,C.tab.get t0=some (.slice e):=by
     rcases dH hty with ⟨_,h,_⟩ | ⟨_,h⟩
     ·cases h
     ·exact h
    obtain ⟨et,hu,_⟩:=bc (ak hT ht)
    exact fin (by omega) (.inr ⟨et,ad,cap,hu,hv⟩) h
   ·rename_i b hp
    rw [hp] at hx hty
    obtain ⟨hv,h2⟩:=qa hx
    have ht:C.tab.get t0=some .str:=by
     rcases dH hty with ⟨_,_,h⟩ | ⟨h,_⟩
     ·exact h
     ·exact absurd rfl (h b)
    exact fin h2 (.inl ⟨b,mJ (ak hT ht),hv,rfl⟩) h
   ·rename_i hp
    rw [hp] at hx hty
    obtain ⟨ad,hv⟩:=hx
    obtain ⟨e1,ht⟩ : ∃ e,C.tab.get t0=some (.slice e):=by
     rcases dH hty with ⟨_,h,_⟩ | ⟨_,h⟩
     ·cases h
     ·exact h
    obtain ⟨et,hu,_⟩:=bc (ak hT ht)
    exact fin (n:=0) (by omega) (.inr ⟨et,ad,0,hu,hv⟩) h
   ·rename_i id hp
    rw [hp] at hx hty
    obtain ⟨_,ob,hob,hv⟩:=hx
    rw [hG] at hob
    split at h
    ·rename_i e l hl
     rw [hl] at hob
     simp only [A1] at hob
     subst hob
     obtain ⟨ad,cap,r1,r2,r3,_⟩:=hi.objs id _ (hG ▸ hl)
     obtain ⟨e1,ht⟩ : ∃ e,C.tab.get t0=some (.slice e):=by
      rcases dH hty with ⟨_,h,_⟩ | ⟨_,h⟩
      ·cases h
      ·exact h
     obtain ⟨et,hu,_⟩:=bc (ak hT ht)
     exact fin (by omega) (.inr ⟨et,ad,cap,hu,by rw [hv rfl,r1]⟩) h
    ·simp at h
   ·rename_i id off n hp
    rw [hp] at hx hty
    obtain ⟨_,ob,hob,hv⟩:=hx
    rw [hG] at hob
    split at h
    ·rename_i e l hl
     rw [hl] at hob
     simp only [A1] at hob
     subst hob
     obtain ⟨ad,cap,r1,r2,r3,_⟩:=hi.objs id _ (hG ▸ hl)
     simp only at hv
     obtain ⟨e1,ht⟩ : ∃ e,C.tab.get t0=some (.slice e):=by
      rcases dH hty with ⟨_,h,_⟩ | ⟨_,h⟩
      ·cases h
      ·exact h
     obtain ⟨et,hu,_⟩:=bc (ak hT ht)
     obtain ⟨a',n',cap',ad',v1,v2,v3⟩:=hv.2
     exact fin (by omega) (.inr ⟨et,_,_,hu,v2⟩) h
    ·simp at h
   ·rename_i id off n hp
    rw [hp] at hx hty
    obtain ⟨_,ob,hob,hv⟩:=hx
    rw [hG] at hob
    split at h
    ·rename_i e l hl
     rw [hl] at hob
     simp only [A1] at hob
     subst hob
     obtain ⟨ad,cap,r1,r2,r3,_⟩:=hi.objs id _ (hG ▸ hl)
     simp only at hv
     obtain ⟨e1,ht⟩ : ∃ e,C.tab.get t0=some (.slice e):=by
      rcases dH hty with ⟨_,h,_⟩ | ⟨_,h⟩
      ·cases h
      ·exact h
     obtain ⟨et,hu,_⟩:=bc (ak hT ht)
     obtain ⟨k1,k2,b,o',n',cap',v1,v2⟩:=hv
     exact fin (by omega) (.inr ⟨et,_,_,hu,v2⟩) h
    ·simp at h
   ·rename_i id hp
    rw [hp] at hx hty
    obtain ⟨_,ob,hob,hv⟩:=hx
    rw [hG] at hob
    split at h
    ·rename_i ver e l hole hl
     rw [hl] at hob
     simp only [A1] at hob
     subst hob
     obtain ⟨u,hs,d1,d2⟩:=cg hi (hG ▸ hl)
     obtain ⟨us,v1,v2⟩:=hv
     rw [d1] at v1
     simp only [Value.tuple.injEq] at v1
     subst v1
     simp only [Lv,Lt,A1] at v2
     obtain ⟨ad,cap,r1,r2,r3,_⟩:=d2.outer
     obtain ⟨e1,ht⟩ : ∃ e,C.tab.get t0=some (.slice e):=by
      rcases dH hty with ⟨_,h,_⟩ | ⟨_,h⟩
      ·cases h
      ·exact h
     obtain ⟨et,hu,_⟩:=bc (ak hT ht)
     exact fin (by omega) (.inr ⟨et,ad,cap,hu,by rw [← v2,r1]⟩) h
    ·simp at h
   ·rename_i id ver j hp
    rw [hp] at hx hty
    obtain ⟨_,ob,hob,hv⟩:=hx
    rw [hG] at hob
    split at h
    ·rename_i ver' e l hl
     rw [hl] at hob
     simp only [A1] at hob
     subst hob
     cases hb:A8 ver ver' with
     | false=>rw [hb] at h; simp at h
     | true =>
      rw [hb] at h
      have:=A5 hb
      subst this
      obtain ⟨hj,_,us,v1,v2⟩:=hv.2 rfl
      simp only [cond_true,fP hj] at h
      obtain ⟨u,hs,d1,d2⟩:=cg hi (hG ▸ hl)
      rw [d1] at v1
      simp only [Value.tuple.injEq] at v1
      subst v1
      simp only [Lv,Lp] at v2
      obtain ⟨ad,cap,r1,r2,r3,_⟩:=d2.inner j hj _ v2 (by simp)
      obtain ⟨e1,ht⟩ : ∃ e,C.tab.get t0=some (.slice e):=by
       rcases dH hty with ⟨_,h,_⟩ | ⟨_,h⟩
       ·cases h
       ·exact h
      obtain ⟨et,hu,_⟩:=bc (ak hT ht)
      exact fin (by omega) (.inr ⟨et,ad,cap,hu,r1⟩) h
    ·simp at h
   ·simp at h
 ·simp at h
end
end Go.Vm

/-
 The machine's operations against the model's: conversions, parts of slices, literals.
-/
namespace Go.Vm
section
variable {P:Program} {C:Ctx} {w0:World} {M:Own} {o:Oper} {a:Act} {m:Mem} {s s':St}
theorem Ab {x y:Int} {lo hi:Int} (h1:lo≤x∧x≤hi) (h2:lo≤y∧y≤hi):lo≤kr x y∧kr x y≤hi:=by unfold kr; split <;> assumption
theorem yE {x y:Int} {lo hi:Int} (h1:lo≤x∧x≤hi) (h2:lo≤y∧y≤hi):lo≤maxI x y∧maxI x y≤hi:=by unfold maxI; split <;> assumption
theorem jE (mx:Bool) (hS:∀ x,RelSV m (a.eval x) (ap C s.env x)) {R:Type} {K:Int→Option R} {z:R}:∀ (xs:List Operand) (n:Int),
  IntKind.i64.min≤n∧n≤IntKind.i64.max→lj mx n (xs.map (ap C s.env)) K=some z →
  ∃ n',K n'=some z∧(IntKind.i64.min≤n'∧n'≤IntKind.i64.max)∧((xs.map a.eval).foldlM (cond mx Builtin.max2 Builtin.min2) (.int .i64 n)).run P m.w=.ok (.int .i64 n') m.w
 | [],n,hn,h=>⟨n,h,hn,by simp⟩
 | x :: xs,n,hn,h=>by
  simp only [Li,lj] at h
  obtain ⟨y,hy,h⟩:=mP h
  have hx:=hS x
  rw [hy] at hx
  obtain ⟨hx,h1,h2⟩:=rel_int hx
  cases mx with
  | true =>
   obtain ⟨n',r1,r2,r3⟩:=jE true hS xs (maxI n y) (yE hn ⟨h1,h2⟩) h
   refine ⟨n',r1,r2,?_⟩
   simp only [Li,OM,cond_true,hx,Builtin.max2,Sem.run_bind,Sem.run_pure,Result.andThen_ok]
   exact r3
  | false =>
   obtain ⟨n',r1,r2,r3⟩:=jE false hS xs (kr n y) (Ab hn ⟨h1,h2⟩) h
   refine ⟨n',r1,r2,?_⟩
   simp only [Li,OM,cond_false,hx,Builtin.min2,Sem.run_bind,Sem.run_pure,Result.andThen_ok]
   exact r3
theorem IH (hi:Inv C w0 M m) (hG:m.G=s.G) (hS:∀ x,RelSV m (a.eval x) (ap C s.env x)) {args:Array Operand} {ats:Array TypeId}
  (ho:o.op=.call { callee:=.builtin .min,args,argTypes:=ats }) (h:aA C o s some=some s'):Does P o a m.w (Res C w0 M m s s' o.dst):=by
 simp only [aA,ho] at h
 obtain ⟨l,rfl⟩ : ∃ l:List Operand,args=l.toArray:=⟨args.toList,by simp⟩
 cases l with
 | nil=>simp at h
 | cons x xs =>
  simp only [Li] at h
  obtain ⟨y,hy,h⟩:=mP h
  have hx:=hS x
  rw [hy] at hx
  obtain ⟨hx,h1,h2⟩:=rel_int hx
  obtain ⟨n',r1,r2,r3⟩:=jE (P:=P) (m:=m) (a:=a) false hS xs y ⟨h1,h2⟩ h
  refine aH hi hG (v:=.int .i64 n') ?_ (kU r2) r1
  simp only [cond_false] at r3
  simp [execOp,ho,resolve,invoke,builtin,Builtin.min_,hx,r3]
theorem IQ (hi:Inv C w0 M m) (hG:m.G=s.G) (hS:∀ x,RelSV m (a.eval x) (ap C s.env x)) {args:Array Operand} {ats:Array TypeId}
  (ho:o.op=.call { callee:=.builtin .max,args,argTypes:=ats }) (h:aA C o s some=some s'):Does P o a m.w (Res C w0 M m s s' o.dst):=by
 simp only [aA,ho] at h
 obtain ⟨l,rfl⟩ : ∃ l:List Operand,args=l.toArray:=⟨args.toList,by simp⟩
 cases l with
 | nil=>simp at h
 | cons x xs =>
  simp only [Li] at h
  obtain ⟨y,hy,h⟩:=mP h
  have hx:=hS x
  rw [hy] at hx
  obtain ⟨hx,h1,h2⟩:=rel_int hx
  obtain ⟨n',r1,r2,r3⟩:=jE (P:=P) (m:=m) (a:=a) true hS xs y ⟨h1,h2⟩ h
  refine aH hi hG (v:=.int .i64 n') ?_ (kU r2) r1
  simp only [cond_true] at r3
  simp [execOp,ho,resolve,invoke,builtin,Builtin.max_,hx,r3]
theorem Ax {x:Operand} {i:Nat} (hi:Inv C w0 M m) (hG:m.G=s.G) (hS:∀ x,RelSV m (a.eval x) (ap C s.env x)) (ho:o.op=.extract x i)
  (h:aA C o s some=some s'):Does P o a m.w (Res C w0 M m s s' o.dst):=by
 simp only [aA,ho] at h
 have hx:=hS x
 split at h
 ·rename_i l hp
  rw [hp] at hx
  obtain ⟨us,hv,hr⟩:=hx
  split at h
  ·rename_i c hc
   obtain ⟨u,hu,hr'⟩:=hr.get hc
   exact aH hi hG (v:=u) (sv:=.agg c) (by simp [execOp,ho,hv,Instr.extract,hu]) (by simp only [gB,cond_true] at hr'; exact hr') h
  ·rename_i at' hc
   obtain ⟨u,hu,hr'⟩:=hr.get hc
   simp only [gB,cond_false] at hr'
   obtain ⟨b,hb,hr'⟩:=hr'
   simp only [Mx,and_true] at hb
   subst hb
   exact aH hi hG (v:=u) (sv:=.av at') (by simp [execOp,ho,hv,Instr.extract,hu]) (RelSV.of_atom hr') h
  ·simp at h
 ·simp at h
theorem ni (hi:Inv C w0 M m) (hG:m.G=s.G) (hS:∀ x,RelSV m (a.eval x) (ap C s.env x)):∀ (xs:List Operand) {l:List Nat},qF s.G (xs.map (ap C s.env))=some l →
  Rel2 (fun u c=>∃ o,m.G.get c=some o∧(match o with
    | .box _=>∃ b,m.ι c=.pointer (some ⟨b,0,none⟩)∧u=.pointer (some ⟨b,0,none⟩)
    | .dead=>True
    | _=>False)) (xs.map a.eval) l
 | [],l,h=>by simp [qF] at h; subst h; trivial
 | x :: xs,l,h=>by
  have hx:=hS x
  simp only [Li] at h ⊢
  generalize ap C s.env x=v at h hx
  unfold qF at h
  split at h
  ·cases ‹_ :: _=[]›
  ·rename_i i r heq
   simp only [Mx] at heq
   obtain ⟨rfl,rfl⟩:=heq
   obtain ⟨_,ob,hob,hv⟩:=(ah (m:=m) (a:=.ptr i 0) (by intros; simp)).1 hx
   split at h
   ·rename_i bl hbl
    split at h
    ·rename_i l' hl'
     simp only [A1] at h
     subst h
     exact ⟨⟨ob,hob,hv⟩,ni hi hG hS xs hl'⟩
    ·simp at h
   ·simp at h
  ·simp at h
theorem nU:∀ {us:List Value} {l:List Atom} {q:List (Σ t:Ty,t.den)},Rel2 (ae m) us l→jr l=some q→Rel2 (fun u (p:Σ t:Ty,t.den)=>Rd m.w m.F p.1 [u] p.2∧p.1.isAgg=false) us q
 | [],[],q,_,h=>by
  simp only [jr,A1] at h
  subst h
  trivial
 | u :: us,a :: l,q,hr,h=>by
  cases a with
  | val τ x =>
   simp only [jr] at h
   obtain ⟨q',hq,h⟩:=B6.1 h
   simp only [A1] at h
   subst h
   exact ⟨hr.1,nU hr.2 hq⟩
  | _=>simp [jr] at h
theorem kV (hi:Inv C w0 M m) (hS:∀ x,RelSV m (a.eval x) (ap C s.env x)):∀ (xs:List Operand) {q:(Σ t:Ty,t.den)×List Nat},lO m.G (xs.map (ap C s.env))=some q →
  Rd m.w (Thru m q.2) q.1.1 (xs.map a.eval) q.1.2
 | [],q,h=>by simp only [O1,lO,A1] at h; subst h; rfl
 | x :: xs,q,h=>by
  have hx:=hS x
  simp only [Li] at h ⊢
  unfold lO at h
  split at h
  ·rename_i he; cases he
  ·rename_i e y r he
   simp only [Mx] at he
   obtain ⟨he,rfl⟩:=he
   split at h
   ·rename_i q' hq'
    simp only [A1] at h
    subst h
    have ih:=kV hi hS xs hq'
    rw [he] at hx
    obtain ⟨cs,h1,h2⟩:=hx
    obtain ⟨v,rfl,_⟩:=h2.single rfl
    have h1:a.eval x=v:=h1
    exact ⟨[a.eval x],xs.map a.eval,rfl,If (h1 ▸ h2),ih⟩
   ·simp at h
  ·rename_i i r he
   simp only [Mx] at he
   obtain ⟨he,rfl⟩:=he
   split at h
   ·rename_i τ y hg
    cases ha : τ.isAgg with
    | true=>rw [ha] at h; simp at h
    | false =>
     rw [ha] at h
     simp only [cond_false] at h
     split at h
     ·rename_i q' hq'
      simp only [A1] at h
      subst h
      have ih:=kV hi hS xs hq'
      rw [he] at hx
      have hx:=(ah (m:=m) (a:=.ptr i 0) (by intros; simp)).1 hx
      have hbv:jC m.G τ i 0=some y:=by
       have hsz:=gZ ha
       have hc:ay m.G τ [.val τ y]=some (y,[]):=by
        cases τ <;> first | (simp [ay,aE,bG]; done) | simp [Ty.isAgg] at ha
       unfold jC
       rw [hg]
       simp only [hsz,La,LG,Ln,List.drop_zero,hc]
       rfl
      have hb:=AL hi hbv hx
      refine ⟨[a.eval x],xs.map a.eval,rfl,qk ?_ hb,qk (fun k hk=>by simp [hk]) ih⟩
      intro k hk
      have:iO m.G i=[]:=by simp [iO,hg,bf]
      rw [this] at hk
      simp at hk
      simp [hk]
     ·simp at h
   ·simp at h
  ·simp at h
theorem yj {fn:Fn} {first caps:Array Operand} (hi:Inv C w0 M m) (hG:m.G=s.G) (hS:∀ x,RelSV m (a.eval x) (ap C s.env x)) (ho:o.op=.makeFunc fn first caps)
  (h:aA C o s some=some s'):Does P o a m.w (Res C w0 M m s s' o.dst):=by
 cases fn with
 | func f =>
  simp only [aA,ho] at h
  split at h
  ·rename_i l hf hc
   have hf':first=#[]:=by rw [← Mv (xs:=first),hf]
   subst hf'
   have hr:=ni hi hG hS caps.toList hc
   refine aH hi hG (v:=.func (.func f) #[] (caps.toList.map a.eval).toArray) (sv:=.av (.clo f l)) ?_ (show ae m _ (.clo f l) from ⟨_,rfl,hr⟩) h
   have e:NU a.eval caps=(caps.toList.map a.eval).toArray:=by apply MW; simp
   simp [execOp,ho,Instr.makeFunc,e]
  ·rename_i x hf hc
   have hf':first=#[x]:=by rw [← Mv (xs:=first),hf]
   subst hf'
   have hc':caps=#[]:=by
    have hr:=(ni hi hG hS caps.toList hc).length
    simp at hr
    exact hr
   subst hc'
   have hx:=hS x
   split at h
   ·rename_i l hl
    rw [hl] at hx
    obtain ⟨us,hu,h1,hr⟩:=hx
    obtain ⟨q,hq,h⟩:=B6.1 h
    exact aH hi hG (v:=.func (.func f) #[.agg us.toArray] #[]) (sv:=.av (.bnd f q)) (by simp [execOp,ho,Instr.makeFunc,hu]) (show ae m _ (.bnd f q) from ⟨us,rfl,h1,nU hr hq⟩) h
   ·simp at h
  ·rename_i hf hc
   have hf':first=#[]:=by rw [← Mv (xs:=first),hf]
   subst hf'
   split at h
   ·rename_i q hq
    simp only [A1] at h
    rw [← hG] at hq
    have hr:=kV hi hS caps.toList hq
    obtain ⟨m1,a1,a2,a3,a4,a5,a6⟩:=cS q.2 hi
    have e:NU a.eval caps=(caps.toList.map a.eval).toArray:=by apply MW; simp
    refine Does.value (w':=m1.w) (v:=.func (.func f) #[] (caps.toList.map a.eval).toArray) (by simp [execOp,ho,Instr.makeFunc,e,a1]) ⟨m1,.av (.val (.clo f q.1.1) q.1.2),rfl,?_,a4,a5,?_⟩
    ·rw [← h,a3,hG]
    ·exact ⟨[_],rfl,_,rfl,hr.mono fun b hb=>⟨a6 b hb,by rw [a1]⟩⟩
   ·simp at h
  ·simp at h
 | _=>simp [aA,ho] at h
end
end Go.Vm

/-
 The machine's operations against the model's: literals of structs and of slices, parts of slices.
-/
namespace Go.Vm
section
variable {P:Program} {C:Ctx} {w0:World} {M:Own} {o:Oper} {a:Act} {m:Mem} {s s':St}
theorem Av (c:Array Value) (o:Nat):aF c o []=c:=by
 unfold aF; apply MW; simp
theorem yf (off:Nat):∀ (vs:List Value) (j:Nat) (c:Array Value),off+j+vs.length≤c.size →
  (vs.zipIdx j).foldl (fun cs (x:Value×Nat)=>cs.setIfInBounds (off+x.2) x.1) c=aF c (off+j) vs
 | [],j,c,_=>by rw [Av]; rfl
 | v :: vs,j,c,h=>by
  simp only [La] at h
  simp only [ON,List.foldl_cons]
  rw [yf off vs (j+1) _ (by simp; omega)]
  apply Array.ext_getElem?
  intro k
  rw [cB _ _ _ (by simp; omega),cB _ _ _ (by simp; omega),M9]
  simp only [La]
  by_cases h1:off+j=k
  ·subst h1
   rw [if_neg (by omega),if_pos rfl,if_pos (by omega),if_pos (by omega)]
   simp
  ·by_cases h2:off+j < k∧k < off+j+1+vs.length
   ·rw [if_pos (by omega),if_pos (by omega)]
    have:k - (off+j)=(k - (off+(j+1)))+1:=by omega
    rw [this]; rfl
   ·rw [if_neg (by omega),if_neg h1,if_neg (by omega)]
theorem Ag (off:Nat) (vs c:Array Value) (h:off+vs.size≤c.size) :
  vs.zipIdx.foldl (fun cs (x:Value×Nat)=>cs.setIfInBounds (off+x.2) x.1) c=aF c off vs.toList:=by
 rw [← Array.foldl_toList,Array.toList_zipIdx]
 exact yf off vs.toList 0 c (by simpa using h)
theorem oU (place:Nat→Option (Nat×Nat)) (cells:Array Value) (i:Nat) (v:Value) (rest:List (Nat×Value)) {off size:Nat} (hp:place i=some (off,size)) (hs:v.cells.size=size)
  (hb:off+v.cells.size≤cells.size):Instr.fill place cells ((i,v) :: rest)=Instr.fill place (aF cells off v.cells.toList) rest:=by
 rw [← Ag off v.cells cells hb]
 simp only [Instr.fill,hp]
 rw [if_neg (by simp; omega)]
theorem tO:∀ {b:Ty} {r:List Field} {o:Nat},chk P b (some (r,o)) 0=true→∃ places,r.mapM (fun f=>(P.info? f.type).map fun i=>(f.offset,i.size))=some places ∧
  ∀ i o' σ,b.field i=some (o',σ)→places[i]?=some (o+o',σ.size)
 | .prod a b,r,o,h=>by
  cases r with
  | nil=>simp [chk] at h
  | cons fd r =>
   simp only [chk,A4] at h
   obtain ⟨⟨h1,h2⟩,h3⟩:=h
   obtain ⟨places,q1,q2⟩:=tO h3
   obtain ⟨i,z,r1,r2,_⟩:=eI h2
   have h1:=A5 h1
   refine ⟨(o,a.size) :: places,?_,?_⟩
   ·simp only [List.mapM_cons,r1,q1,Mn]
    simp [h1,r2]
   ·intro j o' σ hf
    cases j with
    | zero=>simp [Ty.field] at hf; obtain ⟨rfl,rfl⟩:=hf; rfl
    | succ j =>
     simp only [Ty.field] at hf
     split at hf
     ·rename_i o1 t1 hb
      simp at hf
      obtain ⟨rfl,rfl⟩:=hf
      have:=q2 j o1 t1 hb
      simp only [Lp]
      rw [this,Lo]
     ·simp at hf
 | .unit,[],_,_=>⟨[],rfl,by intro i o' σ hf; simp [Ty.field] at hf⟩
 | .unit,_ :: _,_,h=>by simp [chk] at h
 | .int _,_,_,h=>by simp [chk] at h
 | .bool,_,_,h=>by simp [chk] at h
 | .str,_,_,h=>by simp [chk] at h
 | .slice _,_,_,h=>by simp [chk] at h
 | .arr _ _,_,_,h=>by simp [chk] at h
 | .ptr _,_,_,h=>by simp [chk] at h
 | .clo _ _,_,_,h=>by simp [chk] at h
theorem ll {τ : Ty} {place:Nat→Option (Nat×Nat)} (hp:∀ i o σ,τ.part i=some (o,σ)→place i=some (o,σ.size)) (hS:∀ x,RelSV m (a.eval x) (ap C s.env x)) :
  ∀ (xs:List (Nat×Operand)) {l c:List Atom} {cells:Array Value},gS τ (xs.map fun p=>(p.1,ap C s.env p.2)) l=some c→Rel2 (ae m) cells.toList l→(∀ u∈cells.toList,u.oneCell'=true) →
  ∃ cells',Instr.fill place cells (xs.map fun p=>(p.1,a.eval p.2))=some cells'∧Rel2 (ae m) cells'.toList c∧∀ u∈cells'.toList,u.oneCell'=true
 | [],l,c,cells,h,hr,h1=>by
  simp [gS] at h
  subst h
  exact ⟨cells,rfl,hr,h1⟩
 | (i,x) :: xs,l,c,cells,h,hr,h1=>by
  simp only [Li,gS] at h
  split at h
  ·rename_i o t hf
   split at h
   ·rename_i cs hc
    cases hl:A8 cs.length t.size with
    | false=>rw [hl] at h; simp at h
    | true =>
     rw [hl] at h
     simp only [cond_true] at h
     have hl:=A5 hl
     split at h
     ·rename_i l' hput
      obtain ⟨k1,k2⟩:=lJ hc (hS x)
      obtain ⟨e1,e2⟩:=lP hput
      have n1:=hr.length
      have n2:=k1.length
      rw [LJ] at n1 n2
      simp only [Li]
      rw [oU place cells i (a.eval x) _ (hp i o t hf) (by omega) (by omega)]
      refine ll hp hS xs h ?_ ?_
      ·rw [e1]
       unfold aF
       simp only [LJ,n2]
       exact ((hr.take o).append k1).append (hr.drop _)
      ·intro u hu
       unfold aF at hu
       simp only [B1] at hu
       rcases hu with (hu | hu) | hu
       ·exact h1 u (List.mem_of_mem_take hu)
       ·exact k2 u hu
       ·exact h1 u (List.mem_of_mem_drop hu)
     ·simp at h
   ·simp at h
  ·simp at h
theorem EF {t:TypeId} {parts:Array (Nat×Operand)} (hT:dX P C.tab=true) (hi:Inv C w0 M m) (hG:m.G=s.G) (hS:∀ x,RelSV m (a.eval x) (ap C s.env x)) (ho:o.op=.build t parts)
  (h:aA C o s some=some s'):Does P o a m.w (Res C w0 M m s s' o.dst):=by
 simp only [aA,ho] at h
 split at h
 ·rename_i τ ht
  have hck:=ak hT ht
  cases hst : τ.isAgg with
  | false=>rw [hst] at h; simp at h
  | true =>
   rw [hst] at h
   simp only [cond_true] at h
   split at h
   ·rename_i c hc
    obtain ⟨inf,z,r1,r2,r3,r4,r5,r6,r7⟩:=eI hck
    obtain ⟨c0,e0,hr0,hz⟩:=cD (m:=m) r5
    rw [LU] at e0
    have key:∃ place:Nat→Option (Nat×Nat),(∀ parts,P.built t parts=Instr.fill place z.cells parts)∧∀ i o' σ,τ.part i=some (o',σ)→place i=some (o',σ.size):=by
     cases τ with
     | prod p q =>
      simp only [chk,A4] at hck
      obtain ⟨_,hck⟩:=hck
      split at hck
      ·rename_i fs hu
       split at hck
       ·rename_i fd r hfs
        simp only [A4] at hck
        obtain ⟨⟨h1,h2⟩,h3⟩:=hck
        have hx:chk P (.prod p q) (some (fs.toList,0)) 0=true:=by
         rw [hfs]; simp only [chk,A4,Ln]; exact ⟨⟨h1,h2⟩,h3⟩
        obtain ⟨places,q1,q2⟩:=tO hx
        refine ⟨fun i=>places.toArray[i]?,fun parts=>by simp only [Program.built,r1,hu,r4,q1],fun i o' σ hf=>?_⟩
        have:=q2 i o' σ hf
        rw [Ln] at this
        simpa using this
       ·simp at hck
      ·simp at hck
     | unit =>
      simp only [chk,A4] at hck
      obtain ⟨_,hck⟩:=hck
      split at hck
      ·rename_i fs hu
       split at hck
       ·rename_i hfs
        refine ⟨fun i=>(([]:List (Nat×Nat)).toArray)[i]?,fun parts=>?_,by intro i o' σ hf; simp [Ty.part,Ty.field] at hf⟩
        have q1:fs.toList.mapM (fun f=>(P.info? f.type).map fun i=>(f.offset,i.size))=some []:=by rw [hfs]; rfl
        simp only [Program.built,r1,hu,r4,q1]
       ·simp at hck
      ·simp at hck
     | arr n e =>
      obtain ⟨et,hu,he⟩:=rC hck
      obtain ⟨ie,ze,s1,s2,_⟩:=eI he
      refine ⟨fun i=>some (i * ie.size,ie.size),fun parts=>by simp only [Program.built,r1,hu,r4,s1],fun i o' σ hf=>?_⟩
      simp only [Ty.part,A1,Ld] at hf
      obtain ⟨rfl,rfl⟩:=hf
      simp only [s2]
     | _=>simp [Ty.isAgg] at hst
    obtain ⟨place,hbl,hfl⟩:=key
    obtain ⟨cells',f1,f2,f3⟩:=ll (place:=place) hfl hS parts.toList hc (cells:=z.cells) (by rw [e0]; exact hz) (by rw [e0]; exact hr0.one)
    have hb:P.built t (parts.map fun p=>(p.1,a.eval p.2)).toList=some cells':=by
     rw [hbl,Nq]
     exact f1
    have hrun:=run_build m.w t _ cells' hb
    refine aH hi hG (v:=.agg cells') (sv:=.agg c) ?_ ⟨cells'.toList,by simp,f3,f2⟩ h
    simp [execOp,ho,hrun]
   ·simp at h
 ·simp at h
theorem qL {size:Nat}:∀ (xs:List Operand) (k:Nat) (cells:Array Value),(∀ x∈xs,(a.eval x).cells.size=size)→(k+xs.length) * size≤cells.size →
  ∃ cells',Instr.fill (fun i=>some (i * size,size)) cells ((xs.zipIdx k).map fun p=>(p.2,a.eval p.1))=some cells'∧cells'.size=cells.size ∧
   (∀ j x,xs[j]?=some x→seg cells' ((k+j) * size) size=(a.eval x).cells.toList)∧∀ j,j < k→seg cells' (j * size) size=seg cells (j * size) size
 | [],k,cells,_,_=>⟨cells,rfl,rfl,by intro j x h; simp at h,fun _ _=>rfl⟩
 | x :: xs,k,cells,h1,h2=>by
  simp only [La] at h2
  have hx:(a.eval x).cells.size=size:=h1 x (by simp)
  have hle:(k+1) * size≤(k+(xs.length+1)) * size:=K9 _ (by omega)
  have hle':(k+1) * size=k * size+size:=by rw [Lf]; omega
  have hb:k * size+(a.eval x).cells.size≤cells.size:=by omega
  have hb':k * size+(a.eval x).cells.toList.length≤cells.size:=by simpa using hb
  have hss:=bt cells (k * size) _ hb'
  obtain ⟨cells',q1,q2,q3,q4⟩:=qL xs (k+1) (aF cells (k * size) (a.eval x).cells.toList) (fun y hy=>h1 y (by simp [hy])) (by rw [hss,show k+1+xs.length=k+(xs.length+1) by omega]; exact h2)
  refine ⟨cells',?_,q2.trans hss,?_,?_⟩
  ·simp only [ON,Li]
   rw [oU _ cells k (a.eval x) _ rfl hx hb]
   exact q1
  ·intro j y hj
   cases j with
   | zero =>
    simp at hj
    subst hj
    rw [L7,q4 k (by omega)]
    have:=kj cells (k * size) _ hb'
    rw [LJ,hx] at this
    exact this
   | succ j =>
    have:=q3 j y (by simpa using hj)
    rw [show k+(j+1)=k+1+j by omega]
    exact this
  ·intro j hj
   rw [q4 j (by omega)]
   have:(j+1) * size≤k * size:=K9 _ hj
   rw [Lf] at this
   exact dS cells (k * size) _ hb' (j * size) size (.inl (by omega))
theorem nR {G:Heap} {e:Ty}:∀ {vs:List SV} {l:List e.den},kM G e vs=some l→l.length=vs.length∧∀ i (h:i < l.length),∃ v,vs[i]?=some v∧aW G e v=some l[i]
 | [],l,h=>by simp [kM] at h; subst h; exact ⟨rfl,by intro i hi; simp at hi⟩
 | v :: vs,l,h=>by
  simp only [kM] at h
  split at h
  ·rename_i x hx
   split at h
   ·rename_i y hy
    simp at h
    subst h
    obtain ⟨h1,h2⟩:=nR hy
    refine ⟨by simp [h1],fun i hi=>?_⟩
    cases i with
    | zero=>exact ⟨v,rfl,hx⟩
    | succ i =>
     obtain ⟨u,q1,q2⟩:=h2 i (by simpa using hi)
     exact ⟨u,by simpa using q1,by simpa using q2⟩
   ·simp at h
  ·simp at h
theorem sB {t et:TypeId} {e:Ty} {n:Nat} {parts:Array (Nat×Operand)} (hu:P.underlying t=some (.slice et)) (hck:chk P e none et=true) (hn:n=parts.size) (hlim:n * e.size≤16777216)
  (hall:(parts.toList.zipIdx.all fun p=>A8 p.1.1 p.2)=true) (hcell:∀ x∈parts.toList.map (·.2),(a.eval x).cells.size=e.size) :
  ∃ cells:Array Value,cells.size=n * e.size∧(∀ j x,(parts.toList.map (·.2))[j]?=some x→seg cells (j * e.size) e.size=(a.eval x).cells.toList) ∧
   ∀ w:World,(Instr.buildSlice t n (parts.map fun p=>(p.1,a.eval p.2))).run P w=.ok (.slice (some ⟨w.heap.size,0,none⟩) n n) (w.alloc (.cells cells et)):=by
 obtain ⟨xs,hxs⟩ : ∃ xs,xs=parts.toList.map (·.2):=⟨_,rfl⟩
 rw [← hxs] at hcell ⊢
 have hplen:xs.length=n:=by rw [hxs]; simp [hn]
 have hparts:parts.toList=xs.zipIdx.map fun p=>(p.2,p.1):=by
  rw [hxs]
  apply MA
  intro k
  simp only [MP,On,Ln]
  cases hk:parts.toList[k]? with
  | none=>rfl
  | some p =>
   have:(p,k)∈parts.toList.zipIdx:=by
    rw [LM]
    exact ⟨k,by simp [On,hk]⟩
   have:=A5 (Lg.1 hall _ this)
   simp only at this
   simp [← this]
 obtain ⟨inf,z,r1,r2,r3,r4,r5,r6,r7⟩:=eI hck
 obtain ⟨zc,hzc⟩ : ∃ zc,zc=(if n * e.size=0 then #[] else z.cells):=⟨_,rfl⟩
 obtain ⟨cells,f1,f2,f3,_⟩:=qL (a:=a) (size:=e.size) xs 0 ((Mb (n * e.size)).map (zc[· % zc.size]!)) hcell (by simp [hplen])
 refine ⟨cells,by rw [f2]; simp,fun j x hx=>by have:=f3 j x hx; rwa [Ln] at this,fun w=>?_⟩
 have hs:=bK hck w
 have hl:¬ n * e.size > 2 ^ 24:=by omega
 have hf:Instr.fill (fun i=>some (i * e.size,e.size)) ((Mb (n * e.size)).map (zc[· % zc.size]!)) (parts.map fun p=>(p.1,a.eval p.2)).toList=some cells:=by
  rw [Nq,hparts,List.map_map]
  exact f1
 by_cases hz:n * e.size=0
 ·rw [if_pos hz] at hzc
  subst hzc
  simp only [Instr.buildSlice,Sem.run_bind,run_underlying hu,Result.andThen_ok,hs,hz,if_neg (show ¬ 0 > 2 ^ 24 by omega),if_true,Sem.run_pure]
  rw [hz] at hf
  rw [hf]
  simp [newRow]
 ·rw [if_neg hz] at hzc
  subst hzc
  simp only [Instr.buildSlice,Sem.run_bind,run_underlying hu,Result.andThen_ok,hs,if_neg hl,hz,if_false,Sem.run_pure,zeroValue,typeInfo,run_program,r1,r4]
  rw [hf]
  simp [newRow]
theorem oe (hi:Inv C w0 M m) {σ : Ty}:∀ {vs:List SV} {us:List Value} {p:List (List σ.den)×List Nat},jq m.G σ vs=some p→Rel2 (RelSV m) us vs →
  p.1.length=us.length∧(∀ i (h:i < p.1.length) u,us[i]?=some u→HdrW m.w m.F u σ p.1[i])∧(∀ id∈p.2,∃ l,m.G.get id=some (.arr σ l)) ∧
   (∀ u∈us,∀ b,HB u b→∃ id,id∈p.2∧∃ o,m.G.get id=some o∧isObj o=true∧HB (m.ι id) b)∧(aK p.2=true→cz us)
 | [],[],p,h,_=>by
  simp only [jq,A1] at h
  subst h
  exact ⟨rfl,by intro i hi; simp at hi,by simp,by simp,fun _=>Mo⟩
 | [],_ :: _,_,_,h=>h.elim
 | _ :: _,[],_,_,h=>h.elim
 | v :: vs,u :: us,p,h,hr=>by
  simp only [jq] at h
  split at h
  ·rename_i x hx
   split at h
   ·rename_i q hq
    simp only [A1] at h
    subst h
    obtain ⟨k1,k2⟩:=pN hi hx hr.1
    obtain ⟨i1,i2,i3,i4,i5⟩:=oe hi hq hr.2
    have hub:∀ b,HB u b→∃ id,x.2=[id]∧m.G.get id=some (.arr σ x.1)∧HB (m.ι id) b:=by
     intro b hb
     rcases k2 with ⟨_,e⟩ | ⟨id,e1,e2,e3⟩
     ·exact absurd hb (e b)
     ·exact ⟨id,e1,e2,e3 ▸ hb⟩
    refine ⟨by simp [i1],fun i hi' u' hu'=>?_,fun id hid=>?_,fun u' hu' b hb=>?_,fun hn=>?_⟩
    ·cases i with
     | zero=>simp only [Lt,A1] at hu'; subst hu'; exact k1
     | succ i=>exact i2 i (by simpa using hi') u' (by simpa using hu')
    ·rcases B1.1 hid with hid | hid
     ·rcases k2 with ⟨e,_⟩ | ⟨id',e1,e2,_⟩
      ·rw [e] at hid; simp at hid
      ·rw [e1] at hid; simp at hid; subst hid; exact ⟨_,e2⟩
     ·exact i3 id hid
    ·rcases B3.1 hu' with rfl | hu'
     ·obtain ⟨id,e1,e2,e3⟩:=hub b hb
      exact ⟨id,by rw [e1]; simp,_,e2,rfl,e3⟩
     ·obtain ⟨id,e1,e2⟩:=i4 u' hu' b hb
      exact ⟨id,by simp [e1],e2⟩
    ·obtain ⟨n1,n2,n3⟩:=aT hn
     refine M6 (fun u' hu' b hb hb'=>?_) (i5 n2)
     obtain ⟨id,e1,e2,e3⟩:=hub b hb
     obtain ⟨id',e4,o,e5,e6,e7⟩:=i4 u' hu' b hb'
     have:=hi.inj id id' _ o b e2 rfl e5 e6 e3 e7
     subst this
     exact n3 id (by rw [e1]; simp) e4
   ·simp at h
  ·simp at h
theorem vu {t et:TypeId} {n:Nat} {parts:Array (Nat×Operand)} {σ : Ty} {p:List (List σ.den)×List Nat} (hi:Inv C w0 M m) (hG:m.G=s.G) (hS:∀ x,RelSV m (a.eval x) (ap C s.env x)) (ho:o.op=.buildSlice t n parts)
  (hu:P.underlying t=some (.slice et)) (hck:chk P (.slice σ) none et=true) (hn:n=parts.size) (hn2:n≤16777216) (hlim:n * (Ty.slice σ).size≤16777216) (hall:(parts.toList.zipIdx.all fun p=>A8 p.1.1 p.2)=true)
  (hp:jq s.G σ (parts.toList.map fun p=>ap C s.env p.2)=some p) (hnd:aK p.2=true)
  (h:cv { env:=s.env,G:=am p.2 s.G } (o.dst.getD 0) (.deep 0 σ p.1 none) (fun i s2=>some (aG o.dst (.av (.ownd i)) s2))=some s'):Does P o a m.w (Res C w0 M m s s' o.dst):=by
 obtain ⟨i,hfree,h⟩:=cu h
 simp only [A1] at h
 rw [← hG] at hp
 have hrel:Rel2 (RelSV m) (parts.toList.map fun p=>a.eval p.2) (parts.toList.map fun p=>ap C s.env p.2):=by
  generalize parts.toList=l
  induction l with
  | nil=>trivial
  | cons q l ih=>exact ⟨hS q.2,ih⟩
 obtain ⟨k1,k2,k3,k4,k5⟩:=oe hi hp hrel
 have k5:=k5 hnd
 have hone:∀ x∈parts.toList.map (·.2),(a.eval x).cells=#[a.eval x]:=by
  intro x hx
  obtain ⟨j,hj⟩:=LM.1 hx
  simp only [MP,MG] at hj
  obtain ⟨q,hq,rfl⟩:=hj
  have hjl:j < p.1.length:=by rw [k1]; simpa using (A3.1 hq).1
  exact jm (bq (k2 j hjl (a.eval q.2) (by simp [hq])))
 obtain ⟨cells,c1,c2,c3⟩:=sB (a:=a) (e:=.slice σ) hu hck hn hlim hall (fun x hx=>by rw [hone x hx]; rfl)
 obtain ⟨d1,d2,d3,d4⟩:=jN p.2 hi (fun id hid=>by obtain ⟨l,hl⟩:=k3 id hid; exact ⟨_,hl⟩)
 have hplen:p.1.length=n:=by rw [k1,hn]; simp
 obtain ⟨m',q1,q2,q3,q4,q5⟩:=rf (m:=⟨m.w,m.F,m.ι,am p.2 m.G⟩) (τ:=σ) (l:=p.1) (hs:=parts.toList.map fun p=>a.eval p.2) (cap:=n) (fz:=(0,0)) d1 (i:=i) (by show (am p.2 m.G).get i=none; rw [hG]; exact hfree)
  (w1:=m.w.alloc (.cells cells et)) (eR m.w _) (c:=cells) (el:=et) (bU m.w _) (.inl (A7 _)) (by omega) (by unfold maxLen; omega) (by rw [c1]; simp [Ty.size]) k1.symm (fun k hk=>by
   have hk':k < parts.toList.length:=by rw [k1] at hk; simpa using hk
   have e1:=c2 k parts.toList[k].2 (by simp [A2 hk'])
   simp only [Ty.size,M4] at e1
   have e2:=seg_getElem? cells k 1 0 (by omega)
   rw [e1,hone _ (List.mem_map.2 ⟨_,List.getElem_mem hk',rfl⟩),L7] at e2
   rw [← e2]
   simp [A2 hk']) k2 k5 (fun v hv b hb=>by
    obtain ⟨id,e1,ob,e2,e3,e4⟩:=k4 v hv b hb
    exact d4 id e1 ob e2 e3 b e4)
 refine Does.value (w':=m'.w) (v:=.slice (some ⟨m.w.heap.size,0,none⟩) n n) ?_ ⟨m',.av (.ownd i),rfl,?_,q3,d2.trans q4,by rw [hplen] at q5; exact q5⟩
 ·simp [execOp,ho,c3,q1]
 ·rw [← h,q2,hG]
theorem td {t:TypeId} {n:Nat} {parts:Array (Nat×Operand)} (hT:dX P C.tab=true) (hi:Inv C w0 M m) (hG:m.G=s.G) (hS:∀ x,RelSV m (a.eval x) (ap C s.env x)) (ho:o.op=.buildSlice t n parts)
  (h:aA C o s some=some s'):Does P o a m.w (Res C w0 M m s s' o.dst):=by
 simp only [aA,ho] at h
 split at h
 ·rename_i e ht
  obtain ⟨et,hu,hck⟩:=bc (ak hT ht)
  cases hc:(A8 n parts.size && Lh n 16777216 && Lh (n * e.size) 16777216 && (parts.toList.zipIdx.all fun p=>A8 p.1.1 p.2)) with
  | false=>rw [hc] at h; simp at h
  | true =>
   rw [hc] at h
   simp only [cond_true] at h
   simp only [A4] at hc
   obtain ⟨⟨⟨hn,hn2⟩,hlim⟩,hall⟩:=hc
   have hn2:=B7 hn2
   have hn:=A5 hn
   have hlim:=B7 hlim
   cases hd:(C.deep.any fun d=>A8 d (o.dst.getD 0)) with
   | true =>
    rw [hd] at h
    simp only [cond_true] at h
    split at h
    ·rename_i σ _
     split at h
     ·rename_i p hp
      cases hnd:aK p.2 with
      | false=>rw [hnd] at h; simp at h
      | true =>
       rw [hnd] at h
       exact vu hi hG hS ho hu hck hn hn2 hlim hall hp hnd h
     ·simp at h
    ·simp at h
   | false =>
    rw [hd] at h
    simp only [cond_false] at h
    split at h
    ·rename_i l hl
     obtain ⟨i,hfree,h⟩:=cu h
     obtain ⟨m1,a1,a2,a3,a4,a5,a6⟩:=cS (parts.toList.flatMap fun p=>eH s.G (ap C s.env p.2)) hi
     obtain ⟨hl1,hl2⟩:=nR hl
     have hval:∀ j (hj:j < l.length),∃ x,(parts.toList.map (·.2))[j]?=some x∧Rd m1.w m1.F e (a.eval x).cells.toList l[j]:=by
      intro j hj
      obtain ⟨v,v1,v2⟩:=hl2 j hj
      simp only [MP,MG] at v1
      obtain ⟨p,p1,rfl⟩:=v1
      refine ⟨p.2,by simp [p1],?_⟩
      obtain ⟨cs,c1,c2⟩:=dF hi (hG ▸ v2) (hS p.2)
      rw [c1,mf c2]
      have:Rd m1.w m1.F e cs l[j]:=by
       refine c2.mono (fun b hb=>⟨a6 b ?_,by rw [a1]⟩)
       refine Thru.mono ?_ hb
       intro k hk
       rw [MT]
       exact ⟨p,B2 p1,hG ▸ hk⟩
      simpa using this
     have hcell:∀ x∈parts.toList.map (·.2),(a.eval x).cells.size=e.size:=by
      intro x hx
      obtain ⟨j,hj⟩:=LM.1 hx
      have hjl:j < l.length:=by
       have:=(A3.1 hj).1
       rw [hl1]; simpa using this
      obtain ⟨y,y1,y2⟩:=hval j hjl
      rw [hj] at y1
      simp only [A1] at y1
      subst y1
      have:=y2.len
      simpa using this
     have hllen:l.length=n:=by rw [hl1]; simp [hn]
     obtain ⟨cells,f2',f3,hrun⟩:=sB (a:=a) hu hck hn hlim hall hcell
     obtain ⟨m',q1,q2,q3,q4,q5⟩:=qr (τ:=e) (l:=l) (cap:=n) (fz:=(0,0)) a4 (i:=i) (by rw [a3,hG]; exact hfree) (w1:=m1.w.alloc (.cells cells et)) (eR m1.w _) (c:=cells) (el:=et) (bU m1.w _) (.inl (A7 _)) (by omega)
      (by unfold maxLen; omega) (by omega) (fun j hj=>by
       obtain ⟨x,x1,x2⟩:=hval j hj
       rw [f3 j x x1]; exact x2)
     refine Does.value (w':=m'.w) (v:=.slice (some ⟨m.w.heap.size,0,none⟩) n n) ?_ ⟨m',.av (.own i),rfl,?_,q3,a5.trans q4,by rw [hllen,a1] at q5; exact q5⟩
     ·simp [execOp,ho,hrun,q1,a1]
     ·simp only [A1] at h
      rw [← h,q2,a3,hG]
    ·simp at h
 ·simp at h
end
end Go.Vm

/-
 The machine's operations against the model's: parts of slices.
-/
namespace Go.Vm
section
variable {P:Program} {C:Ctx} {w0:World} {M:Own} {o:Oper} {a:Act} {m:Mem} {s s':St}
def fW (x:Option Value) (d i:Int):Prop:=(x=none∧i=d)∨∃ k,x=some (.int k i)
theorem CK {R:Type} {d:Int} {x:Option Operand} {K:Int→Option R} {r:R} (hS:∀ x,RelSV m (a.eval x) (ap C s.env x)) (h:Ce C s.env d x K=some r) :
  ∃ i,K i=some r∧fW (x.map a.eval) d i:=by
 cases x with
 | none=>exact ⟨d,h,.inl ⟨rfl,rfl⟩⟩
 | some x =>
  simp only [Ce] at h
  obtain ⟨k,i,h1,h2⟩:=iq h
  have hx:=hS x
  rw [h1] at hx
  exact ⟨i,h2,.inr ⟨k,by simp [(rel_int hx).1]⟩⟩
theorem qH (sl:Bool) (len cap:Nat) {low high:Option Value} {l h:Int} (hl:fW low 0 l) (hh:fW high len h) (h1:0≤l) (h2:l≤h) (h3:h≤len) (h4:len≤cap) (w:World) :
  (Instr.sliceBounds sl len cap low high none).run P w=.ok (l.toNat,h.toNat,cap) w:=by
 have e1:(0:Int)≤h∧h≤cap:=by omega
 have e2:(0:Int)≤l∧l≤(h.toNat:Int):=by omega
 rcases hh with ⟨rfl,rfl⟩ | ⟨k,rfl⟩ <;> rcases hl with ⟨rfl,rfl⟩ | ⟨k',rfl⟩
 ·simp [Instr.sliceBounds]
 ·have e3:(0:Int)≤l∧l≤(len:Int):=by omega
  simp [Instr.sliceBounds,Instr.sliceBound,asIntOf,e3]
 ·simp [Instr.sliceBounds,Instr.sliceBound,asIntOf,e1]
 ·simp only [Instr.sliceBounds,Instr.sliceBound,asIntOf,Sem.run_bind,Sem.run_pure,Result.andThen_ok,if_pos e1,if_pos e2]
theorem mT {n:Nat} {lo hi:Int} {p:Nat×Nat} (h:kN n lo hi=some p):0≤lo∧lo≤hi∧hi≤n∧p=(lo.toNat,hi.toNat - lo.toNat):=by
 unfold kN at h
 split at h
 ·simp at h; rename_i hc; exact ⟨hc.1,hc.2.1,hc.2.2,h.symm⟩
 ·simp at h
theorem dB {t et:TypeId} {e:Ty} (hu:P.underlying t=some (.slice et)) (hck:chk P e none et=true) (ad:Option Addr) (len cap:Nat) {low high:Option Value} {l h:Int}
  (hl:fW low 0 l) (hh:fW high len h) (h1:0≤l) (h2:l≤h) (h3:h≤len) (h4:len≤cap) (w:World) :
  (Instr.sliceAt t (.slice ad len cap) low high none).run P w=.ok (.slice (if cap=l.toNat then ad else ad.map (·.add (l.toNat * e.size))) (h.toNat - l.toNat) (cap - l.toNat)) w:=by
 simp [Instr.sliceAt,Instr.slice,run_underlying hu,qH (P:=P) true len cap hl hh h1 h2 h3 h4,bK hck]
theorem p8 {t:TypeId} (hu:P.underlying t=some .string) (b:ByteArray) {low high:Option Value} {l h:Int}
  (hl:fW low 0 l) (hh:fW high b.size h) (h1:0≤l) (h2:l≤h) (h3:h≤b.size) (w:World) :
  (Instr.sliceAt t (.string b) low high none).run P w=.ok (.string (b.extract l.toNat h.toNat)) w:=by
 simp [Instr.sliceAt,Instr.slice,run_underlying hu,qH (P:=P) false b.size b.size hl hh h1 h2 h3 (A7 _)]
theorem rX {size len cap:Nat} {ad:Option Addr} {lo n:Nat}:qY (.slice ad len cap) size lo n (.slice (if cap=lo then ad else ad.map (·.add (lo * size))) n (cap - lo)):=by
 refine ⟨ad,len,cap,_,rfl,rfl,fun h=>?_⟩
 rw [if_neg h]
theorem vK {v:Value} {size off len lo n cap:Nat} {ad:Option Addr} (had:∀ a,ad=some a→∃ b o,a=⟨b,o,none⟩) {v0:Value} (l0:Nat) (h0:v0=.slice ad l0 cap) (hle:off+len≤cap) (hlo:lo≤len)
  {u:Value} (h1:qY v0 size off len u) (a':Option Addr) (cap':Nat) (hu:u=.slice a' len cap') :
  qY v0 size (off+lo) n (.slice (if cap'=lo then a' else a'.map (·.add (lo * size))) n (cap' - lo)):=by
 subst h0
 obtain ⟨ad1,n1,cap1,ad2,e1,e2,e3⟩:=h1
 simp only [Value.slice.injEq] at e1
 obtain ⟨rfl,rfl,rfl⟩:=e1
 rw [hu] at e2
 simp only [Value.slice.injEq] at e2
 obtain ⟨rfl,_,rfl⟩:=e2
 refine ⟨ad,l0,cap,_,rfl,by rw [Nat.sub_sub],fun h=>?_⟩
 rw [if_neg (by omega),e3 (by omega)]
 cases ad with
 | none=>rfl
 | some x =>
  obtain ⟨b,o,rfl⟩:=had x rfl
  simp only [Mn,bd]
  rw [Lf,Lo]
theorem tc {α : Type} (l:List α) (i j:Nat) (h:i≤j):(l.take j).drop i=(l.drop i).take (j - i):=by
 rw [List.drop_take]
theorem cR {t:TypeId} {x:Operand} {lo hi':Option Operand} {v r:Value} {w:World} (ho:o.op=.slice t x lo hi' none) (hx:a.eval x=v)
  (h:(Instr.sliceAt t v (lo.map a.eval) (hi'.map a.eval) none).run P w=.ok r w):(execOp a.eval o).run P w=.ok (.value r) w:=by
 simp only [execOp,ho,hx,Option.map_none]
 simp [h]
theorem ET {t:TypeId} {x:Operand} {v:SV} (hv:ap C s.env x=v) {lo hi':Option Operand} {l:Int} {h0:Option Int} (hT:dX P C.tab=true) (hi:Inv C w0 M m) (hG:m.G=s.G)
  (hx:RelSV m (a.eval x) v) (ho:o.op=.slice t x lo hi' none) (hl:fW (lo.map a.eval) 0 l) (hh:∀ d:Nat,fW (hi'.map a.eval) d (h0.getD d)) (hty:fQ C t s.G v=true)
  (h:fc s v l h0 none (fun v=>some (aG o.dst v s))=some s'):Does P o a m.w (Res C w0 M m s s' o.dst):=by
 unfold fc at h
 split at h
 ·rename_i b hq
  obtain ⟨hx,hb⟩:=qa hx
  unfold fQ at hty
  split at hty <;> try (simp_all; done)
  rename_i ht _
  have hu:=mJ (ak hT ht)
  obtain ⟨r,hr,h⟩:=B6.1 h
  unfold Du at hr
  split at hr
  ·rename_i hc
   simp only [A1] at hr
   subst hr
   obtain ⟨c1,c2,c3⟩:=hc
   have hrun:=p8 (P:=P) hu b hl (hh _) c1 c2 c3 m.w
   refine aH hi hG (cR ho hx hrun) (AA ?_) h
   rw [ByteArray.size_extract]; omega
  ·simp at hr
 ·rename_i e xs hq
  obtain ⟨ad,cap,hx,r1,r2,r3⟩:=gW hx
  unfold fQ at hty
  split at hty <;> try (simp_all; done)
  rename_i e1 e2 xs2 ht hq2
  simp only [SV.av.injEq,Atom.val.injEq,Ty.slice.injEq] at hq2
  obtain ⟨rfl,hq2⟩:=hq2
  have hty:=of_decide_eq_true hty
  subst hty
  obtain ⟨et,hu,hck⟩:=bc (ak hT ht)
  obtain ⟨r,hr,h⟩:=B6.1 h
  unfold cF at hr
  split at hr
  ·rename_i hc
   simp only [A1] at hr
   subst hr
   obtain ⟨c1,c2,c3⟩:=hc
   have hrun:=dB (P:=P) hu hck ad xs.length cap hl (hh _) c1 c2 c3 r1 m.w
   refine aH hi hG (cR ho hx hrun) ?_ h
   have:=BN (w:=m.w) (F:=m.F) (τ:=e1) (l:=xs) (v:=.slice ad xs.length cap) ⟨ad,cap,rfl,r1,r2,r3⟩ (off:=l.toNat) (len:=(h0.getD xs.length).toNat - l.toNat) (by omega) rX
   rw [tc _ _ _ (by omega)]
   exact ⟨[_],rfl,this⟩
  ·simp at hr
 ·rename_i hq
  simp at hq
 ·obtain ⟨ad,hx⟩:=hx
  unfold fQ at hty
  split at hty <;> try (simp_all; done)
  rename_i e1 ht _
  obtain ⟨et,hu,hck⟩:=bc (ak hT ht)
  split at h
  ·rename_i hc
   obtain ⟨rfl,hc⟩:=hc
   have hb:fW (hi'.map a.eval) ((0:Nat):Int) 0:=by have:=hh 0; rw [show h0.getD ((0:Nat):Int)=0 from hc] at this; exact this
   have hrun:=dB (P:=P) hu hck ad 0 0 hl hb (by omega) (by omega) (by omega) (by omega) m.w
   exact aH hi hG (v:=.slice ad 0 0) (sv:=.av .nils) (cR ho hx hrun) ⟨ad,rfl⟩ h
  ·simp at h
 ·rename_i id hq
  obtain ⟨_,ob,hob,hxv⟩:=hx
  rw [hG] at hob
  split at h
  ·rename_i e xs hg
   rw [hg] at hob
   simp only [A1] at hob
   subst hob
   have hxw:=hxv rfl
   obtain ⟨ad,cap,r1,r2,r3,r4⟩:=hi.objs id _ (hG ▸ hg)
   unfold fQ at hty
   split at hty <;> try (simp_all; done)
   rename_i e1 id2 ht hq2
   simp only [SV.av.injEq,Atom.own.injEq] at hq2
   subst hq2
   rw [hg] at hty
   have hty:=of_decide_eq_true hty
   subst hty
   obtain ⟨et,hu,hck⟩:=bc (ak hT ht)
   obtain ⟨p,hp,h⟩:=B6.1 h
   obtain ⟨c1,c2,c3,rfl⟩:=mT hp
   rw [r1] at hxw
   have hrun:=dB (P:=P) hu hck ad xs.length cap hl (hh _) c1 c2 c3 r2 m.w
   refine aH hi hG (cR ho hxw hrun) ?_ h
   refine (ah (m:=m) (a:=.view id _ _) (by intros; simp)).2 ⟨rfl,.arr e1 xs,hG ▸ hg,?_,?_⟩
   ·simp only; omega
   ·rw [r1]; exact rX
  ·simp at h
 ·rename_i id off len hq
  obtain ⟨_,ob,hob,hxv⟩:=hx
  rw [hG] at hob
  unfold fQ at hty
  split at hty <;> try (simp_all; done)
  rename_i e1 id2 o2 n2 ht hq2
  simp only [SV.av.injEq,Atom.view.injEq] at hq2
  obtain ⟨rfl,rfl,rfl⟩:=hq2
  split at hty
  ·rename_i e xs hg
   rw [hg] at hob
   simp only [A1] at hob
   subst hob
   have hty:=of_decide_eq_true hty
   subst hty
   obtain ⟨et,hu,hck⟩:=bc (ak hT ht)
   obtain ⟨ad,cap,r1,r2,r3,r4⟩:=hi.objs id _ (hG ▸ hg)
   simp only at hxv
   obtain ⟨hle,hview⟩:=hxv
   obtain ⟨p,hp,h⟩:=B6.1 h
   obtain ⟨c1,c2,c3,rfl⟩:=mT hp
   have hv0:=hview
   obtain ⟨ad1,n1,cap1,ad2,k1,k2,k3⟩:=hview
   rw [r1] at k1
   simp only [Value.slice.injEq] at k1
   obtain ⟨rfl,rfl,rfl⟩:=k1
   have hrun:=dB (P:=P) hu hck ad2 len (cap - off) hl (hh _) c1 c2 c3 (by omega) m.w
   refine aH hi hG (cR ho k2 hrun) ?_ h
   refine (ah (m:=m) (a:=.view id _ _) (by intros; simp)).2 ⟨rfl,.arr e1 xs,hG ▸ hg,?_,?_⟩
   ·simp only; omega
   ·rw [r1]
    by_cases hc0:cap=0
    ·subst hc0
     have:off=0:=by omega
     subst this
     have hl0:len=0:=by omega
     refine ⟨ad,xs.length,0,_,rfl,by rw [show 0 - 0 - l.toNat=0 - (0+l.toNat) from by omega],fun h=>absurd h (by simp only; omega)⟩
    ·refine vK (v:=a.eval x) (ad:=ad) ?_ xs.length rfl (by omega) (by omega) (r1 ▸ hv0) ad2 (cap - off) k2
     intro ad' had
     obtain ⟨b,off',_,_,_,q1,_⟩:=r4 hc0
     rw [q1] at had
     simp only [A1] at had
     exact ⟨b,off',had.symm⟩
  ·simp at hty
 ·rename_i hq
  cases hq
 ·simp at h
theorem FV {t:TypeId} {x:Operand} {lo hi' mx:Option Operand} (hT:dX P C.tab=true) (hi:Inv C w0 M m) (hG:m.G=s.G) (hS:∀ x,RelSV m (a.eval x) (ap C s.env x)) (ho:o.op=.slice t x lo hi' mx)
  (h:aA C o s some=some s'):Does P o a m.w (Res C w0 M m s s' o.dst):=by
 simp only [aA,ho] at h
 have hx:=hS x
 obtain ⟨l,h,hl⟩:=CK hS h
 cases hty:fQ C t s.G (ap C s.env x) with
 | false=>rw [hty] at h; simp at h
 | true =>
  rw [hty] at h
  simp only [Bool.not_true,cond_false] at h
  cases hi' with
  | none=>cases mx with
   | none=>exact ET rfl (h0:=none) hT hi hG hx ho hl (fun d=>.inl ⟨rfl,rfl⟩) hty h
   | some _=>simp at h
  | some hx'=>cases mx with
   | none =>
   obtain ⟨k,i,h1,h2⟩:=iq h
   have hh:=hS hx'
   rw [h1] at hh
   exact ET rfl (h0:=some i) hT hi hG hx ho hl (fun d=>.inr ⟨k,by simp [(rel_int hh).1]⟩) hty h2
   | some mx' =>
   obtain ⟨k,i,h1,h2⟩:=iq h
   obtain ⟨k',i',h3,h4⟩:=iq h2
   have hh:=hS hx'
   rw [h1] at hh
   have hm:=hS mx'
   rw [h3] at hm
   have hh:=(rel_int hh).1
   have hm:=(rel_int hm).1
   generalize ap C s.env x=v at h4 hx hty
   unfold fc at h4
   split at h4 <;> try (cases ‹some _=none›; done)
   ·rename_i e xs he
    simp only [A1] at he
    subst he
    split at h4
    ·rename_i hc
     obtain ⟨rfl,hc⟩:=hc
     simp only [A1] at hc
     subst hc
     obtain ⟨ad,cap,hxv,r1,r2,r3⟩:=gW hx
     unfold fQ at hty
     split at hty <;> try (simp_all; done)
     rename_i e1 e2 xs2 ht hq2
     obtain ⟨et,hu,hck⟩:=bc (ak hT ht)
     have hs:=bK hck m.w
     refine aH hi hG (v:=.slice ad 0 0) (sv:=.av .nils) ?_ ⟨ad,rfl⟩ h4
     rcases hl with ⟨hl,_⟩ | ⟨k2,hl⟩
     ·simp [execOp,ho,hxv,hl,hh,hm,Instr.sliceAt,Instr.slice,run_underlying hu,Instr.sliceBounds,Instr.sliceBound,asIntOf,hs]
     ·simp [execOp,ho,hxv,hl,hh,hm,Instr.sliceAt,Instr.slice,run_underlying hu,Instr.sliceBounds,Instr.sliceBound,asIntOf,hs]
    ·simp at h4
   ·rename_i id mx2 he
    simp only [A1] at he
    subst he
    obtain ⟨_,ob,hob,hxv⟩:=hx
    rw [hG] at hob
    split at h4
    ·rename_i e xs hg
     rw [hg] at hob
     simp only [A1] at hob
     subst hob
     have hxw:=hxv rfl
     unfold fQ at hty
     split at hty <;> try (simp_all; done)
     rename_i e1 id2 ht hq2
     simp only [SV.av.injEq,Atom.own.injEq] at hq2
     subst hq2
     rw [hg] at hty
     have hty:=of_decide_eq_true hty
     subst hty
     obtain ⟨et,hu,hck⟩:=bc (ak hT ht)
     obtain ⟨p,hp,h4⟩:=B6.1 h4
     obtain ⟨c1,c2,c3,rfl⟩:=mT hp
     split at h4
     ·rename_i hc
      obtain ⟨hc1,hc2⟩:=hc
      simp only [A1] at hc1
      subst hc1
      obtain ⟨b,off,cap,c,el,fz,r1,r2,r3,r4,r5,r6,r7,r8,r9⟩:=pm hi (hG ▸ hg) (j:=l.toNat) (by omega)
      obtain ⟨ad',cap',u1,u2,_,_⟩:=hi.objs id _ (hG ▸ hg)
      rw [r1] at hxw u1
      simp only [Value.slice.injEq] at u1
      obtain ⟨_,_,rfl⟩:=u1
      refine aH hi hG (v:=.slice (some ⟨b,off+l.toNat * e1.size,none⟩) (i.toNat - l.toNat) (i.toNat - l.toNat)) ?_
       ((ah (m:=m) (a:=.cut id _ _) (by intros; simp)).2 ⟨rfl,.arr e1 xs,hG ▸ hg,by omega,by omega,b,off,xs.length,cap,r1,rfl⟩) h4
      have b1:(0:Int)≤i∧i≤(cap:Int):=by omega
      have b2:(0:Int)≤i∧i≤(i.toNat:Int):=by omega
      have b3:(0:Int)≤l∧l≤(i.toNat:Int):=by omega
      have b4:¬ i.toNat=l.toNat:=by omega
      have b6:max i 0=i:=by omega
      have b5:¬ i.toNat - l.toNat=0:=by omega
      have hs:=bK hck m.w
      rcases hl with ⟨hl,rfl⟩ | ⟨k2,hl⟩
      ·simp [execOp,ho,hxw,hl,hh,hm,Instr.sliceAt,Instr.slice,run_underlying hu,Instr.sliceBounds,Instr.sliceBound,asIntOf,hs,b1,b2,b6,bd]
      ·simp [execOp,ho,hxw,hl,hh,hm,Instr.sliceAt,Instr.slice,run_underlying hu,Instr.sliceBounds,Instr.sliceBound,asIntOf,hs,b1,b2,b3,b4,b5,b6,bd]; intro hx; omega
     ·simp at h4
    ·simp at h4
   ·simp at h4
end
end Go.Vm

/-
 The machine's operations against the model's: append.
-/
namespace Go.Vm
section
variable {P:Program} {C:Ctx} {w0:World} {M:Own} {o:Oper} {a:Act} {m:Mem} {s s':St}
theorem CC (hi:Inv C w0 M m) {id i:Nat} {o o':Obj} {b:Nat} (hg:m.G.get id=some o) (hob:isObj o=true) (hbl:HB (m.ι id) b) (hn:Heap.get ((id,.dead) :: m.G) i=none)
  {w1:World} (hw:Wrote m.w b w1) {h:Value} (hh:∀ b',HB h b'↔b'=b)
  (ho:Evo m ⟨w1,m.F,fun k=>if k=i then h else m.ι k,(i,o') :: (id,.dead) :: m.G⟩→db ⟨w1,m.F,fun k=>if k=i then h else m.ι k,(i,o') :: (id,.dead) :: m.G⟩ i o') :
  Inv C w0 M ⟨w1,m.F,fun k=>if k=i then h else m.ι k,(i,o') :: (id,.dead) :: m.G⟩∧Evo m ⟨w1,m.F,fun k=>if k=i then h else m.ι k,(i,o') :: (id,.dead) :: m.G⟩:=by
 obtain ⟨hb1,hb2,hb3⟩:=hi.own id o b hg hob hbl
 have hii:i≠id:=by intro e; subst e; rw [Heap.get_cons,if_pos rfl] at hn; cases hn
 have hn':m.G.get i=none:=by rw [Heap.get_cons,if_neg (Ne.symm hii)] at hn; exact hn
 have get3:∀ k,Heap.get ((i,o') :: (id,.dead) :: m.G) k=if i=k then some o' else if id=k then some .dead else m.G.get k:=by
  intro k; rw [Heap.get_cons,Heap.get_cons]
 have he:Evo m ⟨w1,m.F,fun k=>if k=i then h else m.ι k,(i,o') :: (id,.dead) :: m.G⟩:=by
  refine ⟨fun k hF=>⟨hF,hw.block k (fun e=>hb2 (e ▸ hF))⟩,fun k p hp=>?_⟩
  have hik:i≠k:=by intro e; subst e; rw [hn'] at hp; cases hp
  by_cases e:id=k
  ·exact ⟨.dead,by show Heap.get ((i,o') :: (id,.dead) :: m.G) k=_; rw [get3,if_neg hik,if_pos e],.inl rfl⟩
  ·exact ⟨p,by show Heap.get ((i,o') :: (id,.dead) :: m.G) k=_; rw [get3,if_neg hik,if_neg e]; exact hp,.inr (.inl ⟨by simp [Ne.symm hik],Alike.refl p⟩)⟩
 refine ⟨⟨?_,?_,?_,?_,?_,?_,hi.bnd,fun i v h=>cX he (hi.pin i v h)⟩,he⟩
 ·refine ⟨hw.os.trans hi.kept.os,hw.tape.trans hi.kept.tape,hw.output.trans hi.kept.output,by rw [hw.size]; exact hi.kept.size,fun k hk hM=>?_⟩
  refine (hw.block k ?_).trans (hi.kept.block k hk hM)
  intro e; subst e
  rcases hb1 with hb1 | hb1
  ·omega
  ·exact hM hb1
 ·intro k p hp
  change Heap.get ((i,o') :: (id,.dead) :: m.G) k=_ at hp
  rw [get3] at hp
  split at hp
  ·rename_i e; subst e
   simp only [A1] at hp
   subst hp
   exact ho he
  ·rename_i hik
   split at hp
   ·simp only [A1] at hp
    subst hp
    trivial
   ·rename_i hne
    by_cases hop:isObj p=true
    ·refine co he (by simp [Ne.symm hik]) (fun b' hb'=>hw.block b' ?_) (hi.objs k p hp)
     intro e; subst e
     exact hne (hi.inj id k o p b' hg hob hp hop hbl hb')
    ·cases p <;> simp_all [isObj,db]
 ·intro k p b' hp hop hbl'
  change Heap.get ((i,o') :: (id,.dead) :: m.G) k=_ at hp
  rw [get3] at hp
  have:(w0.heap.size≤b'∨M b')∧¬ m.F b'∧b' < m.w.heap.size:=by
   split at hp
   ·rename_i e; subst e
    have:b'=b:=(hh b').1 (by simpa using hbl')
    subst this
    exact ⟨hb1,hb2,hb3⟩
   ·rename_i hik
    split at hp
    ·simp only [A1] at hp
     subst hp
     simp [isObj] at hop
    ·exact hi.own k p b' hp hop (by simpa [Ne.symm hik] using hbl')
  exact ⟨this.1,this.2.1,by show b' < w1.heap.size; rw [hw.size]; exact this.2.2⟩
 ·have one:∀ k p b',(if i=k then some o' else if id=k then some .dead else m.G.get k)=some p→isObj p=true→HB (if k=i then h else m.ι k) b' →
    (k=i∧b'=b)∨(k≠i∧k≠id∧m.G.get k=some p∧HB (m.ι k) b'):=by
   intro k p b' hp hop hb'
   split at hp
   ·rename_i e; subst e
    rw [if_pos rfl] at hb'
    exact .inl ⟨rfl,(hh b').1 hb'⟩
   ·rename_i hik
    rw [if_neg (Ne.symm hik)] at hb'
    split at hp
    ·simp only [A1] at hp
     subst hp
     simp [isObj] at hop
    ·rename_i hne
     exact .inr ⟨Ne.symm hik,Ne.symm hne,hp,hb'⟩
  intro j k p q b' hp hop hq hoq h1 h2
  change Heap.get ((i,o') :: (id,.dead) :: m.G) _=_ at hp hq
  rw [get3] at hp hq
  rcases one j p b' hp hop h1 with ⟨rfl,rfl⟩ | ⟨j1,j2,j3,j4⟩ <;> rcases one k q _ hq hoq h2 with ⟨rfl,k0⟩ | ⟨k1,k2,k3,k4⟩
  ·rfl
  ·exact absurd (hi.inj k id q o _ k3 hoq hg hob k4 hbl) k2
  ·subst k0; exact absurd (hi.inj j id p o _ j3 hop hg hob j4 hbl) j2
  ·exact hi.inj j k p q b' j3 hop k3 hoq j4 k4
 ·intro b' hF; show b' < w1.heap.size; rw [hw.size]; exact hi.fro b' hF
 ·intro g τ x hx; exact (hi.glob g τ x hx).mono he.fro
def kn (w:World) (F:Nat→Prop) (e:Ty) (cs:List Value) (l:List e.den):Prop :=
 cs.length=l.length * e.size∧∀ i (h:i < l.length),Rd w F e ((cs.drop (i * e.size)).take e.size) l[i]
theorem t9 {w:World} {F:Nat→Prop} {e:Ty} {cs:List Value} {l:List e.den} (h:kn w F e cs l):∀ u∈cs,u.oneCell'=true:=by
 intro u hu
 obtain ⟨j,hj⟩:=LM.1 hu
 have hjl:j < cs.length:=(A3.1 hj).1
 have hs:0 < e.size:=by
  rcases Nat.eq_zero_or_pos e.size with h0 | h0
  ·rw [h.1,h0,Nat.mul_zero] at hjl; omega
  ·exact h0
 have hi:j / e.size < l.length:=by rw [Nat.div_lt_iff_lt_mul hs]; rw [← h.1]; exact hjl
 refine (h.2 _ hi).one u ?_
 rw [LM]
 refine ⟨j % e.size,?_⟩
 rw [Ls,if_pos (Nat.mod_lt _ hs),L5,Nat.mul_comm,Nat.div_add_mod]
 exact hj
theorem po {w:World} {F:Nat→Prop} {e:Ty} {c:Array Value} {off:Nat} {l:List e.den} (hc:off+l.length * e.size≤c.size) (h:∀ i (h:i < l.length),Rd w F e (seg c (off+i * e.size) e.size) l[i]) :
  kn w F e (seg c off (l.length * e.size)) l:=by
 refine ⟨cA _ _ _ hc,fun i hi=>?_⟩
 have hle:i * e.size+e.size≤l.length * e.size:=by
  have:=K9 e.size (show i+1≤l.length from hi)
  rw [Lf] at this; omega
 have:((seg c off (l.length * e.size)).drop (i * e.size)).take e.size=seg c (off+i * e.size) e.size:=ew c.toList off _ _ _ hle
 rw [this]; exact h i hi
theorem nv {w:World} {F:Nat→Prop} {e:Ty} {c1 c2 rest:List Value} {l1 l2:List e.den} (h1:kn w F e c1 l1) (h2:kn w F e c2 l2) :
  ∀ i (h:i < (l1++l2).length),Rd w F e (((c1++c2++rest).drop (i * e.size)).take e.size) (l1++l2)[i]:=by
 intro i hi
 rw [Lu] at hi
 by_cases hl:i < l1.length
 ·have hle:i * e.size+e.size≤l1.length * e.size:=by
   have:=K9 e.size (show i+1≤l1.length from hl)
   rw [Lf] at this; omega
  rw [LB hl]
  have:((c1++c2++rest).drop (i * e.size)).take e.size=(c1.drop (i * e.size)).take e.size:=by
   rw [LH,Nc (by rw [h1.1]; omega),MK (by rw [LY,h1.1]; omega)]
  rw [this]; exact h1.2 i hl
 ·rw [LS (by omega)]
  have hj:i - l1.length < l2.length:=by omega
  have hle:(i - l1.length) * e.size+e.size≤l2.length * e.size:=by
   have:=K9 e.size (show i - l1.length+1≤l2.length from hj)
   rw [Lf] at this; omega
  have hmul:i * e.size=c1.length+(i - l1.length) * e.size:=by
   rw [h1.1,← Lf]; congr 1; omega
  have:((c1++c2++rest).drop (i * e.size)).take e.size=(c2.drop ((i - l1.length) * e.size)).take e.size:=by
   rw [LH,hmul,← List.drop_drop,MZ,Nc (by rw [h2.1]; omega),MK (by rw [LY,h2.1]; omega)]
  rw [this]; exact h2.2 _ hj
def Hdr (m:Mem) (u:Value) (e:Ty) (l:List e.den):Prop :=
 ∃ ad cap,u=.slice ad l.length cap∧l.length≤cap∧cap≤maxLen ∧
  (cap≠0→∃ b off c el fz,ad=some ⟨b,off,none⟩∧m.w.heap[b]?=some (.cells c el fz)∧d8 e c.size fz∧off+cap * e.size≤c.size ∧
   ∀ i (h:i < l.length),Rd m.w m.F e (seg c (off+i * e.size) e.size) l[i])
theorem kD (hi:Inv C w0 M m) (hG:m.G=s.G) {e:Ty} {v:SV} {l:List e.den} {ids:List Nat} {u:Value} (h:gA s e v=some (l,ids)) (hr:RelSV m u v) :
  Hdr m u e l∧((ids=[]∧∃ ad,u=.slice ad 0 0)∨∃ id o,ids=[id]∧m.G.get id=some o∧isObj o=true∧((∀ b,HB u b→HB (m.ι id) b)∨∃ ad n,u=.slice ad n 0)):=by
 unfold gA at h
 split at h
 ·simp only [A1,Ld] at h
  obtain ⟨rfl,rfl⟩:=h
  obtain ⟨ad,rfl⟩:=hr
  exact ⟨⟨ad,0,rfl,by simp,by unfold maxLen; omega,fun h=>absurd rfl h⟩,.inl ⟨rfl,ad,rfl⟩⟩
 ·rename_i id
  split at h
  ·rename_i σ l0 hg
   split at h
   ·rename_i l' hl
    simp only [A1,Ld] at h
    obtain ⟨rfl,rfl⟩:=h
    obtain ⟨he,hl⟩:=au hl
    cases he
    subst hl
    obtain ⟨_,ob,hob,hv⟩:=hr
    rw [hG,hg] at hob
    simp only [A1] at hob
    subst hob
    have hv:=hv rfl
    subst hv
    exact ⟨show db m id (.arr e l0) from hi.objs id _ (hG ▸ hg),.inr ⟨id,_,rfl,hG ▸ hg,rfl,.inl fun _ h=>h⟩⟩
   ·simp at h
  ·simp at h
 ·rename_i id off len
  split at h
  ·rename_i σ l0 hg
   split at h
   ·rename_i l' hl
    simp only [A1,Ld] at h
    obtain ⟨rfl,rfl⟩:=h
    obtain ⟨he,hl⟩:=au hl
    cases he
    subst hl
    obtain ⟨_,ob,hob,hv⟩:=hr
    rw [hG,hg] at hob
    simp only [A1] at hob
    subst hob
    obtain ⟨hle,hview⟩:=hv
    obtain ⟨ad,cap,r1,r2,r3,r4⟩:=hi.objs id _ (hG ▸ hg)
    obtain ⟨ad1,n1,cap1,ad2,k1,k2,k3⟩:=hview
    rw [r1] at k1
    simp only [Value.slice.injEq] at k1
    obtain ⟨rfl,rfl,rfl⟩:=k1
    have hlen:((l0.drop off).take len).length=len:=by simp; omega
    refine ⟨⟨ad2,cap - off,by rw [hlen,k2],by rw [hlen]; omega,by omega,fun hne=>?_⟩,.inr ⟨id,_,rfl,hG ▸ hg,rfl,?_⟩⟩
    ·obtain ⟨b,o',c,el,fz,q1,q2,q3,q4,q5⟩:=r4 (by omega)
     refine ⟨b,o'+off * e.size,c,el,fz,by rw [k3 (by omega),q1]; simp [bd],q2,q3,?_,fun i hi'=>?_⟩
     ·have:off * e.size+(cap - off) * e.size=cap * e.size:=by rw [← Lf]; congr 1; omega
      omega
     ·rw [hlen] at hi'
      have:=q5 (off+i) (by omega)
      rw [show o'+off * e.size+i * e.size=o'+(off+i) * e.size by rw [Lf]; omega]
      simpa using this
    ·by_cases hc:cap - off=0
     ·right; exact ⟨ad2,len,by rw [k2,hc]⟩
     ·left
      obtain ⟨b,o',c,el,fz,q1,q2,q3,q4,q5⟩:=r4 (by omega)
      rw [k2,r1,k3 (by omega),q1]
      intro b' hb'
      simp only [Mn,bd,HB,HB1] at hb' ⊢
      exact ⟨by omega,hb'.2⟩
   ·simp at h
  ·simp at h
 ·simp at h
theorem GO (hi:Inv C w0 M m) {id ver j:Nat} {τ : Ty} {l:List (List τ.den)} {hole:Option Nat} (hg:m.G.get id=some (.deep ver τ l hole)) (hh:hole≠some j) {u:Value} (hu:∃ us,m.ι id=.tuple us∧us[j+1]?=some u) (hj:j < l.length):HdrW m.w m.F u τ l[j]:=by
 obtain ⟨u',hs,h1,h2⟩:=hi.objs id _ hg
 obtain ⟨us,h3,h4⟩:=hu
 rw [h1] at h3
 simp only [Value.tuple.injEq] at h3
 subst h3
 simp only [Lv,Lp] at h4
 exact h2.inner j hj u h4 hh
theorem pE (hi:Inv C w0 M m) {e:Ty} {v:SV} {xs:List e.den} {u:Value} (hnd:rv v=false) (h:aW m.G (.slice e) v=some xs) (hr:RelSV m u v) :
  ∃ ad cap news,u=.slice ad xs.length cap∧kn m.w m.F e news xs∧xs.length≤maxLen∧(xs≠[]→∃ b off c el fz,ad=some ⟨b,off,none⟩∧m.w.heap[b]?=some (.cells c el fz)∧off+news.length≤c.size∧news=seg c off news.length):=by
 have fin {ad:Option Addr} {l:List e.den} {cap:Nat} (h1:l.length≤cap) (h2:cap≤maxLen)
   (h3:l≠[]→∃ b off c el fz,ad=some ⟨b,off,none⟩∧m.w.heap[b]?=some (.cells c el fz)∧off+l.length * e.size≤c.size∧∀ i (h:i < l.length),Rd m.w m.F e (seg c (off+i * e.size) e.size) l[i]) :
   ∃ ad' cap' news,Value.slice ad l.length cap=.slice ad' l.length cap'∧kn m.w m.F e news l∧l.length≤maxLen∧(l≠[]→∃ b off c el fz,ad'=some ⟨b,off,none⟩∧m.w.heap[b]?=some (.cells c el fz)∧off+news.length≤c.size∧news=seg c off news.length):=by
  by_cases hl:l=[]
  ·subst hl
   exact ⟨ad,cap,[],rfl,⟨by simp,by intro i hi; simp at hi⟩,by simp,fun h=>absurd rfl h⟩
  ·obtain ⟨b,off,c,el,fz,q1,q2,q3,q4⟩:=h3 hl
   have hn:(seg c off (l.length * e.size)).length=l.length * e.size:=cA _ _ _ q3
   exact ⟨ad,cap,seg c off (l.length * e.size),rfl,po q3 q4,by omega,fun _=>⟨b,off,c,el,fz,q1,q2,by rw [hn]; exact q3,by rw [hn]⟩⟩
 cases v with
 | av a =>
  cases a with
  | val σ x =>
   obtain ⟨he,hx⟩:=au h
   cases he
   subst hx
   obtain ⟨ad,cap,rfl,h2,h3,h4⟩:=gW hr
   refine fin h2 h3 (fun hne=>?_)
   obtain ⟨b,off,c,el,fz,q1,_,q2,q3,q4⟩:=h4 hne
   exact ⟨b,off,c,el,fz,q1,q2,q3,q4⟩
  | nils =>
   simp only [aW,Ty.isAgg,cond_false,aE,A1] at h
   subst h
   obtain ⟨ad,rfl⟩:=hr
   exact fin (l:=[]) (by simp) (by unfold maxLen; omega) (fun h=>absurd rfl h)
  | own id =>
   simp only [aW,Ty.isAgg,cond_false,aE] at h
   cases hg:m.G.get id with
   | none=>rw [hg] at h; simp at h
   | some ob0 =>
    cases ob0 with
    | box _=>rw [hg] at h; simp at h
    | dead=>rw [hg] at h; simp at h
    | deep _ _ _ _=>rw [hg] at h; simp at h
    | map _ _ _=>rw [hg] at h; simp at h
    | arr σ l' =>
    rw [hg] at h
    obtain ⟨he,hx⟩:=au h
    cases he
    subst hx
    obtain ⟨_,ob,hob,hv⟩:=hr
    rw [hg] at hob
    simp only [A1] at hob
    subst hob
    obtain ⟨ad,cap,r1,r2,r3,r4⟩:=hi.objs id _ hg
    rw [hv rfl,r1]
    refine fin r2 r3 (fun hne=>?_)
    have:0 < l'.length:=MR.2 hne
    obtain ⟨b,off,c,el,fz,q1,q2,q3,q4,q5⟩:=r4 (by omega)
    exact ⟨b,off,c,el,fz,q1,q2,by have:=K9 e.size r2; omega,q5⟩
  | view id off len =>
   have hh:∃ σ l',m.G.get id=some (.arr σ l')∧gA ⟨[],m.G⟩ e (.av (.view id off len))=some (xs,[id]):=by
    simp only [aW,Ty.isAgg,cond_false,aE] at h
    cases hg:m.G.get id with
    | none=>rw [hg] at h; simp at h
    | some ob0 =>
     cases ob0 with
     | box _=>rw [hg] at h; simp at h
     | dead=>rw [hg] at h; simp at h
     | deep _ _ _ _=>rw [hg] at h; simp at h
     | map _ _ _=>rw [hg] at h; simp at h
     | arr σ l' =>
     rw [hg] at h
     obtain ⟨he,hx⟩:=au h
     cases he
     subst hx
     refine ⟨e,l',rfl,?_⟩
     simp [gA,hg,bG]
   obtain ⟨σ,l',hg,hb⟩:=hh
   obtain ⟨⟨ad,cap,rfl,r2,r3,r4⟩,_⟩:=kD (s:=⟨[],m.G⟩) hi rfl hb hr
   refine fin r2 r3 (fun hne=>?_)
   have:0 < xs.length:=MR.2 hne
   obtain ⟨b,off,c,el,fz,q1,q2,q3,q4,q5⟩:=r4 (by omega)
   exact ⟨b,off,c,el,fz,q1,q2,by have:=K9 e.size r2; omega,q5⟩
  | u=>simp [aW,Ty.isAgg,aE] at h
  | undef=>simp [aW,Ty.isAgg,aE] at h
  | ptr _ _=>simp [aW] at h
  | aptr _ _ _=>simp [aW,Ty.isAgg,aE] at h
  | cut _ _ _=>simp [aW,Ty.isAgg,aE] at h
  | bnd _ _=>simp [aW,Ty.isAgg,aE] at h
  | saptr _ _ _ _=>simp [aW,Ty.isAgg,aE] at h
  | ownm _=>simp [aW,Ty.isAgg,aE] at h
  | ownd id=>simp [rv] at hnd
  | sub id ver j =>
   simp only [aW,Ty.isAgg,cond_false,aE] at h
   obtain ⟨_,ob,hob,hv⟩:=hr
   rw [hob] at h
   cases ob with
   | deep ver' σ l' hole =>
    cases hole with
    | some _=>simp at h
    | none =>
     simp only at h hv
     cases hb:A8 ver ver' with
     | false=>rw [hb] at h; simp at h
     | true =>
      rw [hb] at h
      have:=A5 hb
      subst this
      obtain ⟨hj,_,hu⟩:=hv.2 rfl
      rw [fP hj] at h
      simp only [cond_true] at h
      obtain ⟨e',hy⟩:=au h
      simp only [Ty.slice.injEq] at e'
      subst e'; subst hy
      obtain ⟨ad,cap,r1,r2,r3,r4⟩:=GO hi hob (by simp) hu hj
      rw [r1]
      refine fin r2 r3 (fun hne=>?_)
      have:0 < l'[j].length:=MR.2 hne
      obtain ⟨b,off,c,el,fz,q1,q2,q3,q4,q5⟩:=r4 (by omega)
      exact ⟨b,off,c,el,fz,q1,q2,by have:=K9 σ.size r2; omega,q5⟩
   | _=>simp at h
  | clo _ _=>simp [aW] at h
 | agg l=>simp [aW,Ty.isAgg] at h
 | tup l=>simp [aW] at h
theorem s8 (c:Array Value) (o:Nat) (vs:List Value) (h:o+vs.length≤c.size) (d n:Nat) (hd:d+n≤vs.length):seg (aF c o vs) (o+d) n=(vs.drop d).take n:=by
 apply MA
 intro k
 by_cases hk:k < n
 ·rw [seg_getElem? _ _ _ _ hk,cB c o vs h,if_pos (by omega),Ls,if_pos hk,L5]
  congr 1; omega
 ·rw [Ls,if_neg hk]
  unfold seg; rw [Ls,if_neg hk]
end
end Go.Vm

/-
 The machine's operations against the model's: append, joined.
-/
namespace Go.Vm
section
variable {P:Program} {C:Ctx} {w0:World} {M:Own} {o:Oper} {a:Act} {m:Mem} {s s':St}
theorem zj {e:Ty} {xs:List e.den} {ad:Option Addr} {cap:Nat} {news:List Value} (h1:kn m.w m.F e news xs)
  (h2:xs≠[]→∃ b off c el fz,ad=some ⟨b,off,none⟩∧m.w.heap[b]?=some (.cells c el fz)∧off+news.length≤c.size∧news=seg c off news.length) {w:World} (hw:w.heap=m.w.heap) :
  (Builtin.firstCells e.size xs.length (.slice ad xs.length cap)).run P w=.ok news.toArray w:=by
 by_cases hne:xs=[]
 ·subst hne
  have:news=[]:=Lj (by rw [h1.1]; simp)
  subst this
  cases ad <;> simp [Builtin.firstCells,loadCells,loadCellsFrom]
 ·obtain ⟨b,off,c,el,fz,rfl,q2,q3,q4⟩:=h2 hne
  refine run_firstCells_some (P:=P) w e.size xs.length _ _ _ news h1.1 (fun j v hj=>?_)
  have hjl:j < news.length:=(A3.1 hj).1
  rw [bd,bO (by rw [hw]; exact q2),← seg_getElem? c off news.length j hjl,← q4]
  exact hj
theorem tf {t:TypeId} {x y:Operand} {e:Ty} {l xs:List e.den} {r:List e.den} (hT:dX P C.tab=true) (hi:Inv C w0 M m) (hG:m.G=s.G) (hS:∀ x,RelSV m (a.eval x) (ap C s.env x))
  (ho:o.op=.call { callee:=.builtin .append,args:=#[x,y],argTypes:=#[t,t] }) (ht:C.tab.get t=some (.slice e))
  (hnd:rv (ap C s.env y)=false) (hcut:Eg s e (ap C s.env x)=some l) (hsv:aW s.G (.slice e) (ap C s.env y)=some xs) (hk:xs≠[]) (hr:app l xs=some r)
  (h:cv s (o.dst.getD 0) (.arr e r) (fun i s2=>some (aG o.dst (.av (.own i)) s2))=some s'):Does P o a m.w (Res C w0 M m s s' o.dst):=by
 unfold app at hr
 split at hr
 ·rename_i hlim
  simp only [A1] at hr
  subst hr
  have hlimv:lim=68719476736:=rfl
  rw [hlimv] at hlim
  obtain ⟨i,hfree,h⟩:=cu h
  simp only [A1] at h
  obtain ⟨et,hu,hck⟩:=bc (ak hT ht)
  obtain ⟨inf,z,r1,r2,r3,r4,r5,r6,r7⟩:=eI hck
  have hx:=hS x
  generalize hvx:ap C s.env x=vx at hcut hx
  unfold Eg at hcut
  split at hcut
  ·rename_i id off len
   obtain ⟨_,ob,hob,hxv⟩:=(ah (m:=m) (a:=.cut id off len) (by intros; simp)).1 hx
   rw [hG] at hob
   split at hcut
   ·rename_i σ l0 hg
    rw [hg] at hob
    simp only [A1] at hob
    subst hob
    split at hcut
    ·rename_i l1 hl1
     simp only [A1] at hcut
     subst hcut
     obtain ⟨he,hl1⟩:=au hl1
     cases he
     subst hl1
     simp only at hxv
     obtain ⟨k1,k2,b,o',n',cap',v1,v2⟩:=hxv
     obtain ⟨b',o'',cap,c,el,fz,q1,q2,q3,q4,q5,q6,q7,q8,q9⟩:=pm hi (hG ▸ hg) (j:=off) (by omega)
     rw [v1] at q1
     simp only [Value.slice.injEq,A1,Addr.mk.injEq,and_true] at q1
     obtain ⟨⟨rfl,rfl⟩,rfl,rfl⟩:=q1
     have hlen:((l0.drop off).take len).length=len:=by simp; omega
     obtain ⟨xd,xcap,news,hxv,x2,x3,x4⟩:=pE hi hnd (hG ▸ hsv) (hS y)
     have hone:=t9 x2
     have hfresh:Heap.get m.G i=none:=by rw [hG]; exact hfree
     have hkl:0 < xs.length:=MR.2 hk
     obtain ⟨xb,xoff,xc,xel,xfz,rfl,y2,y3,y4⟩:=x4 hk
     obtain ⟨z0,ez,hz0,_⟩:=cD (m:=m) r5
     rw [LU] at ez
     have hzs:z.cells.size=e.size:=by rw [← LJ,ez]; exact hz0.len
     have hnews:∀ j v,news[j]?=some v→m.w.cell? ((⟨xb,xoff,none⟩ : Addr).add j)=some v:=by
      intro j v hj
      have hjl:j < news.length:=(A3.1 hj).1
      rw [bd,bO y2,← seg_getElem? xc xoff news.length j hjl,← y4]
      exact hj
     rw [hlen] at hlim
     have hge:=grownCap_ge m.w (len+xs.length) len et
     have hcm:grownCap m.w (len+xs.length) len et≤maxLen:=grownCap_le_maxLen _ _ _ _ (by unfold maxLen; omega)
     have hfits:Builtin.nextslicecap (len+xs.length) len * inf.bytes≤281474976710656:=growslice_fits (by omega) (by
      have h1:(len+xs.length) * inf.bytes≤68719476736 * 2048:=Na hlim r3
      omega)
     have hle:off * e.size+len * e.size≤l0.length * e.size:=by rw [← Lf]; exact K9 _ k1
     have hle2:l0.length * e.size≤cap' * e.size:=K9 _ q2
     have hsl:(seg c (o'+off * e.size) (len * e.size)).length=len * e.size:=cA _ _ _ (by omega)
     have kc:kn m.w m.F e (seg c (o'+off * e.size) (len * e.size)) ((l0.drop off).take len):=by
      have:=po (w:=m.w) (F:=m.F) (e:=e) (c:=c) (off:=o'+off * e.size) (l:=(l0.drop off).take len) (by rw [hlen]; omega) (fun i hi'=>by
       rw [hlen] at hi'
       have:=q8 (off+i) (by omega)
       rw [show o'+off * e.size+i * e.size=o'+(off+i) * e.size by rw [Lf]; omega]
       simpa using this)
      rw [hlen] at this
      exact this
     have hrun:(Builtin.append_ #[t,t] o.type #[.slice (some ⟨b,o'+off * e.size,none⟩) len len,.slice (some ⟨xb,xoff,none⟩) xs.length xcap]).run P m.w =
       .ok (.slice (some ⟨m.w.heap.size,0,none⟩) (len+xs.length) (grownCap m.w (len+xs.length) len et))
        (m.w.drew.alloc (.cells ((seg c (o'+off * e.size) (len * e.size)).toArray++news.toArray++Builtin.zeroCells z.cells (grownCap m.w (len+xs.length) len et - (len+xs.length))) et)) :=
      run_append_grow (P:=P) m.w t o.type et inf z hu r1 r4 ⟨b,o'+off * e.size,none⟩ len len _ (by rw [r2]; exact hsl) (fun j v hj=>by
       have hjl:j < len * e.size:=by rw [← hsl]; exact (A3.1 hj).1
       rw [bd,bO q4,← seg_getElem? c (o'+off * e.size) _ j hjl]
       exact hj) ⟨xb,xoff,none⟩ xs.length xcap news (by rw [r2]; exact x2.1) hnews (by omega) (by omega) hfits
     have hsz:((seg c (o'+off * e.size) (len * e.size)).toArray++news.toArray++Builtin.zeroCells z.cells (grownCap m.w (len+xs.length) len et - (len+xs.length))).size=grownCap m.w (len+xs.length) len et * e.size:=by
      simp only [NO,M0,size_zeroCells,hzs,hsl,x2.1,← Lf]
      congr 1
      omega
     obtain ⟨m',p1,p2,p3,p4,p5⟩:=qr (τ:=e) (l:=(l0.drop off).take len++xs) (cap:=grownCap m.w (len+xs.length) len et) (fz:=(0,0)) hi (i:=i) hfresh
      (w1:=m.w.drew.alloc (.cells ((seg c (o'+off * e.size) (len * e.size)).toArray++news.toArray++Builtin.zeroCells z.cells (grownCap m.w (len+xs.length) len et - (len+xs.length))) et)) (eF m.w _)
      (bU m.w.drew _) (.inl (A7 _)) (by rw [Lu,hlen]; exact hge) hcm (by rw [hsz]; exact A7 _) (fun j hj=>by
       have:=nv (rest:=(Builtin.zeroCells z.cells (grownCap m.w (len+xs.length) len et - (len+xs.length))).toList) kc x2 j hj
       unfold seg at this ⊢
       simpa using this)
     refine Does.value (w':=m'.w) (v:=.slice (some ⟨m.w.heap.size,0,none⟩) (len+xs.length) (grownCap m.w (len+xs.length) len et)) ?_ ⟨m',.av (.own i),rfl,?_,p3,p4,by rw [Lu,hlen] at p5; exact p5⟩
     ·simp [execOp,ho,resolve,invoke,builtin,v2,hxv,hrun,p1]
     ·rw [← h,p2,hG]
    ·simp at hcut
   ·simp at hcut
  ·simp at hcut
 ·simp at hr
theorem sZ {t:TypeId} {x y:Operand} {e:Ty} {l xs r:List e.den} {ids:List Nat} (hT:dX P C.tab=true) (hi:Inv C w0 M m) (hG:m.G=s.G)
  (ho:o.op=.call { callee:=.builtin .append,args:=#[x,y],argTypes:=#[t,t] }) (ht:C.tab.get t=some (.slice e)) (hH:Hdr m (a.eval x) e l)
  (hids:(ids=[]∧∃ ad,a.eval x=.slice ad 0 0)∨∃ id o,ids=[id]∧m.G.get id=some o∧isObj o=true∧((∀ b,HB (a.eval x) b→HB (m.ι id) b)∨∃ ad n,a.eval x=.slice ad n 0))
  (hN:∃ ad cap news,a.eval y=.slice ad xs.length cap∧kn m.w m.F e news xs∧xs.length≤maxLen∧(xs≠[]→∃ b off c el fz,ad=some ⟨b,off,none⟩∧m.w.heap[b]?=some (.cells c el fz)∧off+news.length≤c.size∧news=seg c off news.length))
  (hr:app l xs=some r) (h:cv { env:=s.env,G:=am ids s.G } (o.dst.getD 0) (.arr e r) (fun i s2=>some (aG o.dst (.av (.own i)) s2))=some s'):Does P o a m.w (Res C w0 M m s s' o.dst):=by
 unfold app at hr
 split at hr
 ·rename_i hlim
  simp only [A1] at hr
  subst hr
  have hlimv:lim=68719476736:=rfl
  rw [hlimv] at hlim
  obtain ⟨i,hfree,h⟩:=cu h
  simp only [A1] at h
  obtain ⟨et,hu,hck⟩:=bc (ak hT ht)
  obtain ⟨inf,z,r1,r2,r3,r4,r5,r6,r7⟩:=eI hck
  obtain ⟨ad,cap,hbv,b2,b3,b4⟩:=hH
  obtain ⟨xd,xcap,news,hxv,x2,x3,x4⟩:=hN
  have hfc:∀ w:World,w.heap=m.w.heap→(Builtin.firstCells e.size xs.length (.slice xd xs.length xcap)).run P w=.ok news.toArray w:=fun w hw=>zj x2 x4 hw
  have hone:=t9 x2
  have hfresh:Heap.get (am ids m.G) i=none:=by rw [hG]; exact hfree
  by_cases hfit:l.length+xs.length≤cap
  ·by_cases hc0:cap=0
   ·subst hc0
    have hl0:l.length=0:=by omega
    have hx0:xs.length=0:=by omega
    have hl0':l=[]:=Lj hl0
    have hx0':xs=[]:=Lj hx0
    subst hl0'
    subst hx0'
    have hn0:news=[]:=Lj (by rw [x2.1]; simp)
    subst hn0
    obtain ⟨m1,a1,a2,a3,a4,a5,a6⟩:=cS ids hi
    obtain ⟨m',q1,q2,q3,q4,q5⟩:=EK (τ:=e) a4 (i:=i) (by rw [a3]; exact hfresh) (Kept.refl m1.w _) ad
    have hrun:(Builtin.append_ #[t,t] o.type #[.slice ad 0 0,.slice xd 0 xcap]).run P m.w=.ok (.slice ad 0 0) m.w:=by
     have:=hfc m.w rfl
     simp only [LG] at this
     cases ad <;> simp [Builtin.append_,run_underlying hu,sizeOf,typeInfo,r1,r2,Builtin.lenOf,this,storeCells]
    refine Does.value (w':=m'.w) (v:=.slice ad 0 0) ?_ ⟨m',.av (.own i),rfl,?_,q3,a5.trans q4,q5⟩
    ·simp only [LG] at hbv hxv
     simp [execOp,ho,resolve,invoke,builtin,hbv,hxv,hrun,q1,a1]
    ·rw [← h,q2,a3,hG]; rfl
   ·obtain ⟨b,off,c,el,fz,rfl,c2,c3,c4,c5⟩:=b4 hc0
    have hmul:l.length * e.size+xs.length * e.size≤cap * e.size:=by rw [← Lf]; exact K9 _ hfit
    have hnl:news.length=xs.length * e.size:=x2.1
    have hin:off+l.length * e.size+news.length≤c.size:=by omega
    have hst:=cH (P:=P) b (off+l.length * e.size) el fz news 0 c m.w c2 c3 (by omega) hone
    simp only [L7] at hst
    have hst:(storeCells ⟨b,off+l.length * e.size,none⟩ news).run P m.w=.ok () (m.w.setRow b (aF c (off+l.length * e.size) news)):=hst
    have hrun:(Builtin.append_ #[t,t] o.type #[.slice (some ⟨b,off,none⟩) l.length cap,.slice xd xs.length xcap]).run P m.w=.ok (.slice (some ⟨b,off,none⟩) (l.length+xs.length) cap) (m.w.setRow b (aF c (off+l.length * e.size) news)):=by
     simp [Builtin.append_,run_underlying hu,sizeOf,typeInfo,r1,r2,Builtin.lenOf,hfc m.w rfl,hfit,bd,hst]
    rcases hids with ⟨_,ad0,h0⟩ | ⟨id,ob,rfl,hg,hob,hblk⟩
    ·rw [h0] at hbv
     simp only [Value.slice.injEq] at hbv
     omega
    ·have hblk:HB (m.ι id) b:=by
      rcases hblk with hblk | ⟨ad0,n0,h0⟩
      ·exact hblk b (by rw [hbv]; simp [HB,HB1,hc0])
      ·rw [h0] at hbv
       simp only [Value.slice.injEq] at hbv
       omega
     have hheap:(m.w.setRow b (aF c (off+l.length * e.size) news)).heap[b]?=some (.cells (aF c (off+l.length * e.size) news) el fz):=setRow_heap m.w b c _ el fz c2
     obtain ⟨g1,g2⟩:=CC hi hg hob hblk (i:=i) hfresh (o':=.arr e (l++xs)) (bX m.w b (aF c (off+l.length * e.size) news)) (h:=.slice (some ⟨b,off,none⟩) (l.length+xs.length) cap) (fun b'=>by simp [HB,HB1,hc0,eq_comm]) (fun he=>by
      refine ⟨some ⟨b,off,none⟩,cap,by simp,by simpa using hfit,b3,fun _=>⟨b,off,_,el,fz,rfl,hheap,by rw [bt _ _ _ hin]; exact c3,by rw [bt _ _ _ hin]; exact c4,fun j hj=>?_⟩⟩
      refine Rd.mono he.fro ?_
      rw [Lu] at hj
      by_cases hjl:j < l.length
      ·have hle:j * e.size+e.size≤l.length * e.size:=by
        have:=K9 e.size (show j+1≤l.length from hjl)
        rw [Lf] at this; omega
       rw [LB hjl,dS _ _ _ hin _ _ (.inl (by omega))]
       exact c5 j hjl
      ·have hjx:j - l.length < xs.length:=by omega
       have hle:(j - l.length) * e.size+e.size≤xs.length * e.size:=by
        have:=K9 e.size (show j - l.length+1≤xs.length from hjx)
        rw [Lf] at this; omega
       have hmj:j * e.size=l.length * e.size+(j - l.length) * e.size:=by rw [← Lf]; congr 1; omega
       rw [LS (by omega),show off+j * e.size=off+l.length * e.size+(j - l.length) * e.size by omega,s8 _ _ _ hin _ _ (by omega)]
       exact x2.2 _ hjx)
     refine Does.value (w':=m.w.setRow b (aF c (off+l.length * e.size) news)) (v:=.slice (some ⟨b,off,none⟩) (l.length+xs.length) cap) ?_ ⟨_,.av (.own i),rfl,?_,g1,g2,?_⟩
     ·simp [execOp,ho,resolve,invoke,builtin,hbv,hxv,hrun]
     ·rw [← h,← hG]; rfl
     ·exact (ah (a:=.own i) (by intros; simp)).2 ⟨rfl,.arr e (l++xs),by show Heap.get ((i,.arr e (l++xs)) :: _) i=_; rw [Heap.get_cons,if_pos rfl],fun _=>by simp⟩
  ·have hk:xs≠[]:=by intro e0; subst e0; simp only [LG] at hfit; omega
   have hkl:0 < xs.length:=MR.2 hk
   obtain ⟨xb,xoff,xc,xel,xfz,rfl,y2,y3,y4⟩:=x4 hk
   obtain ⟨z0,ez,hz0,_⟩:=cD (m:=m) r5
   rw [LU] at ez
   have hzs:z.cells.size=e.size:=by rw [← LJ,ez]; exact hz0.len
   have hnews:∀ j v,news[j]?=some v→m.w.cell? ((⟨xb,xoff,none⟩ : Addr).add j)=some v:=by
    intro j v hj
    have hjl:j < news.length:=(A3.1 hj).1
    rw [bd,bO y2,← seg_getElem? xc xoff news.length j hjl,← y4]
    exact hj
   have hge:=grownCap_ge m.w (l.length+xs.length) cap et
   have hcm:grownCap m.w (l.length+xs.length) cap et≤maxLen:=grownCap_le_maxLen _ _ _ _ (by unfold maxLen; omega)
   have hfits:Builtin.nextslicecap (l.length+xs.length) cap * inf.bytes≤281474976710656:=growslice_fits (by omega) (by
    have h1:(l.length+xs.length) * inf.bytes≤68719476736 * 2048:=Na hlim r3
    omega)
   have key:∃ olds,kn m.w m.F e olds l∧(Builtin.append_ #[t,t] o.type #[.slice ad l.length cap,.slice (some ⟨xb,xoff,none⟩) xs.length xcap]).run P m.w =
     .ok (.slice (some ⟨m.w.heap.size,0,none⟩) (l.length+xs.length) (grownCap m.w (l.length+xs.length) cap et))
      (m.w.drew.alloc (.cells (olds.toArray++news.toArray++Builtin.zeroCells z.cells (grownCap m.w (l.length+xs.length) cap et - (l.length+xs.length))) et)):=by
    by_cases hc0:cap=0
    ·have hl0:l=[]:=Lj (by omega)
     subst hl0
     subst hc0
     refine ⟨[],⟨by simp,by intro i hi; simp at hi⟩,?_⟩
     cases ad with
     | some ad=>exact run_append_grow (P:=P) m.w t o.type et inf z hu r1 r4 ad 0 0 [] (by simp) (by intro j v hj; simp at hj) ⟨xb,xoff,none⟩ xs.length xcap news (by rw [r2]; exact x2.1) hnews (by omega) (by simp only [LG] at hlim; omega) (by simpa using hfits)
     | none =>
      have hn0:Builtin.nextslicecap xs.length 0=xs.length:=nextslicecap_zero hkl
      have:=run_append_nil (P:=P) m.w t o.type et inf z hu r1 r4 ⟨xb,xoff,none⟩ xs.length xcap news (by rw [r2]; exact x2.1) hnews hkl (by simp only [LG] at hlim; omega) (by simp only [LG,Ln,hn0] at hfits; exact hfits)
      simpa using this
    ·obtain ⟨b,off,c,el,fz,rfl,c2,c3,c4,c5⟩:=b4 hc0
     have hmul:l.length * e.size≤cap * e.size:=K9 _ b2
     refine ⟨seg c off (l.length * e.size),po (by omega) c5,?_⟩
     have hsl:(seg c off (l.length * e.size)).length=l.length * e.size:=cA _ _ _ (by omega)
     exact run_append_grow (P:=P) m.w t o.type et inf z hu r1 r4 ⟨b,off,none⟩ l.length cap _ (by rw [r2]; exact hsl) (fun j v hj=>by
      have hjl:j < l.length * e.size:=by rw [← hsl]; exact (A3.1 hj).1
      rw [bd,bO c2,← seg_getElem? c off _ j hjl]
      exact hj) ⟨xb,xoff,none⟩ xs.length xcap news (by rw [r2]; exact x2.1) hnews (by omega) (by omega) hfits
   obtain ⟨olds,k1,hrun⟩:=key
   obtain ⟨m1,a1,a2,a3,a4,a5,a6⟩:=cS ids hi
   have mono:∀ {cs:List Value} {l:List e.den},kn m.w m.F e cs l→kn m1.w m1.F e cs l:=fun hc=>⟨hc.1,fun i hi=>(hc.2 i hi).mono a5.fro⟩
   have hsz:(olds.toArray++news.toArray++Builtin.zeroCells z.cells (grownCap m.w (l.length+xs.length) cap et - (l.length+xs.length))).size=grownCap m.w (l.length+xs.length) cap et * e.size:=by
    simp only [NO,M0,size_zeroCells,hzs,k1.1,x2.1,← Lf]
    congr 1
    omega
   obtain ⟨m',q1,q2,q3,q4,q5⟩:=qr (τ:=e) (l:=l++xs) (cap:=grownCap m.w (l.length+xs.length) cap et) (fz:=(0,0)) a4 (i:=i) (by rw [a3]; exact hfresh)
    (w1:=m.w.drew.alloc (.cells (olds.toArray++news.toArray++Builtin.zeroCells z.cells (grownCap m.w (l.length+xs.length) cap et - (l.length+xs.length))) et)) (by rw [a1]; exact eF m.w _)
    (by rw [a1]; exact bU m.w.drew _) (.inl (A7 _)) (by rw [Lu]; exact hge) hcm (by rw [hsz]; exact A7 _) (fun j hj=>by
     have:=nv (rest:=(Builtin.zeroCells z.cells (grownCap m.w (l.length+xs.length) cap et - (l.length+xs.length))).toList) (mono k1) (mono x2) j hj
     unfold seg
     simpa using this)
   refine Does.value (w':=m'.w) (v:=.slice (some ⟨m.w.heap.size,0,none⟩) (l.length+xs.length) (grownCap m.w (l.length+xs.length) cap et)) ?_ ⟨m',.av (.own i),rfl,?_,q3,a5.trans q4,by rw [Lu,a1] at q5; exact q5⟩
   ·simp [execOp,ho,resolve,invoke,builtin,hbv,hxv,hrun,q1]
   ·rw [← h,q2,a3,hG]
 ·simp at hr
theorem sG {t et ty:TypeId} {e:Ty} {n k cap:Nat} {ad xd:Option Addr} {xcap:Nat} {news:List Value} (hu:P.underlying t=some (.slice et)) (hck:chk P e none et=true) (w:World) (hn:n≤cap)
  (hb:cap≠0→∃ b off c el fz,ad=some ⟨b,off,none⟩∧w.heap[b]?=some (.cells c el fz)∧d8 e c.size fz∧off+cap * e.size≤c.size) (hx:news.length=k * e.size) (hone:∀ u∈news,u.oneCell'=true)
  (hxb:k≠0→∃ b off c el fz,xd=some ⟨b,off,none⟩∧w.heap[b]?=some (.cells c el fz)∧off+news.length≤c.size∧news=seg c off news.length) (hlim:n+k≤68719476736) :
  (cap=0∧k=0∧n=0∧(Builtin.append_ #[t,t] ty #[.slice ad n cap,.slice xd k xcap]).run P w=.ok (.slice ad 0 0) w) ∨
  (cap≠0∧n+k≤cap∧∀ b off c el fz,ad=some ⟨b,off,none⟩→w.heap[b]?=some (.cells c el fz)→(Builtin.append_ #[t,t] ty #[.slice ad n cap,.slice xd k xcap]).run P w=.ok (.slice (some ⟨b,off,none⟩) (n+k) cap) (w.setRow b (aF c (off+n * e.size) news))) ∨
  (∃ olds cells cap',olds.length=n * e.size∧(n≠0→∀ b off c el fz,ad=some ⟨b,off,none⟩→w.heap[b]?=some (.cells c el fz)→olds=seg c off (n * e.size))∧n+k≤cap'∧cap'≤maxLen∧cells.size=cap' * e.size ∧
   (∃ rest,cells.toList=olds++news++rest)∧(Builtin.append_ #[t,t] ty #[.slice ad n cap,.slice xd k xcap]).run P w=.ok (.slice (some ⟨w.heap.size,0,none⟩) (n+k) cap') (w.drew.alloc (.cells cells et))):=by
 obtain ⟨inf,z,r1,r2,r3,r4,r5,r6,r7⟩:=eI hck
 have hnews:∀ b off c el fz,xd=some ⟨b,off,none⟩→w.heap[b]?=some (.cells c el fz)→news=seg c off news.length→∀ j v,news[j]?=some v→w.cell? ((⟨b,off,none⟩ : Addr).add j)=some v:=by
  intro b off c el fz _ y2 y4 j v hj
  have hjl:j < news.length:=(A3.1 hj).1
  rw [bd,bO y2,← seg_getElem? c off news.length j hjl,← y4]
  exact hj
 have hfc:(Builtin.firstCells e.size k (.slice xd k xcap)).run P w=.ok news.toArray w:=by
  by_cases hk:k=0
  ·subst hk
   have:news=[]:=Lj (by rw [hx]; simp)
   subst this
   cases xd <;> simp [Builtin.firstCells,loadCells,loadCellsFrom]
  ·obtain ⟨b,off,c,el,fz,rfl,q2,q3,q4⟩:=hxb hk
   exact run_firstCells_some (P:=P) w e.size k _ _ _ news hx (hnews b off c el fz rfl q2 q4)
 by_cases hfit:n+k≤cap
 ·by_cases hc0:cap=0
  ·subst hc0
   have hn0:n=0:=by omega
   have hk0:k=0:=by omega
   subst hn0
   subst hk0
   have hn0:news=[]:=Lj (by rw [hx]; simp)
   subst hn0
   refine .inl ⟨rfl,rfl,rfl,?_⟩
   cases ad <;> simp [Builtin.append_,run_underlying hu,sizeOf,typeInfo,r1,r2,Builtin.lenOf,hfc,storeCells]
  ·refine .inr (.inl ⟨hc0,hfit,fun b off c el fz hb1 hb2=>?_⟩)
   obtain ⟨b',off',c',el',fz',e1,e2,c3,c4⟩:=hb hc0
   rw [hb1] at e1
   simp only [A1,Addr.mk.injEq,and_true] at e1
   obtain ⟨rfl,rfl⟩:=e1
   rw [hb2] at e2
   cases e2
   subst hb1
   have hmul:n * e.size+k * e.size≤cap * e.size:=by rw [← Lf]; exact K9 _ hfit
   have hst:=cH (P:=P) b (off+n * e.size) el fz news 0 c w hb2 c3 (by omega) hone
   simp only [L7] at hst
   have hst:(storeCells ⟨b,off+n * e.size,none⟩ news).run P w=.ok () (w.setRow b (aF c (off+n * e.size) news)):=hst
   simp [Builtin.append_,run_underlying hu,sizeOf,typeInfo,r1,r2,Builtin.lenOf,hfc,hfit,bd,hst]
 ·have hk:k≠0:=by omega
  obtain ⟨xb,xoff,xc,xel,xfz,rfl,y2,y3,y4⟩:=hxb hk
  obtain ⟨z0,ez,hz0,_⟩:=cD (m:=⟨w,fun _=>False,fun _=>undef,[]⟩) r5
  rw [LU] at ez
  have hzs:z.cells.size=e.size:=by rw [← LJ,ez]; exact hz0.len
  have hnews:=hnews xb xoff xc xel xfz rfl y2 y4
  have hge:=grownCap_ge w (n+k) cap et
  have hcm:grownCap w (n+k) cap et≤maxLen:=grownCap_le_maxLen _ _ _ _ (by unfold maxLen; omega)
  have hfits:Builtin.nextslicecap (n+k) cap * inf.bytes≤281474976710656:=growslice_fits (by omega) (by
   have h1:(n+k) * inf.bytes≤68719476736 * 2048:=Na hlim r3
   omega)
  have key:∃ olds:List Value,olds.length=n * e.size∧(n≠0→∀ b off c el fz,ad=some ⟨b,off,none⟩→w.heap[b]?=some (.cells c el fz)→olds=seg c off (n * e.size))∧(Builtin.append_ #[t,t] ty #[.slice ad n cap,.slice (some ⟨xb,xoff,none⟩) k xcap]).run P w =
    .ok (.slice (some ⟨w.heap.size,0,none⟩) (n+k) (grownCap w (n+k) cap et)) (w.drew.alloc (.cells (olds.toArray++news.toArray++Builtin.zeroCells z.cells (grownCap w (n+k) cap et - (n+k))) et)):=by
   by_cases hc0:cap=0
   ·subst hc0
    have hn0:n=0:=by omega
    subst hn0
    refine ⟨[],by simp,fun h=>absurd rfl h,?_⟩
    cases ad with
    | some ad=>exact run_append_grow (P:=P) w t ty et inf z hu r1 r4 ad 0 0 [] (by simp) (by intro j v hj; simp at hj) ⟨xb,xoff,none⟩ k xcap news (by rw [r2]; exact hx) hnews (by omega) (by omega) (by simpa using hfits)
    | none =>
     have hn0:Builtin.nextslicecap k 0=k:=nextslicecap_zero (by omega)
     have:=run_append_nil (P:=P) w t ty et inf z hu r1 r4 ⟨xb,xoff,none⟩ k xcap news (by rw [r2]; exact hx) hnews (by omega) (by omega) (by simp only [Ln,hn0] at hfits; exact hfits)
     simpa using this
   ·obtain ⟨b,off,c,el,fz,rfl,c2,c3,c4⟩:=hb hc0
    have hmul:n * e.size≤cap * e.size:=K9 _ hn
    have hsl:(seg c off (n * e.size)).length=n * e.size:=cA _ _ _ (by omega)
    refine ⟨seg c off (n * e.size),hsl,fun _ b' off' c' el' fz' e1 e2=>?_,?_⟩
    ·simp only [A1,Addr.mk.injEq,and_true] at e1
     obtain ⟨rfl,rfl⟩:=e1
     rw [c2] at e2
     cases e2
     rfl
    ·exact run_append_grow (P:=P) w t ty et inf z hu r1 r4 ⟨b,off,none⟩ n cap _ (by rw [r2]; exact hsl) (fun j v hj=>by
      have hjl:j < n * e.size:=by rw [← hsl]; exact (A3.1 hj).1
      rw [bd,bO c2,← seg_getElem? c off _ j hjl]
      exact hj) ⟨xb,xoff,none⟩ k xcap news (by rw [r2]; exact hx) hnews (by omega) (by omega) hfits
  obtain ⟨olds,k1,k2,hrun⟩:=key
  refine .inr (.inr ⟨olds,_,_,k1,k2,hge,hcm,?_,⟨(Builtin.zeroCells z.cells (grownCap w (n+k) cap et - (n+k))).toList,by simp⟩,hrun⟩)
  simp only [NO,M0,size_zeroCells,hzs,k1,hx,← Lf]
  congr 1
  omega
theorem rz (hi:Inv C w0 M m) {σ : Ty} {v:SV} {u:Value} {p:List (List σ.den)×List Nat} (h:oP m.G σ v=some p) (hr:RelSV m u v) :
  ∃ hs,DeepW m.w m.F u hs σ p.1 none∧(∀ v∈u :: hs,∀ b,HB v b→∃ id,id∈p.2∧∃ o,m.G.get id=some o∧isObj o=true∧HB (m.ι id) b)∧∀ id∈p.2,∃ o,m.G.get id=some o:=by
 unfold oP at h
 split at h
 ·cases h
  obtain ⟨ad,rfl⟩:=hr
  have hnb:∀ b,¬ HB (.slice ad 0 0) b:=fun b hb=>by cases ad <;> simp [HB,HB1] at hb
  exact ⟨[],⟨rfl,⟨ad,0,rfl,by simp,by unfold maxLen; omega,fun h=>absurd rfl h⟩,by intro i hi; simp at hi,(by intro i v hi; cases hi),LP _ _⟩,fun v hv b hb=>by simp at hv; subst hv; exact absurd hb (hnb b),by simp⟩
 ·rename_i id
  split at h
  ·rename_i ver τ l hg
   split at h
   ·rename_i x hx
    cases h
    obtain ⟨e,hx⟩:=au hx
    simp only [Ty.slice.injEq] at e
    subst e; subst hx
    obtain ⟨_,ob,hob,hv⟩:=hr
    rw [hg] at hob
    cases hob
    obtain ⟨us,v1,v2⟩:=hv
    obtain ⟨u',hs,d1,d2⟩:=cg hi hg
    rw [d1] at v1
    simp only [Value.tuple.injEq] at v1
    subst v1
    simp only [Lv,Lt,A1] at v2
    subst v2
    exact ⟨hs,d2,fun v hv b hb=>⟨id,by simp,_,hg,rfl,by rw [d1,bR d2.one]; exact ⟨v,hv,hb⟩⟩,fun k hk=>by simp at hk; subst hk; exact ⟨_,hg⟩⟩
   ·simp at h
  ·simp at h
 ·simp at h
theorem rH {t:TypeId} {x y:Operand} {σ : Ty} {l xs:List (List σ.den)×List Nat} {r:List (List σ.den)} (hT:dX P C.tab=true) (hi:Inv C w0 M m) (hG:m.G=s.G) (hS:∀ x,RelSV m (a.eval x) (ap C s.env x))
  (ho:o.op=.call { callee:=.builtin .append,args:=#[x,y],argTypes:=#[t,t] }) (ht:C.tab.get t=some (.slice (.slice σ)))
  (hl:oP s.G σ (ap C s.env x)=some l) (hx:oP s.G σ (ap C s.env y)=some xs) (hr:app l.1 xs.1=some r) (hnd:aK (l.2++xs.2)=true)
  (h:cv { env:=s.env,G:=am (l.2++xs.2) s.G } (o.dst.getD 0) (.deep 0 σ r none) (fun i s2=>some (aG o.dst (.av (.ownd i)) s2))=some s'):Does P o a m.w (Res C w0 M m s s' o.dst):=by
 unfold app at hr
 split at hr
 case isFalse=>simp at hr
 rename_i hlim
 simp only [A1] at hr
 subst hr
 have hlimv:lim=68719476736:=rfl
 rw [hlimv] at hlim
 obtain ⟨i,hfree,h⟩:=cu h
 simp only [A1] at h
 obtain ⟨et,hu,hck⟩:=bc (ak hT ht)
 rw [← hG] at hl hx
 obtain ⟨hs1,p1,p2,p3⟩:=rz hi hl (hS x)
 obtain ⟨hs2,q1,q2,q3⟩:=rz hi hx (hS y)
 obtain ⟨ad,cap,b1,b2,b3,b4⟩:=p1.outer
 obtain ⟨xd,xcap,x1,x2,x3,x4⟩:=q1.outer
 obtain ⟨n1,n2,n3⟩:=aT hnd
 -- the parts are wv
 obtain ⟨d1,d2,d3,d4⟩:=jN (l.2++xs.2) hi (fun id hid=>by
  rcases B1.1 hid with hid | hid
  ·exact p3 id hid
  ·exact q3 id hid)
 have f1:∀ v∈a.eval x :: hs1,cZ w0 M ⟨m.w,m.F,m.ι,am (l.2++xs.2) m.G⟩ v:=fun v hv b hb=>by
  obtain ⟨id,e1,ob,e2,e3,e4⟩:=p2 v hv b hb
  exact d4 id (by simp [e1]) ob e2 e3 b e4
 have f2:∀ v∈a.eval y :: hs2,cZ w0 M ⟨m.w,m.F,m.ι,am (l.2++xs.2) m.G⟩ v:=fun v hv b hb=>by
  obtain ⟨id,e1,ob,e2,e3,e4⟩:=q2 v hv b hb
  exact d4 id (by simp [e1]) ob e2 e3 b e4
 have hcross:∀ v∈a.eval x :: hs1,∀ v'∈a.eval y :: hs2,∀ b,HB v b→HB v' b→False:=by
  intro v hv v' hv' b hb hb'
  obtain ⟨id,e1,ob,e2,e3,e4⟩:=p2 v hv b hb
  obtain ⟨id',g1,ob',g2,g3,g4⟩:=q2 v' hv' b hb'
  have:=hi.inj id id' ob ob' b e2 e3 g2 g3 e4 g4
  subst this
  exact n3 id e1 g1
 have hap:cz (hs1++hs2):=by
  refine List.pairwise_append.2 ⟨(Lr.1 p1.apart).2,(Lr.1 q1.apart).2,fun v hv v' hv' b hb hb'=>?_⟩
  exact hcross v (Ll _ hv) v' (Ll _ hv') b hb hb'
 have hlen:(hs1++hs2).length=(l.1++xs.1).length:=by simp [p1.len,q1.len]
 have hinner:∀ k (h:k < (l.1++xs.1).length) v,(hs1++hs2)[k]?=some v→HdrW m.w m.F v σ (l.1++xs.1)[k]:=by
  intro k hk v hv
  rw [Lu] at hk
  by_cases hkl:k < l.1.length
  ·rw [L8 (by rw [p1.len]; exact hkl)] at hv
   rw [LB hkl]
   exact p1.inner k hkl v hv (by simp)
  ·rw [N5 (by rw [p1.len]; omega),p1.len] at hv
   rw [LS (by omega)]
   exact q1.inner (k - l.1.length) (by omega) v hv (by simp)
 have hone:∀ u∈hs2,u.oneCell'=true:=fun u hu=>q1.one u (Ll _ hu)
 have hbase:cap≠0→∃ b off c el fz,ad=some ⟨b,off,none⟩∧m.w.heap[b]?=some (.cells c el fz)∧d8 (.slice σ) c.size fz∧off+cap * (Ty.slice σ).size≤c.size:=by
  intro hc
  obtain ⟨b,off,c,el,fz,e1,e2,e3,e4,_⟩:=b4 hc
  exact ⟨b,off,c,el,fz,e1,e2,e3,by simp only [Ty.size,M4]; exact e4⟩
 have hxs:hs2.length=xs.1.length * (Ty.slice σ).size:=by simp [Ty.size,q1.len]
 have segEq:∀ {c:Array Value} {off n:Nat} {hs:List Value},hs.length=n→(∀ k,k < n→c[off+k]?=hs[k]?)→hs=seg c off n:=by
  intro c off n hs e1 e2
  apply MA
  intro k
  by_cases hk:k < n
  ·rw [seg_getElem? _ _ _ _ hk,e2 k hk]
  ·rw [Ml (by omega),Ml]
   unfold seg
   simp only [List.length_take,LY]
   omega
 have hxb:xs.1.length≠0→∃ b off c el fz,xd=some ⟨b,off,none⟩∧m.w.heap[b]?=some (.cells c el fz)∧off+hs2.length≤c.size∧hs2=seg c off hs2.length:=by
  intro hk
  obtain ⟨b,off,c,el,fz,e1,e2,e3,e4,e5⟩:=x4 (by omega)
  exact ⟨b,off,c,el,fz,e1,e2,by rw [q1.len]; omega,segEq rfl (fun k hk=>e5 k (by rw [← q1.len]; exact hk) (by simp))⟩
 have hfresh:Heap.get (am (l.2++xs.2) m.G) i=none:=by rw [hG]; exact hfree
 have hall:∀ v∈hs1++hs2,cZ w0 M ⟨m.w,m.F,m.ι,am (l.2++xs.2) m.G⟩ v:=by
  intro v hv
  rcases B1.1 hv with hv | hv
  ·exact f1 v (Ll _ hv)
  ·exact f2 v (Ll _ hv)
 rcases sG (ty:=o.type) (ad:=ad) (xd:=xd) (xcap:=xcap) (n:=l.1.length) hu hck m.w b2 hbase hxs hone hxb hlim with ⟨c1,c2,c3,hrun⟩ | ⟨c1,c2,hrun⟩ | ⟨olds,cells,cap',c1,c2,c3,c4,c5,⟨rest,c6⟩,hrun⟩
 ·have e1:l.1=[]:=Lj c3
  have e2:xs.1=[]:=Lj c2
  have e3:hs1=[]:=Lj (by rw [p1.len,c3])
  have hub:a.eval x=.slice ad 0 0:=by rw [b1,c3,c1]
  have hnb:∀ b,¬ HB (.slice ad 0 0) b:=fun b hb=>by cases ad <;> simp [HB,HB1] at hb
  obtain ⟨m',r1,r2,r3,r4,r5,r6,r7⟩:=ia (m:=⟨m.w,m.F,m.ι,am (l.2++xs.2) m.G⟩) d1 (i:=i) hfresh (u:=.slice ad 0 0) (hs:=[]) (τ:=σ) (l:=[]) ⟨rfl,⟨ad,0,rfl,by simp,by unfold maxLen; omega,fun h=>absurd rfl h⟩,by intro i hi; simp at hi,(by intro i v hi; cases hi),LP _ _⟩ (fun v hv b hb=>by simp at hv; subst hv; exact absurd hb (hnb b))
  refine Does.value (w':=m'.w) (v:=.slice ad 0 0) ?_ ⟨m',.av (.ownd i),rfl,?_,r5,d2.trans r6,(ah (a:=.ownd i) (by intros; simp)).2 r7⟩
  ·rw [c3,c1,c2] at hrun
   simp [execOp,ho,resolve,invoke,builtin,hub,x1,c2,hrun,r1]
  ·rw [← h,r3,hG,e1,e2]; rfl
 ·obtain ⟨b,off,c,el,fz,rfl,g2,g3,g4,g5⟩:=b4 c1
  have hrun:=hrun b off c el fz rfl g2
  simp only [Ty.size,M4] at hrun
  have hfit:off+l.1.length+hs2.length≤c.size:=by rw [q1.len]; omega
  have hub:∀ b',HB (a.eval x) b'→b'=b:=fun b' hb'=>by rw [b1] at hb'; exact hb'.2.symm
  have hbx:HB (a.eval x) b:=by rw [b1]; exact ⟨c1,rfl⟩
  obtain ⟨fb1,fb2,fb3,fb4⟩:=f1 _ (LL ..) b hbx
  have hw:=bX m.w b (aF c (off+l.1.length) hs2)
  obtain ⟨s1,s2⟩:=tq (m:=⟨m.w,m.F,m.ι,am (l.2++xs.2) m.G⟩) d1 (w1:=m.w.setRow b (aF c (off+l.1.length) hs2)) (Mc:=fun b'=>b'=b) ⟨hw.os,hw.tape,hw.output,by rw [hw.size]; exact A7 _,fun k _ hk=>hw.block k hk⟩ (fun b' hb'=>by subst hb'; exact ⟨fb1,fb2,fb4⟩)
  have hF:∀ b',m.F b'→m.F b'∧(m.w.setRow b (aF c (off+l.1.length) hs2)).heap[b']?=m.w.heap[b']?:=fun b' hb'=>⟨hb',hw.block b' (fun e=>fb2 (e ▸ hb'))⟩
  have hheap:(m.w.setRow b (aF c (off+l.1.length) hs2)).heap[b]?=some (.cells (aF c (off+l.1.length) hs2) el fz):=setRow_heap m.w b c _ el fz g2
  have hnb:∀ v∈hs1++hs2,¬ HB v b:=by
   intro v hv hb'
   rcases B1.1 hv with hv | hv
   ·exact (Lr.1 p1.apart).1 v hv b hbx hb'
   ·exact hcross _ (LL ..) v (Ll _ hv) b hbx hb'
  have hd:DeepW (m.w.setRow b (aF c (off+l.1.length) hs2)) m.F (.slice (some ⟨b,off,none⟩) (l.1.length+xs.1.length) cap) (hs1++hs2) σ (l.1++xs.1) none:=by
   refine ⟨hlen,⟨_,cap,by simp,by simpa using c2,b3,fun _=>⟨b,off,_,el,fz,rfl,hheap,by rw [bt _ _ _ hfit]; exact g3,by rw [bt _ _ _ hfit]; exact g4,fun k hk _=>?_⟩⟩,fun k hk v hv _=>?_,fun k v hk=>(by cases hk),?_⟩
   ·rw [cB _ _ _ hfit]
    rw [Lu] at hk
    by_cases hkl:k < l.1.length
    ·rw [if_neg (by omega),L8 (by rw [p1.len]; exact hkl)]
     exact g5 k hkl (by simp)
    ·rw [if_pos (by rw [q1.len]; omega),N5 (by rw [p1.len]; omega),p1.len]
     congr 1; omega
   ·refine (hinner k hk v hv).mono hF (fun b' hb'=>hw.block b' (fun e=>?_))
    subst e
    exact hnb v (B2 hv) hb'
   ·refine M6 (fun v hv b' hb1 hb2=>?_) hap
    have:b'=b:=hb1.2.symm
    subst this
    exact hnb v hv hb2
  obtain ⟨m',r1,r2,r3,r4,r5,r6,r7⟩:=ia (m:=⟨m.w.setRow b (aF c (off+l.1.length) hs2),m.F,m.ι,am (l.2++xs.2) m.G⟩) s1 (i:=i) hfresh hd (fun v hv b' hb'=>by
   have:∃ v',(v'=a.eval x∨v'∈hs1++hs2)∧HB v' b':=by
    rcases B3.1 hv with rfl | hv
    ·exact ⟨_,.inl rfl,by rw [b1]; exact ⟨c1,hb'.2⟩⟩
    ·exact ⟨v,.inr hv,hb'⟩
   obtain ⟨v',hv',hb'⟩:=this
   have hfr:cZ w0 M ⟨m.w,m.F,m.ι,am (l.2++xs.2) m.G⟩ v':=by
    rcases hv' with rfl | hv'
    ·exact f1 _ (LL ..)
    ·exact hall v' hv'
   obtain ⟨k1,k2,k3,k4⟩:=hfr b' hb'
   exact ⟨k1,k2,by show b' < (m.w.setRow b _).heap.size; rw [hw.size]; exact k3,k4⟩)
  refine Does.value (w':=m'.w) (v:=.slice (some ⟨b,off,none⟩) (l.1.length+xs.1.length) cap) ?_ ⟨m',.av (.ownd i),rfl,?_,r5,(d2.trans s2).trans r6,(ah (a:=.ownd i) (by intros; simp)).2 r7⟩
  ·simp [execOp,ho,resolve,invoke,builtin,b1,x1,hrun,r1]
  ·rw [← h,r3,hG]
 ·simp only [Ty.size,M4] at c1 c2 c5
  have holds:olds=hs1:=by
   by_cases hl0:l.1.length=0
   ·have e1:hs1=[]:=Lj (by rw [p1.len,hl0])
    have e2:olds=[]:=Lj (by rw [c1,hl0])
    rw [e1,e2]
   ·obtain ⟨b,off,c,el,fz,rfl,g2,g3,g4,g5⟩:=b4 (by omega)
    rw [c2 hl0 b off c el fz rfl g2]
    exact (segEq p1.len (fun k hk=>g5 k hk (by simp))).symm
  subst holds
  obtain ⟨m',r1,r2,r3,r4,r5⟩:=rf (m:=⟨m.w,m.F,m.ι,am (l.2++xs.2) m.G⟩) (τ:=σ) (l:=l.1++xs.1) (hs:=olds++hs2) (cap:=cap') (fz:=(0,0)) d1 (i:=i) hfresh (w1:=m.w.drew.alloc (.cells cells et)) (eF m.w _) (c:=cells) (el:=et)
   (bU m.w.drew _) (.inl (A7 _)) (by rw [Lu]; exact c3) c4 (by omega) hlen (fun k hk=>by
    rw [← Array.getElem?_toList,c6,L8 (by rw [hlen]; exact hk)]) hinner hap hall
  refine Does.value (w':=m'.w) (v:=.slice (some ⟨m.w.heap.size,0,none⟩) (l.1.length+xs.1.length) cap') ?_ ⟨m',.av (.ownd i),rfl,?_,r3,d2.trans r4,by rw [Lu] at r5; exact r5⟩
  ·simp [execOp,ho,resolve,invoke,builtin,b1,x1,hrun,r1]
  ·rw [← h,r2,hG]
theorem tV (hi:Inv C w0 M m) (site:Nat) {v:SV} {u:Value} (hr:RelSV m u v) :
  ∃ m1,m1.w=m.w∧m1.F=m.F∧m1.G=(bM site m.G v).2∧Inv C w0 M m1∧Evo m m1∧RelSV m1 u (bM site m.G v).1:=by
 have same {v:SV} (hr:RelSV m u v) (h:bM site m.G v=(v,m.G)):∃ m1,m1.w=m.w∧m1.F=m.F∧m1.G=(bM site m.G v).2∧Inv C w0 M m1∧Evo m m1∧RelSV m1 u (bM site m.G v).1:=by
  rw [h]; exact ⟨m,rfl,rfl,rfl,hi,Evo.refl m,hr⟩
 cases v with
 | av at' =>
  cases at' with
  | sub id ver j =>
   obtain ⟨_,ob,hob,hv⟩:=(ah (m:=m) (a:=.sub id ver j) (by intros; simp)).1 hr
   cases ob with
   | deep ver' σ l hole =>
    cases hole with
    | some _=>exact same hr (by simp [bM,hob])
    | none =>
     cases hc:(A8 ver ver' && !m.G.has (aO 8 m.G site)) with
     | false=>exact same hr (by simp only [bM,hob,hc,cond_false])
     | true =>
      have hc':=hc
      simp only [A4,Bool.not_eq_true'] at hc'
      obtain ⟨hver,hfr⟩:=hc'
      have:=A5 hver
      subst this
      obtain ⟨hj,_,hu⟩:=hv.2 rfl
      obtain ⟨m1,a1,a2,a3,a4,a5,a6⟩:=zT hi hob hj (gR hfr) hu
      have e:bM site m.G (.av (.sub id ver j))=(.av (.own (aO 8 m.G site)),(aO 8 m.G site,.arr σ l[j]) :: (id,.deep (ver+1) σ l (some j)) :: m.G):=by
       simp only [bM,hob,hc,cond_true,fP hj]
      rw [e]
      exact ⟨m1,a1,a2,a3,a4,a5,(ah (a:=.own _) (by intros; simp)).2 a6⟩
   | _=>exact same hr (by simp [bM,hob])
  | _=>exact same hr rfl
 | _=>exact same hr rfl
theorem Cn {args:Array Operand} {ats:Array TypeId} (hT:dX P C.tab=true) (hi:Inv C w0 M m) (hG:m.G=s.G) (hS:∀ x,RelSV m (a.eval x) (ap C s.env x))
  (ho:o.op=.call { callee:=.builtin .append,args,argTypes:=ats })
  (h:aA C o s some=some s'):Does P o a m.w (Res C w0 M m s s' o.dst):=by
 simp only [aA,ho] at h
 split at h
 ·rename_i t t' x y hat har
  have ha1:args=#[x,y]:=by rw [← Mv (xs:=args),har]
  have ha2:ats=#[t,t']:=by rw [← Mv (xs:=ats),hat]
  subst ha1
  subst ha2
  split at h
  ·rename_i e ht
   cases htt:A8 t t' with
   | false=>rw [htt] at h; simp at h
   | true =>
    rw [htt] at h
    simp only [cond_true] at h
    have htt:=A5 htt
    subst htt
    cases hnd:rv (ap C s.env y) with
    | true =>
     rw [hnd] at h
     simp only [cond_true] at h
     split at h
     ·rename_i σ _
      split at h
      ·rename_i l xs hl hx
       obtain ⟨r,hr,h⟩:=B6.1 h
       cases hn:aK (l.2++xs.2) with
       | false=>rw [hn] at h; simp at h
       | true =>
        rw [hn] at h
        exact rH hT hi hG hS ho ht hl hx hr hn h
      ·simp at h
     ·simp at h
    | false =>
     rw [hnd] at h
     simp only [cond_false] at h
     split at h
     ·rename_i l y0 xs hcut hsv
      obtain ⟨r,hr,h⟩:=B6.1 h
      exact tf hT hi hG hS ho ht hnd hcut hsv (by simp) hr h
     ·simp at h
     rename_i hcut
     split at h
     ·rename_i l ids xs hbase hsv
      obtain ⟨r,hr,h⟩:=B6.1 h
      obtain ⟨m1,a1,a2,a3,a4,a5,a6⟩:=tV hi (o.dst.getD 0) (hS x)
      rw [← hG] at hbase h
      obtain ⟨hH,hids⟩:=kD (s:=⟨s.env,(bM (o.dst.getD 0) m.G (ap C s.env x)).2⟩) a4 a3 hbase a6
      have hN:=pE hi hnd (hG ▸ hsv) (hS y)
      have:=sZ (s:=⟨s.env,(bM (o.dst.getD 0) m.G (ap C s.env x)).2⟩) (s':=s') (o:=o) (a:=a) hT a4 a3 ho ht hH hids (by rw [a1,a2]; exact hN) hr h
      rw [a1] at this
      intro K Q hK
      refine this K Q fun v w' hR=>hK v w' ?_
      obtain ⟨m',sv,k1,k2,k3,k4,k5⟩:=hR
      exact ⟨m',sv,k1,k2,k3,a5.trans k4,k5⟩
     ·simp at h
  ·simp at h
 ·simp at h
end
end Go.Vm

/-
 The machine's operations against the model's: clear.
-/
namespace Go.Vm
section
variable {P:Program} {C:Ctx} {w0:World} {M:Own} {o:Oper} {a:Act} {m:Mem} {s s':St}
end
end Go.Vm

/-
 The machine's operations against the model's: operators on two values; what a step comes to, by any continuation.
-/
namespace Go.Vm
def Ga (P:Program) (C:Ctx):Prop:=∀ t τ,C.tab.get t=some τ→τ.isAgg=true→(C.eqs.any fun e=>A8 e t)=true →
 ∀ (w:World) (F:Nat→Prop) (cs cs':List Value) (x y : τ.den) (r:Bool),eqT τ x y=some r→Rd w F τ cs x→Rd w F τ cs' y →
  (∀ w,(Op.equal t (toV τ cs) (toV τ cs')).run P w=.ok r w)∧∀ op p q w,(eqGuard op t p q (toV τ cs) (toV τ cs')).run P w=.ok () w
section
variable {P:Program} {C:Ctx} {w0:World} {M:Own} {o:Oper} {a:Act} {m:Mem} {s:St} {R:Type} {r:R} {K:St→Option R}
def Gm (C:Ctx) (w0:World) (M:Own) (m:Mem) (s:St) (dst:Option Nat) {R:Type} (K:St→Option R) (r:R) (v:Value) (w':World):Prop :=
 ∃ s',K s'=some r∧Res C w0 M m s s' dst v w'
theorem cl (hi:Inv C w0 M m) (hG:m.G=s.G) {v:Value} {sv:SV} (hrun:(execOp a.eval o).run P m.w=.ok (.value v) m.w) (hv:RelSV m v sv)
  (hs:K (aG o.dst sv s)=some r):Does P o a m.w (Gm C w0 M m s o.dst K r) :=
 Does.value hrun ⟨_,hs,m,sv,rfl,by rw [hG],hi,Evo.refl m,hv⟩
theorem tP {α : Type} {x y:Option α} {z : α} (h:ya x y=some z):x=some z∧y=some z:=by
 unfold ya at h
 split at h
 ·rename_i e; exact ⟨h,e ▸ h⟩
 ·simp at h
theorem Ds {op:BinOp} {xt yt:TypeId} {x y:Operand} (hT:dX P C.tab=true) (hE:Ga P C) (hi:Inv C w0 M m) (hG:m.G=s.G) (hS:∀ x,RelSV m (a.eval x) (ap C s.env x)) (ho:o.op=.binOp op xt x y yt)
  (h:aA C o s K=some r):Does P o a m.w (Gm C w0 M m s o.dst K r):=by
 simp only [aA,ho] at h
 have hx:=hS x
 have hy:=hS y
 have dd (v:Value) (hg:(eqGuard op xt x y (a.eval x) (a.eval y)).run P m.w=.ok () m.w) (hb:(binOp op xt (a.eval x) (a.eval y)).run P m.w=.ok v m.w) :
   (execOp a.eval o).run P m.w=.ok (.value v) m.w:=by
  simp [execOp,ho,hg,hb]
 split at h
 ·rename_i k p k' q hp hq
  rw [hp] at hx
  rw [hq] at hy
  obtain ⟨hx,hx1,hx2⟩:=rel_int hx
  obtain ⟨hy,_,_⟩:=rel_int hy
  cases hk:decide (k=k') with
  | false=>rw [hk] at h; simp at h
  | true =>
   have hk':k=k':=by simpa using hk
   subst hk'
   rw [hk] at h
   simp only [cond_true] at h
   have hg:=cJ (P:=P) op xt x y (u:=a.eval x) (v:=a.eval y) (.inl ⟨k,p,hx⟩) m.w
   split at h
   ·cases hz:eqI q 0 with
    | true=>rw [hz] at h; simp at h
    | false =>
     rw [hz] at h
     simp only [cond_false] at h
     have hq0:q≠0:=by intro e; subst e; simp [eqI] at hz
     exact cl hi hG (v:=.int k (i7 k p q)) (dd _ hg (by rw [hx,hy]; simp [binOp,Op.intDiv,hq0,i7])) (kU (wrap_within k _)) h
   ·cases hz:eqI q 0 with
    | true=>rw [hz] at h; simp at h
    | false =>
     rw [hz] at h
     simp only [cond_false] at h
     have hq0:q≠0:=by intro e; subst e; simp [eqI] at hz
     exact cl hi hG (v:=.int k (kO p q)) (dd _ hg (by rw [hx,hy]; simp [binOp,Op.intDiv,hq0,kO])) (kU (zi hx1 hx2)) h
   ·split at h
    ·rename_i r hr
     obtain ⟨v,hv,hrel⟩:=zO (m:=m) (P:=P) op xt k p q hr m.w
     exact cl hi hG (v:=v) (dd _ hg (by rw [hx,hy]; exact hv)) hrel h
    ·simp at h
 ·rename_i p q hp hq
  rw [hp] at hx
  rw [hq] at hy
  obtain ⟨hx,hx1⟩:=qa hx
  obtain ⟨hy,hy1⟩:=qa hy
  have hg:=cJ (P:=P) op xt x y (u:=a.eval x) (v:=a.eval y) (.inr (.inr (.inl ⟨p,hx⟩))) m.w
  split at h
  ·unfold Jo at h
   split at h
   ·rename_i hle
    simp only [Option.bind_some] at h
    have hlim:lim≤68719476736:=by unfold lim; omega
    have h63:¬ (((p.size+q.size:Nat):Int) > IntKind.i64.max):=by simp [IntKind.max,IntKind.signed,IntKind.bits]; omega
    exact cl hi hG (v:=.string (p++q)) (dd _ hg (by rw [hx,hy]; simp only [binOp,Op.stringOp]; rw [if_neg h63]; rfl)) (AA (by rw [size_append]; unfold maxLen; omega)) h
   ·simp at h
  ·cases op <;> simp only [HR] at h <;> try (simp at h; done)
   ·exact cl hi hG (v:=.bool (eqS p q)) (dd _ hg (by rw [hx,hy]; simp [binOp,Op.stringOp,eqS])) fu h
   ·exact cl hi hG (v:=.bool (neS p q)) (dd _ hg (by rw [hx,hy]; simp [binOp,Op.stringOp,neS])) fu h
 ·rename_i p q hp hq
  rw [hp] at hx
  rw [hq] at hy
  have hx:=rel_bool hx
  have hy:=rel_bool hy
  have hg:=cJ (P:=P) op xt x y (u:=a.eval x) (v:=a.eval y) (.inr (.inl ⟨p,hx⟩)) m.w
  cases hb:qJ (C.tab.get xt) with
  | false=>rw [hb] at h; simp at h
  | true =>
   rw [hb] at h
   simp only [cond_true] at h
   unfold qJ at hb
   split at hb
   ·rename_i ht
    have hu:=mg (ak hT ht)
    split at h
    ·exact cl hi hG (v:=.bool (eqB p q)) (dd _ hg (by rw [hx,hy]; exact run_eql_bool (P:=P) m.w xt p q hu)) fu h
    ·refine cl hi hG (v:=.bool (neB p q)) (dd _ hg (by
      rw [hx,hy]
      simp only [binOp]
      simp [run_equal_bool m.w xt p q hu,neB])) fu h
    ·simp at h
   ·simp at hb
 ·rename_i e l hp hq
  rw [hp] at hx
  cases hb:(np y && oL (C.tab.get xt)) with
  | false=>rw [hb] at h; simp at h
  | true =>
   rw [hb] at h
   simp only [cond_true] at h
   simp only [A4] at hb
   obtain ⟨hb1,hb2⟩:=hb
   have hyv:a.eval y=.slice none 0 0:=by
    cases y with
    | const v =>
     simp only [ap,SV.av.injEq] at hq
     simp only [Act.eval]
     unfold mi at hq
     split at hq
     ·rename_i k n
      cases hz:(decide (k.min≤n) && decide (n≤k.max)) <;> rw [hz] at hq <;> simp at hq
     ·simp at hq
     ·rename_i b
      cases hz:Lh b.size 1000000 <;> rw [hz] at hq <;> simp at hq
     ·rfl
     ·simp at hq
    | _=>simp [np] at hb1
   unfold oL at hb2
   split at hb2
   ·rename_i e' ht
    obtain ⟨et,hu,_⟩:=bc (ak hT ht)
    obtain ⟨ad,cap,hx,r1,r2,r3⟩:=gW hx
    have hg:=cJ (P:=P) op xt x y (u:=a.eval x) (v:=a.eval y) (.inr (.inr (.inr ⟨_,_,_,hx⟩))) m.w
    have hsome:l.isEmpty=false→ad.isNone=false:=by
     intro hl
     obtain ⟨b,off,c,el,fz,rfl,_⟩:=r3 (by intro e0; rw [e0] at hl; simp at hl)
     rfl
    split at h
    ·have hrun:(execOp a.eval o).run P m.w=.ok (.value (.bool ad.isNone)) m.w:=dd _ hg (by rw [hx,hyv]; simp only [binOp]; simp [run_equal_slice_nil m.w xt et ad _ cap hu])
     refine cl hi hG hrun fu ?_
     cases hl:l.isEmpty with
     | true =>
      rw [hl] at h
      obtain ⟨k1,k2⟩:=tP h
      cases ad.isNone <;> assumption
     | false=>rw [hl] at h; rw [hsome hl]; exact h
    ·have hrun:(execOp a.eval o).run P m.w=.ok (.value (.bool (!ad.isNone))) m.w:=dd _ hg (by rw [hx,hyv]; exact run_neq_slice_nil (P:=P) m.w xt et ad _ cap hu)
     refine cl hi hG hrun fu ?_
     cases hl:l.isEmpty with
     | true =>
      rw [hl] at h
      obtain ⟨k1,k2⟩:=tP h
      cases ad.isNone <;> assumption
     | false=>rw [hl] at h; rw [hsome hl]; exact h
    ·simp at h
   ·simp at hb2
 ·split at h
  ·rename_i τ ht
   cases hb:(τ.isAgg && C.eqs.any fun e=>A8 e xt) with
   | false=>rw [hb] at h; simp at h
   | true =>
    rw [hb] at h
    simp only [cond_true] at h
    simp only [A4] at hb
    obtain ⟨hb1,hb2⟩:=hb
    split at h
    ·rename_i p q hp hq
     obtain ⟨cs,e1,d1⟩:=dF hi (hG ▸ hp) hx
     obtain ⟨cs',e2,d2⟩:=dF hi (hG ▸ hq) hy
     split at h
     ·rename_i res hres
      have d1':Rd m.w (fun _=>True) τ cs p:=d1.mono (fun b _=>⟨trivial,rfl⟩)
      have d2':Rd m.w (fun _=>True) τ cs' q:=d2.mono (fun b _=>⟨trivial,rfl⟩)
      obtain ⟨k1,k2⟩:=hE xt τ ht hb1 hb2 m.w (fun _=>True) cs cs' p q res hres d1' d2'
      have hg:=k2 op x y m.w
      have k1:=k1 m.w
      rw [← e1,← e2] at hg k1
      have v1:a.eval x=.agg cs.toArray:=by rw [e1]; simp [toV,hb1]
      have v2:a.eval y=.agg cs'.toArray:=by rw [e2]; simp [toV,hb1]
      split at h
      ·exact cl hi hG (v:=.bool res) (dd _ hg (by rw [v1,v2] at k1 ⊢; simp only [binOp]; simp [k1])) fu h
      ·exact cl hi hG (v:=.bool (!res)) (dd _ hg (by rw [v1,v2] at k1 ⊢; simp only [binOp]; simp [k1])) fu h
      ·simp at h
     ·simp at h
    ·simp at h
  ·simp at h
end
end Go.Vm

/-
 The machine's operations against the model's: maps.
-/
namespace Go.Vm
structure MapTy (P:Program) (t:TypeId) (k v:Ty) (kt vt:TypeId):Prop where
 und:P.underlying t=some (.map kt vt)
 key:chk P k none kt=true
 val:chk P v none vt=true
 plain:k.plain=true
 more:k≠.unit
 flat:v.flat=true
 ask:∀ (w:World) (F:Nat→Prop) (cs:List Value) (x:k.den) (em:Bool),Rd w F k cs x→∀ w,(Instr.checkKey em 10000 kt (toV k cs)).run P w=.ok () w
 eq:∀ (w w':World) (F F':Nat→Prop) (cs cs':List Value) (x y:k.den),Rd w F k cs x→Rd w' F' k cs' y→∀ w,(Op.equal kt (toV k cs) (toV k cs')).run P w=.ok (eqK k x y) w
def uk (P:Program) (C:Ctx):Prop:=∀ t k v,lB C.maps t=some (k,v)→∃ kt vt,MapTy P t k v kt vt
theorem hZ:∀ {τ : Ty},τ.plain=true→τ.flat=true
 | .int _,_=>rfl
 | .bool,_=>rfl
 | .str,_=>rfl
 | .prod a b,h=>by
  simp only [Ty.plain,A4] at h
  simp only [Ty.flat,A4]
  exact ⟨hZ h.1,hZ h.2⟩
 | .unit,_=>rfl
 | .slice _,h=>by cases h
 | .arr _ _,h=>by cases h
 | .ptr _,h=>by cases h
 | .clo _ _,h=>by cases h
theorem jA {w:World} {F:Nat→Prop}:∀ {τ : Ty} {cs:List Value} {x : τ.den},τ.flat=true→Rd w F τ cs x→∀ (w':World) (F':Nat→Prop),Rd w' F' τ cs x
 | .int _,_,_,_,h,_,_=>h
 | .bool,_,_,_,h,_,_=>h
 | .str,_,_,_,h,_,_=>h
 | .prod a b,_,_,hf,h,_,_=>by
  simp only [Ty.flat,A4] at hf
  obtain ⟨c1,c2,h1,h2,h3⟩:=h
  exact ⟨c1,c2,h1,jA hf.1 h2 _ _,jA hf.2 h3 _ _⟩
 | .unit,_,_,_,h,_,_=>h
 | .arr n e,_,_,hf,h,_,_=>by
  obtain ⟨h1,h2,h3⟩:=h
  exact ⟨h1,h2,fun i hi=>jA (by simpa [Ty.flat] using hf) (h3 i hi) _ _⟩
 | .slice _,_,_,hf,_,_,_=>by simp [Ty.flat] at hf
 | .ptr _,_,_,hf,_,_,_=>by simp [Ty.flat] at hf
 | .clo _ _,_,_,hf,_,_,_=>by simp [Ty.flat] at hf
theorem toList_inj {a b:ByteArray} (h:a.toList=b.toList):a=b:=by
 rw [ByteArray.toList_eq,ByteArray.toList_eq] at h
 cases a; cases b
 simp only at h
 rw [Array.toList_inj.1 h]
theorem ua (a b:ByteArray):(a == b)=eqS a b:=by
 show (a.data == b.data)=(a.toList == b.toList)
 rw [Bool.eq_iff_iff,beq_iff_eq,beq_iff_eq,ByteArray.toList_eq,ByteArray.toList_eq]
 exact Array.toList_inj.symm
theorem qK:∀ {τ : Ty} {x y : τ.den},τ.plain=true→eqK τ x y=true→x=y
 | .int _,x,y,_,h=>by simpa [eqK,eqT,eqI] using h
 | .bool,x,y,_,h=>by simpa [eqK,eqT,eqB] using h
 | .str,x,y,_,h=>by simp only [eqK,eqT,eqS,beq_iff_eq] at h; exact toList_inj h
 | .prod a b,x,y,hp,h=>by
  simp only [Ty.plain,A4] at hp
  simp only [eqK,eqT] at h
  cases h1:eqT a x.1 y.1 with
  | none=>rw [h1] at h; simp at h
  | some p =>
   rw [h1] at h
   cases h2:eqT b x.2 y.2 with
   | none=>rw [h2] at h; simp at h
   | some q =>
    rw [h2] at h
    simp only [A4] at h
    have e1:=qK (τ:=a) (x:=x.1) (y:=y.1) hp.1 (by simp [eqK,h1,h.1])
    have e2:=qK (τ:=b) (x:=x.2) (y:=y.2) hp.2 (by simp [eqK,h2,h.2])
    exact Prod.ext e1 e2
 | .unit,_,_,_,_=>rfl
 | .slice _,_,_,h,_=>by cases h
 | .arr _ _,_,_,h,_=>by cases h
 | .ptr _,_,_,h,_=>by cases h
 | .clo _ _,_,_,h,_=>by cases h
theorem vw {w w':World} {F F':Nat→Prop}:∀ {τ : Ty} {cs cs':List Value} {x : τ.den},τ.plain=true→Rd w F τ cs x→Rd w' F' τ cs' x→cs=cs'
 | .int _,_,_,_,_,h,h'=>by rw [h.1,h'.1]
 | .bool,_,_,_,_,h,h'=>by unfold Rd at h h'; rw [h,h']
 | .str,_,_,_,_,h,h'=>by rw [h.1,h'.1]
 | .prod a b,_,_,_,hp,h,h'=>by
  simp only [Ty.plain,A4] at hp
  obtain ⟨c1,c2,rfl,h1,h2⟩:=h
  obtain ⟨d1,d2,rfl,h3,h4⟩:=h'
  rw [vw hp.1 h1 h3,vw hp.2 h2 h4]
 | .unit,_,_,_,_,h,h'=>by unfold Rd at h h'; rw [h,h']
 | .slice _,_,_,_,h,_,_=>by cases h
 | .arr _ _,_,_,_,h,_,_=>by cases h
 | .ptr _,_,_,_,h,_,_=>by cases h
 | .clo _ _,_,_,_,h,_,_=>by cases h
theorem qv {w:World} {F:Nat→Prop}:∀ {τ : Ty} {cs:List Value} {x : τ.den},τ.plain=true→Rd w F τ cs x→∀ u∈cs,∀ n,Instr.sameBits n u u=true
 | .int _,_,_,_,h,u,hu,n=>by obtain ⟨rfl,_⟩:=h; simp at hu; subst hu; cases n <;> simp [Instr.sameBits]
 | .bool,_,_,_,h,u,hu,n=>by unfold Rd at h; subst h; simp at hu; subst hu; cases n <;> simp [Instr.sameBits]
 | .str,_,_,_,h,u,hu,n=>by
  obtain ⟨rfl,_⟩:=h
  simp at hu
  subst hu
  cases n <;> simp [Instr.sameBits,ua,eqS]
 | .prod a b,_,_,hp,h,u,hu,n=>by
  simp only [Ty.plain,A4] at hp
  obtain ⟨c1,c2,rfl,h1,h2⟩:=h
  rcases B1.1 hu with hu | hu
  ·exact qv hp.1 h1 u hu n
  ·exact qv hp.2 h2 u hu n
 | .unit,_,_,_,h,u,hu,n=>by unfold Rd at h; subst h; simp at hu
 | .slice _,_,_,h,_,_,_,_=>by cases h
 | .arr _ _,_,_,h,_,_,_,_=>by cases h
 | .ptr _,_,_,h,_,_,_,_=>by cases h
 | .clo _ _,_,_,h,_,_,_,_=>by cases h
theorem FS {w:World} {F:Nat→Prop} {τ : Ty} {cs:List Value} {x : τ.den} (hp : τ.plain=true) (h:Rd w F τ cs x) (n:Nat):Instr.sameBits (n+1) (toV τ cs) (toV τ cs)=true:=by
 cases ha : τ.isAgg with
 | true =>
  simp only [toV,ha,cond_true,Instr.sameBits,beq_self_eq_true,Bool.true_and,Lg]
  rintro ⟨u,v⟩ huv
  have:u=v∧u∈cs:=by
   rw [LM] at huv
   obtain ⟨i,hi⟩:=huv
   rw [List.getElem?_zip_eq_some] at hi
   obtain ⟨h1,h2⟩:=hi
   simp only at h1 h2
   rw [h1] at h2
   exact ⟨B4 h2,B2 h1⟩
  obtain ⟨rfl,hu⟩:=this
  exact qv hp h u hu n
 | false =>
  obtain ⟨v,rfl,_⟩:=h.single ha
  simp only [toV,ha,cond_false,NZ]
  exact qv hp h v (by simp) _
section
variable {P:Program} {C:Ctx} {w0:World} {M:Own} {o:Oper} {a:Act} {m:Mem} {s:St} {R:Type} {r:R} {K:St→Option R}
theorem EntsW.cons {w:World} {F:Nat→Prop} {k v:Ty} {e:MapEntry} {es:List MapEntry} {p:k.den×v.den} {l:List (k.den×v.den)} (h:EntsW w F k v (e :: es) (p :: l)) :
  (∃ cs,e.key=toV k cs∧Rd w F k cs p.1)∧(∃ cs,e.val=toV v cs∧Rd w F v cs p.2)∧EntsW w F k v es l:=by
 refine ⟨(h.2 0 (by simp) (by simp)).1,(h.2 0 (by simp) (by simp)).2,by simpa using h.1,fun i h1 h2=>?_⟩
 have:=h.2 (i+1) (by simpa using h1) (by simpa using h2)
 simpa using this
theorem rM {t kt vt:TypeId} {k v:Ty} (hM:MapTy P t k v kt vt) {w:World} {F:Nat→Prop} {cs:List Value} {x:k.den} (hx:Rd w F k cs x):∀ {es:List MapEntry} {l:List (k.den×v.den)} (i:Nat),EntsW w F k v es l→∀ w',
  (Instr.findAsking kt (toV k cs) es i).run P w'=.ok ((cT k v x l).map fun j=>(i+j,(es[j]?.map (·.val)).getD undef)) w'
 | [],[],i,_,w'=>rfl
 | [],_ :: _,i,h,w'=>by have:=h.1; simp at this
 | _ :: _,[],i,h,w'=>by have:=h.1; simp at this
 | e :: es,p :: l,i,h,w'=>by
  obtain ⟨⟨c1,k1,k2⟩,_,k3⟩:=h.cons
  have hq:=hM.eq w w F F cs c1 x p.1 hx k2 w'
  simp only [Instr.findAsking,Sem.run_bind,k1,hq,Result.andThen_ok]
  cases hb:eqK k x p.1 with
  | true=>simp [cT,hb]
  | false =>
   simp only [LR,if_false]
   rw [rM hM hx (i+1) k3 w']
   simp only [cT,hb,cond_false,OO]
   congr 2
   funext j
   simp only [Function.comp_apply,Lp]
   rw [Lo,NM 1 j]
theorem qQ {k v:Ty} {d:TypeDesc} (hd:(∃ q,k=.int q∧d=.int q)∨(k=.bool∧d=.bool)∨(k=.str∧d=.string)) {w:World} {F:Nat→Prop} {cs:List Value} {x:k.den} (hx:Rd w F k cs x):∀ {es:List MapEntry} {l:List (k.den×v.den)} (i:Nat),EntsW w F k v es l →
  Instr.findNow d (toV k cs) es i=some ((cT k v x l).map fun j=>(i+j,(es[j]?.map (·.val)).getD undef))
 | [],[],i,_=>rfl
 | [],_ :: _,i,h=>by have:=h.1; simp at this
 | _ :: _,[],i,h=>by have:=h.1; simp at this
 | e :: es,p :: l,i,h=>by
  obtain ⟨⟨c1,k1,k2⟩,_,k3⟩:=h.cons
  have hs:Instr.sameNow d (toV k cs) e.key=some (eqK k x p.1):=by
   rw [k1]
   rcases hd with ⟨q,rfl,rfl⟩ | ⟨rfl,rfl⟩ | ⟨rfl,rfl⟩
   ·obtain ⟨rfl,_⟩:=hx; obtain ⟨rfl,_⟩:=k2; simp [toV,Ty.isAgg,Instr.sameNow,eqK,eqT,eqI]
   ·unfold Rd at hx k2; subst hx; subst k2; simp [toV,Ty.isAgg,Instr.sameNow,eqK,eqT,eqB]
   ·obtain ⟨rfl,_⟩:=hx; obtain ⟨rfl,_⟩:=k2
    simp only [toV,Ty.isAgg,cond_false,NZ,Instr.sameNow,eqK,eqT,ua]
  simp only [Instr.findNow,hs]
  cases hb:eqK k x p.1 with
  | true=>simp [cT,hb]
  | false =>
   simp only
   rw [qQ hd hx (i+1) k3]
   simp only [cT,hb,cond_false,OO]
   congr 2
   funext j
   simp only [Function.comp_apply,Lp]
   rw [Lo,NM 1 j]
theorem nG {t kt vt:TypeId} {k v:Ty} (hM:MapTy P t k v kt vt) {w:World} {F:Nat→Prop} {cs:List Value} {x:k.den} (hx:Rd w F k cs x) {es:List MapEntry} {l:List (k.den×v.den)} (h:EntsW w F k v es l) (w':World) :
  (Instr.findKey kt (toV k cs) es).run P w'=.ok ((cT k v x l).map fun j=>(j,(es[j]?.map (·.val)).getD undef)) w':=by
 have nonagg {d:TypeDesc} (hu:P.underlying kt=some d) (hd:(∃ q,k=.int q∧d=.int q)∨(k=.bool∧d=.bool)∨(k=.str∧d=.string)):(Instr.findKey kt (toV k cs) es).run P w'=.ok ((cT k v x l).map fun j=>(j,(es[j]?.map (·.val)).getD undef)) w':=by
  simp only [Instr.findKey,Sem.run_bind,run_underlying hu,Result.andThen_ok,qQ hd hx 0 h,Sem.run_pure,Ln]
 have agg (ha:k.isAgg=true):(Instr.findKey kt (toV k cs) es).run P w'=.ok ((cT k v x l).map fun j=>(j,(es[j]?.map (·.val)).getD undef)) w':=by
  obtain ⟨d,hu,_⟩:=kY hM.key
  have hask:=rM hM hx 0 h w'
  simp only [Ln] at hask
  simp only [Instr.findKey,Sem.run_bind,run_underlying hu,Result.andThen_ok]
  cases es with
  | nil =>
   cases l with
   | nil=>rfl
   | cons _ _=>have:=h.1; simp at this
  | cons e es =>
   have hn:Instr.findNow d (toV k cs) (e :: es) 0=none:=by
    have:Instr.sameNow d (toV k cs) e.key=none:=by
     simp only [toV,ha,cond_true]
     cases d <;> rfl
    simp only [Instr.findNow,this]
   rw [hn]
   exact hask
 have hp:=hM.plain
 cases k with
 | int q=>exact nonagg (rO hM.key) (.inl ⟨q,rfl,rfl⟩)
 | bool=>exact nonagg (mg hM.key) (.inr (.inl ⟨rfl,rfl⟩))
 | str=>exact nonagg (mJ hM.key) (.inr (.inr ⟨rfl,rfl⟩))
 | prod a b=>exact agg rfl
 | unit=>exact agg rfl
 | _=>cases hp
theorem m4 {k v:Ty} {x:k.den}:∀ {l:List (k.den×v.den)},dm k v x l=(cT k v x l).bind fun j=>l[j]?.map (·.2)
 | []=>rfl
 | p :: l=>by
  simp only [dm,cT]
  cases eqK k x p.1 with
  | true=>simp
  | false=>simp only [cond_false]; rw [m4]; cases cT k v x l <;> simp
theorem mS {k v:Ty} {x:k.den} {y:v.den}:∀ {l:List (k.den×v.den)},gF k v x y l=match cT k v x l with
  | none=>l++[(x,y)]
  | some j=>match l[j]? with
   | some p=>l.set j (p.1,y)
   | none=>l
 | []=>rfl
 | p :: l=>by
  simp only [gF,cT]
  cases eqK k x p.1 with
  | true=>simp
  | false =>
   simp only [cond_false]
   rw [mS]
   cases cT k v x l with
   | none=>simp
   | some j =>
    simp only [Mn,Lp,List.set_cons_succ]
    cases l[j]? <;> rfl
theorem oD {k v:Ty} {x:k.den}:∀ {l:List (k.den×v.den)} {j:Nat},cT k v x l=some j→∃ h:j < l.length,eqK k x l[j].1=true
 | [],_,h=>by simp [cT] at h
 | p :: l,j,h=>by
  simp only [cT] at h
  cases hb:eqK k x p.1 with
  | true=>rw [hb] at h; simp at h; subst h; exact ⟨by simp,hb⟩
  | false =>
   rw [hb] at h
   simp only [cond_false,MG] at h
   obtain ⟨j',h',rfl⟩:=h
   obtain ⟨h1,h2⟩:=oD h'
   exact ⟨by simp [h1],by simpa using h2⟩
theorem ka {k v k' v':Ty} {l:List (k'.den×v'.den)} {l':List (k.den×v.den)} (h:nO k v k' v' l=some l'):∃ (e1:k'=k) (e2:v'=v),e1 ▸ e2 ▸ l=l':=by
 unfold nO at h
 split at h
 ·rename_i e; exact ⟨e.1,e.2,by simpa using h⟩
 ·simp at h
theorem yz (hi:Inv C w0 M m) {id:Nat} {k v:Ty} (hk:k≠.unit) {l:List (k.den×v.den)} {u:Value} (hg:m.G.get id=some (.map k v l)) (hr:RelSV m u (.av (.ownm id))) :
  ∃ b es clock,u=.map (some b)∧m.ι id=.map (some b)∧m.w.heap[b]?=some (.map es clock)∧EntsW m.w m.F k v es.toList l:=by
 obtain ⟨_,ob,hob,hv⟩:=hr
 rw [hg] at hob
 cases hob
 rcases hi.objs id _ hg with ⟨_,b,es,clock,h1,h2,h3⟩ | ⟨h0,_⟩
 ·exact ⟨b,es,clock,hv.trans h1,h1,h2,h3⟩
 ·exact absurd h0 hk
theorem yM {t:TypeId} (hM:uk P C) (hi:Inv C w0 M m) (hG:m.G=s.G) (ho:o.op=.makeMap t none) {s':St}
  (h:aA C o s some=some s'):Does P o a m.w (Res C w0 M m s s' o.dst):=by
 simp only [aA,ho] at h
 split at h
 ·rename_i p hp
  obtain ⟨kt,vt,hT⟩:=hM t p.1 p.2 hp
  obtain ⟨i,hn,h⟩:=cu h
  simp only [A1] at h
  obtain ⟨g1,g2⟩:=nr hi (eR m.w (.map #[] 0)) (i:=i) (o:=.map p.1 p.2 []) (h:=.map (some m.w.heap.size)) (by rw [hG]; exact hn) (fun b hb=>by
   have hb:m.w.heap.size=b:=hb
   subst hb; exact ⟨A7 _,(Lw.1 (bU m.w (.map #[] 0))).1⟩) (.inl ⟨hT.more,m.w.heap.size,#[],0,by simp,bU m.w _,rfl,fun i hi=>by simp at hi⟩)
  refine Does.value (w':=m.w.alloc (.map #[] 0)) (v:=.map (some m.w.heap.size)) ?_ ⟨_,.av (.ownm i),rfl,?_,g1,g2,?_⟩
  ·simp [execOp,ho,Instr.makeMap]
  ·rw [← h,hG]
  ·exact (ah (a:=.ownm i) (by intros; simp)).2 ⟨rfl,.map p.1 p.2 [],by rw [Heap.get_cons,if_pos rfl],by simp⟩
 ·simp at h
theorem Gg (hi:Inv C w0 M m) {τ : Ty} {t:TypeId} (h:chk P τ none t=true):∃ z cs,(∀ w,(zeroValue t).run P w=.ok z w)∧z=toV τ cs∧Rd m.w m.F τ cs (az τ):=by
 obtain ⟨z,z1,z2,z3,z4⟩:=tR h
 obtain ⟨c,e,hr,_⟩:=cD (m:=m) z1
 rw [LU] at e
 refine ⟨z,c,z4,?_,hr⟩
 cases ha : τ.isAgg with
 | true =>
  obtain ⟨cc,rfl⟩:=z2 ha
  simp only [Value.cells] at e
  simp [toV,ha,← e]
 | false =>
  rw [z3 ha] at e
  simp only at e
  simp [toV,ha,← e]
theorem Cd {t:TypeId} {x ix:Operand} {ok:Bool} (hM:uk P C) (hi:Inv C w0 M m) (hG:m.G=s.G) (hS:∀ x,RelSV m (a.eval x) (ap C s.env x)) (ho:o.op=.lookup t x ix ok) {s':St}
  (h:aA C o s some=some s'):Does P o a m.w (Res C w0 M m s s' o.dst):=by
 simp only [aA,ho] at h
 split at h
 ·rename_i p id hp hx
  obtain ⟨k,v⟩:=p
  have hxr:=hS x
  rw [hx] at hxr
  split at h
  ·rename_i k' v' l hg
   obtain ⟨l',hl,h⟩:=B6.1 h
   obtain ⟨e1,e2,hl⟩:=ka hl
   simp only at e1 e2
   subst e1; subst e2
   simp only at hl
   subst hl
   split at h
   ·rename_i key hk
    obtain ⟨kt,vt,hT⟩:=hM t k' v' hp
    obtain ⟨b,es,clock,u1,_,u2,u3⟩:=yz hi hT.more (hG ▸ hg) hxr
    rw [← hG] at hk
    obtain ⟨cs,c1,c2⟩:=dF hi hk (hS ix)
    have c3:Rd m.w m.F k' cs key:=jA (hZ hT.plain) c2 _ _
    obtain ⟨z,zc,z1,z2,z3⟩:=Gg hi hT.val
    have hfind:=nG hT c3 u3 m.w
    have hask:=hT.ask m.w m.F cs key es.isEmpty c3 m.w
    have hund:P.underlying t=some (.map kt vt):=hT.und
    -- the value that comes
    obtain ⟨u,uc,w1,w2,w3⟩ : ∃ u uc,(Instr.lookup t (a.eval x) (a.eval ix) ok).run P m.w=.ok (if ok then .tuple #[u,.bool (dm k' v' key l).isSome] else u) m.w∧u=toV v' uc∧Rd m.w m.F v' uc ((dm k' v' key l).getD (az v')):=by
     rw [c1,u1]
     cases hix:cT k' v' key l with
     | none =>
      rw [hix] at hfind
      have hget:dm k' v' key l=none:=by rw [m4,hix]; rfl
      refine ⟨z,zc,?_,z2,by rw [hget]; exact z3⟩
      simp [Instr.lookup,run_underlying hund,MapKept.run_getObj_map u2,hask,hfind,z1,hget,Result.andThen]
     | some j =>
      rw [hix] at hfind
      obtain ⟨hj,_⟩:=oD hix
      have hje:j < es.toList.length:=by rw [u3.1]; exact hj
      obtain ⟨vc,v1,v2⟩:=(u3.2 j hje hj).2
      have hget:dm k' v' key l=some l[j].2:=by rw [m4,hix]; simp [A2 hj]
      refine ⟨es.toList[j].val,vc,?_,v1,by rw [hget]; exact v2⟩
      simp only [Mn,A2 hje,Nl] at hfind
      simp [Instr.lookup,run_underlying hund,MapKept.run_getObj_map u2,hask,hfind,hget,Result.andThen]
    have hlen:=w3.len
    cases ok with
    | true =>
     simp only [cond_true] at h
     refine aH hi hG (v:=.tuple #[u,.bool (dm k' v' key l).isSome]) (sv:=.tup [(v'.isAgg,eh v' ((dm k' v' key l).getD (az v'))),(false,[.val .bool (dm k' v' key l).isSome])]) ?_ ?_ h
     ·simp [execOp,ho,w1]
     ·refine ⟨[u,.bool (dm k' v' key l).isSome],rfl,?_,⟨_,rfl,⟨rfl,rfl⟩⟩,trivial⟩
      rw [w2]
      show gB m (toV v' uc) (v'.isAgg,eh v' _)
      have hr:=bA (m:=m) w3
      unfold gB
      cases ha:v'.isAgg with
      | true=>exact ⟨uc,by simp [toV,ha],w3.one,hr⟩
      | false =>
       obtain ⟨q,rfl,_⟩:=w3.single ha
       have hc:=hr.length
       obtain ⟨bb,hbb⟩:=List.length_eq_one_iff.1 (hc.symm.trans rfl)
       rw [hbb] at hr ⊢
       exact ⟨bb,rfl,by simpa [toV,ha] using hr.1⟩
    | false =>
     simp only [cond_false] at h
     refine aH hi hG (v:=u) (sv:=.av (.val v' ((dm k' v' key l).getD (az v')))) ?_ ⟨uc,w2,w3⟩ h
     simp [execOp,ho,w1]
   ·simp at h
  ·simp at h
 ·simp at h
theorem vH {t:TypeId} {x ix y:Operand} (hM:uk P C) (hi:Inv C w0 M m) (hG:m.G=s.G) (hS:∀ x,RelSV m (a.eval x) (ap C s.env x)) (ho:o.op=.mapUpdate t x ix y) {s':St}
  (h:aA C o s some=some s'):Does P o a m.w (Res C w0 M m s s' o.dst):=by
 simp only [aA,ho] at h
 split at h
 ·rename_i p id hp hx
  obtain ⟨k,v⟩:=p
  have hxr:=hS x
  rw [hx] at hxr
  split at h
  ·rename_i k' v' l hg
   obtain ⟨l',hl,h⟩:=B6.1 h
   obtain ⟨e1,e2,hl⟩:=ka hl
   simp only at e1 e2
   subst e1; subst e2
   simp only at hl
   subst hl
   split at h
   ·rename_i key val hk hy
    simp only [A1] at h
    obtain ⟨kt,vt,hT⟩:=hM t k' v' hp
    obtain ⟨b,es,clock,u1,u0,u2,u3⟩:=yz hi hT.more (hG ▸ hg) hxr
    rw [← hG] at hk hy
    obtain ⟨cs,c1,c2⟩:=dF hi hk (hS ix)
    have c3:Rd m.w m.F k' cs key:=jA (hZ hT.plain) c2 _ _
    obtain ⟨ys,d1,d2⟩:=dF hi hy (hS y)
    have d3:Rd m.w m.F v' ys val:=jA hT.flat d2 _ _
    have hfind:=nG hT c3 u3 m.w
    have hask:=hT.ask m.w m.F cs key false c3 m.w
    have hund:P.underlying t=some (.map kt vt):=hT.und
    have hb:=(Lw.1 u2).1
    have step {es':Array MapEntry} {clock':Nat} (hrun:(Instr.mapUpdate t (a.eval x) (a.eval ix) (a.eval y)).run P m.w=.ok () { m.w with heap:=m.w.heap.setIfInBounds b (.map es' clock') })
      (hents:EntsW m.w m.F k' v' es'.toList (gF k' v' key val l)):Does P o a m.w (Res C w0 M m s s' o.dst):=by
     have hw:Wrote m.w b { m.w with heap:=m.w.heap.setIfInBounds b (.map es' clock') }:=⟨rfl,rfl,rfl,by simp,fun q hq=>by simp [M9,Ne.symm hq]⟩
     obtain ⟨g1,g2⟩:=gX hi (id:=id) (o:=.map k' v' l) (o':=.map k' v' (gF k' v' key val l)) (b:=b) (hG ▸ hg) rfl (by rw [u0]; rfl) ⟨rfl,rfl⟩ hw (fun he =>
      .inl ⟨hT.more,b,es',clock',u0,by simp [M9,hb],hents.mono he.fro⟩)
     refine Does.skip (w':={ m.w with heap:=m.w.heap.setIfInBounds b (.map es' clock') }) (by simp [execOp,ho,hrun]) ⟨_,.av .undef,rfl,?_,g1,g2,rfl⟩
     rw [← h,hG]; rfl
    cases hix:cT k' v' key l with
    | none =>
     rw [hix] at hfind
     refine step (es':=es.push { key:=toV k' cs,val:=toV v' ys,born:=clock }) (clock':=clock+1) ?_ ?_
     ·rw [u1,c1,d1]
      simp [Instr.mapUpdate,run_underlying hund,MapKept.run_getObj_map u2,hask,hfind,MapKept.run_setObj_map _ u2,Result.andThen]
     ·have e:gF k' v' key val l=l++[(key,val)]:=by rw [mS,hix]
      rw [e,Array.toList_push]
      refine ⟨by simp [u3.1],fun i h1 h2=>?_⟩
      by_cases hil:i < l.length
      ·have hie:i < es.toList.length:=by rw [u3.1]; exact hil
       rw [LB hie,LB hil]
       exact u3.2 i hie hil
      ·have:i=l.length:=by simp at h2; omega
       subst this
       rw [LS (by rw [u3.1]; exact A7 _),LS (A7 _)]
       simp only [u3.1,Nat.sub_self,List.getElem_cons_zero]
       exact ⟨⟨cs,rfl,c3⟩,ys,rfl,d3⟩
    | some j =>
     rw [hix] at hfind
     obtain ⟨hj,heq⟩:=oD hix
     have hje:j < es.toList.length:=by rw [u3.1]; exact hj
     have hja:j < es.size:=by simpa using hje
     obtain ⟨⟨kc,k1,k2⟩,_⟩:=u3.2 j hje hj
     have hkey:key=l[j].1:=qK hT.plain heq
     have hkk:es.toList[j].key=toV k' cs:=by
      rw [k1]
      have:=vw hT.plain c3 (hkey ▸ k2)
      rw [this]
     refine step (es':=es.modify j fun e=>{ e with key:=toV k' cs,val:=toV v' ys }) (clock':=clock) ?_ ?_
     ·rw [u1,c1,d1]
      have hbits:=FS hT.plain c3 9999
      have hes:es[j]?=some es[j]:=Nj hja
      have hkk':es[j].key=toV k' cs:=by simpa using hkk
      simp only [Mn,A2 hje,Nl] at hfind
      simp [Instr.mapUpdate,run_underlying hund,MapKept.run_getObj_map u2,hask,hfind,MapKept.run_setObj_map _ u2,Result.andThen,hes,hkk',Instr.keyThatStays,hbits]
     ·have e:gF k' v' key val l=l.set j (l[j].1,val):=by rw [mS,hix]; simp [A2 hj]
      rw [e]
      refine ⟨by simp [← u3.1],fun i h1 h2=>?_⟩
      simp only [List.length_set] at h2
      have hie:i < es.toList.length:=by rw [u3.1]; exact h2
      by_cases hij:j=i
      ·subst hij
       simp only [Oi,Oj,if_true,List.getElem_set_self]
       exact ⟨⟨cs,rfl,hkey ▸ c3⟩,ys,rfl,d3⟩
      ·have:=u3.2 i hie h2
       simp only [Oi,Oj,if_neg hij,List.getElem_set_ne hij]
       simpa using this
   ·simp at h
  ·simp at h
 ·simp at h
end
end Go.Vm

/-
 What an operation comes to does not hang on what goes on behind it.
-/
namespace Go.Vm
section
variable {C:Ctx} {s:St} {R S:Type} {K:S→Option R}
theorem aS {x y:Option R} {x0 y0:Option S} {b:Bool} (h1:x=x0.bind K) (h2:y=y0.bind K):cond b x y=(cond b x0 y0).bind K:=by
 cases b <;> assumption
theorem nZ {c:Prop} [Decidable c] {x y:Option R} {x0 y0:Option S} (h1:x=x0.bind K) (h2:y=y0.bind K):(if c then x else y)=(if c then x0 else y0).bind K:=by
 split <;> assumption
theorem bp {α : Type} {x:Option α} {F : α→Option R} {F0 : α→Option S} (h:∀ a,F a=(F0 a).bind K):x.bind F=(x.bind F0).bind K:=by
 cases x with
 | none=>rfl
 | some a=>exact h a
theorem cN {site:Nat} {ob:Obj} {F:Nat→St→Option R} {F0:Nat→St→Option S} (h:∀ i s,F i s=(F0 i s).bind K):cv s site ob F=(cv s site ob F0).bind K :=
 aS rfl (h _ _)
theorem jX {v:SV} {F:Int→Option R} {F0:Int→Option S} (h:∀ n,F n=(F0 n).bind K):asI v F=(asI v F0).bind K:=by
 unfold asI; split
 ·exact h _
 ·rfl
theorem pf {v:SV} {F:Int→Option R} {F0:Int→Option S} (h:∀ n,F n=(F0 n).bind K):mq v F=(mq v F0).bind K:=by
 unfold mq; split
 ·exact h _
 ·rfl
theorem Dz {e:Env} {d:Int} {x:Option Operand} {F:Int→Option R} {F0:Int→Option S} (h:∀ n,F n=(F0 n).bind K):Ce C e d x F=(Ce C e d x F0).bind K:=by
 cases x with
 | none=>exact h _
 | some x=>exact jX h
theorem xC {t:Nat} {x:SV} {i:Int} {F:Atom→Option R} {F0:Atom→Option S} (h:∀ n,F n=(F0 n).bind K):indexAt C s t x i F=(indexAt C s t x i F0).bind K:=by
 unfold indexAt; split
 ·exact bp fun _=>h _
 ·split
  ·exact bp fun _=>h _
  ·rfl
 ·split
  ·exact bp fun _=>h _
  ·rfl
 ·split
  ·exact bp fun _=>h _
  ·rfl
 ·split
  ·exact bp fun _=>h _
  ·rfl
 ·split
  ·exact aS (bp fun _=>h _) rfl
  ·rfl
 ·exact bp fun _=>h _
 ·split
  ·exact nZ (h _) rfl
  ·rfl
 ·rfl
theorem zY {τ : Ty} {p:Atom} {F:SV→Option R} {F0:SV→Option S} (h:∀ n,F n=(F0 n).bind K):loadAt s τ p F=(loadAt s τ p F0).bind K:=by
 unfold loadAt; split
 ·split
  ·split
   ·exact h _
   ·rfl
  ·rfl
 ·split
  ·refine bp fun _=>?_
   split
   ·split
    ·exact h _
    ·rfl
   ·rfl
  ·exact aS (h _) rfl
  ·rfl
 ·split
  ·refine aS (bp fun _=>?_) rfl
   split
   ·exact h _
   ·rfl
  ·rfl
 ·split
  ·exact h _
  ·rfl
 ·rfl
theorem FC {hole:Option Nat} {j:Nat} {F:Option R} {F0:Option S} (h:F=F0.bind K):xl hole j F=(xl hole j F0).bind K:=by
 unfold xl; split
 ·exact h
 ·exact nZ h rfl
theorem xD {τ : Ty} {p:Atom} {v:SV} {F:St→Option R} {F0:St→Option S} (h:∀ n,F n=(F0 n).bind K):storeAt s τ p v F=(storeAt s τ p v F0).bind K:=by
 unfold storeAt; split
 ·split
  ·split
   ·refine aS ?_ rfl
    split
    ·exact h _
    ·rfl
   ·rfl
  ·rfl
 ·split
  ·split
   ·refine bp fun _=>?_
    split
    ·exact aS rfl (h _)
    ·rfl
   ·rfl
  ·refine aS ?_ rfl
   split
   ·exact FC (h _)
   ·rfl
  ·rfl
 ·split
  ·refine aS ?_ rfl
   split
   ·exact h _
   ·rfl
  ·rfl
 ·rfl
theorem Ci {v:SV} {F:Int→Option R} {F0:Int→Option S} (h:∀ n,F n=(F0 n).bind K):lenOf s v F=(lenOf s v F0).bind K:=by
 unfold lenOf; split
 ·exact h _
 ·exact h _
 ·exact h _
 ·split
  ·exact h _
  ·rfl
 ·split
  ·exact h _
  ·rfl
 ·split
  ·exact h _
  ·rfl
 ·split
  ·exact h _
  ·rfl
 ·split
  ·exact aS (h _) rfl
  ·rfl
 ·rfl
theorem mI {mx:Bool} {F:Int→Option R} {F0:Int→Option S} (h:∀ n,F n=(F0 n).bind K):∀ (l:List SV) (a:Int),lj mx a l F=(lj mx a l F0).bind K
 | [],a=>h a
 | v :: l,a=>pf fun b=>mI h l _
theorem kJ {x:SV} {lo:Int} {hi mx:Option Int} {F:SV→Option R} {F0:SV→Option S} (h:∀ n,F n=(F0 n).bind K):fc s x lo hi mx F=(fc s x lo hi mx F0).bind K:=by
 unfold fc; split
 ·exact bp fun _=>h _
 ·exact bp fun _=>h _
 ·exact nZ (h _) rfl
 ·exact nZ (h _) rfl
 ·split
  ·exact bp fun _=>h _
  ·rfl
 ·exact bp fun _=>h _
 ·split
  ·exact bp fun _=>nZ (h _) rfl
  ·rfl
 ·rfl
theorem mR {site f:Nat} {vs:List SV} {F:SV→St→Option R} {F0:SV→St→Option S} (h:∀ v s,F v s=(F0 v s).bind K):gE C s site f vs F=(gE C s site f vs F0).bind K:=by
 unfold gE; split
 case h_2=>rfl
 unfold jD; split
 ·split
  ·refine bp fun _=>aS ?_ rfl
   split
   ·split
    ·split
     ·exact h _ _
     ·rfl
    ·rfl
   ·rfl
  ·rfl
 ·rfl
end
section
variable {C:Ctx} {s:St} {R:Type} {K:St→Option R} {o:Oper}
theorem tN (hb:∀ op xt x y yt,o.op≠.binOp op xt x y yt):aA C o s K=(aA C o s some).bind K:=by
 obtain ⟨oo,hoo⟩ : ∃ oo,oo=o.op:=⟨_,rfl⟩
 unfold aA
 dsimp only
 rw [← hoo] at hb ⊢
 clear hoo
 split
 ·rfl
 ·rfl
 ·split
  ·exact aS rfl rfl
  ·rfl
 ·split
  ·exact cN fun _ _=>rfl
  ·rfl
 ·split
  ·split
   ·exact cN fun _ _=>rfl
   ·rfl
  ·rfl
 ·split
  ·refine aS ?_ rfl
   split
   ·rfl
   ·rfl
  ·rfl
 ·split
  ·refine aS (aS ?_ ?_) rfl
   ·split
    ·split
     ·exact aS (cN fun _ _=>rfl) rfl
     ·rfl
    ·rfl
   ·split
    ·exact cN fun _ _=>rfl
    ·rfl
  ·rfl
 ·split
  ·exact zY fun _=>rfl
  ·rfl
 ·split
  ·exact xD fun _=>rfl
  ·rfl
 ·split
  ·split
   ·rfl
   ·rfl
  ·split
   ·rfl
   ·rfl
   ·rfl
  ·rfl
  ·rfl
  ·rfl
  ·rfl
 ·exact absurd rfl (hb _ _ _ _ _)
 ·split
  ·rfl
  ·rfl
  ·rfl
 ·split
  ·exact jX fun _=>jX fun _=>bp fun _=>cN fun _ _=>rfl
  ·rfl
 ·refine Dz fun _=>aS rfl ?_
  split
  ·exact kJ fun _=>rfl
  ·exact jX fun _=>kJ fun _=>rfl
  ·exact jX fun _=>jX fun _=>kJ fun _=>rfl
  ·rfl
 ·split
  ·split
   ·split
    ·exact aS rfl rfl
    ·rfl
   ·rfl
  ·split
   ·split
    ·refine aS ?_ rfl
     split
     ·exact aS rfl rfl
     ·rfl
    ·rfl
   ·rfl
  ·split
   ·refine aS ?_ rfl
    split
    ·exact aS rfl rfl
    ·rfl
   ·rfl
  ·rfl
 ·exact jX fun _=>aS (xC fun _=>rfl) rfl
 ·split
  ·split
   ·rfl
   ·rfl
   ·rfl
  ·rfl
 ·split
  ·exact cN fun _ _=>rfl
  ·rfl
 ·split
  ·split
   ·refine bp fun _=>?_
    split
    ·exact aS rfl rfl
    ·rfl
   ·rfl
  ·rfl
 ·split
  ·split
   ·refine bp fun _=>?_
    split
    ·rfl
    ·rfl
   ·rfl
  ·rfl
 ·split
  ·rfl
  ·split
   ·exact bp fun _=>rfl
   ·rfl
  ·split
   ·rfl
   ·rfl
  ·rfl
 ·split
  ·exact aS (Ci fun _=>rfl) rfl
  ·rfl
 ·split
  ·exact pf fun _=>by refine mI ?_ _ _; intro n; rfl
  ·rfl
 ·split
  ·exact pf fun _=>by refine mI ?_ _ _; intro n; rfl
  ·rfl
 ·split
  ·split
   ·refine aS (aS ?_ ?_) rfl
    ·split
     ·split
      ·exact bp fun _=>aS (cN fun _ _=>rfl) rfl
      ·rfl
     ·rfl
    ·split
     ·exact bp fun _=>cN fun _ _=>rfl
     ·rfl
     ·split
      ·exact bp fun _=>cN fun _ _=>rfl
      ·rfl
   ·rfl
  ·rfl
 ·split
  ·exact mR fun _ _=>rfl
  ·exact mR fun _ _=>rfl
  ·split
   ·exact mR fun _ _=>rfl
   ·rfl
  ·rfl
 ·rfl
end
end Go.Vm

/-
 What a call asks and what it gives, in terms of memory.
-/
namespace Go.Vm
def ax:List (Mode×Ty)→List Value→List Value
 | (.rd,_) :: r,_ :: us=>ax r us
 | (_,_) :: r,u :: us=>u :: ax r us
 | _,_=>[]
def aX:List (Mode×Ty)→List Value→List Value
 | (.upd,_) :: r,u :: us=>u :: aX r us
 | (.box _,_) :: r,u :: us=>u :: aX r us
 | (_,_) :: r,_ :: us=>aX r us
 | _,_=>[]
def kW (w:World) (F:Nat→Prop) (d:Bool):(e:Ty)→Value→List e.den→Prop
 | .slice σ,g,x=>cond d (∃ u hs,g=.tuple (u :: hs).toArray∧DeepW w F u hs σ x none) (HdrW w F g (.slice σ) x)
 | e,g,x=>HdrW w F g e x
def aJ:Value→Value
 | .tuple us=>us.getD 0 undef
 | v=>v
def eZ:Value→List Value
 | .tuple us=>us.toList
 | v=>[v]
theorem jv {v:Value} {b:Nat}:HB v b↔∃ u∈eZ v,HB1 u b:=by
 cases v <;> simp [HB,eZ]
def BoxRd (w:World) (F:Nat→Prop) (k:List Nat):(o:Nat)→(τ : Ty)→List Value→τ.den→Prop
 | o,.prod a b,cs,x=>∃ c1 c2,cs=c1++c2∧BoxRd w F k o a c1 x.1∧BoxRd w F k (o+a.size) b c2 x.2
 | o,.slice e,cs,x=>cond (A8 (dJ k o) 0) (Rd w F (.slice e) cs x) (∃ u,cs=[u]∧kW w F (A8 (dJ k o) 2) e u x)
 | _,.unit,cs,_=>cs=[]
 | _,.int k,cs,x=>Rd w F (.int k) cs x
 | _,.bool,cs,x=>Rd w F .bool cs x
 | _,.str,cs,x=>Rd w F .str cs x
 | _,_,_,_=>False
def bz (k:List Nat):(o:Nat)→(τ : Ty)→List Value→List Value
 | o,.prod a b,cs=>bz k o a (cs.take a.size)++bz k (o+a.size) b (cs.drop a.size)
 | o,.slice _,cs=>cond (A8 (dJ k o) 0) [] cs
 | _,_,_=>[]
def nV (p:Value) (hs:List Value):Value:=.tuple (p :: hs.flatMap eZ).toArray
theorem me {p:Value} {hs:List Value} {b:Nat}:HB (nV p hs) b↔HB1 p b∨∃ u∈hs,HB u b:=by
 unfold nV
 simp only [HB,B3,MT]
 constructor
 ·rintro ⟨u,rfl | ⟨h,hh,hu⟩,hb⟩
  ·exact .inl hb
  ·exact .inr ⟨h,hh,jv.2 ⟨u,hu,hb⟩⟩
 ·rintro (hb | ⟨h,hh,hb⟩)
  ·exact ⟨p,.inl rfl,hb⟩
  ·obtain ⟨u,hu,hb⟩:=jv.1 hb
   exact ⟨u,.inr ⟨h,hh,hu⟩,hb⟩
def GR (w:World) (F:Nat→Prop) (k:List Nat) (T:Ty) (u:Value) (x:T.den):Prop :=
 ∃ b c el cs,u=nV (.pointer (some ⟨b,0,none⟩)) (bz k 0 T cs)∧w.heap[b]?=some (.cells c el (0,0))∧c.toList=cs.map aJ∧BoxRd w F k 0 T cs x∧cz (.pointer (some ⟨b,0,none⟩) :: bz k 0 T cs)
def ArgRd (w:World) (F:Nat→Prop):Mode→(τ : Ty)→Value→τ.den→Prop
 | .rd,τ,u,x=>∃ cs,u=toV τ cs∧Rd w F τ cs x
 | .upd,.slice e,u,x=>HdrW w F u e x
 | .take,.slice e,u,x=>HdrW w F u e x
 | .box k,.ptr T,u,x=>GR w F k T u x
 | _,_,_,_=>False
def ArgsRd (w:World) (F:Nat→Prop):(ins:List (Mode×Ty))→List Value→(aB (ins.map (·.2))).den→Prop
 | [],[],_=>True
 | p :: r,u :: us,x=>ArgRd w F p.1 p.2 u x.1∧ArgsRd w F r us x.2
 | _,_,_=>False
structure Pre (glob:List (Nat×(Σ t:Ty,t.den))) (w:World) (F:Nat→Prop) (ins:List (Mode×Ty)) (us:List Value) (x:(aB (ins.map (·.2))).den):Prop where
 args:ArgsRd w F ins us x
 own:∀ u∈ax ins us,∀ b,HB u b→¬ F b∧b < w.heap.size
 apart:cz (ax ins us)
 fro:∀ b,F b→b < w.heap.size
 glob:∀ g τ x,eK glob g=some ⟨τ,x⟩→Rd w F (.ptr τ) [.pointer (some ⟨g,0,none⟩)] x
def OwnRd (w:World) (F:Nat→Prop) (d:Bool):(τ : Ty)→List Value→τ.den→Prop
 | .prod a b,cs,x=>∃ c1 c2,cs=c1++c2∧OwnRd w F d a c1 x.1∧OwnRd w F d b c2 x.2
 | .unit,cs,_=>cs=[]
 | .slice e,cs,x=>∃ u,cs=[u]∧kW w F d e u x
 | .int k,cs,x=>Rd w F (.int k) cs x
 | .bool,cs,x=>Rd w F .bool cs x
 | .str,cs,x=>Rd w F .str cs x
 | _,_,_=>False
def aR:(τ : Ty)→List Value→List Value
 | .prod a b,cs=>aR a (cs.take a.size)++aR b (cs.drop a.size)
 | .slice _,cs=>cs
 | _,_=>[]
def OutsRd (w:World) (F:Nat→Prop) (d:Bool):(outs:List (Bool×Ty))→List (List Value)→(aB (outs.map (·.2))).den→Prop
 | [],[],_=>True
 | p :: r,cs :: css,x=>cond p.1 (OwnRd w F d p.2 cs x.1) (Rd w F p.2 cs x.1)∧OutsRd w F d r css x.2
 | _,_,_=>False
def bZ:List (Bool×Ty)→List (List Value)→List Value
 | p :: r,cs :: css=>cond p.1 (aR p.2 cs) []++bZ r css
 | _,_=>[]
def kg:List (Bool×Ty)→List (List Value)→List Value
 | p :: r,cs :: css=>toV p.2 (cond p.1 (cs.map aJ) cs) :: kg r css
 | _,_=>[]
def iI:List Value→Value
 | [u]=>u
 | us=>.tuple us.toArray
def MutsRd (w:World) (F:Nat→Prop):(ins:List (Mode×Ty))→List Value→(aB (aY ins)).den→Prop
 | [],_,_=>True
 | (.rd,_) :: r,_ :: us,y=>MutsRd w F r us y
 | (.take,_) :: r,_ :: us,y=>MutsRd w F r us y
 | (.upd,.slice e) :: r,u :: us,y=>HdrW w F u e y.1∧MutsRd w F r us y.2
 | (.box k,.ptr T) :: r,u :: us,y=>GR w F k T u y.1∧MutsRd w F r us y.2
 | _,_,_=>False
def mB:List (Mode×Ty)→List Value→List Value→Prop
 | [],[],[]=>True
 | (.box _,_) :: r,u :: us,u' :: us'=>aJ u'=aJ u∧mB r us us'
 | _ :: r,u :: us,u' :: us'=>u'=u∧mB r us us'
 | _,_,_=>False
def cP (l:List Value) (b:Nat):Prop:=∃ u∈l,HB u b
structure PostB (w:World) (F:Nat→Prop) (ins:List (Mode×Ty)) (us us':List Value) (outs:List (Bool×Ty)) (r:(aB (outs.map (·.2)++aY ins)).den) (v:Value) (w':World) (F2:Nat→Prop) (css:List (List Value)) (d:Bool:=false):Prop where
 kept:Kept w (cP (ax ins us)) w'
 fro:∀ b,F b→F2 b
 f2:∀ b,F2 b→b < w'.heap.size∧(F b∨cP (ax ins us) b∨w.heap.size≤b)
 val:v=iI (kg outs css)
 res:OutsRd w' F2 d outs css (ep (outs.map (·.2)) (aY ins) r).1
 muts:MutsRd w' F2 ins us' (ep (outs.map (·.2)) (aY ins) r).2
 apart:cz (bZ outs css++aX ins us')
 own:∀ u∈bZ outs css++aX ins us',∀ b,HB u b→(w.heap.size≤b∨cP (ax ins us) b)∧¬ F2 b∧b < w'.heap.size
abbrev xy (w:World) (F:Nat→Prop) (ins:List (Mode×Ty)) (us:List Value) (outs:List (Bool×Ty)) (r:(aB (outs.map (·.2)++aY ins)).den) (v:Value) (w':World) (F2:Nat→Prop) (css:List (List Value)) (d:Bool:=false):Prop :=
 PostB w F ins us us outs r v w' F2 css d
def Goes (P:Program) (f:FuncId) (vs:Array Value) (w:World) (R:Value→World→Prop):Prop :=
 ((callFunc f vs).run P w=.ok (.enter f vs) w∧Calls P f vs w fun e w'=>∃ v,e=.returned v∧R v w')∨∃ v w',(callFunc f vs).run P w=.ok (.value v) w'∧R v w'
def Con.Holds (P:Program) (glob:List (Nat×(Σ t:Ty,t.den))) (f:FuncId) (c:Con):Prop :=
 ∀ (w:World) (F:Nat→Prop) (us:List Value) (x:(aB (c.ins.map (·.2))).den) (r:(aB (c.outs.map (·.2)++aY c.ins)).den),Pre glob w F c.ins us x→c.fn x=some r →
  Goes P f (us.map aJ).toArray w fun v w'=>∃ us' F2 css,mB c.ins us us'∧PostB w F c.ins us us' c.outs r v w' F2 css c.deep
section
variable {P:Program} {C:Ctx} {w0:World} {M:Own} {o:Oper} {a:Act} {m:Mem} {s s':St}
theorem Rd.flat {w:World} {F:Nat→Prop}:∀ {τ : Ty} {cs:List Value} {x : τ.den},τ.flat=true→Rd w F τ cs x→∀ (w':World) (F':Nat→Prop),Rd w' F' τ cs x
 | .int _,_,_,_,h,_,_=>h
 | .bool,_,_,_,h,_,_=>h
 | .str,_,_,_,h,_,_=>h
 | .prod a b,_,_,hf,h,_,_=>by
  simp only [Ty.flat,A4] at hf
  obtain ⟨c1,c2,h1,h2,h3⟩:=h
  exact ⟨c1,c2,h1,Rd.flat hf.1 h2 _ _,Rd.flat hf.2 h3 _ _⟩
 | .unit,_,_,_,h,_,_=>h
 | .arr n e,_,_,hf,h,_,_=>by
  obtain ⟨h1,h2,h3⟩:=h
  exact ⟨h1,h2,fun i hi=>Rd.flat (by simpa [Ty.flat] using hf) (h3 i hi) _ _⟩
 | .slice _,_,_,hf,_,_,_=>by simp [Ty.flat] at hf
 | .ptr _,_,_,hf,_,_,_=>by simp [Ty.flat] at hf
 | .clo _ _,_,_,hf,_,_,_=>by simp [Ty.flat] at hf
theorem HdrW.flat {w:World} {F F':Nat→Prop} {u:Value} {e:Ty} {l:List e.den} (hf:e.flat=true) (h:HdrW w F u e l):HdrW w F' u e l:=by
 obtain ⟨ad,cap,h1,h2,h3,h4⟩:=h
 refine ⟨ad,cap,h1,h2,h3,fun hc=>?_⟩
 obtain ⟨b,off,c,el,fz,q1,q2,q3,q4,q5⟩:=h4 hc
 exact ⟨b,off,c,el,fz,q1,q2,q3,q4,fun i hi=>(q5 i hi).flat hf _ _⟩
theorem bV {v:Value} (h:v.oneCell'=true):aJ v=v:=by
 cases v <;> simp_all [aJ,Value.oneCell']
theorem Ct {cs:List Value} (h:∀ u∈cs,u.oneCell'=true):cs.map aJ=cs:=by
 induction cs with
 | nil=>rfl
 | cons c cs ih =>
  simp only [Li]
  rw [bV (h c (by simp)),ih fun u hu=>h u (by simp [hu])]
theorem kE {w:World} {F:Nat→Prop} {d:Bool} {e:Ty} {g:Value} {x:List e.den} (h:kW w F d e g x) :
  (iW d e x=.arr e x∧(∀ i,fL d e i=.own i)∧HdrW w F g e x)∨∃ σ y,e=.slice σ∧d=true∧iW d e x=.deep 0 σ y none∧(∀ i,fL d e i=.ownd i)∧∃ u hs,g=.tuple (u :: hs).toArray∧DeepW w F u hs σ y none:=by
 cases e with
 | slice σ =>
  cases d with
  | true=>exact .inr ⟨σ,x,rfl,rfl,rfl,fun _=>rfl,h⟩
  | false=>exact .inl ⟨rfl,fun _=>rfl,h⟩
 | _=>exact .inl ⟨by cases d <;> rfl,fun _=>by cases d <;> rfl,h⟩
theorem tH {w:World} {F:Nat→Prop} {d:Bool} {e:Ty} {g:Value} {x:List e.den} (h:kW w F d e g x):(aJ g).oneCell'=true:=by
 rcases kE h with ⟨_,_,h⟩ | ⟨σ,y,_,_,_,_,u,hs,rfl,_⟩
 ·have:=bq h
  rw [bV this]; exact this
 ·rename_i hd
  show ((u :: hs).toArray.getD 0 undef).oneCell'=true
  simpa using hd.one u (by simp)
theorem m7 {w w':World} {F F':Nat→Prop} (hF:∀ b,F b→F' b∧w'.heap[b]?=w.heap[b]?) {d:Bool} {e:Ty} {g:Value} {x:List e.den} (hu:∀ b,HB g b→w'.heap[b]?=w.heap[b]?) (h:kW w F d e g x):kW w' F' d e g x:=by
 cases e with
 | slice σ =>
  cases d with
  | true =>
   obtain ⟨u,hs,rfl,h⟩:=h
   exact ⟨u,hs,rfl,h.mono hF fun v hv b hb=>hu b ((bR h.one).2 ⟨v,hv,hb⟩)⟩
  | false=>exact HdrW.mono (e:=.slice σ) hF hu h
 | _=>exact HdrW.mono hF hu h
theorem bI {w:World} {F:Nat→Prop} {τ : Ty} {cs:List Value} {x : τ.den} (h:Rd w F τ cs x):cs.map aJ=cs:=Ct h.one
theorem BoxRd.len {w:World} {F:Nat→Prop} {k:List Nat}:∀ {o:Nat} {τ : Ty} {cs:List Value} {x : τ.den},BoxRd w F k o τ cs x→cs.length=τ.size
 | _,.prod a b,_,_,h=>by obtain ⟨c1,c2,rfl,h1,h2⟩:=h; simp [Ty.size,h1.len,h2.len]
 | _,.unit,_,_,h=>by unfold BoxRd at h; subst h; rfl
 | o,.slice e,_,_,h=>by
  unfold BoxRd at h
  cases hk:A8 (dJ k o) 0 with
  | true=>rw [hk] at h; exact Rd.len (τ:=.slice e) h
  | false=>rw [hk] at h; obtain ⟨u,rfl,_⟩:=h; rfl
 | _,.int k,_,_,h=>Rd.len (τ:=.int k) h
 | _,.bool,_,_,h=>Rd.len (τ:=.bool) h
 | _,.str,_,_,h=>Rd.len (τ:=.str) h
 | _,.arr _ _,_,_,h=>h.elim
 | _,.ptr _,_,_,h=>h.elim
 | _,.clo _ _,_,_,h=>h.elim
theorem BoxRd.one {w:World} {F:Nat→Prop} {k:List Nat}:∀ {o:Nat} {τ : Ty} {cs:List Value} {x : τ.den},BoxRd w F k o τ cs x→∀ u∈cs.map aJ,u.oneCell'=true
 | _,.prod a b,_,_,h=>by
  obtain ⟨c1,c2,rfl,h1,h2⟩:=h
  intro u hu
  rw [List.map_append] at hu
  rcases B1.1 hu with hu | hu
  ·exact h1.one u hu
  ·exact h2.one u hu
 | _,.unit,_,_,h=>by unfold BoxRd at h; subst h; simp
 | o,.slice e,cs,_,h=>by
  unfold BoxRd at h
  cases hk:A8 (dJ k o) 0 with
  | true=>rw [hk] at h; rw [bI (τ:=.slice e) h]; exact Rd.one (τ:=.slice e) h
  | false =>
   rw [hk] at h
   obtain ⟨u,rfl,h⟩:=h
   intro u' hu
   simp only [Li,O1,List.mem_singleton] at hu
   subst hu
   exact tH h
 | _,.int k,cs,_,h=>by rw [bI (τ:=.int k) h]; exact Rd.one (τ:=.int k) h
 | _,.bool,cs,_,h=>by rw [bI (τ:=.bool) h]; exact Rd.one (τ:=.bool) h
 | _,.str,cs,_,h=>by rw [bI (τ:=.str) h]; exact Rd.one (τ:=.str) h
 | _,.arr _ _,_,_,h=>h.elim
 | _,.ptr _,_,_,h=>h.elim
 | _,.clo _ _,_,_,h=>h.elim
theorem BoxRd.mono {w w':World} {F F':Nat→Prop} {k:List Nat} (hF:∀ b,F b→F' b∧w'.heap[b]?=w.heap[b]?):∀ {o:Nat} {τ : Ty} {cs:List Value} {x : τ.den},BoxRd w F k o τ cs x→(∀ u∈bz k o τ cs,∀ b,HB u b→w'.heap[b]?=w.heap[b]?)→BoxRd w' F' k o τ cs x
 | o,.prod a b,_,_,h,hu=>by
  obtain ⟨c1,c2,rfl,h1,h2⟩:=h
  simp only [bz,← h1.len,List.take_left,MZ] at hu
  exact ⟨c1,c2,rfl,h1.mono hF (fun u hu'=>hu u (by simp [hu'])),h2.mono hF (fun u hu'=>hu u (B1.2 (.inr (by rw [h1.len]; exact hu'))))⟩
 | _,.unit,_,_,h,_=>h
 | o,.slice e,_,_,h,hu=>by
  unfold BoxRd at h ⊢
  unfold bz at hu
  cases hk:A8 (dJ k o) 0 with
  | true=>rw [hk] at h; exact Rd.mono (τ:=.slice e) hF h
  | false =>
   rw [hk] at h hu
   obtain ⟨u,rfl,h⟩:=h
   exact ⟨u,rfl,m7 hF (hu u (by simp)) h⟩
 | _,.int k,_,_,h,_=>Rd.mono (τ:=.int k) hF h
 | _,.bool,_,_,h,_=>Rd.mono (τ:=.bool) hF h
 | _,.str,_,_,h,_=>Rd.mono (τ:=.str) hF h
 | _,.arr _ _,_,_,h,_=>h.elim
 | _,.ptr _,_,_,h,_=>h.elim
 | _,.clo _ _,_,_,h,_=>h.elim
theorem ArgRd.mono {w:World} {F F':Nat→Prop} (hF:∀ b,F b→F' b) {md:Mode} {τ : Ty} {u:Value} {x : τ.den} (h:ArgRd w F md τ u x):ArgRd w F' md τ u x:=by
 cases md with
 | rd=>obtain ⟨cs,h1,h2⟩:=h; exact ⟨cs,h1,h2.mono fun b hb=>⟨hF b hb,rfl⟩⟩
 | upd=>cases τ <;> first | exact HdrW.mono (fun b hb=>⟨hF b hb,rfl⟩) (fun _ _=>rfl) h | exact h.elim
 | take=>cases τ <;> first | exact HdrW.mono (fun b hb=>⟨hF b hb,rfl⟩) (fun _ _=>rfl) h | exact h.elim
 | box k =>
  cases τ <;> first | exact h.elim | skip
  obtain ⟨b,c,el,cs,h1,h2,h3,h4,h5⟩:=h
  exact ⟨b,c,el,cs,h1,h2,h3,BoxRd.mono (fun b hb=>⟨hF b hb,rfl⟩) h4 (fun _ _ _ _=>rfl),h5⟩
theorem lF {G:Heap} {τ : Ty} {r:List (Mode×Ty)} {v:SV} {vs:List SV}:aP G ((.rd,τ) :: r) (v :: vs)=(eH G v++(aP G r vs).1,(aP G r vs).2):=rfl
theorem kp {G:Heap} {τ : Ty} {r:List (Mode×Ty)} {v:SV} {vs:List SV}:aP G ((.upd,τ) :: r) (v :: vs)=((aP G r vs).1,bD v++(aP G r vs).2):=rfl
theorem i6 {G:Heap} {τ : Ty} {r:List (Mode×Ty)} {v:SV} {vs:List SV}:aP G ((.take,τ) :: r) (v :: vs)=((aP G r vs).1,bD v++(aP G r vs).2):=rfl
def Ib (m:Mem) (v:SV) (u:Value):Prop:=∀ b,HB u b→∃ id o,bD v=[id]∧m.G.get id=some o∧isObj o=true∧HB (m.ι id) b
theorem nT (hi:Inv C w0 M m) {τ : Ty} {v:SV} {x : τ.den} {u:Value} (hv:aW m.G τ v=some x) (hr:RelSV m u v) (hk:v=.av .nils∨(∃ id,v=.av (.own id))∨∃ id o n,v=.av (.view id o n)) :
  ArgRd m.w m.F .take τ u x∧Ib m v u∧(bD v=[]∨∃ id o,bD v=[id]∧m.G.get id=some o∧isObj o=true):=by
 cases τ with
 | slice e =>
  have key:gA ⟨[],m.G⟩ e v=some (x,bD v):=by
   rcases hk with rfl | ⟨id,rfl⟩ | ⟨id,off,n,rfl⟩
   ·simp only [aW,Ty.isAgg,cond_false,aE,A1] at hv
    subst hv
    rfl
   ·simp only [aW,Ty.isAgg,cond_false,aE] at hv
    cases hg:m.G.get id with
    | none=>rw [hg] at hv; simp at hv
    | some ob =>
     cases ob with
     | arr σ l =>
      rw [hg] at hv
      obtain ⟨he,hx⟩:=au hv
      cases he
      subst hx
      simp [gA,hg,bG,bD,bf]
     | box _=>rw [hg] at hv; simp at hv
     | dead=>rw [hg] at hv; simp at hv
     | deep _ _ _ _=>rw [hg] at hv; simp at hv
     | map _ _ _=>rw [hg] at hv; simp at hv
   ·simp only [aW,Ty.isAgg,cond_false,aE] at hv
    cases hg:m.G.get id with
    | none=>rw [hg] at hv; simp at hv
    | some ob =>
     cases ob with
     | arr σ l =>
      rw [hg] at hv
      obtain ⟨he,hx⟩:=au hv
      cases he
      subst hx
      simp [gA,hg,bG,bD,bf]
     | box _=>rw [hg] at hv; simp at hv
     | dead=>rw [hg] at hv; simp at hv
     | deep _ _ _ _=>rw [hg] at hv; simp at hv
     | map _ _ _=>rw [hg] at hv; simp at hv
  obtain ⟨h1,h2⟩:=kD (s:=⟨[],m.G⟩) hi rfl key hr
  refine ⟨h1,?_,?_⟩
  ·intro b hbl
   rcases h2 with ⟨_,ad,rfl⟩ | ⟨id,ob,h2,h3,h4,h5⟩
   ·cases ad <;> simp [HB,HB1] at hbl
   ·refine ⟨id,ob,h2,h3,h4,?_⟩
    rcases h5 with h5 | ⟨ad,n,rfl⟩
    ·exact h5 b hbl
    ·cases ad <;> simp [HB,HB1] at hbl
  ·rcases h2 with ⟨h2,_⟩ | ⟨id,ob,h2,h3,h4,h5⟩
   ·exact .inl h2
   ·exact .inr ⟨id,ob,h2,h3,h4⟩
 | _ =>
  exfalso
  rcases hk with rfl | ⟨id,rfl⟩ | ⟨id,off,n,rfl⟩ <;> simp [aW,Ty.isAgg,aE] at hv
theorem fg {τ : Ty} {r:List (Mode×Ty)} {v:SV} {vs:List SV} {x:(aB (aY ((.take,τ) :: r))).den} {G G':Heap} (h:ac ((.take,τ) :: r) (v :: vs) x G=some G') :
  (v=.av .nils∨(∃ id,v=.av (.own id))∨∃ id o n,v=.av (.view id o n))∧ac r vs x (am (bD v) G)=some G':=by
 simp only [ac] at h
 split at h
 ·exact ⟨.inl rfl,h⟩
 ·exact ⟨.inr (.inl ⟨_,rfl⟩),h⟩
 ·exact ⟨.inr (.inr ⟨_,_,_,rfl⟩),h⟩
 ·simp at h
theorem fO {e:Ty} {r:List (Mode×Ty)} {v:SV} {vs:List SV} {x:(aB (aY ((.upd,.slice e) :: r))).den} {G G':Heap} (h:ac ((.upd,.slice e) :: r) (v :: vs) x G=some G') :
  (v=.av .nils∧ac r vs x.2 G=some G')∨∃ id,v=.av (.own id)∧ac r vs x.2 ((id,.arr e x.1) :: G)=some G':=by
 simp only [ac] at h
 split at h
 ·exact .inl ⟨rfl,h⟩
 ·exact .inr ⟨_,rfl,h⟩
 ·simp at h
end
end Go.Vm

