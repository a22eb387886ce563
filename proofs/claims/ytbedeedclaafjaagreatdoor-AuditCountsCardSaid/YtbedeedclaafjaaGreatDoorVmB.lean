/-
 A machine on typed values, small enough to be reckoned by the kernel, and the proof that it goes with the model: part 2 of 4. What it computes for a function is that function's contract. No condition of its own.
-/
import Derived.Test.YtbedeedclaafjaaGreatDoorVmA
import Derived.Lib.ConvBytes
import Derived.Laws.BytesArg
import Derived.Laws.Tables
import Derived.ArgAppend
import Derived.WalkSpells
import Derived.Laws.StructEq
import Derived.Laws.Cover3
import Derived.MapKept
set_option linter.unusedVariables false
set_option linter.unusedSimpArgs false
/-
 The machine's operations against the model's: places, lengths, parts.
-/
namespace Go.Vm
section
variable {P : Program} {C : Ctx} {w0 : World} {M : Own} {o : Oper} {a : Act} {m : Mem} {s s' : St}
theorem k8 {R : Type} {v : SV} {K : Int→Option R} {r : R} (h : ks v K=some r) : ∃ n : Int,v=.av (.val (.int .i64) n)∧K n=some r:=by
 unfold ks at h
 split at h
 ·exact ⟨_,rfl,h⟩
 ·simp at h
theorem hO {τ σ : Ty} {t : TypeId} {f q : Nat} (hck : chk P τ none t=true) (hf : τ.field f=some (q,σ)) (hp : 1≤σ.size) (b off : Nat) (w : World) :
  (Instr.fieldAt t (.pointer (some ⟨b,off,none⟩)) f).run P w=.ok (.pointer (some ⟨b,off+q,none⟩)) w:=by
 obtain ⟨fs,fd,h1,h2,h3,h4⟩:=px hck hf
 have hs:=aJ h4 w
 have h0 : σ.size≠0:=by omega
 simp [Instr.fieldAt,run_underlying h1,h2,Instr.sureAddr,fieldPlace,hs,h0,h3,aD]
theorem rU {t : TypeId} {x : Operand} {f : Nat} (hT : cp P C.tab=true) (hi : Inv C w0 M m) (hG : m.G=s.G) (hS : ∀ x,RelSV m (a.eval x) (aj C s.env x)) (ho : o.op=.fieldAddr t x f)
  (h : al C o s some=some s') : Does P o a m.w (Res C w0 M m s s' o.dst):=by
 simp only [al,ho] at h
 have hx:=hS x
 split at h
 ·rename_i id off hp
  rw [hp] at hx
  obtain ⟨_,ob,hob,hv⟩:=(ak (m:=m) (a:=.ptr id off) (by intros; simp)).1 hx
  rw [hG] at hob
  split at h
  ·rename_i l τ hl ht
   have hck:=ac hT ht
   rw [hl] at hob
   simp only [Option.some.injEq] at hob
   subst hob
   obtain ⟨b,hι,hv⟩:=hv
   split at h
   ·rename_i o' t' hf
    cases hb : Nat.ble 1 t'.size with
    | false=>rw [hb] at h; simp at h
    | true =>
     rw [hb] at h
     have hpos:=Nat.le_of_ble_eq_true hb
     exact am hi hG (v:=.pointer (some ⟨b,off+o',none⟩)) (sv:=.av (.ptr id (off+o'))) (by simp [execOp,ho,hv,hO hck hf hpos]) (show ah m _ (.ptr id (off+o')) from ⟨rfl,.box l,hG ▸ hl,b,hι,rfl⟩) h
   ·simp at h
  ·simp at h
 ·rename_i id j p hp
  rw [hp] at hx
  obtain ⟨_,ob,hob,hv⟩:=(ak (m:=m) (a:=.aptr id j p) (by intros; simp)).1 hx
  rw [hG] at hob
  split at h
  ·rename_i σ l τ hl ht
   have hck:=ac hT ht
   rw [hl] at hob
   simp only [Option.some.injEq] at hob
   subst hob
   obtain ⟨hj,b,off,n,cap,q,hι,hq,hv⟩:=hv
   rw [hq] at h
   obtain ⟨q1,q2⟩:=q
   simp only at h hv
   cases hd : decide (q2=τ) with
   | false=>rw [hd] at h; simp at h
   | true =>
    rw [hd] at h
    have : q2=τ:=by simpa using hd
    subst this
    simp only [cond_true] at h
    split at h
    ·rename_i o' t' hf
     cases hb : Nat.ble 1 t'.size with
     | false=>rw [hb] at h; simp at h
     | true =>
      rw [hb] at h
      have hpos:=Nat.le_of_ble_eq_true hb
      exact am hi hG (v:=.pointer (some ⟨b,off+j * σ.size+q1+o',none⟩)) (sv:=.av (.aptr id j (p++[f]))) (by simp [execOp,ho,hv,hO hck hf hpos])
       (show ah m _ (.aptr id j (p++[f])) from ⟨rfl,.arr σ l,hG ▸ hl,hj,b,off,n,cap,_,hι,ls hq hf,by simp [Nat.add_assoc]⟩) h
    ·simp at h
  ·simp at h
 ·rename_i τ y hp
  rw [hp] at hx
  split at h
  ·rename_i τ' ht
   have hck:=ac hT ht
   cases hd : decide (τ=τ') with
   | false=>rw [hd] at h; simp at h
   | true =>
    rw [hd] at h
    have : τ=τ':=by simpa using hd
    subst this
    simp only [cond_true] at h
    split at h
    ·rename_i t' z hz
     cases hb : Nat.ble 1 t'.size with
     | false=>rw [hb] at h; simp at h
     | true =>
      rw [hb] at h
      have hpos:=Nat.le_of_ble_eq_true hb
      obtain ⟨b,off,c,el,fz,h1,h2,h3,h4,h5⟩:=dm hx
      obtain ⟨o',r1,r2,r3⟩:=fM hz h5
      have hseg : seg c (off+o') t'.size=((seg c off τ.size).drop o').take t'.size:=by unfold seg; rw [dj _ _ _ _ _ r2]
      exact am hi hG (v:=.pointer (some ⟨b,off+o',none⟩)) (sv:=.av (.val (.ptr t') z)) (by simp [execOp,ho,h1,hO hck r1 hpos])
       (show ∃ cs,_∧_ from ⟨[.pointer (some ⟨b,off+o',none⟩)],rfl,b,off+o',c,el,fz,rfl,h2,h3,by omega,by rw [hseg]; exact r3⟩) h
    ·simp at h
  ·simp at h
 ·simp at h
theorem uJ {x : Operand} (hi : Inv C w0 M m) (hG : m.G=s.G) (hS : ∀ x,RelSV m (a.eval x) (aj C s.env x)) (ho : o.op=.nilCheck x)
  (h : al C o s some=some s') : Does P o a m.w (Res C w0 M m s s' o.dst):=by
 simp only [al,ho] at h
 have hx:=hS x
 split at h
 ·rename_i i j hp
  rw [hp] at hx
  obtain ⟨_,ob,hob,hv⟩:=(ak (m:=m) (a:=.ptr i j) (by intros; simp)).1 hx
  rw [hG] at hob
  split at h
  ·rename_i l hl
   rw [hl] at hob
   simp only [Option.some.injEq] at hob
   subst hob
   obtain ⟨b,hι,hv⟩:=hv
   exact am hi hG (v:=a.eval x) (sv:=.av (.ptr i j)) (by simp [execOp,ho,hv]) hx h
  ·simp at h
 ·rename_i i j p hp
  rw [hp] at hx
  obtain ⟨_,ob,hob,hv⟩:=(ak (m:=m) (a:=.aptr i j p) (by intros; simp)).1 hx
  rw [hG] at hob
  split at h
  ·rename_i σ l hl
   rw [hl] at hob
   simp only [Option.some.injEq] at hob
   subst hob
   obtain ⟨_,b,off,n,cap,q,hι,_,hv⟩:=hv
   exact am hi hG (v:=a.eval x) (sv:=.av (.aptr i j p)) (by simp [execOp,ho,hv]) hx h
  ·rename_i ver σ l hole hl
   rw [hl] at hob
   simp only [Option.some.injEq] at hob
   subst hob
   obtain ⟨_,_,b,off,n,cap,us,_,_,hv⟩:=hv
   exact am hi hG (v:=a.eval x) (sv:=.av (.aptr i j p)) (by simp [execOp,ho,hv]) hx h
  ·simp at h
 ·rename_i t y hp
  rw [hp] at hx
  obtain ⟨b,off,c,el,fz,h1,_⟩:=dm hx
  exact am hi hG (v:=a.eval x) (sv:=.av (.val (.ptr t) y)) (by simp [execOp,ho,h1]) hx h
 ·rename_i g t y hp
  rw [hp] at hx
  have hx':=hx
  obtain ⟨cs,h1,vs,rfl,_⟩:=hx'
  simp only [toV,Ty.isAgg,cond_false,List.headD_cons] at h1
  exact am hi hG (v:=a.eval x) (sv:=.av (.val (.clo g t) y)) (by simp [execOp,ho,h1]) hx h
 ·rename_i f c hp
  rw [hp] at hx
  obtain ⟨vs,h1,_⟩:=(ak (m:=m) (a:=.clo f c) (by intros; simp)).1 hx
  exact am hi hG (v:=a.eval x) (sv:=.av (.clo f c)) (by simp [execOp,ho,h1]) hx h
 ·simp at h
theorem CE {t : TypeId} {x : Operand} {f : Nat} (hT : cp P C.tab=true) (hi : Inv C w0 M m) (hG : m.G=s.G) (hS : ∀ x,RelSV m (a.eval x) (aj C s.env x)) (ho : o.op=.field t x f)
  (h : al C o s some=some s') : Does P o a m.w (Res C w0 M m s s' o.dst):=by
 simp only [al,ho] at h
 have hx:=hS x
 split at h
 ·rename_i l hp
  rw [hp] at hx
  obtain ⟨us,hu,h1,hr⟩:=hx
  split at h
  ·rename_i τ ht
   have hck:=ac hT ht
   split at h
   ·rename_i o' t' hf
    obtain ⟨fs,fd,q1,q2,q3,q4⟩:=px hck hf
    split at h
    ·rename_i c hc
     obtain ⟨rfl,hle⟩:=ff hc
     have hlen:=hr.length
     simp only [List.length_drop] at hle
     have hpart : (part fd.type us.toArray fd.offset).run P m.w=.ok (toV t' ((us.drop o').take t'.size)) m.w:=by
      cases ha : t'.isAgg with
      | true=>simp [part,bL q4,ha,aJ q4,toV,q3,List.drop_take]
      | false =>
       have h1':=dk ha
       have hlt : o' < us.length:=by omega
       simp only [part,Sem.run_bind,bL q4,ha,Result.andThen_ok,Bool.false_eq_true,if_false,q3,List.getElem?_toArray,List.getElem?_eq_getElem hlt,toV,cond_false,h1',Sem.run_pure]
       rw [List.drop_eq_getElem_cons hlt]; rfl
     refine am hi hG (v:=toV t' ((us.drop o').take t'.size)) (sv:=dK t' ((l.drop o').take t'.size)) ?_ (fL (fun u hu=>h1 u (List.mem_of_mem_drop (List.mem_of_mem_take hu))) ((hr.drop o').take _)) h
     simp [execOp,ho,hu,Instr.field,run_underlying q1,q2,asAgg,hpart]
    ·simp at h
   ·simp at h
  ·simp at h
 ·rename_i τ y hp
  rw [hp] at hx
  split at h
  ·rename_i τ' ht
   have hck:=ac hT ht
   cases hd : decide (τ=τ') with
   | false=>rw [hd] at h; simp at h
   | true =>
    rw [hd] at h
    have : τ=τ':=by simpa using hd
    subst this
    simp only [cond_true] at h
    split at h
    ·rename_i t' z hz
     obtain ⟨cs,hu,hrd⟩:=hx
     obtain ⟨o',r1,r2,r3⟩:=fM hz hrd
     obtain ⟨fs,fd,q1,q2,q3,q4⟩:=px hck r1
     have hagg : τ.isAgg=true:=by cases τ <;> simp_all [Ty.field,Ty.isAgg]
     have hlen:=hrd.len
     have hpart : (part fd.type cs.toArray fd.offset).run P m.w=.ok (toV t' ((cs.drop o').take t'.size)) m.w:=by
      cases ha : t'.isAgg with
      | true=>simp [part,bL q4,ha,aJ q4,toV,q3,List.drop_take]
      | false =>
       have h1':=dk ha
       have hlt : o' < cs.length:=by omega
       simp only [part,Sem.run_bind,bL q4,ha,Result.andThen_ok,Bool.false_eq_true,if_false,q3,List.getElem?_toArray,List.getElem?_eq_getElem hlt,toV,cond_false,h1',Sem.run_pure]
       rw [List.drop_eq_getElem_cons hlt]; rfl
     refine am hi hG (v:=toV t' ((cs.drop o').take t'.size)) (sv:=.av (.val t' z)) ?_ (sJ r3) h
     have hu' : a.eval x=.agg cs.toArray:=by rw [hu]; simp [toV,hagg]
     simp [execOp,ho,hu',Instr.field,run_underlying q1,q2,asAgg,hpart]
    ·simp at h
  ·simp at h
 ·simp at h
theorem oP {i : Int} {n : Nat} {j : Nat} (h : kb n i=some j) : 0≤i∧i < n∧j=i.toNat∧j < n:=by
 unfold kb at h
 split at h
 ·rename_i hc; simp at h; omega
 ·simp at h
theorem jM {α : Type} {l : List α} {i : Int} {y : α} (h : aV l i=some y) : 0≤i∧i < l.length∧∃ hj : i.toNat < l.length,l[i.toNat]=y:=by
 unfold aV at h
 split at h
 ·rename_i hc
  obtain ⟨hj,hy⟩:=List.getElem?_eq_some_iff.1 h
  exact ⟨hc,by omega,hj,hy⟩
 ·simp at h
theorem bJ {e : Ty} {t et : TypeId} (hu : P.underlying t=some (.slice et)) (hck : chk P e none et=true) {k : IntKind} {i : Int} {n cap b off : Nat} (h0 : 0≤i) (h1 : i < n) (w : World) :
  (Instr.indexAt t (.slice (some ⟨b,off,none⟩) n cap) (.int k i)).run P w=.ok (.pointer (some ⟨b,off+i.toNat * e.size,none⟩)) w:=by
 have hc : 0≤i∧i < (n : Int):=⟨h0,h1⟩
 simp [Instr.indexAt,asIntOf,run_underlying hu,hc,aJ hck,aD]
theorem iK {e : Ty} {t et : TypeId} {n : Nat} (hu : P.underlying t=some (.array n et)) (hck : chk P e none et=true) {k : IntKind} {i : Int} {b off : Nat} (h0 : 0≤i) (h1 : i < n) (w : World) :
  (Instr.indexAt t (.pointer (some ⟨b,off,none⟩)) (.int k i)).run P w=.ok (.pointer (some ⟨b,off+i.toNat * e.size,none⟩)) w:=by
 have hc : 0≤i∧i < (n : Int):=⟨h0,h1⟩
 simp [Instr.indexAt,asIntOf,run_underlying hu,hc,aJ hck,aD,Instr.sureAddr]
theorem s9 {t : TypeId} {x ix : Operand} (hT : cp P C.tab=true) (hi : Inv C w0 M m) (hG : m.G=s.G) (hS : ∀ x,RelSV m (a.eval x) (aj C s.env x)) (ho : o.op=.indexAddr t x ix)
  (h : al C o s some=some s') : Does P o a m.w (Res C w0 M m s s' o.dst):=by
 simp only [al,ho] at h
 have hx:=hS x
 obtain ⟨k,i,hix,h⟩:=eo h
 have hiv:=hS ix
 rw [hix] at hiv
 obtain ⟨hiv,_,_⟩:=rel_int hiv
 cases hty : d7 C t s.G (aj C s.env x) with
 | false=>rw [hty] at h; simp at h
 | true =>
  rw [hty] at h
  simp only [cond_true] at h
  have fin {v : Value} {at' : Atom} (hl : (Instr.indexAt t (a.eval x) (.int k i)).run P m.w=.ok v m.w) (hr : RelSV m v (.av at')) (hs : some (aw o.dst (.av at') s)=some s') :
    Does P o a m.w (Res C w0 M m s s' o.dst) :=
   am hi hG (v:=v) (by simp [execOp,ho,hiv,hl]) hr hs
  unfold indexAt at h
  split at h
  ·rename_i e l hp
   rw [hp] at hx hty
   unfold d7 at hty
   split at hty <;> try (simp_all; done)
   rename_i e1 e2 l2 ht hq
   simp only [SV.av.injEq,Atom.val.injEq,Ty.slice.injEq] at hq
   obtain ⟨rfl,hl2⟩:=hq
   have : e1=e:=by simpa using hty
   subst this
   obtain ⟨et,hu,hck⟩:=aC (ac hT ht)
   obtain ⟨y,hy,h⟩:=Option.bind_eq_some_iff.1 h
   obtain ⟨h0,h1,hj,rfl⟩:=jM hy
   obtain ⟨ad,cap,hv,h2,h3,h4⟩:=fa hx
   obtain ⟨b,off,c,el,fz,rfl,q2,q3,q4,q5⟩:=h4 (by intro e; rw [e] at hj; simp at hj)
   refine fin (at':=.val (.ptr e1) l[i.toNat]) (by rw [hv]; exact bJ hu hck h0 h1 _) ⟨[_],rfl,b,off+i.toNat * e1.size,c,el,fz,rfl,q2,q3,?_,q5 _ hj⟩ h
   have : (i.toNat+1) * e1.size≤l.length * e1.size:=Nat.mul_le_mul_right _ hj
   rw [Nat.add_mul] at this; omega
  ·rename_i id hp
   rw [hp] at hx hty
   obtain ⟨_,ob,hob,hv⟩:=(ak (m:=m) (a:=.own id) (by intros; simp)).1 hx
   rw [hG] at hob
   split at h
   ·rename_i e l hl
    rw [hl] at hob
    simp only [Option.some.injEq] at hob
    subst hob
    unfold d7 at hty
    split at hty <;> try (simp_all; done)
    rename_i e1 id2 ht hq
    simp only [SV.av.injEq,Atom.own.injEq] at hq
    subst hq
    rw [hl] at hty
    have : e1=e:=by simpa using hty
    subst this
    obtain ⟨et,hu,hck⟩:=aC (ac hT ht)
    obtain ⟨j,hj,h⟩:=Option.bind_eq_some_iff.1 h
    obtain ⟨h0,h1,rfl,hj⟩:=oP hj
    obtain ⟨b,off,cap,c,el,fz,r1,r2,r3,r4,r5,r6,r7,r8,r9⟩:=lr hi (hG ▸ hl) hj
    exact fin (at':=.aptr id i.toNat []) (by rw [hv rfl,r1]; exact bJ hu hck h0 h1 _)
     (show ah m _ (.aptr id i.toNat []) from ⟨rfl,.arr e1 l,hG ▸ hl,hj,b,off,l.length,cap,_,r1,rfl,by simp⟩) h
   ·simp at h
  ·rename_i id off' len hp
   rw [hp] at hx hty
   obtain ⟨_,ob,hob,hv⟩:=(ak (m:=m) (a:=.view id off' len) (by intros; simp)).1 hx
   rw [hG] at hob
   split at h
   ·rename_i e l hl
    rw [hl] at hob
    simp only [Option.some.injEq] at hob
    subst hob
    unfold d7 at hty
    split at hty <;> try (simp_all; done)
    rename_i e1 id2 o2 l2 ht hq
    simp only [SV.av.injEq,Atom.view.injEq] at hq
    obtain ⟨rfl,rfl,rfl⟩:=hq
    rw [hl] at hty
    have : e1=e:=by simpa using hty
    subst this
    obtain ⟨et,hu,hck⟩:=aC (ac hT ht)
    obtain ⟨j,hj,h⟩:=Option.bind_eq_some_iff.1 h
    obtain ⟨h0,h1,rfl,hj⟩:=oP hj
    simp only at hv
    obtain ⟨b,off,cap,c,el,fz,r1,r2,r3,r4,r5,r6,r7,r8,r9⟩:=lr hi (hG ▸ hl) (j:=off'+i.toNat) (by omega)
    refine fin (at':=.aptr id (off'+i.toNat) []) (v:=.pointer (some ⟨b,off+off' * e1.size+i.toNat * e1.size,none⟩)) ?_
     (show ah m _ (.aptr id (off'+i.toNat) []) from ⟨rfl,.arr e1 l,hG ▸ hl,by omega,b,off,l.length,cap,_,r1,rfl,by simp [Nat.add_mul,Nat.add_assoc]⟩) h
    obtain ⟨a',n',cap',ad',v1,v2,v3⟩:=hv.2
    rw [r1] at v1
    simp only [Value.slice.injEq] at v1
    obtain ⟨rfl,rfl,rfl⟩:=v1
    rw [v2,v3 (by omega)]
    simp only [Option.map_some,aD]
    exact bJ hu hck h0 h1 _
   ·simp at h
  ·rename_i id off' len hp
   rw [hp] at hx hty
   obtain ⟨_,ob,hob,hv⟩:=(ak (m:=m) (a:=.cut id off' len) (by intros; simp)).1 hx
   rw [hG] at hob
   split at h
   ·rename_i e l hl
    rw [hl] at hob
    simp only [Option.some.injEq] at hob
    subst hob
    unfold d7 at hty
    split at hty <;> try (simp_all; done)
    rename_i e1 id2 o2 l2 ht hq
    simp only [SV.av.injEq,Atom.cut.injEq] at hq
    obtain ⟨rfl,rfl,rfl⟩:=hq
    rw [hl] at hty
    have : e1=e:=by simpa using hty
    subst this
    obtain ⟨et,hu,hck⟩:=aC (ac hT ht)
    obtain ⟨j,hj,h⟩:=Option.bind_eq_some_iff.1 h
    obtain ⟨h0,h1,rfl,hj⟩:=oP hj
    simp only at hv
    obtain ⟨hv1,hv2,b,off,n',cap',v1,v2⟩:=hv
    refine fin (at':=.aptr id (off'+i.toNat) []) (v:=.pointer (some ⟨b,off+off' * e1.size+i.toNat * e1.size,none⟩)) ?_
     (show ah m _ (.aptr id (off'+i.toNat) []) from ⟨rfl,.arr e1 l,hG ▸ hl,by omega,b,off,n',cap',_,v1,rfl,by simp [Nat.add_mul,Nat.add_assoc]⟩) h
    rw [v2]
    exact bJ hu hck h0 h1 _
   ·simp at h
  ·rename_i id hp
   rw [hp] at hx hty
   obtain ⟨_,ob,hob,hv⟩:=(ak (m:=m) (a:=.ownd id) (by intros; simp)).1 hx
   rw [hG] at hob
   split at h
   ·rename_i ver e l hole hl
    rw [hl] at hob
    simp only [Option.some.injEq] at hob
    subst hob
    unfold d7 at hty
    split at hty <;> try (simp_all; done)
    rename_i e1 id2 ht hq
    simp only [SV.av.injEq,Atom.ownd.injEq] at hq
    subst hq
    rw [hl] at hty
    have : e1=.slice e:=by simpa using hty
    subst this
    obtain ⟨et,hu,hck⟩:=aC (ac hT ht)
    obtain ⟨j,hj,h⟩:=Option.bind_eq_some_iff.1 h
    obtain ⟨h0,h1,rfl,hj⟩:=oP hj
    obtain ⟨u,hs,d1,d2⟩:=bU hi (hG ▸ hl)
    obtain ⟨us,hv1,hv2⟩:=hv
    rw [d1] at hv1
    simp only [Value.tuple.injEq] at hv1
    subst hv1
    simp only [List.getElem?_toArray,List.getElem?_cons_zero,Option.some.injEq] at hv2
    obtain ⟨b,off,cap,c,el,fz,v,r1,r2,r3,r4,r5,r6,_⟩:=mM d2 hj
    refine fin (at':=.aptr id i.toNat []) (v:=.pointer (some ⟨b,off+i.toNat * (Ty.slice e).size,none⟩)) (by rw [← hv2,r1]; exact bJ hu hck h0 h1 _)
     (show ah m _ (.aptr id i.toNat []) from ⟨rfl,.deep ver e l hole,hG ▸ hl,hj,rfl,b,off,l.length,cap,_,d1,by simp [r1],by simp [Ty.size]⟩) h
   ·simp at h
  ·rename_i id ver j hp
   rw [hp] at hx hty
   obtain ⟨_,ob,hob,hv⟩:=(ak (m:=m) (a:=.sub id ver j) (by intros; simp)).1 hx
   rw [hG] at hob
   split at h
   ·rename_i ver' e l hl
    rw [hl] at hob
    simp only [Option.some.injEq] at hob
    subst hob
    unfold d7 at hty
    split at hty <;> try (simp_all; done)
    rename_i e1 id2 ver2 j2 ht hq
    simp only [SV.av.injEq,Atom.sub.injEq] at hq
    obtain ⟨rfl,rfl,rfl⟩:=hq
    rw [hl] at hty
    have : e1=e:=by simpa using hty
    subst this
    obtain ⟨et,hu,hck⟩:=aC (ac hT ht)
    cases hb : Nat.beq ver ver' with
    | false=>rw [hb] at h; simp at h
    | true =>
     rw [hb] at h
     have:=Nat.eq_of_beq_eq_true hb
     subst this
     obtain ⟨hj,_,us,hv1,hv2⟩:=hv.2 rfl
     simp only [cond_true,iD hj] at h
     obtain ⟨k',hk',h⟩:=Option.bind_eq_some_iff.1 h
     obtain ⟨h0,h1,rfl,hk'⟩:=oP hk'
     obtain ⟨u,hs,d1,d2⟩:=bU hi (hG ▸ hl)
     rw [d1] at hv1
     simp only [Value.tuple.injEq] at hv1
     subst hv1
     have hv3:=hv2
     simp only [List.getElem?_toArray,List.getElem?_cons_succ] at hv2
     obtain ⟨b,off,cap,c,el,fz,r1,r2,r3,r4,r5,r6⟩:=yU (d2.inner j hj _ hv2 (by simp)) hk'
     rw [r1] at hv3
     exact fin (at':=.saptr id ver j i.toNat) (v:=.pointer (some ⟨b,off+i.toNat * e1.size,none⟩)) (by rw [r1]; exact bJ hu hck h0 h1 _)
      (show ah m _ (.saptr id ver j i.toNat) from ⟨rfl,.deep ver e1 l none,hG ▸ hl,Nat.le_refl _,fun _=>⟨hj,rfl,_,b,off,_,cap,d1,hv3,hk',rfl⟩⟩) h
   ·simp at h
  ·rename_i n e l hp
   rw [hp] at hx hty
   unfold d7 at hty
   split at hty <;> try (simp_all; done)
   rename_i n1 e1 n2 e2 l2 ht hq
   simp only [SV.av.injEq,Atom.val.injEq,Ty.ptr.injEq,Ty.arr.injEq] at hq
   obtain ⟨⟨rfl,rfl⟩,hl2⟩:=hq
   simp only [Bool.and_eq_true,decide_eq_true_eq] at hty
   obtain ⟨⟨rfl,hn⟩,_⟩:=hty
   have:=Nat.eq_of_beq_eq_true hn
   subst this
   obtain ⟨et,hu,hck⟩:=li (ac hT ht)
   obtain ⟨y,hy,h⟩:=Option.bind_eq_some_iff.1 h
   obtain ⟨h0,h1,hj,rfl⟩:=jM hy
   obtain ⟨b,off,c,el,fz,hv,q2,q3,q4,q5,q6,q7⟩:=dm hx
   simp only [Ty.size] at q4 q6
   have hle : (i.toNat+1) * e1.size≤n1 * e1.size:=Nat.mul_le_mul_right _ (by omega)
   rw [Nat.add_mul] at hle
   refine fin (at':=.val (.ptr e1) l[i.toNat]) (by rw [hv]; exact iK hu hck h0 (by omega) _) ⟨[_],rfl,b,off+i.toNat * e1.size,c,el,fz,rfl,q2,q3,by omega,?_⟩ h
   have hseg : seg c (off+i.toNat * e1.size) e1.size=((seg c off (n1 * e1.size)).drop (i.toNat * e1.size)).take e1.size:=by unfold seg; rw [dj _ _ _ _ _ (by omega)]
   rw [hseg]
   exact q7 _ hj
  ·rename_i id off hp
   rw [hp] at hx hty
   obtain ⟨_,ob,hob,hv⟩:=(ak (m:=m) (a:=.ptr id off) (by intros; simp)).1 hx
   split at h
   ·rename_i n e ht
    obtain ⟨et,hu,hck⟩:=li (ac hT ht)
    split at h
    ·rename_i hc
     cases ob with
     | box l =>
      obtain ⟨b,hι,hv⟩:=hv
      exact fin (at':=.ptr id (off+i.toNat * e.size)) (by rw [hv]; exact iK hu hck hc.1 hc.2 _) (show ah m _ (.ptr id (off+i.toNat * e.size)) from ⟨rfl,.box l,hob,b,hι,rfl⟩) h
     | arr _ _=>exact hv.elim
     | deep _ _ _ _=>exact hv.elim
     | map _ _ _=>exact hv.elim
     | dead =>
      unfold d7 at hty
      rw [ht] at hty
      simp only at hty
      rw [← hG,hob] at hty
      simp at hty
    ·simp at h
   ·simp at h
  ·simp at h
theorem qL {e : Ty} {et : TypeId} (hck : chk P e none et=true) {us : List Value} {off : Nat} (hle : off+e.size≤us.length) (w : World) : (part et us.toArray off).run P w=.ok (toV e ((us.drop off).take e.size)) w:=by
 cases ha : e.isAgg with
 | true=>simp [part,bL hck,ha,aJ hck,toV,List.drop_take]
 | false =>
  have h1':=dk ha
  have hlt : off < us.length:=by omega
  simp only [part,Sem.run_bind,bL hck,ha,Result.andThen_ok,Bool.false_eq_true,if_false,List.getElem?_toArray,List.getElem?_eq_getElem hlt,toV,cond_false,h1',Sem.run_pure]
  rw [List.drop_eq_getElem_cons hlt]; rfl
theorem zT {t : TypeId} {x ix : Operand} {n : Nat} {e : Ty} {k : IntKind} {i : Int} {c : List Value} {z : List e.den} {y : e.den} (hT : cp P C.tab=true) (hi : Inv C w0 M m) (hG : m.G=s.G) (ho : o.op=.index t x ix)
  (ht : C.tab.get t=some (.arr n e)) (hx : a.eval x=.agg c.toArray) (hiv : a.eval ix=.int k i) (hz : Rd m.w m.F (.arr n e) c z) (hy : aV z i=some y) (h : some (aw o.dst (.av (.val e y)) s)=some s') : Does P o a m.w (Res C w0 M m s s' o.dst):=by
 obtain ⟨h0,h1,hj,rfl⟩:=jM hy
 obtain ⟨z1,z2,z3⟩:=hz
 obtain ⟨et,hu,hck⟩:=li (ac hT ht)
 have hle : i.toNat * e.size+e.size≤c.length:=by
  rw [z2]
  have:=Nat.mul_le_mul_right e.size (show i.toNat+1≤n by omega)
  rw [Nat.add_mul] at this; omega
 refine am hi hG (v:=toV e ((c.drop (i.toNat * e.size)).take e.size)) (sv:=.av (.val e z[i.toNat])) ?_ ⟨_,rfl,z3 i.toNat hj⟩ h
 have hin : i < (n : Int):=by omega
 simp [execOp,ho,hx,hiv,Instr.index,asIntOf,run_underlying hu,h0,hin,aJ hck,qL hck hle]
theorem nj {R : Type} {sz : Nat} {K : List Atom→Option R} {i : Int} {r : R} : ∀ {k j : Nat} {l : List Atom},gq k sz l i j K=some r→∃ q c,q < k∧i=((j+q : Nat) : Int)∧kv sz (l.drop (q * sz))=some c∧K c=some r
 | 0,_,_,h=>by simp [gq] at h
 | k+1,j,l,h=>by
  unfold gq at h
  cases e : eqI i j with
  | true =>
   rw [e,cond_true] at h
   split at h
   ·rename_i c hc
    exact ⟨0,c,by omega,by simpa [eqI] using e,by simpa using hc,h⟩
   ·simp at h
  | false =>
   rw [e,cond_false] at h
   obtain ⟨q,c,h1,h2,h3,h4⟩:=nj h
   refine ⟨q+1,c,by omega,by rw [h2]; congr 1; omega,?_,h4⟩
   rw [List.drop_drop] at h3
   rw [Nat.add_mul,Nat.one_mul,Nat.add_comm]
   exact h3
theorem AV {t : TypeId} {x ix : Operand} (hT : cp P C.tab=true) (hi : Inv C w0 M m) (hG : m.G=s.G) (hS : ∀ x,RelSV m (a.eval x) (aj C s.env x)) (ho : o.op=.index t x ix)
  (h : al C o s some=some s') : Does P o a m.w (Res C w0 M m s s' o.dst):=by
 simp only [al,ho] at h
 have hx:=hS x
 obtain ⟨k,i,hix,h⟩:=eo h
 have hiv:=hS ix
 rw [hix] at hiv
 obtain ⟨hiv,_,_⟩:=rel_int hiv
 split at h
 ·rename_i b ht hp
  rw [hp] at hx
  obtain ⟨hx,_⟩:=ii hx
  have hu:=dX (ac hT ht)
  obtain ⟨c,hc,h⟩:=Option.bind_eq_some_iff.1 h
  obtain ⟨h0,h1,hj,rfl⟩:=jM hc
  have hsz : i.toNat < b.size:=by simpa using hj
  refine am hi hG (v:=.int .u8 (b.data.toList[i.toNat].toNat : Int)) (sv:=.av (.val (.int .u8) (b.data.toList[i.toNat].toNat : Int))) ?_ (gm ?_) h
  ·have hb : b[i.toNat]?=some b.data.toList[i.toNat]:=by
    rw [getElem?_pos b i.toNat hsz]; rfl
   simp [execOp,ho,hx,hiv,Instr.index,asIntOf,run_underlying hu,h0,hb]
  ·have:=(b.data.toList[i.toNat]).toNat_lt
   generalize (b.data.toList[i.toNat]).toNat=z at this ⊢
   simp [IntKind.min,IntKind.max,IntKind.signed,IntKind.bits]; omega
 ·rename_i n e l ht hp
  rw [hp] at hx
  obtain ⟨us,hu,h1,hr⟩:=hx
  obtain ⟨q,c,hq,hiq,hc,h⟩:=nj h
  rw [Nat.zero_add] at hiq
  subst hiq
  obtain ⟨rfl,hle⟩:=ff hc
  obtain ⟨et,hun,hck⟩:=li (ac hT ht)
  have hlen:=hr.length
  simp only [List.length_drop] at hle
  by_cases hz : q * e.size+e.size≤us.length
  ·refine am hi hG (v:=toV e ((us.drop (q * e.size)).take e.size)) (sv:=dK e ((l.drop (q * e.size)).take e.size)) ?_ (fL (fun u hu=>h1 u (List.mem_of_mem_drop (List.mem_of_mem_take hu))) ((hr.drop _).take _)) h
   have hq0 : ¬ ((q : Int) < 0):=by omega
   simp [execOp,ho,hu,hiv,Instr.index,asIntOf,run_underlying hun,hq,aJ hck,qL hck hz]
  ·exfalso
   rcases Nat.eq_zero_or_pos e.size with h0 | h0
   ·rw [h0] at hz; simp at hz
   ·omega
 ·rename_i n e τ y0 ht hp
  rw [hp] at hx
  obtain ⟨z,hz,h1⟩:=Option.bind_eq_some_iff.1 h
  obtain ⟨y,hy,h2⟩:=Option.bind_eq_some_iff.1 h1
  unfold aU at hz
  split at hz
  ·rename_i hτ
   subst hτ
   simp only [Option.some.injEq] at hz
   subst hz
   obtain ⟨c,hc,hr⟩:=hx
   exact zT hT hi hG ho ht (by rw [hc]; simp [toV,Ty.isAgg]) hiv hr hy h2
  ·simp at hz
 ·simp at h
end
end Go.Vm

/-
 The machine's operations against the model's: new objects, lengths, conversions.
-/
namespace Go.Vm
section
variable {P : Program} {C : Ctx} {w0 : World} {M : Own} {o : Oper} {a : Act} {m : Mem} {s s' : St}
theorem jC {G : Heap} {i : Nat} (h : G.has i=false) : G.get i=none:=by
 cases hg : G.get i with
 | none=>rfl
 | some o=>rw [Heap.has_of_get hg] at h; cases h
theorem bk {R : Type} {s : St} {site : Nat} {ob : Obj} {K : Nat→St→Option R} {r : R} (h : bw s site ob K=some r) :
  ∃ i,s.G.get i=none∧K i { env:=s.env,G:=(i,ob) :: s.G }=some r:=by
 unfold bw at h
 cases hh : s.G.has (aW 8 s.G site) with
 | true=>rw [hh] at h; simp at h
 | false=>rw [hh] at h; exact ⟨_,jC hh,h⟩
theorem gK (w : World) (ob : Go.Obj) {i : Nat} (h : i < w.heap.size) : (w.alloc ob).heap[i]?=w.heap[i]?:=by
 show (w.heap.push ob)[i]?=_
 rw [Array.getElem?_push,if_neg (by omega)]
theorem bu (w : World) (ob : Go.Obj) : (w.alloc ob).heap[w.heap.size]?=some ob:=by
 show (w.heap.push ob)[w.heap.size]?=_
 rw [Array.getElem?_push,if_pos rfl]
theorem cV (w : World) (ob : Go.Obj) : Kept w (fun _=>False) (w.alloc ob) :=
 ⟨rfl,rfl,rfl,by simp,fun b hb _=>gK w ob hb⟩
theorem dr (w : World) (ob : Go.Obj) : Kept w (fun _=>False) (w.drew.alloc ob) :=
 ⟨rfl,rfl,rfl,by simp,fun b hb _=>gK w.drew ob hb⟩
theorem xT (hi : Inv C w0 M m) {i : Nat} (hn : m.G.get i=none) {t : TypeId} {cs : List Value} {l : List Atom} (h1 : ∀ u∈cs,u.oneCell'=true)
  (hr : ∀ m' : Mem,Evo m m'→Rel2 (ah m') cs l) :
  ∃ m',m'.w=m.w.alloc (.cells cs.toArray t)∧m'.G=(i,.box l) :: m.G∧Inv C w0 M m'∧Evo m m'∧RelSV m' (.pointer (some ⟨m.w.heap.size,0,none⟩)) (.av (.ptr i 0)):=by
 have hw:=cV m.w (.cells cs.toArray t)
 have hnew:=bu m.w (.cells cs.toArray t)
 have he : Evo m ⟨m.w.alloc (.cells cs.toArray t),m.F,fun k=>if k=i then .pointer (some ⟨m.w.heap.size,0,none⟩) else m.ι k,(i,.box l) :: m.G⟩:=by
  refine ⟨fun b hF=>⟨hF,gK _ _ (hi.fro b hF)⟩,fun id p hp=>?_⟩
  have hne : i≠id:=fun e=>by subst e; rw [hn] at hp; cases hp
  exact ⟨p,by rw [Heap.get_cons,if_neg hne]; exact hp,.inr (.inl ⟨by simp [Ne.symm hne],Alike.refl p⟩)⟩
 obtain ⟨g1,g2⟩:=ji hi hw (i:=i) (o:=.box l) (h:=.pointer (some ⟨m.w.heap.size,0,none⟩)) hn (by intro b hb; simp [HB,HB1] at hb; subst hb; simp)
  ⟨m.w.heap.size,cs.toArray,t,by simp,hnew,by simpa using h1,by simpa using hr _ he⟩
 refine ⟨_,rfl,rfl,g1,g2,?_⟩
 exact (ak (a:=.ptr i 0) (by intros; simp)).2 ⟨rfl,.box l,by rw [Heap.get_cons,if_pos rfl],m.w.heap.size,by simp,rfl⟩
theorem DA {t : TypeId} (hT : cp P C.tab=true) (hi : Inv C w0 M m) (hG : m.G=s.G) (ho : o.op=.alloc t)
  (h : al C o s some=some s') : Does P o a m.w (Res C w0 M m s s' o.dst):=by
 simp only [al,ho] at h
 split at h
 ·rename_i τ ht
  have hck:=ac hT ht
  obtain ⟨i,hn,h⟩:=bk h
  obtain ⟨z,hz,_,_,hrun⟩:=rE hck
  obtain ⟨c0,e0,hr0,_⟩:=bE (m:=m) hz
  rw [List.append_nil] at e0
  obtain ⟨m',q1,q2,q3,q4,q5⟩:=xT (t:=t) hi (hG ▸ hn) (cs:=z.cells.toList) (l:=zeroCells τ) (by rw [e0]; exact hr0.one) (fun m' _=>by
   obtain ⟨c1,e1,_,hr1⟩:=bE (m:=m') hz
   rw [List.append_nil] at e1
   rw [e1]; exact hr1)
  refine Does.value (w':=m'.w) (v:=.pointer (some ⟨m.w.heap.size,0,none⟩)) ?_ ⟨m',_,rfl,?_,q3,q4,q5⟩
  ·simp [execOp,ho,Instr.alloc,hrun,newVar,newRow,q1]
  ·simp only [Option.some.injEq] at h
   rw [← h,q2,hG]
 ·simp at h
theorem Fy {t : TypeId} {x : Operand} (hi : Inv C w0 M m) (hG : m.G=s.G) (hS : ∀ x,RelSV m (a.eval x) (aj C s.env x)) (ho : o.op=.box t x)
  (h : al C o s some=some s') : Does P o a m.w (Res C w0 M m s s' o.dst):=by
 simp only [al,ho] at h
 split at h
 ·rename_i τ ht
  split at h
  ·rename_i c hc
   obtain ⟨i,hn,h⟩:=bk h
   obtain ⟨k1,k2⟩:=iQ hc (hS x)
   obtain ⟨m',q1,q2,q3,q4,q5⟩:=xT (t:=t) hi (hG ▸ hn) (cs:=(a.eval x).cells.toList) (l:=c) k2 (fun m' he=>dA he k1)
   refine Does.value (w':=m'.w) (v:=.pointer (some ⟨m.w.heap.size,0,none⟩)) ?_ ⟨m',_,rfl,?_,q3,q4,q5⟩
   ·simp [execOp,ho,Instr.box,newVar,newRow,q1]
   ·simp only [Option.some.injEq] at h
    rw [← h,q2,hG]
  ·simp at h
 ·simp at h
theorem l7 (hi : Inv C w0 M m) {i : Nat} (hn : m.G.get i=none) {w1 : World} (hw : Kept m.w (fun _=>False) w1) {c : Array Value} {el : TypeId} {fz : Nat×Nat} {τ : Ty} {l : List τ.den} {cap : Nat}
  (hb : w1.heap[m.w.heap.size]?=some (.cells c el fz)) (hc : fI τ c.size fz) (h1 : l.length≤cap) (h2 : cap≤maxLen) (h3 : cap * τ.size≤c.size)
  (hr : ∀ i (h : i < l.length),Rd m.w m.F τ (seg c (i * τ.size) τ.size) l[i]) :
  ∃ m',m'.w=w1∧m'.G=(i,.arr τ l) :: m.G∧Inv C w0 M m'∧Evo m m'∧RelSV m' (.slice (some ⟨m.w.heap.size,0,none⟩) l.length cap) (.av (.own i)):=by
 have he : Evo m ⟨w1,m.F,fun k=>if k=i then .slice (some ⟨m.w.heap.size,0,none⟩) l.length cap else m.ι k,(i,.arr τ l) :: m.G⟩:=by
  refine ⟨fun b hF=>⟨hF,hw.block b (hi.fro b hF) (fun h=>h)⟩,fun id p hp=>?_⟩
  have hne : i≠id:=fun e=>by subst e; rw [hn] at hp; cases hp
  exact ⟨p,by rw [Heap.get_cons,if_neg hne]; exact hp,.inr (.inl ⟨by simp [Ne.symm hne],Alike.refl p⟩)⟩
 have hlt : m.w.heap.size < w1.heap.size:=(Array.getElem?_eq_some_iff.1 hb).1
 obtain ⟨g1,g2⟩:=ji hi hw (i:=i) (o:=.arr τ l) (h:=.slice (some ⟨m.w.heap.size,0,none⟩) l.length cap) hn (by
   intro b hb
   obtain ⟨_,rfl⟩:=hb
   exact ⟨Nat.le_refl _,hlt⟩)
  ⟨some ⟨m.w.heap.size,0,none⟩,cap,by simp,h1,h2,fun _=>⟨m.w.heap.size,0,c,el,fz,rfl,hb,hc,by omega,fun j hj=>by
   rw [Nat.zero_add]; exact (hr j hj).mono he.fro⟩⟩
 refine ⟨_,rfl,rfl,g1,g2,?_⟩
 exact (ak (a:=.own i) (by intros; simp)).2 ⟨rfl,.arr τ l,by rw [Heap.get_cons,if_pos rfl],fun _=>by simp⟩
theorem pC (hi : Inv C w0 M m) {i : Nat} (hn : m.G.get i=none) {w1 : World} (hw : Kept m.w (fun _=>False) w1) {c : Array Value} {el : TypeId} {fz : Nat×Nat} {τ : Ty} {l : List (List τ.den)} {cap : Nat} {hs : List Value}
  (hb : w1.heap[m.w.heap.size]?=some (.cells c el fz)) (hc : fI (.slice τ) c.size fz) (h1 : l.length≤cap) (h2 : cap≤maxLen) (h3 : cap≤c.size) (hl : hs.length=l.length) (hcs : ∀ k,k < l.length→c[k]?=hs[k]?)
  (hr : ∀ k (h : k < l.length) v,hs[k]?=some v→HdrW m.w m.F v τ l[k]) (ha : dc hs) (hf : ∀ v∈hs,er w0 M m v) :
  ∃ m',m'.w=w1∧m'.G=(i,.deep 0 τ l none) :: m.G∧Inv C w0 M m'∧Evo m m'∧RelSV m' (.slice (some ⟨m.w.heap.size,0,none⟩) l.length cap) (.av (.ownd i)):=by
 have hlt : m.w.heap.size < w1.heap.size:=(Array.getElem?_eq_some_iff.1 hb).1
 obtain ⟨g1,g2⟩:=rn hi hw (fun b h=>h.elim)
 have hF : ∀ b,m.F b→m.F b∧w1.heap[b]?=m.w.heap[b]?:=fun b hb'=>⟨hb',hw.block b (hi.fro b hb') (fun h=>h)⟩
 have hfree : ∀ v∈hs,er w0 M ⟨w1,m.F,m.ι,m.G⟩ v:=by
  intro v hv b hb'
  obtain ⟨k1,k2,k3,k4⟩:=hf v hv b hb'
  exact ⟨k1,k2,Nat.lt_of_lt_of_le k3 hw.size,k4⟩
 have hub : ∀ b,HB (.slice (some ⟨m.w.heap.size,0,none⟩) l.length cap) b→b=m.w.heap.size:=fun b hb'=>hb'.2.symm
 have hd : DeepW w1 m.F (.slice (some ⟨m.w.heap.size,0,none⟩) l.length cap) hs τ l none:=by
  refine ⟨hl,⟨_,cap,rfl,h1,h2,fun _=>⟨m.w.heap.size,0,c,el,fz,rfl,hb,hc,by omega,fun k hk _=>by rw [Nat.zero_add]; exact hcs k hk⟩⟩,fun k hk v hv _=>?_,fun k v hk=>(by cases hk),?_⟩
  ·exact (hr k hk v hv).mono hF (fun b hb'=>hw.block b (hf v (List.mem_of_getElem? hv) b hb').2.2.1 (fun h=>h))
  ·refine List.Pairwise.cons (fun v hv b hb1 hb2=>?_) ha
   have:=hub b hb1
   have:=(hf v hv b hb2).2.2.1
   omega
 obtain ⟨m',p1,p2,p3,p4,p5,p6,p7⟩:=iv (m:=⟨w1,m.F,m.ι,m.G⟩) g1 hn hd (fun v hv=>by
  rcases List.mem_cons.1 hv with rfl | hv
  ·intro b hb'
   have:=hub b hb'
   subst this
   have:=hi.kept.size
   exact ⟨.inl this,fun hF'=>by have:=hi.fro _ hF'; omega,hlt,fun id o ho hob hb2=>by have:=(hi.own id o _ ho hob hb2).2.2; omega⟩
  ·exact hfree v hv)
 exact ⟨m',p1,p3,p5,g2.trans p6,(ak (a:=.ownd i) (by intros; simp)).2 p7⟩
theorem CV (hi : Inv C w0 M m) {i : Nat} (hn : m.G.get i=none) {w1 : World} (hw : Kept m.w (fun _=>False) w1) {τ : Ty} (ad : Option Addr) :
  ∃ m',m'.w=w1∧m'.G=(i,.arr τ []) :: m.G∧Inv C w0 M m'∧Evo m m'∧RelSV m' (.slice ad 0 0) (.av (.own i)):=by
 obtain ⟨g1,g2⟩:=ji hi hw (i:=i) (o:=.arr τ []) (h:=.slice ad 0 0) hn (by intro b hb; cases ad <;> simp [HB,HB1] at hb)
  ⟨ad,0,by simp,by simp,by unfold maxLen; omega,fun h=>absurd rfl h⟩
 refine ⟨_,rfl,rfl,g1,g2,?_⟩
 exact (ak (a:=.own i) (by intros; simp)).2 ⟨rfl,.arr τ [],by rw [Heap.get_cons,if_pos rfl],fun _=>by simp⟩
theorem yH (z : Array Value) (hz : 0 < z.size) (n i : Nat) (h : i < n) :
  seg ((Array.range (n * z.size)).map (z[· % z.size]!)) (i * z.size) z.size=z.toList:=by
 apply List.ext_getElem?
 intro k
 by_cases hk : k < z.size
 ·rw [seg_getElem? _ _ _ _ hk]
  have hlt : i * z.size+k < n * z.size:=by
   have : (i+1) * z.size≤n * z.size:=Nat.mul_le_mul_right _ h
   rw [Nat.add_mul] at this; omega
  have hm : (i * z.size+k) % z.size=k:=by rw [Nat.add_comm,Nat.add_mul_mod_self_right,Nat.mod_eq_of_lt hk]
  simp [hlt,hm,hk]
 ·have h2 : z.toList[k]?=none:=List.getElem?_eq_none (by rw [Array.length_toList]; omega)
  rw [h2]
  unfold seg; rw [List.getElem?_take]; simp [hk]
theorem sS {t : TypeId} {n c : Operand} (hT : cp P C.tab=true) (hi : Inv C w0 M m) (hG : m.G=s.G) (hS : ∀ x,RelSV m (a.eval x) (aj C s.env x)) (ho : o.op=.makeSlice t n c)
  (h : al C o s some=some s') : Does P o a m.w (Res C w0 M m s s' o.dst):=by
 simp only [al,ho] at h
 split at h
 ·rename_i e ht
  obtain ⟨et,hu,hck⟩:=aC (ac hT ht)
  obtain ⟨k1,x,hx,h⟩:=eo h
  obtain ⟨k2,y,hy,h⟩:=eo h
  have hxv:=hS n
  have hyv:=hS c
  rw [hx] at hxv
  rw [hy] at hyv
  obtain ⟨hxv,_,_⟩:=rel_int hxv
  obtain ⟨hyv,_,_⟩:=rel_int hyv
  obtain ⟨l,hl,h⟩:=Option.bind_eq_some_iff.1 h
  unfold ER at hl
  split at hl
  ·rename_i hc
   simp only [Option.some.injEq] at hl
   subst hl
   obtain ⟨c1,c2,c3⟩:=hc
   have hlim : lim=68719476736:=rfl
   rw [hlim] at c3
   obtain ⟨i,hn,h⟩:=bk h
   obtain ⟨inf,z,r1,r2,r3,r4,r5,r6,r7⟩:=db hck
   obtain ⟨c0,e0,hr0,_⟩:=bE (m:=m) r5
   rw [List.append_nil] at e0
   have hzs : z.cells.size=e.size:=by rw [← Array.length_toList,e0]; exact hr0.len
   have w1 : IntKind.i64.wrap x=x:=IntWalk.i64_in x (by omega)
   have w2 : IntKind.i64.wrap y=y:=IntWalk.i64_in y (by omega)
   have hb1 : (inf.bytes : Int) * y≤2048 * 68719476736:=by
    have : (inf.bytes : Int)≤2048:=by omega
    exact Int.mul_le_mul this c3 (by omega) (by omega)
   have hb2 : (inf.bytes : Int) * x≤2048 * 68719476736:=by
    have : (inf.bytes : Int)≤2048:=by omega
    exact Int.mul_le_mul this (by omega) (by omega) (by omega)
   have h48 : (2 : Int) ^ 48=281474976710656:=by decide
   have n1 : ¬ y < 0:=by omega
   have n2 : ¬ x < 0:=by omega
   have n3 : ¬ (inf.bytes : Int) * y > 2 ^ 48:=by omega
   have n4 : ¬ x > y:=by omega
   obtain ⟨zc,hzc⟩ : ∃ zc,zc=(if y.toNat * e.size=0 then #[] else z.cells):=⟨_,rfl⟩
   have hrun : (Instr.makeSlice t (.int k1 x) (.int k2 y)).run P m.w=.ok (.slice (some ⟨m.w.heap.size,0,none⟩) x.toNat y.toNat)
     (m.w.alloc (.cells ((Array.range (y.toNat * e.size)).map (zc[· % zc.size]!)) et)):=by
    have hs:=aJ hck m.w
    simp only [Instr.makeSlice,Sem.run_bind,run_underlying hu,Result.andThen_ok,asInt,asIntOf,Sem.run_pure,typeInfo,run_program,r1,w1,w2]
    simp only [n1,n2,n3,n4,decide_false,Bool.or_self,Bool.false_or,Bool.or_false,Bool.false_eq_true,if_false]
    by_cases hz : y.toNat * e.size=0
    ·rw [if_pos hz] at hzc
     subst hzc
     simp [hs,hz,newRow]
    ·rw [if_neg hz] at hzc
     subst hzc
     simp [hs,hz,newRow,zeroValue,typeInfo,r1,r4]
   have hcsz : ((Array.range (y.toNat * e.size)).map (zc[· % zc.size]!)).size=y.toNat * e.size:=by simp
   have hsegz : ∀ j,j < x.toNat→Rd m.w m.F e (seg ((Array.range (y.toNat * e.size)).map (zc[· % zc.size]!)) (j * e.size) e.size) (aS e)∧(e.size≠0→seg ((Array.range (y.toNat * e.size)).map (zc[· % zc.size]!)) (j * e.size) e.size=c0):=by
    intro j hj
    by_cases hz : e.size=0
    ·have : c0=[]:=by have:=hr0.len; rw [hz] at this; exact List.eq_nil_of_length_eq_zero this
     subst this
     have : seg ((Array.range (y.toNat * e.size)).map (zc[· % zc.size]!)) (j * e.size) e.size=[]:=by
      unfold seg; rw [hz]; simp
     rw [this]; exact ⟨hr0,fun h=>absurd hz h⟩
    ·have hne : y.toNat * e.size≠0:=by
      intro h0; rcases Nat.mul_eq_zero.1 h0 with h0 | h0 <;> omega
     rw [if_neg hne] at hzc
     subst hzc
     have:=yH z.cells (by omega) y.toNat j (by omega)
     rw [hzs] at this
     rw [hzs,this,e0]
     exact ⟨hr0,fun _=>rfl⟩
   obtain ⟨d,hd⟩ : ∃ d,d=(C.deep.any fun d=>Nat.beq d (o.dst.getD 0)):=⟨_,rfl⟩
   rw [← hd] at h
   have plain : ∃ m',m'.w=m.w.alloc (.cells ((Array.range (y.toNat * e.size)).map (zc[· % zc.size]!)) et)∧m'.G=(i,.arr e (List.replicate x.toNat (aS e))) :: m.G∧Inv C w0 M m'∧Evo m m'∧RelSV m' (.slice (some ⟨m.w.heap.size,0,none⟩) x.toNat y.toNat) (.av (.own i)):=by
    obtain ⟨m',q1,q2,q3,q4,q5⟩:=l7 (τ:=e) (l:=List.replicate x.toNat (aS e)) (cap:=y.toNat) (fz:=(0,0)) hi (hG ▸ hn) (cV m.w (.cells ((Array.range (y.toNat * e.size)).map (zc[· % zc.size]!)) et)) (bu m.w _) (.inl (Nat.le_refl _)) (by simp; omega) (by unfold maxLen; omega) (by rw [hcsz]; exact Nat.le_refl _) (fun j hj=>by
     simp only [List.length_replicate] at hj
     rw [List.getElem_replicate]
     exact (hsegz j hj).1)
    exact ⟨m',q1,q2,q3,q4,by simpa using q5⟩
   obtain ⟨m',q1,q2,q3,q4,q5⟩ : ∃ m',m'.w=m.w.alloc (.cells ((Array.range (y.toNat * e.size)).map (zc[· % zc.size]!)) et)∧m'.G=(i,jg d e (List.replicate x.toNat (aS e))) :: m.G∧Inv C w0 M m'∧Evo m m'∧RelSV m' (.slice (some ⟨m.w.heap.size,0,none⟩) x.toNat y.toNat) (.av (e9 d e i)):=by
    cases d with
    | false=>exact plain
    | true =>
     cases e with
     | slice σ =>
      have hc0 : c0=[.slice none 0 0]:=by
       unfold zeroIs at r5
       split at r5 <;> simp_all
      obtain ⟨m',q1,q2,q3,q4,q5⟩:=pC (τ:=σ) (l:=List.replicate x.toNat ([] : List σ.den)) (hs:=List.replicate x.toNat (.slice none 0 0)) (cap:=y.toNat) (fz:=(0,0)) hi (hG ▸ hn) (cV m.w (.cells ((Array.range (y.toNat * (Ty.slice σ).size)).map (zc[· % zc.size]!)) et)) (bu m.w _) (.inl (Nat.le_refl _)) (by simp; omega) (by unfold maxLen; omega) (by rw [hcsz]; simp [Ty.size]) (by simp) (fun k hk=>by
       simp only [List.length_replicate] at hk
       have e1:=(hsegz k hk).2 (by simp [Ty.size])
       rw [hc0] at e1
       simp only [Ty.size,Nat.mul_one] at e1 ⊢
       have e2:=seg_getElem? ((Array.range (y.toNat * 1)).map (zc[· % zc.size]!)) k 1 0 (by omega)
       simp only [Nat.mul_one] at e2
       rw [e1,Nat.add_zero] at e2
       rw [← e2]
       simp [hk]) (fun k hk v hv=>by
        simp only [List.getElem?_replicate] at hv
        split at hv
        ·cases hv
         rw [List.getElem_replicate]
         exact ⟨none,0,rfl,by simp,by unfold maxLen; omega,fun h=>absurd rfl h⟩
        ·cases hv) (by
         rw [dc,List.pairwise_iff_getElem]
         intro p q hp hq _ b hb
         rw [List.getElem_replicate] at hb
         simp [HB,HB1] at hb) (fun v hv b hb=>by
          rw [List.mem_replicate] at hv
          rw [hv.2] at hb
          simp [HB,HB1] at hb)
      refine ⟨m',q1,q2,q3,q4,?_⟩
      rw [List.length_replicate] at q5
      exact q5
     | _=>exact plain
   refine Does.value (w':=m'.w) (v:=.slice (some ⟨m.w.heap.size,0,none⟩) x.toNat y.toNat) ?_ ⟨m',.av (e9 d e i),rfl,?_,q3,q4,q5⟩
   ·simp [execOp,ho,hxv,hyv,hrun,q1]
   ·simp only [Option.some.injEq] at h
    rw [← h,q2,hG]
  ·simp at hl
 ·simp at h
theorem c7 {τ : Option Ty} {v : SV} (h : yJ τ v=true) : (∃ b,v=.av (.val .str b)∧τ=some .str)∨((∀ b,v≠.av (.val .str b))∧∃ e,τ=some (.slice e)):=by
 unfold yJ at h
 split at h
 ·exact .inl ⟨_,rfl,rfl⟩
 all_goals first | exact .inr ⟨by intros; simp,_,rfl⟩ | cases h
theorem FA {t : Call} (hT : cp P C.tab=true) (hi : Inv C w0 M m) (hG : m.G=s.G) (hS : ∀ x,RelSV m (a.eval x) (aj C s.env x)) {args : Array Operand} {ats : Array TypeId}
  (ho : o.op=.call { callee:=.builtin .len,args,argTypes:=ats })
  (h : al C o s some=some s') : Does P o a m.w (Res C w0 M m s s' o.dst):=by
 simp only [al,ho] at h
 split at h
 ·rename_i x hargs
  have ha : args=#[x]:=by rw [← Array.toArray_toList (xs:=args),hargs]
  subst ha
  cases hc : (yJ (C.tab.get (ats.getD 0 0)) (aj C s.env x) && Nat.ble 1 ats.size) with
  | false=>rw [hc] at h; simp at h
  | true =>
   rw [hc] at h
   simp only [cond_true] at h
   simp only [Bool.and_eq_true] at hc
   obtain ⟨hty,hsz⟩:=hc
   have hsz:=Nat.le_of_ble_eq_true hsz
   have hx:=hS x
   have hat : ats[0]?=some (ats.getD 0 0):=by simp [Array.getElem?_eq_getElem (show 0 < ats.size by omega)]
   have fin {n : Nat} (hn : n≤maxLen) (hv : (∃ b : ByteArray,P.underlying (ats.getD 0 0)=some .string∧a.eval x=.string b∧b.size=n)∨(∃ et ad cap,P.underlying (ats.getD 0 0)=some (.slice et)∧a.eval x=.slice ad n cap))
     (hs : some (aw o.dst (.av (.val (.int .i64) (n : Int))) s)=some s') : Does P o a m.w (Res C w0 M m s s' o.dst):=by
    refine am hi hG (v:=.int .i64 n) ?_ (gm (yZ hn)) hs
    clear hty
    generalize ats.getD 0 0=t0 at hat hv
    rcases hv with ⟨b,h1,h2,h3⟩ | ⟨et,ad,cap,h1,h2⟩
    ·simp [execOp,ho,resolve,invoke,builtin,h2,Builtin.len_,hat,run_underlying h1,goInt,h3]
    ·simp [execOp,ho,resolve,invoke,builtin,h2,Builtin.len_,hat,run_underlying h1,goInt]
   clear hsz
   generalize ats.getD 0 0=t0 at hat hty fin
   unfold lenOf at h
   split at h
   ·rename_i e l hp
    rw [hp] at hx hty
    obtain ⟨ad,cap,hv,h2,h3,_⟩:=fa hx
    obtain ⟨e1,ht⟩ : ∃ e,C.tab.get t0=some (.slice e):=by
     rcases c7 hty with ⟨_,h,_⟩ | ⟨_,h⟩
     ·cases h
     ·exact h
    obtain ⟨et,hu,_⟩:=aC (ac hT ht)
    exact fin (by omega) (.inr ⟨et,ad,cap,hu,hv⟩) h
   ·rename_i b hp
    rw [hp] at hx hty
    obtain ⟨hv,h2⟩:=ii hx
    have ht : C.tab.get t0=some .str:=by
     rcases c7 hty with ⟨_,_,h⟩ | ⟨h,_⟩
     ·exact h
     ·exact absurd rfl (h b)
    exact fin h2 (.inl ⟨b,dX (ac hT ht),hv,rfl⟩) h
   ·rename_i hp
    rw [hp] at hx hty
    obtain ⟨ad,hv⟩:=hx
    obtain ⟨e1,ht⟩ : ∃ e,C.tab.get t0=some (.slice e):=by
     rcases c7 hty with ⟨_,h,_⟩ | ⟨_,h⟩
     ·cases h
     ·exact h
    obtain ⟨et,hu,_⟩:=aC (ac hT ht)
    exact fin (n:=0) (by omega) (.inr ⟨et,ad,0,hu,hv⟩) h
   ·rename_i id hp
    rw [hp] at hx hty
    obtain ⟨_,ob,hob,hv⟩:=hx
    rw [hG] at hob
    split at h
    ·rename_i e l hl
     rw [hl] at hob
     simp only [Option.some.injEq] at hob
     subst hob
     obtain ⟨ad,cap,r1,r2,r3,_⟩:=hi.objs id _ (hG ▸ hl)
     obtain ⟨e1,ht⟩ : ∃ e,C.tab.get t0=some (.slice e):=by
      rcases c7 hty with ⟨_,h,_⟩ | ⟨_,h⟩
      ·cases h
      ·exact h
     obtain ⟨et,hu,_⟩:=aC (ac hT ht)
     exact fin (by omega) (.inr ⟨et,ad,cap,hu,by rw [hv rfl,r1]⟩) h
    ·simp at h
   ·rename_i id off n hp
    rw [hp] at hx hty
    obtain ⟨_,ob,hob,hv⟩:=hx
    rw [hG] at hob
    split at h
    ·rename_i e l hl
     rw [hl] at hob
     simp only [Option.some.injEq] at hob
     subst hob
     obtain ⟨ad,cap,r1,r2,r3,_⟩:=hi.objs id _ (hG ▸ hl)
     simp only at hv
     obtain ⟨e1,ht⟩ : ∃ e,C.tab.get t0=some (.slice e):=by
      rcases c7 hty with ⟨_,h,_⟩ | ⟨_,h⟩
      ·cases h
      ·exact h
     obtain ⟨et,hu,_⟩:=aC (ac hT ht)
     obtain ⟨a',n',cap',ad',v1,v2,v3⟩:=hv.2
     exact fin (by omega) (.inr ⟨et,_,_,hu,v2⟩) h
    ·simp at h
   ·rename_i id off n hp
    rw [hp] at hx hty
    obtain ⟨_,ob,hob,hv⟩:=hx
    rw [hG] at hob
    split at h
    ·rename_i e l hl
     rw [hl] at hob
     simp only [Option.some.injEq] at hob
     subst hob
     obtain ⟨ad,cap,r1,r2,r3,_⟩:=hi.objs id _ (hG ▸ hl)
     simp only at hv
     obtain ⟨e1,ht⟩ : ∃ e,C.tab.get t0=some (.slice e):=by
      rcases c7 hty with ⟨_,h,_⟩ | ⟨_,h⟩
      ·cases h
      ·exact h
     obtain ⟨et,hu,_⟩:=aC (ac hT ht)
     obtain ⟨k1,k2,b,o',n',cap',v1,v2⟩:=hv
     exact fin (by omega) (.inr ⟨et,_,_,hu,v2⟩) h
    ·simp at h
   ·rename_i id hp
    rw [hp] at hx hty
    obtain ⟨_,ob,hob,hv⟩:=hx
    rw [hG] at hob
    split at h
    ·rename_i ver e l hole hl
     rw [hl] at hob
     simp only [Option.some.injEq] at hob
     subst hob
     obtain ⟨u,hs,d1,d2⟩:=bU hi (hG ▸ hl)
     obtain ⟨us,v1,v2⟩:=hv
     rw [d1] at v1
     simp only [Value.tuple.injEq] at v1
     subst v1
     simp only [List.getElem?_toArray,List.getElem?_cons_zero,Option.some.injEq] at v2
     obtain ⟨ad,cap,r1,r2,r3,_⟩:=d2.outer
     obtain ⟨e1,ht⟩ : ∃ e,C.tab.get t0=some (.slice e):=by
      rcases c7 hty with ⟨_,h,_⟩ | ⟨_,h⟩
      ·cases h
      ·exact h
     obtain ⟨et,hu,_⟩:=aC (ac hT ht)
     exact fin (by omega) (.inr ⟨et,ad,cap,hu,by rw [← v2,r1]⟩) h
    ·simp at h
   ·rename_i id ver j hp
    rw [hp] at hx hty
    obtain ⟨_,ob,hob,hv⟩:=hx
    rw [hG] at hob
    split at h
    ·rename_i ver' e l hl
     rw [hl] at hob
     simp only [Option.some.injEq] at hob
     subst hob
     cases hb : Nat.beq ver ver' with
     | false=>rw [hb] at h; simp at h
     | true =>
      rw [hb] at h
      have:=Nat.eq_of_beq_eq_true hb
      subst this
      obtain ⟨hj,_,us,v1,v2⟩:=hv.2 rfl
      simp only [cond_true,iD hj] at h
      obtain ⟨u,hs,d1,d2⟩:=bU hi (hG ▸ hl)
      rw [d1] at v1
      simp only [Value.tuple.injEq] at v1
      subst v1
      simp only [List.getElem?_toArray,List.getElem?_cons_succ] at v2
      obtain ⟨ad,cap,r1,r2,r3,_⟩:=d2.inner j hj _ v2 (by simp)
      obtain ⟨e1,ht⟩ : ∃ e,C.tab.get t0=some (.slice e):=by
       rcases c7 hty with ⟨_,h,_⟩ | ⟨_,h⟩
       ·cases h
       ·exact h
      obtain ⟨et,hu,_⟩:=aC (ac hT ht)
      exact fin (by omega) (.inr ⟨et,ad,cap,hu,r1⟩) h
    ·simp at h
   ·simp at h
 ·simp at h
end
end Go.Vm

/-
 The machine's operations against the model's: conversions, parts of slices, literals.
-/
namespace Go.Vm
section
variable {P : Program} {C : Ctx} {w0 : World} {M : Own} {o : Oper} {a : Act} {m : Mem} {s s' : St}
theorem w7 {x y : Int} {lo hi : Int} (h1 : lo≤x∧x≤hi) (h2 : lo≤y∧y≤hi) : lo≤jw x y∧jw x y≤hi:=by unfold jw; split <;> assumption
theorem wP {x y : Int} {lo hi : Int} (h1 : lo≤x∧x≤hi) (h2 : lo≤y∧y≤hi) : lo≤maxI x y∧maxI x y≤hi:=by unfold maxI; split <;> assumption
theorem ib (mx : Bool) (hS : ∀ x,RelSV m (a.eval x) (aj C s.env x)) {R : Type} {K : Int→Option R} {z : R} : ∀ (xs : List Operand) (n : Int),
  IntKind.i64.min≤n∧n≤IntKind.i64.max→jx mx n (xs.map (aj C s.env)) K=some z →
  ∃ n',K n'=some z∧(IntKind.i64.min≤n'∧n'≤IntKind.i64.max)∧((xs.map a.eval).foldlM (cond mx Builtin.max2 Builtin.min2) (.int .i64 n)).run P m.w=.ok (.int .i64 n') m.w
 | [],n,hn,h=>⟨n,h,hn,by simp⟩
 | x :: xs,n,hn,h=>by
  simp only [List.map_cons,jx] at h
  obtain ⟨y,hy,h⟩:=k8 h
  have hx:=hS x
  rw [hy] at hx
  obtain ⟨hx,h1,h2⟩:=rel_int hx
  cases mx with
  | true =>
   obtain ⟨n',r1,r2,r3⟩:=ib true hS xs (maxI n y) (wP hn ⟨h1,h2⟩) h
   refine ⟨n',r1,r2,?_⟩
   simp only [List.map_cons,List.foldlM_cons,cond_true,hx,Builtin.max2,Sem.run_bind,Sem.run_pure,Result.andThen_ok]
   exact r3
  | false =>
   obtain ⟨n',r1,r2,r3⟩:=ib false hS xs (jw n y) (w7 hn ⟨h1,h2⟩) h
   refine ⟨n',r1,r2,?_⟩
   simp only [List.map_cons,List.foldlM_cons,cond_false,hx,Builtin.min2,Sem.run_bind,Sem.run_pure,Result.andThen_ok]
   exact r3
theorem FT (hi : Inv C w0 M m) (hG : m.G=s.G) (hS : ∀ x,RelSV m (a.eval x) (aj C s.env x)) {args : Array Operand} {ats : Array TypeId}
  (ho : o.op=.call { callee:=.builtin .min,args,argTypes:=ats }) (h : al C o s some=some s') : Does P o a m.w (Res C w0 M m s s' o.dst):=by
 simp only [al,ho] at h
 obtain ⟨l,rfl⟩ : ∃ l : List Operand,args=l.toArray:=⟨args.toList,by simp⟩
 cases l with
 | nil=>simp at h
 | cons x xs =>
  simp only [List.map_cons] at h
  obtain ⟨y,hy,h⟩:=k8 h
  have hx:=hS x
  rw [hy] at hx
  obtain ⟨hx,h1,h2⟩:=rel_int hx
  obtain ⟨n',r1,r2,r3⟩:=ib (P:=P) (m:=m) (a:=a) false hS xs y ⟨h1,h2⟩ h
  refine am hi hG (v:=.int .i64 n') ?_ (gm r2) r1
  simp only [cond_false] at r3
  simp [execOp,ho,resolve,invoke,builtin,Builtin.min_,hx,r3]
theorem FH (hi : Inv C w0 M m) (hG : m.G=s.G) (hS : ∀ x,RelSV m (a.eval x) (aj C s.env x)) {args : Array Operand} {ats : Array TypeId}
  (ho : o.op=.call { callee:=.builtin .max,args,argTypes:=ats }) (h : al C o s some=some s') : Does P o a m.w (Res C w0 M m s s' o.dst):=by
 simp only [al,ho] at h
 obtain ⟨l,rfl⟩ : ∃ l : List Operand,args=l.toArray:=⟨args.toList,by simp⟩
 cases l with
 | nil=>simp at h
 | cons x xs =>
  simp only [List.map_cons] at h
  obtain ⟨y,hy,h⟩:=k8 h
  have hx:=hS x
  rw [hy] at hx
  obtain ⟨hx,h1,h2⟩:=rel_int hx
  obtain ⟨n',r1,r2,r3⟩:=ib (P:=P) (m:=m) (a:=a) true hS xs y ⟨h1,h2⟩ h
  refine am hi hG (v:=.int .i64 n') ?_ (gm r2) r1
  simp only [cond_true] at r3
  simp [execOp,ho,resolve,invoke,builtin,Builtin.max_,hx,r3]
theorem wW {x : Operand} {i : Nat} (hi : Inv C w0 M m) (hG : m.G=s.G) (hS : ∀ x,RelSV m (a.eval x) (aj C s.env x)) (ho : o.op=.extract x i)
  (h : al C o s some=some s') : Does P o a m.w (Res C w0 M m s s' o.dst):=by
 simp only [al,ho] at h
 have hx:=hS x
 split at h
 ·rename_i l hp
  rw [hp] at hx
  obtain ⟨us,hv,hr⟩:=hx
  split at h
  ·rename_i c hc
   obtain ⟨u,hu,hr'⟩:=hr.get hc
   exact am hi hG (v:=u) (sv:=.agg c) (by simp [execOp,ho,hv,Instr.extract,hu]) (by simp only [eO,cond_true] at hr'; exact hr') h
  ·rename_i at' hc
   obtain ⟨u,hu,hr'⟩:=hr.get hc
   simp only [eO,cond_false] at hr'
   obtain ⟨b,hb,hr'⟩:=hr'
   simp only [List.cons.injEq,and_true] at hb
   subst hb
   exact am hi hG (v:=u) (sv:=.av at') (by simp [execOp,ho,hv,Instr.extract,hu]) (RelSV.of_atom hr') h
  ·simp at h
 ·simp at h
theorem lk (hi : Inv C w0 M m) (hG : m.G=s.G) (hS : ∀ x,RelSV m (a.eval x) (aj C s.env x)) : ∀ (xs : List Operand) {l : List Nat},o8 s.G (xs.map (aj C s.env))=some l →
  Rel2 (fun u c=>∃ o,m.G.get c=some o∧(match o with
    | .box _=>∃ b,m.ι c=.pointer (some ⟨b,0,none⟩)∧u=.pointer (some ⟨b,0,none⟩)
    | .dead=>True
    | _=>False)) (xs.map a.eval) l
 | [],l,h=>by simp [o8] at h; subst h; trivial
 | x :: xs,l,h=>by
  have hx:=hS x
  simp only [List.map_cons] at h ⊢
  generalize aj C s.env x=v at h hx
  unfold o8 at h
  split at h
  ·cases ‹_ :: _=[]›
  ·rename_i i r heq
   simp only [List.cons.injEq] at heq
   obtain ⟨rfl,rfl⟩:=heq
   obtain ⟨_,ob,hob,hv⟩:=(ak (m:=m) (a:=.ptr i 0) (by intros; simp)).1 hx
   split at h
   ·rename_i bl hbl
    split at h
    ·rename_i l' hl'
     simp only [Option.some.injEq] at h
     subst h
     exact ⟨⟨ob,hob,hv⟩,lk hi hG hS xs hl'⟩
    ·simp at h
   ·simp at h
  ·simp at h
theorem mf : ∀ {us : List Value} {l : List Atom} {q : List (Σ t : Ty,t.den)},Rel2 (ah m) us l→gU l=some q→Rel2 (fun u (p : Σ t : Ty,t.den)=>Rd m.w m.F p.1 [u] p.2∧p.1.isAgg=false) us q
 | [],[],q,_,h=>by
  simp only [gU,Option.some.injEq] at h
  subst h
  trivial
 | u :: us,a :: l,q,hr,h=>by
  cases a with
  | val τ x =>
   simp only [gU] at h
   obtain ⟨q',hq,h⟩:=Option.bind_eq_some_iff.1 h
   simp only [Option.some.injEq] at h
   subst h
   exact ⟨hr.1,mf hr.2 hq⟩
  | _=>simp [gU] at h
theorem iY (hi : Inv C w0 M m) (hS : ∀ x,RelSV m (a.eval x) (aj C s.env x)) : ∀ (xs : List Operand) {q : (Σ t : Ty,t.den)×List Nat},j6 m.G (xs.map (aj C s.env))=some q →
  Rd m.w (Thru m q.2) q.1.1 (xs.map a.eval) q.1.2
 | [],q,h=>by simp only [List.map_nil,j6,Option.some.injEq] at h; subst h; rfl
 | x :: xs,q,h=>by
  have hx:=hS x
  simp only [List.map_cons] at h ⊢
  unfold j6 at h
  split at h
  ·rename_i he; cases he
  ·rename_i e y r he
   simp only [List.cons.injEq] at he
   obtain ⟨he,rfl⟩:=he
   split at h
   ·rename_i q' hq'
    simp only [Option.some.injEq] at h
    subst h
    have ih:=iY hi hS xs hq'
    rw [he] at hx
    obtain ⟨cs,h1,h2⟩:=hx
    obtain ⟨v,rfl,_⟩:=h2.single rfl
    have h1 : a.eval x=v:=h1
    exact ⟨[a.eval x],xs.map a.eval,rfl,Fz (h1 ▸ h2),ih⟩
   ·simp at h
  ·rename_i i r he
   simp only [List.cons.injEq] at he
   obtain ⟨he,rfl⟩:=he
   split at h
   ·rename_i τ y hg
    cases ha : τ.isAgg with
    | true=>rw [ha] at h; simp at h
    | false =>
     rw [ha] at h
     simp only [cond_false] at h
     split at h
     ·rename_i q' hq'
      simp only [Option.some.injEq] at h
      subst h
      have ih:=iY hi hS xs hq'
      rw [he] at hx
      have hx:=(ak (m:=m) (a:=.ptr i 0) (by intros; simp)).1 hx
      have hbv : iR m.G τ i 0=some y:=by
       have hsz:=dk ha
       have hc : az m.G τ [.val τ y]=some (y,[]):=by
        cases τ <;> first | (simp [az,ax,aU]; done) | simp [Ty.isAgg] at ha
       unfold iR
       rw [hg]
       simp only [hsz,List.length_cons,List.length_nil,Nat.zero_add,List.drop_zero,hc]
       rfl
      have hb:=v9 hi hbv hx
      refine ⟨[a.eval x],xs.map a.eval,rfl,nZ ?_ hb,nZ (fun k hk=>by simp [hk]) ih⟩
      intro k hk
      have : gg m.G i=[]:=by simp [gg,hg,bg]
      rw [this] at hk
      simp at hk
      simp [hk]
     ·simp at h
   ·simp at h
  ·simp at h
theorem t5 {fn : Fn} {first caps : Array Operand} (hi : Inv C w0 M m) (hG : m.G=s.G) (hS : ∀ x,RelSV m (a.eval x) (aj C s.env x)) (ho : o.op=.makeFunc fn first caps)
  (h : al C o s some=some s') : Does P o a m.w (Res C w0 M m s s' o.dst):=by
 cases fn with
 | func f =>
  simp only [al,ho] at h
  split at h
  ·rename_i l hf hc
   have hf' : first=#[]:=by rw [← Array.toArray_toList (xs:=first),hf]
   subst hf'
   have hr:=lk hi hG hS caps.toList hc
   refine am hi hG (v:=.func (.func f) #[] (caps.toList.map a.eval).toArray) (sv:=.av (.clo f l)) ?_ (show ah m _ (.clo f l) from ⟨_,rfl,hr⟩) h
   have e : Array.map a.eval caps=(caps.toList.map a.eval).toArray:=by apply Array.ext'; simp
   simp [execOp,ho,Instr.makeFunc,e]
  ·rename_i x hf hc
   have hf' : first=#[x]:=by rw [← Array.toArray_toList (xs:=first),hf]
   subst hf'
   have hc' : caps=#[]:=by
    have hr:=(lk hi hG hS caps.toList hc).length
    simp at hr
    exact hr
   subst hc'
   have hx:=hS x
   split at h
   ·rename_i l hl
    rw [hl] at hx
    obtain ⟨us,hu,h1,hr⟩:=hx
    obtain ⟨q,hq,h⟩:=Option.bind_eq_some_iff.1 h
    exact am hi hG (v:=.func (.func f) #[.agg us.toArray] #[]) (sv:=.av (.bnd f q)) (by simp [execOp,ho,Instr.makeFunc,hu]) (show ah m _ (.bnd f q) from ⟨us,rfl,h1,mf hr hq⟩) h
   ·simp at h
  ·rename_i hf hc
   have hf' : first=#[]:=by rw [← Array.toArray_toList (xs:=first),hf]
   subst hf'
   split at h
   ·rename_i q hq
    simp only [Option.some.injEq] at h
    rw [← hG] at hq
    have hr:=iY hi hS caps.toList hq
    obtain ⟨m1,a1,a2,a3,a4,a5,a6⟩:=cm q.2 hi
    have e : Array.map a.eval caps=(caps.toList.map a.eval).toArray:=by apply Array.ext'; simp
    refine Does.value (w':=m1.w) (v:=.func (.func f) #[] (caps.toList.map a.eval).toArray) (by simp [execOp,ho,Instr.makeFunc,e,a1]) ⟨m1,.av (.val (.clo f q.1.1) q.1.2),rfl,?_,a4,a5,?_⟩
    ·rw [← h,a3,hG]
    ·exact ⟨[_],rfl,_,rfl,hr.mono fun b hb=>⟨a6 b hb,by rw [a1]⟩⟩
   ·simp at h
  ·simp at h
 | _=>simp [al,ho] at h
theorem xJ {t u : TypeId} {x : Operand} (hT : cp P C.tab=true) (hi : Inv C w0 M m) (hG : m.G=s.G) (hS : ∀ x,RelSV m (a.eval x) (aj C s.env x)) (ho : o.op=.convert t u x)
  (h : al C o s some=some s') : Does P o a m.w (Res C w0 M m s s' o.dst):=by
 simp only [al,ho] at h
 have hx:=hS x
 split at h
 ·rename_i _ k1 k k2 y h1 h2 hp
  rw [hp] at hx
  obtain ⟨hx,_,_⟩:=rel_int hx
  have u1:=iw (ac hT h1)
  have u2:=iw (ac hT h2)
  exact am hi hG (v:=.int k (k.wrap y)) (by simp [execOp,ho,hx,convert,run_underlying u1,run_underlying u2,Conv.intToInt]) (gm (wrap_within k _)) h
 ·rename_i b h1 h2 hp
  rw [hp] at hx
  obtain ⟨hx,hb⟩:=ii hx
  have u1:=dX (ac hT h1)
  obtain ⟨et,u2,hck⟩:=aC (ac hT h2)
  have u3:=iw hck
  obtain ⟨i,hn,h⟩:=bk h
  have hrun:=Lib.run_convert_string_bytes (P:=P) m.w t u et b u1 u2 u3
  have hge : b.size≤grownCap m.w b.size 0 et:=grownCap_ge _ _ _ _
  have hle : grownCap m.w b.size 0 et≤maxLen:=grownCap_le_maxLen _ _ _ _ hb
  have hcs : (Lib.bytesCells m.w et b).size=grownCap m.w b.size 0 et:=by simp [Lib.bytesCells]; have : b.data.size=b.size:=rfl; omega
  have hkept : Kept m.w (fun _=>False) (Lib.bytesWorld m.w et b):=by
   refine ⟨?_,?_,?_,by rw [Lib.bytesWorld_size]; omega,fun k hk _=>Lib.bytesWorld_at_old _ _ _ _ hk⟩ <;> rfl
  have hlen : (bQ b).length=b.size:=by simp [bQ]
  obtain ⟨m',q1,q2,q3,q4,q5⟩:=l7 (τ:=.int .u8) (l:=bQ b) (cap:=grownCap m.w b.size 0 et) hi (hG ▸ hn) hkept (Lib.bytesWorld_at_new m.w et b) (.inr ⟨rfl,Nat.le_refl _⟩) (by omega) hle (by simp only [Ty.size]; omega) (fun j hj=>by
   have hj' : j < b.data.size:=by rw [hlen] at hj; exact hj
   have : seg (Lib.bytesCells m.w et b) (j * (Ty.int .u8).size) (Ty.int .u8).size=[.int .u8 (b.data[j].toNat : Int)]:=by
    apply List.ext_getElem?
    intro k
    simp only [Ty.size,Nat.mul_one]
    cases k with
    | zero =>
     rw [seg_getElem? _ _ _ _ (by omega)]
     have hjb : j < b.size:=hj'
     simp [Lib.bytesCells,Array.getElem?_append,hj',hjb]
    | succ k=>unfold seg; rw [List.getElem?_take]; simp
   rw [this]
   refine ⟨?_,?_⟩
   ·simp [bQ]
   ·have:=(b.data[j]).toNat_lt
    have e : (bQ b)[j]=(b.data[j].toNat : Int):=by simp [bQ]
    rw [e]
    generalize (b.data[j]).toNat=z at this ⊢
    have e1 : IntKind.u8.min=0:=rfl
    have e2 : IntKind.u8.max=255:=rfl
    rw [e1,e2]
    show (0 : Int)≤(z : Int)∧(z : Int)≤255
    omega)
  rw [hlen] at q5
  refine Does.value (w':=m'.w) (v:=.slice (some ⟨m.w.heap.size,0,none⟩) b.size (grownCap m.w b.size 0 et)) ?_ ⟨m',.av (.own i),rfl,?_,q3,q4,q5⟩
  ·simp [execOp,ho,hx,hrun,q1]
  ·simp only [Option.some.injEq] at h
   rw [← h,q2,hG]
 ·rename_i h1 h2
  split at h
  ·rename_i l hl
   have u2:=dX (ac hT h2)
   obtain ⟨et,u1,hck⟩:=aC (ac hT h1)
   have u3:=iw hck
   obtain ⟨cs,hv,hrd⟩:=cH hi (hG ▸ hl) hx
   obtain ⟨ad,cap,rfl,r1,r2,r3⟩:=hrd
   simp only [toV,Ty.isAgg,cond_false,List.headD_cons] at hv
   have hsz : (nS l).size=l.length:=strOfNums_size l
   have key : (convert t u (a.eval x)).run P m.w=.ok (.string (nS l)) m.w:=by
    rw [hv]
    cases l with
    | nil =>
     cases ad with
     | none=>rw [run_convert_bytes_nil m.w t et u1 u3 _ _ u u2]; rfl
     | some ad =>
      rw [run_convert_bytes_string m.w t u et _ _ _ u1 u3 u2,run_bytesToString m.w ad _ _ [] (by simp [loadCells,loadCellsFrom])]; rfl
    | cons n l =>
     obtain ⟨b,off,c,el,fz,rfl,q2,q3,q4,q5⟩:=r3 (by simp)
     refine run_convert_bytes_arg m.w t et u1 u3 b off _ cap (n :: l) rfl (fun j hj=>?_) u u2
     have:=(q5 j hj).1
     simp only [Ty.size,Nat.mul_one] at this
     rw [cb q3]
     have h0:=seg_getElem? c (off+j) 1 0 (by omega)
     rw [this,Nat.add_zero] at h0
     rw [← h0]
     simp [List.getD,List.getElem?_eq_getElem hj]
   exact am hi hG (v:=.string (nS l)) (by simp [execOp,ho,key]) (pX (by omega)) h
  ·simp at h
 ·rename_i b h1 h2 hp
  rw [hp] at hx
  have hx':=hx
  obtain ⟨hx,hb⟩:=ii hx
  have u1:=dX (ac hT h1)
  have u2:=dX (ac hT h2)
  exact am hi hG (v:=.string b) (sv:=.av (.val .str b)) (by simp [execOp,ho,hx,convert,run_underlying u1,run_underlying u2]) (pX hb) h
 ·simp at h
end
end Go.Vm

/-
 The machine's operations against the model's: literals of structs and of slices, parts of slices.
-/
namespace Go.Vm
section
variable {P : Program} {C : Ctx} {w0 : World} {M : Own} {o : Oper} {a : Act} {m : Mem} {s s' : St}
theorem kZ (c : Array Value) (o : Nat) : ao c o []=c:=by
 unfold ao; apply Array.ext'; simp
theorem vG (off : Nat) : ∀ (vs : List Value) (j : Nat) (c : Array Value),off+j+vs.length≤c.size →
  (vs.zipIdx j).foldl (fun cs (x : Value×Nat)=>cs.setIfInBounds (off+x.2) x.1) c=ao c (off+j) vs
 | [],j,c,_=>by rw [kZ]; rfl
 | v :: vs,j,c,h=>by
  simp only [List.length_cons] at h
  simp only [List.zipIdx_cons,List.foldl_cons]
  rw [vG off vs (j+1) _ (by simp; omega)]
  apply Array.ext_getElem?
  intro k
  rw [b8 _ _ _ (by simp; omega),b8 _ _ _ (by simp; omega),Array.getElem?_setIfInBounds]
  simp only [List.length_cons]
  by_cases h1 : off+j=k
  ·subst h1
   rw [if_neg (by omega),if_pos rfl,if_pos (by omega),if_pos (by omega)]
   simp
  ·by_cases h2 : off+j < k∧k < off+j+1+vs.length
   ·rw [if_pos (by omega),if_pos (by omega)]
    have : k - (off+j)=(k - (off+(j+1)))+1:=by omega
    rw [this]; rfl
   ·rw [if_neg (by omega),if_neg h1,if_neg (by omega)]
theorem vU (off : Nat) (vs c : Array Value) (h : off+vs.size≤c.size) :
  vs.zipIdx.foldl (fun cs (x : Value×Nat)=>cs.setIfInBounds (off+x.2) x.1) c=ao c off vs.toList:=by
 rw [← Array.foldl_toList,Array.toList_zipIdx]
 exact vG off vs.toList 0 c (by simpa using h)
theorem mK (place : Nat→Option (Nat×Nat)) (cells : Array Value) (i : Nat) (v : Value) (rest : List (Nat×Value)) {off size : Nat} (hp : place i=some (off,size)) (hs : v.cells.size=size)
  (hb : off+v.cells.size≤cells.size) : Instr.fill place cells ((i,v) :: rest)=Instr.fill place (ao cells off v.cells.toList) rest:=by
 rw [← vU off v.cells cells hb]
 simp only [Instr.fill,hp]
 rw [if_neg (by simp; omega)]
theorem qK : ∀ {b : Ty} {r : List Field} {o : Nat},chk P b (some (r,o)) 0=true→∃ places,r.mapM (fun f=>(P.info? f.type).map fun i=>(f.offset,i.size))=some places ∧
  ∀ i o' σ,b.field i=some (o',σ)→places[i]?=some (o+o',σ.size)
 | .prod a b,r,o,h=>by
  cases r with
  | nil=>simp [chk] at h
  | cons fd r =>
   simp only [chk,Bool.and_eq_true] at h
   obtain ⟨⟨h1,h2⟩,h3⟩:=h
   obtain ⟨places,q1,q2⟩:=qK h3
   obtain ⟨i,z,r1,r2,_⟩:=db h2
   have h1:=Nat.eq_of_beq_eq_true h1
   refine ⟨(o,a.size) :: places,?_,?_⟩
   ·simp only [List.mapM_cons,r1,q1,Option.map_some]
    simp [h1,r2]
   ·intro j o' σ hf
    cases j with
    | zero=>simp [Ty.field] at hf; obtain ⟨rfl,rfl⟩:=hf; rfl
    | succ j =>
     simp only [Ty.field] at hf
     split at hf
     ·rename_i o1 t1 hb
      simp at hf
      obtain ⟨rfl,rfl⟩:=hf
      have:=q2 j o1 t1 hb
      simp only [List.getElem?_cons_succ]
      rw [this,Nat.add_assoc]
     ·simp at hf
 | .unit,[],_,_=>⟨[],rfl,by intro i o' σ hf; simp [Ty.field] at hf⟩
 | .unit,_ :: _,_,h=>by simp [chk] at h
 | .int _,_,_,h=>by simp [chk] at h
 | .bool,_,_,h=>by simp [chk] at h
 | .str,_,_,h=>by simp [chk] at h
 | .slice _,_,_,h=>by simp [chk] at h
 | .arr _ _,_,_,h=>by simp [chk] at h
 | .ptr _,_,_,h=>by simp [chk] at h
 | .clo _ _,_,_,h=>by simp [chk] at h
theorem jq {τ : Ty} {place : Nat→Option (Nat×Nat)} (hp : ∀ i o σ,τ.part i=some (o,σ)→place i=some (o,σ.size)) (hS : ∀ x,RelSV m (a.eval x) (aj C s.env x)) :
  ∀ (xs : List (Nat×Operand)) {l c : List Atom} {cells : Array Value},gy τ (xs.map fun p=>(p.1,aj C s.env p.2)) l=some c→Rel2 (ah m) cells.toList l→(∀ u∈cells.toList,u.oneCell'=true) →
  ∃ cells',Instr.fill place cells (xs.map fun p=>(p.1,a.eval p.2))=some cells'∧Rel2 (ah m) cells'.toList c∧∀ u∈cells'.toList,u.oneCell'=true
 | [],l,c,cells,h,hr,h1=>by
  simp [gy] at h
  subst h
  exact ⟨cells,rfl,hr,h1⟩
 | (i,x) :: xs,l,c,cells,h,hr,h1=>by
  simp only [List.map_cons,gy] at h
  split at h
  ·rename_i o t hf
   split at h
   ·rename_i cs hc
    cases hl : Nat.beq cs.length t.size with
    | false=>rw [hl] at h; simp at h
    | true =>
     rw [hl] at h
     simp only [cond_true] at h
     have hl:=Nat.eq_of_beq_eq_true hl
     split at h
     ·rename_i l' hput
      obtain ⟨k1,k2⟩:=iQ hc (hS x)
      obtain ⟨e1,e2⟩:=jP hput
      have n1:=hr.length
      have n2:=k1.length
      rw [Array.length_toList] at n1 n2
      simp only [List.map_cons]
      rw [mK place cells i (a.eval x) _ (hp i o t hf) (by omega) (by omega)]
      refine jq hp hS xs h ?_ ?_
      ·rw [e1]
       unfold ao
       simp only [Array.length_toList,n2]
       exact ((hr.take o).append k1).append (hr.drop _)
      ·intro u hu
       unfold ao at hu
       simp only [List.mem_append] at hu
       rcases hu with (hu | hu) | hu
       ·exact h1 u (List.mem_of_mem_take hu)
       ·exact k2 u hu
       ·exact h1 u (List.mem_of_mem_drop hu)
     ·simp at h
   ·simp at h
  ·simp at h
theorem CX {t : TypeId} {parts : Array (Nat×Operand)} (hT : cp P C.tab=true) (hi : Inv C w0 M m) (hG : m.G=s.G) (hS : ∀ x,RelSV m (a.eval x) (aj C s.env x)) (ho : o.op=.build t parts)
  (h : al C o s some=some s') : Does P o a m.w (Res C w0 M m s s' o.dst):=by
 simp only [al,ho] at h
 split at h
 ·rename_i τ ht
  have hck:=ac hT ht
  cases hst : τ.isAgg with
  | false=>rw [hst] at h; simp at h
  | true =>
   rw [hst] at h
   simp only [cond_true] at h
   split at h
   ·rename_i c hc
    obtain ⟨inf,z,r1,r2,r3,r4,r5,r6,r7⟩:=db hck
    obtain ⟨c0,e0,hr0,hz⟩:=bE (m:=m) r5
    rw [List.append_nil] at e0
    have key : ∃ place : Nat→Option (Nat×Nat),(∀ parts,P.built t parts=Instr.fill place z.cells parts)∧∀ i o' σ,τ.part i=some (o',σ)→place i=some (o',σ.size):=by
     cases τ with
     | prod p q =>
      simp only [chk,Bool.and_eq_true] at hck
      obtain ⟨_,hck⟩:=hck
      split at hck
      ·rename_i fs hu
       split at hck
       ·rename_i fd r hfs
        simp only [Bool.and_eq_true] at hck
        obtain ⟨⟨h1,h2⟩,h3⟩:=hck
        have hx : chk P (.prod p q) (some (fs.toList,0)) 0=true:=by
         rw [hfs]; simp only [chk,Bool.and_eq_true,Nat.zero_add]; exact ⟨⟨h1,h2⟩,h3⟩
        obtain ⟨places,q1,q2⟩:=qK hx
        refine ⟨fun i=>places.toArray[i]?,fun parts=>by simp only [Program.built,r1,hu,r4,q1],fun i o' σ hf=>?_⟩
        have:=q2 i o' σ hf
        rw [Nat.zero_add] at this
        simpa using this
       ·simp at hck
      ·simp at hck
     | unit =>
      simp only [chk,Bool.and_eq_true] at hck
      obtain ⟨_,hck⟩:=hck
      split at hck
      ·rename_i fs hu
       split at hck
       ·rename_i hfs
        refine ⟨fun i=>(([] : List (Nat×Nat)).toArray)[i]?,fun parts=>?_,by intro i o' σ hf; simp [Ty.part,Ty.field] at hf⟩
        have q1 : fs.toList.mapM (fun f=>(P.info? f.type).map fun i=>(f.offset,i.size))=some []:=by rw [hfs]; rfl
        simp only [Program.built,r1,hu,r4,q1]
       ·simp at hck
      ·simp at hck
     | arr n e =>
      obtain ⟨et,hu,he⟩:=li hck
      obtain ⟨ie,ze,s1,s2,_⟩:=db he
      refine ⟨fun i=>some (i * ie.size,ie.size),fun parts=>by simp only [Program.built,r1,hu,r4,s1],fun i o' σ hf=>?_⟩
      simp only [Ty.part,Option.some.injEq,Prod.mk.injEq] at hf
      obtain ⟨rfl,rfl⟩:=hf
      simp only [s2]
     | _=>simp [Ty.isAgg] at hst
    obtain ⟨place,hbl,hfl⟩:=key
    obtain ⟨cells',f1,f2,f3⟩:=jq (place:=place) hfl hS parts.toList hc (cells:=z.cells) (by rw [e0]; exact hz) (by rw [e0]; exact hr0.one)
    have hb : P.built t (parts.map fun p=>(p.1,a.eval p.2)).toList=some cells':=by
     rw [hbl,Array.toList_map]
     exact f1
    have hrun:=run_build m.w t _ cells' hb
    refine am hi hG (v:=.agg cells') (sv:=.agg c) ?_ ⟨cells'.toList,by simp,f3,f2⟩ h
    simp [execOp,ho,hrun]
   ·simp at h
 ·simp at h
theorem qd {size : Nat} : ∀ (xs : List Operand) (k : Nat) (cells : Array Value),(∀ x∈xs,(a.eval x).cells.size=size)→(k+xs.length) * size≤cells.size →
  ∃ cells',Instr.fill (fun i=>some (i * size,size)) cells ((xs.zipIdx k).map fun p=>(p.2,a.eval p.1))=some cells'∧cells'.size=cells.size ∧
   (∀ j x,xs[j]?=some x→seg cells' ((k+j) * size) size=(a.eval x).cells.toList)∧∀ j,j < k→seg cells' (j * size) size=seg cells (j * size) size
 | [],k,cells,_,_=>⟨cells,rfl,rfl,by intro j x h; simp at h,fun _ _=>rfl⟩
 | x :: xs,k,cells,h1,h2=>by
  simp only [List.length_cons] at h2
  have hx : (a.eval x).cells.size=size:=h1 x (by simp)
  have hle : (k+1) * size≤(k+(xs.length+1)) * size:=Nat.mul_le_mul_right _ (by omega)
  have hle' : (k+1) * size=k * size+size:=by rw [Nat.add_mul]; omega
  have hb : k * size+(a.eval x).cells.size≤cells.size:=by omega
  have hb' : k * size+(a.eval x).cells.toList.length≤cells.size:=by simpa using hb
  have hss:=aO cells (k * size) _ hb'
  obtain ⟨cells',q1,q2,q3,q4⟩:=qd xs (k+1) (ao cells (k * size) (a.eval x).cells.toList) (fun y hy=>h1 y (by simp [hy])) (by rw [hss,show k+1+xs.length=k+(xs.length+1) by omega]; exact h2)
  refine ⟨cells',?_,q2.trans hss,?_,?_⟩
  ·simp only [List.zipIdx_cons,List.map_cons]
   rw [mK _ cells k (a.eval x) _ rfl hx hb]
   exact q1
  ·intro j y hj
   cases j with
   | zero =>
    simp at hj
    subst hj
    rw [Nat.add_zero,q4 k (by omega)]
    have:=iH cells (k * size) _ hb'
    rw [Array.length_toList,hx] at this
    exact this
   | succ j =>
    have:=q3 j y (by simpa using hj)
    rw [show k+(j+1)=k+1+j by omega]
    exact this
  ·intro j hj
   rw [q4 j (by omega)]
   have : (j+1) * size≤k * size:=Nat.mul_le_mul_right _ hj
   rw [Nat.add_mul] at this
   exact bW cells (k * size) _ hb' (j * size) size (.inl (by omega))
theorem l8 {G : Heap} {e : Ty} : ∀ {vs : List SV} {l : List e.den},jd G e vs=some l→l.length=vs.length∧∀ i (h : i < l.length),∃ v,vs[i]?=some v∧aH G e v=some l[i]
 | [],l,h=>by simp [jd] at h; subst h; exact ⟨rfl,by intro i hi; simp at hi⟩
 | v :: vs,l,h=>by
  simp only [jd] at h
  split at h
  ·rename_i x hx
   split at h
   ·rename_i y hy
    simp at h
    subst h
    obtain ⟨h1,h2⟩:=l8 hy
    refine ⟨by simp [h1],fun i hi=>?_⟩
    cases i with
    | zero=>exact ⟨v,rfl,hx⟩
    | succ i =>
     obtain ⟨u,q1,q2⟩:=h2 i (by simpa using hi)
     exact ⟨u,by simpa using q1,by simpa using q2⟩
   ·simp at h
  ·simp at h
theorem pW {t et : TypeId} {e : Ty} {n : Nat} {parts : Array (Nat×Operand)} (hu : P.underlying t=some (.slice et)) (hck : chk P e none et=true) (hn : n=parts.size) (hlim : n * e.size≤16777216)
  (hall : (parts.toList.zipIdx.all fun p=>Nat.beq p.1.1 p.2)=true) (hcell : ∀ x∈parts.toList.map (·.2),(a.eval x).cells.size=e.size) :
  ∃ cells : Array Value,cells.size=n * e.size∧(∀ j x,(parts.toList.map (·.2))[j]?=some x→seg cells (j * e.size) e.size=(a.eval x).cells.toList) ∧
   ∀ w : World,(Instr.buildSlice t n (parts.map fun p=>(p.1,a.eval p.2))).run P w=.ok (.slice (some ⟨w.heap.size,0,none⟩) n n) (w.alloc (.cells cells et)):=by
 obtain ⟨xs,hxs⟩ : ∃ xs,xs=parts.toList.map (·.2):=⟨_,rfl⟩
 rw [← hxs] at hcell ⊢
 have hplen : xs.length=n:=by rw [hxs]; simp [hn]
 have hparts : parts.toList=xs.zipIdx.map fun p=>(p.2,p.1):=by
  rw [hxs]
  apply List.ext_getElem?
  intro k
  simp only [List.getElem?_map,List.getElem?_zipIdx,Nat.zero_add]
  cases hk : parts.toList[k]? with
  | none=>rfl
  | some p =>
   have : (p,k)∈parts.toList.zipIdx:=by
    rw [List.mem_iff_getElem?]
    exact ⟨k,by simp [List.getElem?_zipIdx,hk]⟩
   have:=Nat.eq_of_beq_eq_true (List.all_eq_true.1 hall _ this)
   simp only at this
   simp [← this]
 obtain ⟨inf,z,r1,r2,r3,r4,r5,r6,r7⟩:=db hck
 obtain ⟨zc,hzc⟩ : ∃ zc,zc=(if n * e.size=0 then #[] else z.cells):=⟨_,rfl⟩
 obtain ⟨cells,f1,f2,f3,_⟩:=qd (a:=a) (size:=e.size) xs 0 ((Array.range (n * e.size)).map (zc[· % zc.size]!)) hcell (by simp [hplen])
 refine ⟨cells,by rw [f2]; simp,fun j x hx=>by have:=f3 j x hx; rwa [Nat.zero_add] at this,fun w=>?_⟩
 have hs:=aJ hck w
 have hl : ¬ n * e.size > 2 ^ 24:=by omega
 have hf : Instr.fill (fun i=>some (i * e.size,e.size)) ((Array.range (n * e.size)).map (zc[· % zc.size]!)) (parts.map fun p=>(p.1,a.eval p.2)).toList=some cells:=by
  rw [Array.toList_map,hparts,List.map_map]
  exact f1
 by_cases hz : n * e.size=0
 ·rw [if_pos hz] at hzc
  subst hzc
  simp only [Instr.buildSlice,Sem.run_bind,run_underlying hu,Result.andThen_ok,hs,hz,if_neg (show ¬ 0 > 2 ^ 24 by omega),if_true,Sem.run_pure]
  rw [hz] at hf
  rw [hf]
  simp [newRow]
 ·rw [if_neg hz] at hzc
  subst hzc
  simp only [Instr.buildSlice,Sem.run_bind,run_underlying hu,Result.andThen_ok,hs,if_neg hl,hz,if_false,Sem.run_pure,zeroValue,typeInfo,run_program,r1,r4]
  rw [hf]
  simp [newRow]
theorem lH (hi : Inv C w0 M m) {σ : Ty} : ∀ {vs : List SV} {us : List Value} {p : List (List σ.den)×List Nat},gA m.G σ vs=some p→Rel2 (RelSV m) us vs →
  p.1.length=us.length∧(∀ i (h : i < p.1.length) u,us[i]?=some u→HdrW m.w m.F u σ p.1[i])∧(∀ id∈p.2,∃ l,m.G.get id=some (.arr σ l)) ∧
   (∀ u∈us,∀ b,HB u b→∃ id,id∈p.2∧∃ o,m.G.get id=some o∧isObj o=true∧HB (m.ι id) b)∧(aM p.2=true→dc us)
 | [],[],p,h,_=>by
  simp only [gA,Option.some.injEq] at h
  subst h
  exact ⟨rfl,by intro i hi; simp at hi,by simp,by simp,fun _=>List.Pairwise.nil⟩
 | [],_ :: _,_,_,h=>h.elim
 | _ :: _,[],_,_,h=>h.elim
 | v :: vs,u :: us,p,h,hr=>by
  simp only [gA] at h
  split at h
  ·rename_i x hx
   split at h
   ·rename_i q hq
    simp only [Option.some.injEq] at h
    subst h
    obtain ⟨k1,k2⟩:=ng hi hx hr.1
    obtain ⟨i1,i2,i3,i4,i5⟩:=lH hi hq hr.2
    have hub : ∀ b,HB u b→∃ id,x.2=[id]∧m.G.get id=some (.arr σ x.1)∧HB (m.ι id) b:=by
     intro b hb
     rcases k2 with ⟨_,e⟩ | ⟨id,e1,e2,e3⟩
     ·exact absurd hb (e b)
     ·exact ⟨id,e1,e2,e3 ▸ hb⟩
    refine ⟨by simp [i1],fun i hi' u' hu'=>?_,fun id hid=>?_,fun u' hu' b hb=>?_,fun hn=>?_⟩
    ·cases i with
     | zero=>simp only [List.getElem?_cons_zero,Option.some.injEq] at hu'; subst hu'; exact k1
     | succ i=>exact i2 i (by simpa using hi') u' (by simpa using hu')
    ·rcases List.mem_append.1 hid with hid | hid
     ·rcases k2 with ⟨e,_⟩ | ⟨id',e1,e2,_⟩
      ·rw [e] at hid; simp at hid
      ·rw [e1] at hid; simp at hid; subst hid; exact ⟨_,e2⟩
     ·exact i3 id hid
    ·rcases List.mem_cons.1 hu' with rfl | hu'
     ·obtain ⟨id,e1,e2,e3⟩:=hub b hb
      exact ⟨id,by rw [e1]; simp,_,e2,rfl,e3⟩
     ·obtain ⟨id,e1,e2⟩:=i4 u' hu' b hb
      exact ⟨id,by simp [e1],e2⟩
    ·obtain ⟨n1,n2,n3⟩:=dl hn
     refine List.Pairwise.cons (fun u' hu' b hb hb'=>?_) (i5 n2)
     obtain ⟨id,e1,e2,e3⟩:=hub b hb
     obtain ⟨id',e4,o,e5,e6,e7⟩:=i4 u' hu' b hb'
     have:=hi.inj id id' _ o b e2 rfl e5 e6 e3 e7
     subst this
     exact n3 id (by rw [e1]; simp) e4
   ·simp at h
  ·simp at h
theorem sM {t et : TypeId} {n : Nat} {parts : Array (Nat×Operand)} {σ : Ty} {p : List (List σ.den)×List Nat} (hi : Inv C w0 M m) (hG : m.G=s.G) (hS : ∀ x,RelSV m (a.eval x) (aj C s.env x)) (ho : o.op=.buildSlice t n parts)
  (hu : P.underlying t=some (.slice et)) (hck : chk P (.slice σ) none et=true) (hn : n=parts.size) (hn2 : n≤16777216) (hlim : n * (Ty.slice σ).size≤16777216) (hall : (parts.toList.zipIdx.all fun p=>Nat.beq p.1.1 p.2)=true)
  (hp : gA s.G σ (parts.toList.map fun p=>aj C s.env p.2)=some p) (hnd : aM p.2=true)
  (h : bw { env:=s.env,G:=aq p.2 s.G } (o.dst.getD 0) (.deep 0 σ p.1 none) (fun i s2=>some (aw o.dst (.av (.ownd i)) s2))=some s') : Does P o a m.w (Res C w0 M m s s' o.dst):=by
 obtain ⟨i,hfree,h⟩:=bk h
 simp only [Option.some.injEq] at h
 rw [← hG] at hp
 have hrel : Rel2 (RelSV m) (parts.toList.map fun p=>a.eval p.2) (parts.toList.map fun p=>aj C s.env p.2):=by
  generalize parts.toList=l
  induction l with
  | nil=>trivial
  | cons q l ih=>exact ⟨hS q.2,ih⟩
 obtain ⟨k1,k2,k3,k4,k5⟩:=lH hi hp hrel
 have k5:=k5 hnd
 have hone : ∀ x∈parts.toList.map (·.2),(a.eval x).cells=#[a.eval x]:=by
  intro x hx
  obtain ⟨j,hj⟩:=List.mem_iff_getElem?.1 hx
  simp only [List.getElem?_map,Option.map_eq_some_iff] at hj
  obtain ⟨q,hq,rfl⟩:=hj
  have hjl : j < p.1.length:=by rw [k1]; simpa using (List.getElem?_eq_some_iff.1 hq).1
  exact gE (cW (k2 j hjl (a.eval q.2) (by simp [hq])))
 obtain ⟨cells,c1,c2,c3⟩:=pW (a:=a) (e:=.slice σ) hu hck hn hlim hall (fun x hx=>by rw [hone x hx]; rfl)
 obtain ⟨d1,d2,d3,d4⟩:=ij p.2 hi (fun id hid=>by obtain ⟨l,hl⟩:=k3 id hid; exact ⟨_,hl⟩)
 have hplen : p.1.length=n:=by rw [k1,hn]; simp
 obtain ⟨m',q1,q2,q3,q4,q5⟩:=pC (m:=⟨m.w,m.F,m.ι,aq p.2 m.G⟩) (τ:=σ) (l:=p.1) (hs:=parts.toList.map fun p=>a.eval p.2) (cap:=n) (fz:=(0,0)) d1 (i:=i) (by show (aq p.2 m.G).get i=none; rw [hG]; exact hfree)
  (w1:=m.w.alloc (.cells cells et)) (cV m.w _) (c:=cells) (el:=et) (bu m.w _) (.inl (Nat.le_refl _)) (by omega) (by unfold maxLen; omega) (by rw [c1]; simp [Ty.size]) k1.symm (fun k hk=>by
   have hk' : k < parts.toList.length:=by rw [k1] at hk; simpa using hk
   have e1:=c2 k parts.toList[k].2 (by simp [List.getElem?_eq_getElem hk'])
   simp only [Ty.size,Nat.mul_one] at e1
   have e2:=seg_getElem? cells k 1 0 (by omega)
   rw [e1,hone _ (List.mem_map.2 ⟨_,List.getElem_mem hk',rfl⟩),Nat.add_zero] at e2
   rw [← e2]
   simp [List.getElem?_eq_getElem hk']) k2 k5 (fun v hv b hb=>by
    obtain ⟨id,e1,ob,e2,e3,e4⟩:=k4 v hv b hb
    exact d4 id e1 ob e2 e3 b e4)
 refine Does.value (w':=m'.w) (v:=.slice (some ⟨m.w.heap.size,0,none⟩) n n) ?_ ⟨m',.av (.ownd i),rfl,?_,q3,d2.trans q4,by rw [hplen] at q5; exact q5⟩
 ·simp [execOp,ho,c3,q1]
 ·rw [← h,q2,hG]
theorem qv {t : TypeId} {n : Nat} {parts : Array (Nat×Operand)} (hT : cp P C.tab=true) (hi : Inv C w0 M m) (hG : m.G=s.G) (hS : ∀ x,RelSV m (a.eval x) (aj C s.env x)) (ho : o.op=.buildSlice t n parts)
  (h : al C o s some=some s') : Does P o a m.w (Res C w0 M m s s' o.dst):=by
 simp only [al,ho] at h
 split at h
 ·rename_i e ht
  obtain ⟨et,hu,hck⟩:=aC (ac hT ht)
  cases hc : (Nat.beq n parts.size && Nat.ble n 16777216 && Nat.ble (n * e.size) 16777216 && (parts.toList.zipIdx.all fun p=>Nat.beq p.1.1 p.2)) with
  | false=>rw [hc] at h; simp at h
  | true =>
   rw [hc] at h
   simp only [cond_true] at h
   simp only [Bool.and_eq_true] at hc
   obtain ⟨⟨⟨hn,hn2⟩,hlim⟩,hall⟩:=hc
   have hn2:=Nat.le_of_ble_eq_true hn2
   have hn:=Nat.eq_of_beq_eq_true hn
   have hlim:=Nat.le_of_ble_eq_true hlim
   cases hd : (C.deep.any fun d=>Nat.beq d (o.dst.getD 0)) with
   | true =>
    rw [hd] at h
    simp only [cond_true] at h
    split at h
    ·rename_i σ _
     split at h
     ·rename_i p hp
      cases hnd : aM p.2 with
      | false=>rw [hnd] at h; simp at h
      | true =>
       rw [hnd] at h
       exact sM hi hG hS ho hu hck hn hn2 hlim hall hp hnd h
     ·simp at h
    ·simp at h
   | false =>
    rw [hd] at h
    simp only [cond_false] at h
    split at h
    ·rename_i l hl
     obtain ⟨i,hfree,h⟩:=bk h
     obtain ⟨m1,a1,a2,a3,a4,a5,a6⟩:=cm (parts.toList.flatMap fun p=>dL s.G (aj C s.env p.2)) hi
     obtain ⟨hl1,hl2⟩:=l8 hl
     have hval : ∀ j (hj : j < l.length),∃ x,(parts.toList.map (·.2))[j]?=some x∧Rd m1.w m1.F e (a.eval x).cells.toList l[j]:=by
      intro j hj
      obtain ⟨v,v1,v2⟩:=hl2 j hj
      simp only [List.getElem?_map,Option.map_eq_some_iff] at v1
      obtain ⟨p,p1,rfl⟩:=v1
      refine ⟨p.2,by simp [p1],?_⟩
      obtain ⟨cs,c1,c2⟩:=cH hi (hG ▸ v2) (hS p.2)
      rw [c1,jX c2]
      have : Rd m1.w m1.F e cs l[j]:=by
       refine c2.mono (fun b hb=>⟨a6 b ?_,by rw [a1]⟩)
       refine Thru.mono ?_ hb
       intro k hk
       rw [List.mem_flatMap]
       exact ⟨p,List.mem_of_getElem? p1,hG ▸ hk⟩
      simpa using this
     have hcell : ∀ x∈parts.toList.map (·.2),(a.eval x).cells.size=e.size:=by
      intro x hx
      obtain ⟨j,hj⟩:=List.mem_iff_getElem?.1 hx
      have hjl : j < l.length:=by
       have:=(List.getElem?_eq_some_iff.1 hj).1
       rw [hl1]; simpa using this
      obtain ⟨y,y1,y2⟩:=hval j hjl
      rw [hj] at y1
      simp only [Option.some.injEq] at y1
      subst y1
      have:=y2.len
      simpa using this
     have hllen : l.length=n:=by rw [hl1]; simp [hn]
     obtain ⟨cells,f2',f3,hrun⟩:=pW (a:=a) hu hck hn hlim hall hcell
     obtain ⟨m',q1,q2,q3,q4,q5⟩:=l7 (τ:=e) (l:=l) (cap:=n) (fz:=(0,0)) a4 (i:=i) (by rw [a3,hG]; exact hfree) (w1:=m1.w.alloc (.cells cells et)) (cV m1.w _) (c:=cells) (el:=et) (bu m1.w _) (.inl (Nat.le_refl _)) (by omega)
      (by unfold maxLen; omega) (by omega) (fun j hj=>by
       obtain ⟨x,x1,x2⟩:=hval j hj
       rw [f3 j x x1]; exact x2)
     refine Does.value (w':=m'.w) (v:=.slice (some ⟨m.w.heap.size,0,none⟩) n n) ?_ ⟨m',.av (.own i),rfl,?_,q3,a5.trans q4,by rw [hllen,a1] at q5; exact q5⟩
     ·simp [execOp,ho,hrun,q1,a1]
     ·simp only [Option.some.injEq] at h
      rw [← h,q2,a3,hG]
    ·simp at h
 ·simp at h
end
end Go.Vm

/-
 The machine's operations against the model's: parts of slices.
-/
namespace Go.Vm
section
variable {P : Program} {C : Ctx} {w0 : World} {M : Own} {o : Oper} {a : Act} {m : Mem} {s s' : St}
def ea (x : Option Value) (d i : Int) : Prop:=(x=none∧i=d)∨∃ k,x=some (.int k i)
theorem Aw {R : Type} {d : Int} {x : Option Operand} {K : Int→Option R} {r : R} (hS : ∀ x,RelSV m (a.eval x) (aj C s.env x)) (h : zn C s.env d x K=some r) :
  ∃ i,K i=some r∧ea (x.map a.eval) d i:=by
 cases x with
 | none=>exact ⟨d,h,.inl ⟨rfl,rfl⟩⟩
 | some x =>
  simp only [zn] at h
  obtain ⟨k,i,h1,h2⟩:=eo h
  have hx:=hS x
  rw [h1] at hx
  exact ⟨i,h2,.inr ⟨k,by simp [(rel_int hx).1]⟩⟩
theorem o5 (sl : Bool) (len cap : Nat) {low high : Option Value} {l h : Int} (hl : ea low 0 l) (hh : ea high len h) (h1 : 0≤l) (h2 : l≤h) (h3 : h≤len) (h4 : len≤cap) (w : World) :
  (Instr.sliceBounds sl len cap low high none).run P w=.ok (l.toNat,h.toNat,cap) w:=by
 have e1 : (0 : Int)≤h∧h≤cap:=by omega
 have e2 : (0 : Int)≤l∧l≤(h.toNat : Int):=by omega
 rcases hh with ⟨rfl,rfl⟩ | ⟨k,rfl⟩ <;> rcases hl with ⟨rfl,rfl⟩ | ⟨k',rfl⟩
 ·simp [Instr.sliceBounds]
 ·have e3 : (0 : Int)≤l∧l≤(len : Int):=by omega
  simp [Instr.sliceBounds,Instr.sliceBound,asIntOf,e3]
 ·simp [Instr.sliceBounds,Instr.sliceBound,asIntOf,e1]
 ·simp only [Instr.sliceBounds,Instr.sliceBound,asIntOf,Sem.run_bind,Sem.run_pure,Result.andThen_ok,if_pos e1,if_pos e2]
theorem k9 {n : Nat} {lo hi : Int} {p : Nat×Nat} (h : vo n lo hi=some p) : 0≤lo∧lo≤hi∧hi≤n∧p=(lo.toNat,hi.toNat - lo.toNat):=by
 unfold vo at h
 split at h
 ·simp at h; rename_i hc; exact ⟨hc.1,hc.2.1,hc.2.2,h.symm⟩
 ·simp at h
theorem cQ {t et : TypeId} {e : Ty} (hu : P.underlying t=some (.slice et)) (hck : chk P e none et=true) (ad : Option Addr) (len cap : Nat) {low high : Option Value} {l h : Int}
  (hl : ea low 0 l) (hh : ea high len h) (h1 : 0≤l) (h2 : l≤h) (h3 : h≤len) (h4 : len≤cap) (w : World) :
  (Instr.sliceAt t (.slice ad len cap) low high none).run P w=.ok (.slice (if cap=l.toNat then ad else ad.map (·.add (l.toNat * e.size))) (h.toNat - l.toNat) (cap - l.toNat)) w:=by
 simp [Instr.sliceAt,Instr.slice,run_underlying hu,o5 (P:=P) true len cap hl hh h1 h2 h3 h4,aJ hck]
theorem nL {t : TypeId} (hu : P.underlying t=some .string) (b : ByteArray) {low high : Option Value} {l h : Int}
  (hl : ea low 0 l) (hh : ea high b.size h) (h1 : 0≤l) (h2 : l≤h) (h3 : h≤b.size) (w : World) :
  (Instr.sliceAt t (.string b) low high none).run P w=.ok (.string (b.extract l.toNat h.toNat)) w:=by
 simp [Instr.sliceAt,Instr.slice,run_underlying hu,o5 (P:=P) false b.size b.size hl hh h1 h2 h3 (Nat.le_refl _)]
theorem p0 {size len cap : Nat} {ad : Option Addr} {lo n : Nat} : pB (.slice ad len cap) size lo n (.slice (if cap=lo then ad else ad.map (·.add (lo * size))) n (cap - lo)):=by
 refine ⟨ad,len,cap,_,rfl,rfl,fun h=>?_⟩
 rw [if_neg h]
theorem sy {v : Value} {size off len lo n cap : Nat} {ad : Option Addr} (had : ∀ a,ad=some a→∃ b o,a=⟨b,o,none⟩) {v0 : Value} (l0 : Nat) (h0 : v0=.slice ad l0 cap) (hle : off+len≤cap) (hlo : lo≤len)
  {u : Value} (h1 : pB v0 size off len u) (a' : Option Addr) (cap' : Nat) (hu : u=.slice a' len cap') :
  pB v0 size (off+lo) n (.slice (if cap'=lo then a' else a'.map (·.add (lo * size))) n (cap' - lo)):=by
 subst h0
 obtain ⟨ad1,n1,cap1,ad2,e1,e2,e3⟩:=h1
 simp only [Value.slice.injEq] at e1
 obtain ⟨rfl,rfl,rfl⟩:=e1
 rw [hu] at e2
 simp only [Value.slice.injEq] at e2
 obtain ⟨rfl,_,rfl⟩:=e2
 refine ⟨ad,l0,cap,_,rfl,by rw [Nat.sub_sub],fun h=>?_⟩
 rw [if_neg (by omega),e3 (by omega)]
 cases ad with
 | none=>rfl
 | some x =>
  obtain ⟨b,o,rfl⟩:=had x rfl
  simp only [Option.map_some,aD]
  rw [Nat.add_mul,Nat.add_assoc]
theorem qD {α : Type} (l : List α) (i j : Nat) (h : i≤j) : (l.take j).drop i=(l.drop i).take (j - i):=by
 rw [List.drop_take]
theorem co {t : TypeId} {x : Operand} {lo hi' : Option Operand} {v r : Value} {w : World} (ho : o.op=.slice t x lo hi' none) (hx : a.eval x=v)
  (h : (Instr.sliceAt t v (lo.map a.eval) (hi'.map a.eval) none).run P w=.ok r w) : (execOp a.eval o).run P w=.ok (.value r) w:=by
 simp only [execOp,ho,hx,Option.map_none]
 simp [h]
theorem Bo {t : TypeId} {x : Operand} {v : SV} (hv : aj C s.env x=v) {lo hi' : Option Operand} {l : Int} {h0 : Option Int} (hT : cp P C.tab=true) (hi : Inv C w0 M m) (hG : m.G=s.G)
  (hx : RelSV m (a.eval x) v) (ho : o.op=.slice t x lo hi' none) (hl : ea (lo.map a.eval) 0 l) (hh : ∀ d : Nat,ea (hi'.map a.eval) d (h0.getD d)) (hty : d8 C t s.G v=true)
  (h : dG s v l h0 none (fun v=>some (aw o.dst v s))=some s') : Does P o a m.w (Res C w0 M m s s' o.dst):=by
 unfold dG at h
 split at h
 ·rename_i b hq
  obtain ⟨hx,hb⟩:=ii hx
  unfold d8 at hty
  split at hty <;> try (simp_all; done)
  rename_i ht _
  have hu:=dX (ac hT ht)
  obtain ⟨r,hr,h⟩:=Option.bind_eq_some_iff.1 h
  unfold Cd at hr
  split at hr
  ·rename_i hc
   simp only [Option.some.injEq] at hr
   subst hr
   obtain ⟨c1,c2,c3⟩:=hc
   have hrun:=nL (P:=P) hu b hl (hh _) c1 c2 c3 m.w
   refine am hi hG (co ho hx hrun) (pX ?_) h
   rw [ByteArray.size_extract]; omega
  ·simp at hr
 ·rename_i e xs hq
  obtain ⟨ad,cap,hx,r1,r2,r3⟩:=fa hx
  unfold d8 at hty
  split at hty <;> try (simp_all; done)
  rename_i e1 e2 xs2 ht hq2
  simp only [SV.av.injEq,Atom.val.injEq,Ty.slice.injEq] at hq2
  obtain ⟨rfl,hq2⟩:=hq2
  have hty:=of_decide_eq_true hty
  subst hty
  obtain ⟨et,hu,hck⟩:=aC (ac hT ht)
  obtain ⟨r,hr,h⟩:=Option.bind_eq_some_iff.1 h
  unfold js at hr
  split at hr
  ·rename_i hc
   simp only [Option.some.injEq] at hr
   subst hr
   obtain ⟨c1,c2,c3⟩:=hc
   have hrun:=cQ (P:=P) hu hck ad xs.length cap hl (hh _) c1 c2 c3 r1 m.w
   refine am hi hG (co ho hx hrun) ?_ h
   have:=yY (w:=m.w) (F:=m.F) (τ:=e1) (l:=xs) (v:=.slice ad xs.length cap) ⟨ad,cap,rfl,r1,r2,r3⟩ (off:=l.toNat) (len:=(h0.getD xs.length).toNat - l.toNat) (by omega) p0
   rw [qD _ _ _ (by omega)]
   exact ⟨[_],rfl,this⟩
  ·simp at hr
 ·rename_i hq
  simp at hq
 ·obtain ⟨ad,hx⟩:=hx
  unfold d8 at hty
  split at hty <;> try (simp_all; done)
  rename_i e1 ht _
  obtain ⟨et,hu,hck⟩:=aC (ac hT ht)
  split at h
  ·rename_i hc
   obtain ⟨rfl,hc⟩:=hc
   have hb : ea (hi'.map a.eval) ((0 : Nat) : Int) 0:=by have:=hh 0; rw [show h0.getD ((0 : Nat) : Int)=0 from hc] at this; exact this
   have hrun:=cQ (P:=P) hu hck ad 0 0 hl hb (by omega) (by omega) (by omega) (by omega) m.w
   exact am hi hG (v:=.slice ad 0 0) (sv:=.av .nils) (co ho hx hrun) ⟨ad,rfl⟩ h
  ·simp at h
 ·rename_i id hq
  obtain ⟨_,ob,hob,hxv⟩:=hx
  rw [hG] at hob
  split at h
  ·rename_i e xs hg
   rw [hg] at hob
   simp only [Option.some.injEq] at hob
   subst hob
   have hxw:=hxv rfl
   obtain ⟨ad,cap,r1,r2,r3,r4⟩:=hi.objs id _ (hG ▸ hg)
   unfold d8 at hty
   split at hty <;> try (simp_all; done)
   rename_i e1 id2 ht hq2
   simp only [SV.av.injEq,Atom.own.injEq] at hq2
   subst hq2
   rw [hg] at hty
   have hty:=of_decide_eq_true hty
   subst hty
   obtain ⟨et,hu,hck⟩:=aC (ac hT ht)
   obtain ⟨p,hp,h⟩:=Option.bind_eq_some_iff.1 h
   obtain ⟨c1,c2,c3,rfl⟩:=k9 hp
   rw [r1] at hxw
   have hrun:=cQ (P:=P) hu hck ad xs.length cap hl (hh _) c1 c2 c3 r2 m.w
   refine am hi hG (co ho hxw hrun) ?_ h
   refine (ak (m:=m) (a:=.view id _ _) (by intros; simp)).2 ⟨rfl,.arr e1 xs,hG ▸ hg,?_,?_⟩
   ·simp only; omega
   ·rw [r1]; exact p0
  ·simp at h
 ·rename_i id off len hq
  obtain ⟨_,ob,hob,hxv⟩:=hx
  rw [hG] at hob
  unfold d8 at hty
  split at hty <;> try (simp_all; done)
  rename_i e1 id2 o2 n2 ht hq2
  simp only [SV.av.injEq,Atom.view.injEq] at hq2
  obtain ⟨rfl,rfl,rfl⟩:=hq2
  split at hty
  ·rename_i e xs hg
   rw [hg] at hob
   simp only [Option.some.injEq] at hob
   subst hob
   have hty:=of_decide_eq_true hty
   subst hty
   obtain ⟨et,hu,hck⟩:=aC (ac hT ht)
   obtain ⟨ad,cap,r1,r2,r3,r4⟩:=hi.objs id _ (hG ▸ hg)
   simp only at hxv
   obtain ⟨hle,hview⟩:=hxv
   obtain ⟨p,hp,h⟩:=Option.bind_eq_some_iff.1 h
   obtain ⟨c1,c2,c3,rfl⟩:=k9 hp
   have hv0:=hview
   obtain ⟨ad1,n1,cap1,ad2,k1,k2,k3⟩:=hview
   rw [r1] at k1
   simp only [Value.slice.injEq] at k1
   obtain ⟨rfl,rfl,rfl⟩:=k1
   have hrun:=cQ (P:=P) hu hck ad2 len (cap - off) hl (hh _) c1 c2 c3 (by omega) m.w
   refine am hi hG (co ho k2 hrun) ?_ h
   refine (ak (m:=m) (a:=.view id _ _) (by intros; simp)).2 ⟨rfl,.arr e1 xs,hG ▸ hg,?_,?_⟩
   ·simp only; omega
   ·rw [r1]
    by_cases hc0 : cap=0
    ·subst hc0
     have : off=0:=by omega
     subst this
     have hl0 : len=0:=by omega
     refine ⟨ad,xs.length,0,_,rfl,by rw [show 0 - 0 - l.toNat=0 - (0+l.toNat) from by omega],fun h=>absurd h (by simp only; omega)⟩
    ·refine sy (v:=a.eval x) (ad:=ad) ?_ xs.length rfl (by omega) (by omega) (r1 ▸ hv0) ad2 (cap - off) k2
     intro ad' had
     obtain ⟨b,off',_,_,_,q1,_⟩:=r4 hc0
     rw [q1] at had
     simp only [Option.some.injEq] at had
     exact ⟨b,off',had.symm⟩
  ·simp at hty
 ·rename_i hq
  cases hq
 ·simp at h
theorem Cz {t : TypeId} {x : Operand} {lo hi' mx : Option Operand} (hT : cp P C.tab=true) (hi : Inv C w0 M m) (hG : m.G=s.G) (hS : ∀ x,RelSV m (a.eval x) (aj C s.env x)) (ho : o.op=.slice t x lo hi' mx)
  (h : al C o s some=some s') : Does P o a m.w (Res C w0 M m s s' o.dst):=by
 simp only [al,ho] at h
 have hx:=hS x
 obtain ⟨l,h,hl⟩:=Aw hS h
 cases hty : d8 C t s.G (aj C s.env x) with
 | false=>rw [hty] at h; simp at h
 | true =>
  rw [hty] at h
  simp only [Bool.not_true,cond_false] at h
  cases hi' with
  | none=>cases mx with
   | none=>exact Bo rfl (h0:=none) hT hi hG hx ho hl (fun d=>.inl ⟨rfl,rfl⟩) hty h
   | some _=>simp at h
  | some hx'=>cases mx with
   | none =>
   obtain ⟨k,i,h1,h2⟩:=eo h
   have hh:=hS hx'
   rw [h1] at hh
   exact Bo rfl (h0:=some i) hT hi hG hx ho hl (fun d=>.inr ⟨k,by simp [(rel_int hh).1]⟩) hty h2
   | some mx' =>
   obtain ⟨k,i,h1,h2⟩:=eo h
   obtain ⟨k',i',h3,h4⟩:=eo h2
   have hh:=hS hx'
   rw [h1] at hh
   have hm:=hS mx'
   rw [h3] at hm
   have hh:=(rel_int hh).1
   have hm:=(rel_int hm).1
   generalize aj C s.env x=v at h4 hx hty
   unfold dG at h4
   split at h4 <;> try (cases ‹some _=none›; done)
   ·rename_i e xs he
    simp only [Option.some.injEq] at he
    subst he
    split at h4
    ·rename_i hc
     obtain ⟨rfl,hc⟩:=hc
     simp only [Option.some.injEq] at hc
     subst hc
     obtain ⟨ad,cap,hxv,r1,r2,r3⟩:=fa hx
     unfold d8 at hty
     split at hty <;> try (simp_all; done)
     rename_i e1 e2 xs2 ht hq2
     obtain ⟨et,hu,hck⟩:=aC (ac hT ht)
     have hs:=aJ hck m.w
     refine am hi hG (v:=.slice ad 0 0) (sv:=.av .nils) ?_ ⟨ad,rfl⟩ h4
     rcases hl with ⟨hl,_⟩ | ⟨k2,hl⟩
     ·simp [execOp,ho,hxv,hl,hh,hm,Instr.sliceAt,Instr.slice,run_underlying hu,Instr.sliceBounds,Instr.sliceBound,asIntOf,hs]
     ·simp [execOp,ho,hxv,hl,hh,hm,Instr.sliceAt,Instr.slice,run_underlying hu,Instr.sliceBounds,Instr.sliceBound,asIntOf,hs]
    ·simp at h4
   ·rename_i id mx2 he
    simp only [Option.some.injEq] at he
    subst he
    obtain ⟨_,ob,hob,hxv⟩:=hx
    rw [hG] at hob
    split at h4
    ·rename_i e xs hg
     rw [hg] at hob
     simp only [Option.some.injEq] at hob
     subst hob
     have hxw:=hxv rfl
     unfold d8 at hty
     split at hty <;> try (simp_all; done)
     rename_i e1 id2 ht hq2
     simp only [SV.av.injEq,Atom.own.injEq] at hq2
     subst hq2
     rw [hg] at hty
     have hty:=of_decide_eq_true hty
     subst hty
     obtain ⟨et,hu,hck⟩:=aC (ac hT ht)
     obtain ⟨p,hp,h4⟩:=Option.bind_eq_some_iff.1 h4
     obtain ⟨c1,c2,c3,rfl⟩:=k9 hp
     split at h4
     ·rename_i hc
      obtain ⟨hc1,hc2⟩:=hc
      simp only [Option.some.injEq] at hc1
      subst hc1
      obtain ⟨b,off,cap,c,el,fz,r1,r2,r3,r4,r5,r6,r7,r8,r9⟩:=lr hi (hG ▸ hg) (j:=l.toNat) (by omega)
      obtain ⟨ad',cap',u1,u2,_,_⟩:=hi.objs id _ (hG ▸ hg)
      rw [r1] at hxw u1
      simp only [Value.slice.injEq] at u1
      obtain ⟨_,_,rfl⟩:=u1
      refine am hi hG (v:=.slice (some ⟨b,off+l.toNat * e1.size,none⟩) (i.toNat - l.toNat) (i.toNat - l.toNat)) ?_
       ((ak (m:=m) (a:=.cut id _ _) (by intros; simp)).2 ⟨rfl,.arr e1 xs,hG ▸ hg,by omega,by omega,b,off,xs.length,cap,r1,rfl⟩) h4
      have b1 : (0 : Int)≤i∧i≤(cap : Int):=by omega
      have b2 : (0 : Int)≤i∧i≤(i.toNat : Int):=by omega
      have b3 : (0 : Int)≤l∧l≤(i.toNat : Int):=by omega
      have b4 : ¬ i.toNat=l.toNat:=by omega
      have b6 : max i 0=i:=by omega
      have b5 : ¬ i.toNat - l.toNat=0:=by omega
      have hs:=aJ hck m.w
      rcases hl with ⟨hl,rfl⟩ | ⟨k2,hl⟩
      ·simp [execOp,ho,hxw,hl,hh,hm,Instr.sliceAt,Instr.slice,run_underlying hu,Instr.sliceBounds,Instr.sliceBound,asIntOf,hs,b1,b2,b6,aD]
      ·simp [execOp,ho,hxw,hl,hh,hm,Instr.sliceAt,Instr.slice,run_underlying hu,Instr.sliceBounds,Instr.sliceBound,asIntOf,hs,b1,b2,b3,b4,b5,b6,aD]; intro hx; omega
     ·simp at h4
    ·simp at h4
   ·simp at h4
end
end Go.Vm

/-
 The machine's operations against the model's: append.
-/
namespace Go.Vm
section
variable {P : Program} {C : Ctx} {w0 : World} {M : Own} {o : Oper} {a : Act} {m : Mem} {s s' : St}
theorem zW (hi : Inv C w0 M m) {id i : Nat} {o o' : Obj} {b : Nat} (hg : m.G.get id=some o) (hob : isObj o=true) (hbl : HB (m.ι id) b) (hn : Heap.get ((id,.dead) :: m.G) i=none)
  {w1 : World} (hw : Wrote m.w b w1) {h : Value} (hh : ∀ b',HB h b'↔b'=b)
  (ho : Evo m ⟨w1,m.F,fun k=>if k=i then h else m.ι k,(i,o') :: (id,.dead) :: m.G⟩→de ⟨w1,m.F,fun k=>if k=i then h else m.ι k,(i,o') :: (id,.dead) :: m.G⟩ i o') :
  Inv C w0 M ⟨w1,m.F,fun k=>if k=i then h else m.ι k,(i,o') :: (id,.dead) :: m.G⟩∧Evo m ⟨w1,m.F,fun k=>if k=i then h else m.ι k,(i,o') :: (id,.dead) :: m.G⟩:=by
 obtain ⟨hb1,hb2,hb3⟩:=hi.own id o b hg hob hbl
 have hii : i≠id:=by intro e; subst e; rw [Heap.get_cons,if_pos rfl] at hn; cases hn
 have hn' : m.G.get i=none:=by rw [Heap.get_cons,if_neg (Ne.symm hii)] at hn; exact hn
 have get3 : ∀ k,Heap.get ((i,o') :: (id,.dead) :: m.G) k=if i=k then some o' else if id=k then some .dead else m.G.get k:=by
  intro k; rw [Heap.get_cons,Heap.get_cons]
 have he : Evo m ⟨w1,m.F,fun k=>if k=i then h else m.ι k,(i,o') :: (id,.dead) :: m.G⟩:=by
  refine ⟨fun k hF=>⟨hF,hw.block k (fun e=>hb2 (e ▸ hF))⟩,fun k p hp=>?_⟩
  have hik : i≠k:=by intro e; subst e; rw [hn'] at hp; cases hp
  by_cases e : id=k
  ·exact ⟨.dead,by show Heap.get ((i,o') :: (id,.dead) :: m.G) k=_; rw [get3,if_neg hik,if_pos e],.inl rfl⟩
  ·exact ⟨p,by show Heap.get ((i,o') :: (id,.dead) :: m.G) k=_; rw [get3,if_neg hik,if_neg e]; exact hp,.inr (.inl ⟨by simp [Ne.symm hik],Alike.refl p⟩)⟩
 refine ⟨⟨?_,?_,?_,?_,?_,?_,hi.bnd,fun i v h=>cu he (hi.pin i v h)⟩,he⟩
 ·refine ⟨hw.os.trans hi.kept.os,hw.tape.trans hi.kept.tape,hw.output.trans hi.kept.output,by rw [hw.size]; exact hi.kept.size,fun k hk hM=>?_⟩
  refine (hw.block k ?_).trans (hi.kept.block k hk hM)
  intro e; subst e
  rcases hb1 with hb1 | hb1
  ·omega
  ·exact hM hb1
 ·intro k p hp
  change Heap.get ((i,o') :: (id,.dead) :: m.G) k=_ at hp
  rw [get3] at hp
  split at hp
  ·rename_i e; subst e
   simp only [Option.some.injEq] at hp
   subst hp
   exact ho he
  ·rename_i hik
   split at hp
   ·simp only [Option.some.injEq] at hp
    subst hp
    trivial
   ·rename_i hne
    by_cases hop : isObj p=true
    ·refine bR he (by simp [Ne.symm hik]) (fun b' hb'=>hw.block b' ?_) (hi.objs k p hp)
     intro e; subst e
     exact hne (hi.inj id k o p b' hg hob hp hop hbl hb')
    ·cases p <;> simp_all [isObj,de]
 ·intro k p b' hp hop hbl'
  change Heap.get ((i,o') :: (id,.dead) :: m.G) k=_ at hp
  rw [get3] at hp
  have : (w0.heap.size≤b'∨M b')∧¬ m.F b'∧b' < m.w.heap.size:=by
   split at hp
   ·rename_i e; subst e
    have : b'=b:=(hh b').1 (by simpa using hbl')
    subst this
    exact ⟨hb1,hb2,hb3⟩
   ·rename_i hik
    split at hp
    ·simp only [Option.some.injEq] at hp
     subst hp
     simp [isObj] at hop
    ·exact hi.own k p b' hp hop (by simpa [Ne.symm hik] using hbl')
  exact ⟨this.1,this.2.1,by show b' < w1.heap.size; rw [hw.size]; exact this.2.2⟩
 ·have one : ∀ k p b',(if i=k then some o' else if id=k then some .dead else m.G.get k)=some p→isObj p=true→HB (if k=i then h else m.ι k) b' →
    (k=i∧b'=b)∨(k≠i∧k≠id∧m.G.get k=some p∧HB (m.ι k) b'):=by
   intro k p b' hp hop hb'
   split at hp
   ·rename_i e; subst e
    rw [if_pos rfl] at hb'
    exact .inl ⟨rfl,(hh b').1 hb'⟩
   ·rename_i hik
    rw [if_neg (Ne.symm hik)] at hb'
    split at hp
    ·simp only [Option.some.injEq] at hp
     subst hp
     simp [isObj] at hop
    ·rename_i hne
     exact .inr ⟨Ne.symm hik,Ne.symm hne,hp,hb'⟩
  intro j k p q b' hp hop hq hoq h1 h2
  change Heap.get ((i,o') :: (id,.dead) :: m.G) _=_ at hp hq
  rw [get3] at hp hq
  rcases one j p b' hp hop h1 with ⟨rfl,rfl⟩ | ⟨j1,j2,j3,j4⟩ <;> rcases one k q _ hq hoq h2 with ⟨rfl,k0⟩ | ⟨k1,k2,k3,k4⟩
  ·rfl
  ·exact absurd (hi.inj k id q o _ k3 hoq hg hob k4 hbl) k2
  ·subst k0; exact absurd (hi.inj j id p o _ j3 hop hg hob j4 hbl) j2
  ·exact hi.inj j k p q b' j3 hop k3 hoq j4 k4
 ·intro b' hF; show b' < w1.heap.size; rw [hw.size]; exact hi.fro b' hF
 ·intro g τ x hx; exact (hi.glob g τ x hx).mono he.fro
def iI (w : World) (F : Nat→Prop) (e : Ty) (cs : List Value) (l : List e.den) : Prop :=
 cs.length=l.length * e.size∧∀ i (h : i < l.length),Rd w F e ((cs.drop (i * e.size)).take e.size) l[i]
theorem rt {w : World} {F : Nat→Prop} {e : Ty} {cs : List Value} {l : List e.den} (h : iI w F e cs l) : ∀ u∈cs,u.oneCell'=true:=by
 intro u hu
 obtain ⟨j,hj⟩:=List.mem_iff_getElem?.1 hu
 have hjl : j < cs.length:=(List.getElem?_eq_some_iff.1 hj).1
 have hs : 0 < e.size:=by
  rcases Nat.eq_zero_or_pos e.size with h0 | h0
  ·rw [h.1,h0,Nat.mul_zero] at hjl; omega
  ·exact h0
 have hi : j / e.size < l.length:=by rw [Nat.div_lt_iff_lt_mul hs]; rw [← h.1]; exact hjl
 refine (h.2 _ hi).one u ?_
 rw [List.mem_iff_getElem?]
 refine ⟨j % e.size,?_⟩
 rw [List.getElem?_take,if_pos (Nat.mod_lt _ hs),List.getElem?_drop,Nat.mul_comm,Nat.div_add_mod]
 exact hj
theorem nf {w : World} {F : Nat→Prop} {e : Ty} {c : Array Value} {off : Nat} {l : List e.den} (hc : off+l.length * e.size≤c.size) (h : ∀ i (h : i < l.length),Rd w F e (seg c (off+i * e.size) e.size) l[i]) :
  iI w F e (seg c off (l.length * e.size)) l:=by
 refine ⟨cn _ _ _ hc,fun i hi=>?_⟩
 have hle : i * e.size+e.size≤l.length * e.size:=by
  have:=Nat.mul_le_mul_right e.size (show i+1≤l.length from hi)
  rw [Nat.add_mul] at this; omega
 have : ((seg c off (l.length * e.size)).drop (i * e.size)).take e.size=seg c (off+i * e.size) e.size:=dj c.toList off _ _ _ hle
 rw [this]; exact h i hi
theorem lL {w : World} {F : Nat→Prop} {e : Ty} {c1 c2 rest : List Value} {l1 l2 : List e.den} (h1 : iI w F e c1 l1) (h2 : iI w F e c2 l2) :
  ∀ i (h : i < (l1++l2).length),Rd w F e (((c1++c2++rest).drop (i * e.size)).take e.size) (l1++l2)[i]:=by
 intro i hi
 rw [List.length_append] at hi
 by_cases hl : i < l1.length
 ·have hle : i * e.size+e.size≤l1.length * e.size:=by
   have:=Nat.mul_le_mul_right e.size (show i+1≤l1.length from hl)
   rw [Nat.add_mul] at this; omega
  rw [List.getElem_append_left hl]
  have : ((c1++c2++rest).drop (i * e.size)).take e.size=(c1.drop (i * e.size)).take e.size:=by
   rw [List.append_assoc,List.drop_append_of_le_length (by rw [h1.1]; omega),List.take_append_of_le_length (by rw [List.length_drop,h1.1]; omega)]
  rw [this]; exact h1.2 i hl
 ·rw [List.getElem_append_right (by omega)]
  have hj : i - l1.length < l2.length:=by omega
  have hle : (i - l1.length) * e.size+e.size≤l2.length * e.size:=by
   have:=Nat.mul_le_mul_right e.size (show i - l1.length+1≤l2.length from hj)
   rw [Nat.add_mul] at this; omega
  have hmul : i * e.size=c1.length+(i - l1.length) * e.size:=by
   rw [h1.1,← Nat.add_mul]; congr 1; omega
  have : ((c1++c2++rest).drop (i * e.size)).take e.size=(c2.drop ((i - l1.length) * e.size)).take e.size:=by
   rw [List.append_assoc,hmul,← List.drop_drop,List.drop_left,List.drop_append_of_le_length (by rw [h2.1]; omega),List.take_append_of_le_length (by rw [List.length_drop,h2.1]; omega)]
  rw [this]; exact h2.2 _ hj
def Hdr (m : Mem) (u : Value) (e : Ty) (l : List e.den) : Prop :=
 ∃ ad cap,u=.slice ad l.length cap∧l.length≤cap∧cap≤maxLen ∧
  (cap≠0→∃ b off c el fz,ad=some ⟨b,off,none⟩∧m.w.heap[b]?=some (.cells c el fz)∧fI e c.size fz∧off+cap * e.size≤c.size ∧
   ∀ i (h : i < l.length),Rd m.w m.F e (seg c (off+i * e.size) e.size) l[i])
theorem iU (hi : Inv C w0 M m) (hG : m.G=s.G) {e : Ty} {v : SV} {l : List e.den} {ids : List Nat} {u : Value} (h : eR s e v=some (l,ids)) (hr : RelSV m u v) :
  Hdr m u e l∧((ids=[]∧∃ ad,u=.slice ad 0 0)∨∃ id o,ids=[id]∧m.G.get id=some o∧isObj o=true∧((∀ b,HB u b→HB (m.ι id) b)∨∃ ad n,u=.slice ad n 0)):=by
 unfold eR at h
 split at h
 ·simp only [Option.some.injEq,Prod.mk.injEq] at h
  obtain ⟨rfl,rfl⟩:=h
  obtain ⟨ad,rfl⟩:=hr
  exact ⟨⟨ad,0,rfl,by simp,by unfold maxLen; omega,fun h=>absurd rfl h⟩,.inl ⟨rfl,ad,rfl⟩⟩
 ·rename_i id
  split at h
  ·rename_i σ l0 hg
   split at h
   ·rename_i l' hl
    simp only [Option.some.injEq,Prod.mk.injEq] at h
    obtain ⟨rfl,rfl⟩:=h
    obtain ⟨he,hl⟩:=au hl
    cases he
    subst hl
    obtain ⟨_,ob,hob,hv⟩:=hr
    rw [hG,hg] at hob
    simp only [Option.some.injEq] at hob
    subst hob
    have hv:=hv rfl
    subst hv
    exact ⟨show de m id (.arr e l0) from hi.objs id _ (hG ▸ hg),.inr ⟨id,_,rfl,hG ▸ hg,rfl,.inl fun _ h=>h⟩⟩
   ·simp at h
  ·simp at h
 ·rename_i id off len
  split at h
  ·rename_i σ l0 hg
   split at h
   ·rename_i l' hl
    simp only [Option.some.injEq,Prod.mk.injEq] at h
    obtain ⟨rfl,rfl⟩:=h
    obtain ⟨he,hl⟩:=au hl
    cases he
    subst hl
    obtain ⟨_,ob,hob,hv⟩:=hr
    rw [hG,hg] at hob
    simp only [Option.some.injEq] at hob
    subst hob
    obtain ⟨hle,hview⟩:=hv
    obtain ⟨ad,cap,r1,r2,r3,r4⟩:=hi.objs id _ (hG ▸ hg)
    obtain ⟨ad1,n1,cap1,ad2,k1,k2,k3⟩:=hview
    rw [r1] at k1
    simp only [Value.slice.injEq] at k1
    obtain ⟨rfl,rfl,rfl⟩:=k1
    have hlen : ((l0.drop off).take len).length=len:=by simp; omega
    refine ⟨⟨ad2,cap - off,by rw [hlen,k2],by rw [hlen]; omega,by omega,fun hne=>?_⟩,.inr ⟨id,_,rfl,hG ▸ hg,rfl,?_⟩⟩
    ·obtain ⟨b,o',c,el,fz,q1,q2,q3,q4,q5⟩:=r4 (by omega)
     refine ⟨b,o'+off * e.size,c,el,fz,by rw [k3 (by omega),q1]; simp [aD],q2,q3,?_,fun i hi'=>?_⟩
     ·have : off * e.size+(cap - off) * e.size=cap * e.size:=by rw [← Nat.add_mul]; congr 1; omega
      omega
     ·rw [hlen] at hi'
      have:=q5 (off+i) (by omega)
      rw [show o'+off * e.size+i * e.size=o'+(off+i) * e.size by rw [Nat.add_mul]; omega]
      simpa using this
    ·by_cases hc : cap - off=0
     ·right; exact ⟨ad2,len,by rw [k2,hc]⟩
     ·left
      obtain ⟨b,o',c,el,fz,q1,q2,q3,q4,q5⟩:=r4 (by omega)
      rw [k2,r1,k3 (by omega),q1]
      intro b' hb'
      simp only [Option.map_some,aD,HB,HB1] at hb' ⊢
      exact ⟨by omega,hb'.2⟩
   ·simp at h
  ·simp at h
 ·simp at h
theorem DJ (hi : Inv C w0 M m) {id ver j : Nat} {τ : Ty} {l : List (List τ.den)} {hole : Option Nat} (hg : m.G.get id=some (.deep ver τ l hole)) (hh : hole≠some j) {u : Value} (hu : ∃ us,m.ι id=.tuple us∧us[j+1]?=some u) (hj : j < l.length) : HdrW m.w m.F u τ l[j]:=by
 obtain ⟨u',hs,h1,h2⟩:=hi.objs id _ hg
 obtain ⟨us,h3,h4⟩:=hu
 rw [h1] at h3
 simp only [Value.tuple.injEq] at h3
 subst h3
 simp only [List.getElem?_toArray,List.getElem?_cons_succ] at h4
 exact h2.inner j hj u h4 hh
theorem nC (hi : Inv C w0 M m) {e : Ty} {v : SV} {xs : List e.den} {u : Value} (hnd : pu v=false) (h : aH m.G (.slice e) v=some xs) (hr : RelSV m u v) :
  ∃ ad cap news,u=.slice ad xs.length cap∧iI m.w m.F e news xs∧xs.length≤maxLen∧(xs≠[]→∃ b off c el fz,ad=some ⟨b,off,none⟩∧m.w.heap[b]?=some (.cells c el fz)∧off+news.length≤c.size∧news=seg c off news.length):=by
 have fin {ad : Option Addr} {l : List e.den} {cap : Nat} (h1 : l.length≤cap) (h2 : cap≤maxLen)
   (h3 : l≠[]→∃ b off c el fz,ad=some ⟨b,off,none⟩∧m.w.heap[b]?=some (.cells c el fz)∧off+l.length * e.size≤c.size∧∀ i (h : i < l.length),Rd m.w m.F e (seg c (off+i * e.size) e.size) l[i]) :
   ∃ ad' cap' news,Value.slice ad l.length cap=.slice ad' l.length cap'∧iI m.w m.F e news l∧l.length≤maxLen∧(l≠[]→∃ b off c el fz,ad'=some ⟨b,off,none⟩∧m.w.heap[b]?=some (.cells c el fz)∧off+news.length≤c.size∧news=seg c off news.length):=by
  by_cases hl : l=[]
  ·subst hl
   exact ⟨ad,cap,[],rfl,⟨by simp,by intro i hi; simp at hi⟩,by simp,fun h=>absurd rfl h⟩
  ·obtain ⟨b,off,c,el,fz,q1,q2,q3,q4⟩:=h3 hl
   have hn : (seg c off (l.length * e.size)).length=l.length * e.size:=cn _ _ _ q3
   exact ⟨ad,cap,seg c off (l.length * e.size),rfl,nf q3 q4,by omega,fun _=>⟨b,off,c,el,fz,q1,q2,by rw [hn]; exact q3,by rw [hn]⟩⟩
 cases v with
 | av a =>
  cases a with
  | val σ x =>
   obtain ⟨he,hx⟩:=au h
   cases he
   subst hx
   obtain ⟨ad,cap,rfl,h2,h3,h4⟩:=fa hr
   refine fin h2 h3 (fun hne=>?_)
   obtain ⟨b,off,c,el,fz,q1,_,q2,q3,q4⟩:=h4 hne
   exact ⟨b,off,c,el,fz,q1,q2,q3,q4⟩
  | nils =>
   simp only [aH,Ty.isAgg,cond_false,ax,Option.some.injEq] at h
   subst h
   obtain ⟨ad,rfl⟩:=hr
   exact fin (l:=[]) (by simp) (by unfold maxLen; omega) (fun h=>absurd rfl h)
  | own id =>
   simp only [aH,Ty.isAgg,cond_false,ax] at h
   cases hg : m.G.get id with
   | none=>rw [hg] at h; simp at h
   | some ob0 =>
    cases ob0 with
    | box _=>rw [hg] at h; simp at h
    | dead=>rw [hg] at h; simp at h
    | deep _ _ _ _=>rw [hg] at h; simp at h
    | map _ _ _=>rw [hg] at h; simp at h
    | arr σ l' =>
    rw [hg] at h
    obtain ⟨he,hx⟩:=au h
    cases he
    subst hx
    obtain ⟨_,ob,hob,hv⟩:=hr
    rw [hg] at hob
    simp only [Option.some.injEq] at hob
    subst hob
    obtain ⟨ad,cap,r1,r2,r3,r4⟩:=hi.objs id _ hg
    rw [hv rfl,r1]
    refine fin r2 r3 (fun hne=>?_)
    have : 0 < l'.length:=List.length_pos_iff.2 hne
    obtain ⟨b,off,c,el,fz,q1,q2,q3,q4,q5⟩:=r4 (by omega)
    exact ⟨b,off,c,el,fz,q1,q2,by have:=Nat.mul_le_mul_right e.size r2; omega,q5⟩
  | view id off len =>
   have hh : ∃ σ l',m.G.get id=some (.arr σ l')∧eR ⟨[],m.G⟩ e (.av (.view id off len))=some (xs,[id]):=by
    simp only [aH,Ty.isAgg,cond_false,ax] at h
    cases hg : m.G.get id with
    | none=>rw [hg] at h; simp at h
    | some ob0 =>
     cases ob0 with
     | box _=>rw [hg] at h; simp at h
     | dead=>rw [hg] at h; simp at h
     | deep _ _ _ _=>rw [hg] at h; simp at h
     | map _ _ _=>rw [hg] at h; simp at h
     | arr σ l' =>
     rw [hg] at h
     obtain ⟨he,hx⟩:=au h
     cases he
     subst hx
     refine ⟨e,l',rfl,?_⟩
     simp [eR,hg,aU]
   obtain ⟨σ,l',hg,hb⟩:=hh
   obtain ⟨⟨ad,cap,rfl,r2,r3,r4⟩,_⟩:=iU (s:=⟨[],m.G⟩) hi rfl hb hr
   refine fin r2 r3 (fun hne=>?_)
   have : 0 < xs.length:=List.length_pos_iff.2 hne
   obtain ⟨b,off,c,el,fz,q1,q2,q3,q4,q5⟩:=r4 (by omega)
   exact ⟨b,off,c,el,fz,q1,q2,by have:=Nat.mul_le_mul_right e.size r2; omega,q5⟩
  | u=>simp [aH,Ty.isAgg,ax] at h
  | undef=>simp [aH,Ty.isAgg,ax] at h
  | ptr _ _=>simp [aH] at h
  | aptr _ _ _=>simp [aH,Ty.isAgg,ax] at h
  | cut _ _ _=>simp [aH,Ty.isAgg,ax] at h
  | bnd _ _=>simp [aH,Ty.isAgg,ax] at h
  | saptr _ _ _ _=>simp [aH,Ty.isAgg,ax] at h
  | ownm _=>simp [aH,Ty.isAgg,ax] at h
  | ownd id=>simp [pu] at hnd
  | sub id ver j =>
   simp only [aH,Ty.isAgg,cond_false,ax] at h
   obtain ⟨_,ob,hob,hv⟩:=hr
   rw [hob] at h
   cases ob with
   | deep ver' σ l' hole =>
    cases hole with
    | some _=>simp at h
    | none =>
     simp only at h hv
     cases hb : Nat.beq ver ver' with
     | false=>rw [hb] at h; simp at h
     | true =>
      rw [hb] at h
      have:=Nat.eq_of_beq_eq_true hb
      subst this
      obtain ⟨hj,_,hu⟩:=hv.2 rfl
      rw [iD hj] at h
      simp only [cond_true] at h
      obtain ⟨e',hy⟩:=au h
      simp only [Ty.slice.injEq] at e'
      subst e'; subst hy
      obtain ⟨ad,cap,r1,r2,r3,r4⟩:=DJ hi hob (by simp) hu hj
      rw [r1]
      refine fin r2 r3 (fun hne=>?_)
      have : 0 < l'[j].length:=List.length_pos_iff.2 hne
      obtain ⟨b,off,c,el,fz,q1,q2,q3,q4,q5⟩:=r4 (by omega)
      exact ⟨b,off,c,el,fz,q1,q2,by have:=Nat.mul_le_mul_right σ.size r2; omega,q5⟩
   | _=>simp at h
  | clo _ _=>simp [aH] at h
 | agg l=>simp [aH,Ty.isAgg] at h
 | tup l=>simp [aH] at h
theorem ke (c : Array Value) (o : Nat) (vs : List Value) (h : o+vs.length≤c.size) (d n : Nat) (hd : d+n≤vs.length) : seg (ao c o vs) (o+d) n=(vs.drop d).take n:=by
 apply List.ext_getElem?
 intro k
 by_cases hk : k < n
 ·rw [seg_getElem? _ _ _ _ hk,b8 c o vs h,if_pos (by omega),List.getElem?_take,if_pos hk,List.getElem?_drop]
  congr 1; omega
 ·rw [List.getElem?_take,if_neg hk]
  unfold seg; rw [List.getElem?_take,if_neg hk]
end
end Go.Vm

/-
 The machine's operations against the model's: append, joined.
-/
namespace Go.Vm
section
variable {P : Program} {C : Ctx} {w0 : World} {M : Own} {o : Oper} {a : Act} {m : Mem} {s s' : St}
theorem wz {e : Ty} {xs : List e.den} {ad : Option Addr} {cap : Nat} {news : List Value} (h1 : iI m.w m.F e news xs)
  (h2 : xs≠[]→∃ b off c el fz,ad=some ⟨b,off,none⟩∧m.w.heap[b]?=some (.cells c el fz)∧off+news.length≤c.size∧news=seg c off news.length) {w : World} (hw : w.heap=m.w.heap) :
  (Builtin.firstCells e.size xs.length (.slice ad xs.length cap)).run P w=.ok news.toArray w:=by
 by_cases hne : xs=[]
 ·subst hne
  have : news=[]:=List.eq_nil_of_length_eq_zero (by rw [h1.1]; simp)
  subst this
  cases ad <;> simp [Builtin.firstCells,loadCells,loadCellsFrom]
 ·obtain ⟨b,off,c,el,fz,rfl,q2,q3,q4⟩:=h2 hne
  refine run_firstCells_some (P:=P) w e.size xs.length _ _ _ news h1.1 (fun j v hj=>?_)
  have hjl : j < news.length:=(List.getElem?_eq_some_iff.1 hj).1
  rw [aD,cb (by rw [hw]; exact q2),← seg_getElem? c off news.length j hjl,← q4]
  exact hj
theorem qA {t : TypeId} {x y : Operand} {e : Ty} {l xs : List e.den} {r : List e.den} (hT : cp P C.tab=true) (hi : Inv C w0 M m) (hG : m.G=s.G) (hS : ∀ x,RelSV m (a.eval x) (aj C s.env x))
  (ho : o.op=.call { callee:=.builtin .append,args:=#[x,y],argTypes:=#[t,t] }) (ht : C.tab.get t=some (.slice e))
  (hnd : pu (aj C s.env y)=false) (hcut : CR s e (aj C s.env x)=some l) (hsv : aH s.G (.slice e) (aj C s.env y)=some xs) (hk : xs≠[]) (hr : app l xs=some r)
  (h : bw s (o.dst.getD 0) (.arr e r) (fun i s2=>some (aw o.dst (.av (.own i)) s2))=some s') : Does P o a m.w (Res C w0 M m s s' o.dst):=by
 unfold app at hr
 split at hr
 ·rename_i hlim
  simp only [Option.some.injEq] at hr
  subst hr
  have hlimv : lim=68719476736:=rfl
  rw [hlimv] at hlim
  obtain ⟨i,hfree,h⟩:=bk h
  simp only [Option.some.injEq] at h
  obtain ⟨et,hu,hck⟩:=aC (ac hT ht)
  obtain ⟨inf,z,r1,r2,r3,r4,r5,r6,r7⟩:=db hck
  have hx:=hS x
  generalize hvx : aj C s.env x=vx at hcut hx
  unfold CR at hcut
  split at hcut
  ·rename_i id off len
   obtain ⟨_,ob,hob,hxv⟩:=(ak (m:=m) (a:=.cut id off len) (by intros; simp)).1 hx
   rw [hG] at hob
   split at hcut
   ·rename_i σ l0 hg
    rw [hg] at hob
    simp only [Option.some.injEq] at hob
    subst hob
    split at hcut
    ·rename_i l1 hl1
     simp only [Option.some.injEq] at hcut
     subst hcut
     obtain ⟨he,hl1⟩:=au hl1
     cases he
     subst hl1
     simp only at hxv
     obtain ⟨k1,k2,b,o',n',cap',v1,v2⟩:=hxv
     obtain ⟨b',o'',cap,c,el,fz,q1,q2,q3,q4,q5,q6,q7,q8,q9⟩:=lr hi (hG ▸ hg) (j:=off) (by omega)
     rw [v1] at q1
     simp only [Value.slice.injEq,Option.some.injEq,Addr.mk.injEq,and_true] at q1
     obtain ⟨⟨rfl,rfl⟩,rfl,rfl⟩:=q1
     have hlen : ((l0.drop off).take len).length=len:=by simp; omega
     obtain ⟨xd,xcap,news,hxv,x2,x3,x4⟩:=nC hi hnd (hG ▸ hsv) (hS y)
     have hone:=rt x2
     have hfresh : Heap.get m.G i=none:=by rw [hG]; exact hfree
     have hkl : 0 < xs.length:=List.length_pos_iff.2 hk
     obtain ⟨xb,xoff,xc,xel,xfz,rfl,y2,y3,y4⟩:=x4 hk
     obtain ⟨z0,ez,hz0,_⟩:=bE (m:=m) r5
     rw [List.append_nil] at ez
     have hzs : z.cells.size=e.size:=by rw [← Array.length_toList,ez]; exact hz0.len
     have hnews : ∀ j v,news[j]?=some v→m.w.cell? ((⟨xb,xoff,none⟩ : Addr).add j)=some v:=by
      intro j v hj
      have hjl : j < news.length:=(List.getElem?_eq_some_iff.1 hj).1
      rw [aD,cb y2,← seg_getElem? xc xoff news.length j hjl,← y4]
      exact hj
     rw [hlen] at hlim
     have hge:=grownCap_ge m.w (len+xs.length) len et
     have hcm : grownCap m.w (len+xs.length) len et≤maxLen:=grownCap_le_maxLen _ _ _ _ (by unfold maxLen; omega)
     have hfits : Builtin.nextslicecap (len+xs.length) len * inf.bytes≤281474976710656:=growslice_fits (by omega) (by
      have h1 : (len+xs.length) * inf.bytes≤68719476736 * 2048:=Nat.mul_le_mul hlim r3
      omega)
     have hle : off * e.size+len * e.size≤l0.length * e.size:=by rw [← Nat.add_mul]; exact Nat.mul_le_mul_right _ k1
     have hle2 : l0.length * e.size≤cap' * e.size:=Nat.mul_le_mul_right _ q2
     have hsl : (seg c (o'+off * e.size) (len * e.size)).length=len * e.size:=cn _ _ _ (by omega)
     have kc : iI m.w m.F e (seg c (o'+off * e.size) (len * e.size)) ((l0.drop off).take len):=by
      have:=nf (w:=m.w) (F:=m.F) (e:=e) (c:=c) (off:=o'+off * e.size) (l:=(l0.drop off).take len) (by rw [hlen]; omega) (fun i hi'=>by
       rw [hlen] at hi'
       have:=q8 (off+i) (by omega)
       rw [show o'+off * e.size+i * e.size=o'+(off+i) * e.size by rw [Nat.add_mul]; omega]
       simpa using this)
      rw [hlen] at this
      exact this
     have hrun : (Builtin.append_ #[t,t] o.type #[.slice (some ⟨b,o'+off * e.size,none⟩) len len,.slice (some ⟨xb,xoff,none⟩) xs.length xcap]).run P m.w =
       .ok (.slice (some ⟨m.w.heap.size,0,none⟩) (len+xs.length) (grownCap m.w (len+xs.length) len et))
        (m.w.drew.alloc (.cells ((seg c (o'+off * e.size) (len * e.size)).toArray++news.toArray++Builtin.zeroCells z.cells (grownCap m.w (len+xs.length) len et - (len+xs.length))) et)) :=
      run_append_grow (P:=P) m.w t o.type et inf z hu r1 r4 ⟨b,o'+off * e.size,none⟩ len len _ (by rw [r2]; exact hsl) (fun j v hj=>by
       have hjl : j < len * e.size:=by rw [← hsl]; exact (List.getElem?_eq_some_iff.1 hj).1
       rw [aD,cb q4,← seg_getElem? c (o'+off * e.size) _ j hjl]
       exact hj) ⟨xb,xoff,none⟩ xs.length xcap news (by rw [r2]; exact x2.1) hnews (by omega) (by omega) hfits
     have hsz : ((seg c (o'+off * e.size) (len * e.size)).toArray++news.toArray++Builtin.zeroCells z.cells (grownCap m.w (len+xs.length) len et - (len+xs.length))).size=grownCap m.w (len+xs.length) len et * e.size:=by
      simp only [Array.size_append,List.size_toArray,size_zeroCells,hzs,hsl,x2.1,← Nat.add_mul]
      congr 1
      omega
     obtain ⟨m',p1,p2,p3,p4,p5⟩:=l7 (τ:=e) (l:=(l0.drop off).take len++xs) (cap:=grownCap m.w (len+xs.length) len et) (fz:=(0,0)) hi (i:=i) hfresh
      (w1:=m.w.drew.alloc (.cells ((seg c (o'+off * e.size) (len * e.size)).toArray++news.toArray++Builtin.zeroCells z.cells (grownCap m.w (len+xs.length) len et - (len+xs.length))) et)) (dr m.w _)
      (bu m.w.drew _) (.inl (Nat.le_refl _)) (by rw [List.length_append,hlen]; exact hge) hcm (by rw [hsz]; exact Nat.le_refl _) (fun j hj=>by
       have:=lL (rest:=(Builtin.zeroCells z.cells (grownCap m.w (len+xs.length) len et - (len+xs.length))).toList) kc x2 j hj
       unfold seg at this ⊢
       simpa using this)
     refine Does.value (w':=m'.w) (v:=.slice (some ⟨m.w.heap.size,0,none⟩) (len+xs.length) (grownCap m.w (len+xs.length) len et)) ?_ ⟨m',.av (.own i),rfl,?_,p3,p4,by rw [List.length_append,hlen] at p5; exact p5⟩
     ·simp [execOp,ho,resolve,invoke,builtin,v2,hxv,hrun,p1]
     ·rw [← h,p2,hG]
    ·simp at hcut
   ·simp at hcut
  ·simp at hcut
 ·simp at hr
theorem qr {t : TypeId} {x y : Operand} {e : Ty} {l xs r : List e.den} {ids : List Nat} (hT : cp P C.tab=true) (hi : Inv C w0 M m) (hG : m.G=s.G)
  (ho : o.op=.call { callee:=.builtin .append,args:=#[x,y],argTypes:=#[t,t] }) (ht : C.tab.get t=some (.slice e)) (hH : Hdr m (a.eval x) e l)
  (hids : (ids=[]∧∃ ad,a.eval x=.slice ad 0 0)∨∃ id o,ids=[id]∧m.G.get id=some o∧isObj o=true∧((∀ b,HB (a.eval x) b→HB (m.ι id) b)∨∃ ad n,a.eval x=.slice ad n 0))
  (hN : ∃ ad cap news,a.eval y=.slice ad xs.length cap∧iI m.w m.F e news xs∧xs.length≤maxLen∧(xs≠[]→∃ b off c el fz,ad=some ⟨b,off,none⟩∧m.w.heap[b]?=some (.cells c el fz)∧off+news.length≤c.size∧news=seg c off news.length))
  (hr : app l xs=some r) (h : bw { env:=s.env,G:=aq ids s.G } (o.dst.getD 0) (.arr e r) (fun i s2=>some (aw o.dst (.av (.own i)) s2))=some s') : Does P o a m.w (Res C w0 M m s s' o.dst):=by
 unfold app at hr
 split at hr
 ·rename_i hlim
  simp only [Option.some.injEq] at hr
  subst hr
  have hlimv : lim=68719476736:=rfl
  rw [hlimv] at hlim
  obtain ⟨i,hfree,h⟩:=bk h
  simp only [Option.some.injEq] at h
  obtain ⟨et,hu,hck⟩:=aC (ac hT ht)
  obtain ⟨inf,z,r1,r2,r3,r4,r5,r6,r7⟩:=db hck
  obtain ⟨ad,cap,hbv,b2,b3,b4⟩:=hH
  obtain ⟨xd,xcap,news,hxv,x2,x3,x4⟩:=hN
  have hfc : ∀ w : World,w.heap=m.w.heap→(Builtin.firstCells e.size xs.length (.slice xd xs.length xcap)).run P w=.ok news.toArray w:=fun w hw=>wz x2 x4 hw
  have hone:=rt x2
  have hfresh : Heap.get (aq ids m.G) i=none:=by rw [hG]; exact hfree
  by_cases hfit : l.length+xs.length≤cap
  ·by_cases hc0 : cap=0
   ·subst hc0
    have hl0 : l.length=0:=by omega
    have hx0 : xs.length=0:=by omega
    have hl0' : l=[]:=List.eq_nil_of_length_eq_zero hl0
    have hx0' : xs=[]:=List.eq_nil_of_length_eq_zero hx0
    subst hl0'
    subst hx0'
    have hn0 : news=[]:=List.eq_nil_of_length_eq_zero (by rw [x2.1]; simp)
    subst hn0
    obtain ⟨m1,a1,a2,a3,a4,a5,a6⟩:=cm ids hi
    obtain ⟨m',q1,q2,q3,q4,q5⟩:=CV (τ:=e) a4 (i:=i) (by rw [a3]; exact hfresh) (Kept.refl m1.w _) ad
    have hrun : (Builtin.append_ #[t,t] o.type #[.slice ad 0 0,.slice xd 0 xcap]).run P m.w=.ok (.slice ad 0 0) m.w:=by
     have:=hfc m.w rfl
     simp only [List.length_nil] at this
     cases ad <;> simp [Builtin.append_,run_underlying hu,sizeOf,typeInfo,r1,r2,Builtin.lenOf,this,storeCells]
    refine Does.value (w':=m'.w) (v:=.slice ad 0 0) ?_ ⟨m',.av (.own i),rfl,?_,q3,a5.trans q4,q5⟩
    ·simp only [List.length_nil] at hbv hxv
     simp [execOp,ho,resolve,invoke,builtin,hbv,hxv,hrun,q1,a1]
    ·rw [← h,q2,a3,hG]; rfl
   ·obtain ⟨b,off,c,el,fz,rfl,c2,c3,c4,c5⟩:=b4 hc0
    have hmul : l.length * e.size+xs.length * e.size≤cap * e.size:=by rw [← Nat.add_mul]; exact Nat.mul_le_mul_right _ hfit
    have hnl : news.length=xs.length * e.size:=x2.1
    have hin : off+l.length * e.size+news.length≤c.size:=by omega
    have hst:=ba (P:=P) b (off+l.length * e.size) el fz news 0 c m.w c2 c3 (by omega) hone
    simp only [Nat.add_zero] at hst
    have hst : (storeCells ⟨b,off+l.length * e.size,none⟩ news).run P m.w=.ok () (m.w.setRow b (ao c (off+l.length * e.size) news)):=hst
    have hrun : (Builtin.append_ #[t,t] o.type #[.slice (some ⟨b,off,none⟩) l.length cap,.slice xd xs.length xcap]).run P m.w=.ok (.slice (some ⟨b,off,none⟩) (l.length+xs.length) cap) (m.w.setRow b (ao c (off+l.length * e.size) news)):=by
     simp [Builtin.append_,run_underlying hu,sizeOf,typeInfo,r1,r2,Builtin.lenOf,hfc m.w rfl,hfit,aD,hst]
    rcases hids with ⟨_,ad0,h0⟩ | ⟨id,ob,rfl,hg,hob,hblk⟩
    ·rw [h0] at hbv
     simp only [Value.slice.injEq] at hbv
     omega
    ·have hblk : HB (m.ι id) b:=by
      rcases hblk with hblk | ⟨ad0,n0,h0⟩
      ·exact hblk b (by rw [hbv]; simp [HB,HB1,hc0])
      ·rw [h0] at hbv
       simp only [Value.slice.injEq] at hbv
       omega
     have hheap : (m.w.setRow b (ao c (off+l.length * e.size) news)).heap[b]?=some (.cells (ao c (off+l.length * e.size) news) el fz):=setRow_heap m.w b c _ el fz c2
     obtain ⟨g1,g2⟩:=zW hi hg hob hblk (i:=i) hfresh (o':=.arr e (l++xs)) (bp m.w b (ao c (off+l.length * e.size) news)) (h:=.slice (some ⟨b,off,none⟩) (l.length+xs.length) cap) (fun b'=>by simp [HB,HB1,hc0,eq_comm]) (fun he=>by
      refine ⟨some ⟨b,off,none⟩,cap,by simp,by simpa using hfit,b3,fun _=>⟨b,off,_,el,fz,rfl,hheap,by rw [aO _ _ _ hin]; exact c3,by rw [aO _ _ _ hin]; exact c4,fun j hj=>?_⟩⟩
      refine Rd.mono he.fro ?_
      rw [List.length_append] at hj
      by_cases hjl : j < l.length
      ·have hle : j * e.size+e.size≤l.length * e.size:=by
        have:=Nat.mul_le_mul_right e.size (show j+1≤l.length from hjl)
        rw [Nat.add_mul] at this; omega
       rw [List.getElem_append_left hjl,bW _ _ _ hin _ _ (.inl (by omega))]
       exact c5 j hjl
      ·have hjx : j - l.length < xs.length:=by omega
       have hle : (j - l.length) * e.size+e.size≤xs.length * e.size:=by
        have:=Nat.mul_le_mul_right e.size (show j - l.length+1≤xs.length from hjx)
        rw [Nat.add_mul] at this; omega
       have hmj : j * e.size=l.length * e.size+(j - l.length) * e.size:=by rw [← Nat.add_mul]; congr 1; omega
       rw [List.getElem_append_right (by omega),show off+j * e.size=off+l.length * e.size+(j - l.length) * e.size by omega,ke _ _ _ hin _ _ (by omega)]
       exact x2.2 _ hjx)
     refine Does.value (w':=m.w.setRow b (ao c (off+l.length * e.size) news)) (v:=.slice (some ⟨b,off,none⟩) (l.length+xs.length) cap) ?_ ⟨_,.av (.own i),rfl,?_,g1,g2,?_⟩
     ·simp [execOp,ho,resolve,invoke,builtin,hbv,hxv,hrun]
     ·rw [← h,← hG]; rfl
     ·exact (ak (a:=.own i) (by intros; simp)).2 ⟨rfl,.arr e (l++xs),by show Heap.get ((i,.arr e (l++xs)) :: _) i=_; rw [Heap.get_cons,if_pos rfl],fun _=>by simp⟩
  ·have hk : xs≠[]:=by intro e0; subst e0; simp only [List.length_nil] at hfit; omega
   have hkl : 0 < xs.length:=List.length_pos_iff.2 hk
   obtain ⟨xb,xoff,xc,xel,xfz,rfl,y2,y3,y4⟩:=x4 hk
   obtain ⟨z0,ez,hz0,_⟩:=bE (m:=m) r5
   rw [List.append_nil] at ez
   have hzs : z.cells.size=e.size:=by rw [← Array.length_toList,ez]; exact hz0.len
   have hnews : ∀ j v,news[j]?=some v→m.w.cell? ((⟨xb,xoff,none⟩ : Addr).add j)=some v:=by
    intro j v hj
    have hjl : j < news.length:=(List.getElem?_eq_some_iff.1 hj).1
    rw [aD,cb y2,← seg_getElem? xc xoff news.length j hjl,← y4]
    exact hj
   have hge:=grownCap_ge m.w (l.length+xs.length) cap et
   have hcm : grownCap m.w (l.length+xs.length) cap et≤maxLen:=grownCap_le_maxLen _ _ _ _ (by unfold maxLen; omega)
   have hfits : Builtin.nextslicecap (l.length+xs.length) cap * inf.bytes≤281474976710656:=growslice_fits (by omega) (by
    have h1 : (l.length+xs.length) * inf.bytes≤68719476736 * 2048:=Nat.mul_le_mul hlim r3
    omega)
   have key : ∃ olds,iI m.w m.F e olds l∧(Builtin.append_ #[t,t] o.type #[.slice ad l.length cap,.slice (some ⟨xb,xoff,none⟩) xs.length xcap]).run P m.w =
     .ok (.slice (some ⟨m.w.heap.size,0,none⟩) (l.length+xs.length) (grownCap m.w (l.length+xs.length) cap et))
      (m.w.drew.alloc (.cells (olds.toArray++news.toArray++Builtin.zeroCells z.cells (grownCap m.w (l.length+xs.length) cap et - (l.length+xs.length))) et)):=by
    by_cases hc0 : cap=0
    ·have hl0 : l=[]:=List.eq_nil_of_length_eq_zero (by omega)
     subst hl0
     subst hc0
     refine ⟨[],⟨by simp,by intro i hi; simp at hi⟩,?_⟩
     cases ad with
     | some ad=>exact run_append_grow (P:=P) m.w t o.type et inf z hu r1 r4 ad 0 0 [] (by simp) (by intro j v hj; simp at hj) ⟨xb,xoff,none⟩ xs.length xcap news (by rw [r2]; exact x2.1) hnews (by omega) (by simp only [List.length_nil] at hlim; omega) (by simpa using hfits)
     | none =>
      have hn0 : Builtin.nextslicecap xs.length 0=xs.length:=nextslicecap_zero hkl
      have:=run_append_nil (P:=P) m.w t o.type et inf z hu r1 r4 ⟨xb,xoff,none⟩ xs.length xcap news (by rw [r2]; exact x2.1) hnews hkl (by simp only [List.length_nil] at hlim; omega) (by simp only [List.length_nil,Nat.zero_add,hn0] at hfits; exact hfits)
      simpa using this
    ·obtain ⟨b,off,c,el,fz,rfl,c2,c3,c4,c5⟩:=b4 hc0
     have hmul : l.length * e.size≤cap * e.size:=Nat.mul_le_mul_right _ b2
     refine ⟨seg c off (l.length * e.size),nf (by omega) c5,?_⟩
     have hsl : (seg c off (l.length * e.size)).length=l.length * e.size:=cn _ _ _ (by omega)
     exact run_append_grow (P:=P) m.w t o.type et inf z hu r1 r4 ⟨b,off,none⟩ l.length cap _ (by rw [r2]; exact hsl) (fun j v hj=>by
      have hjl : j < l.length * e.size:=by rw [← hsl]; exact (List.getElem?_eq_some_iff.1 hj).1
      rw [aD,cb c2,← seg_getElem? c off _ j hjl]
      exact hj) ⟨xb,xoff,none⟩ xs.length xcap news (by rw [r2]; exact x2.1) hnews (by omega) (by omega) hfits
   obtain ⟨olds,k1,hrun⟩:=key
   obtain ⟨m1,a1,a2,a3,a4,a5,a6⟩:=cm ids hi
   have mono : ∀ {cs : List Value} {l : List e.den},iI m.w m.F e cs l→iI m1.w m1.F e cs l:=fun hc=>⟨hc.1,fun i hi=>(hc.2 i hi).mono a5.fro⟩
   have hsz : (olds.toArray++news.toArray++Builtin.zeroCells z.cells (grownCap m.w (l.length+xs.length) cap et - (l.length+xs.length))).size=grownCap m.w (l.length+xs.length) cap et * e.size:=by
    simp only [Array.size_append,List.size_toArray,size_zeroCells,hzs,k1.1,x2.1,← Nat.add_mul]
    congr 1
    omega
   obtain ⟨m',q1,q2,q3,q4,q5⟩:=l7 (τ:=e) (l:=l++xs) (cap:=grownCap m.w (l.length+xs.length) cap et) (fz:=(0,0)) a4 (i:=i) (by rw [a3]; exact hfresh)
    (w1:=m.w.drew.alloc (.cells (olds.toArray++news.toArray++Builtin.zeroCells z.cells (grownCap m.w (l.length+xs.length) cap et - (l.length+xs.length))) et)) (by rw [a1]; exact dr m.w _)
    (by rw [a1]; exact bu m.w.drew _) (.inl (Nat.le_refl _)) (by rw [List.length_append]; exact hge) hcm (by rw [hsz]; exact Nat.le_refl _) (fun j hj=>by
     have:=lL (rest:=(Builtin.zeroCells z.cells (grownCap m.w (l.length+xs.length) cap et - (l.length+xs.length))).toList) (mono k1) (mono x2) j hj
     unfold seg
     simpa using this)
   refine Does.value (w':=m'.w) (v:=.slice (some ⟨m.w.heap.size,0,none⟩) (l.length+xs.length) (grownCap m.w (l.length+xs.length) cap et)) ?_ ⟨m',.av (.own i),rfl,?_,q3,a5.trans q4,by rw [List.length_append,a1] at q5; exact q5⟩
   ·simp [execOp,ho,resolve,invoke,builtin,hbv,hxv,hrun,q1]
   ·rw [← h,q2,a3,hG]
 ·simp at hr
theorem pD {t et ty : TypeId} {e : Ty} {n k cap : Nat} {ad xd : Option Addr} {xcap : Nat} {news : List Value} (hu : P.underlying t=some (.slice et)) (hck : chk P e none et=true) (w : World) (hn : n≤cap)
  (hb : cap≠0→∃ b off c el fz,ad=some ⟨b,off,none⟩∧w.heap[b]?=some (.cells c el fz)∧fI e c.size fz∧off+cap * e.size≤c.size) (hx : news.length=k * e.size) (hone : ∀ u∈news,u.oneCell'=true)
  (hxb : k≠0→∃ b off c el fz,xd=some ⟨b,off,none⟩∧w.heap[b]?=some (.cells c el fz)∧off+news.length≤c.size∧news=seg c off news.length) (hlim : n+k≤68719476736) :
  (cap=0∧k=0∧n=0∧(Builtin.append_ #[t,t] ty #[.slice ad n cap,.slice xd k xcap]).run P w=.ok (.slice ad 0 0) w) ∨
  (cap≠0∧n+k≤cap∧∀ b off c el fz,ad=some ⟨b,off,none⟩→w.heap[b]?=some (.cells c el fz)→(Builtin.append_ #[t,t] ty #[.slice ad n cap,.slice xd k xcap]).run P w=.ok (.slice (some ⟨b,off,none⟩) (n+k) cap) (w.setRow b (ao c (off+n * e.size) news))) ∨
  (∃ olds cells cap',olds.length=n * e.size∧(n≠0→∀ b off c el fz,ad=some ⟨b,off,none⟩→w.heap[b]?=some (.cells c el fz)→olds=seg c off (n * e.size))∧n+k≤cap'∧cap'≤maxLen∧cells.size=cap' * e.size ∧
   (∃ rest,cells.toList=olds++news++rest)∧(Builtin.append_ #[t,t] ty #[.slice ad n cap,.slice xd k xcap]).run P w=.ok (.slice (some ⟨w.heap.size,0,none⟩) (n+k) cap') (w.drew.alloc (.cells cells et))):=by
 obtain ⟨inf,z,r1,r2,r3,r4,r5,r6,r7⟩:=db hck
 have hnews : ∀ b off c el fz,xd=some ⟨b,off,none⟩→w.heap[b]?=some (.cells c el fz)→news=seg c off news.length→∀ j v,news[j]?=some v→w.cell? ((⟨b,off,none⟩ : Addr).add j)=some v:=by
  intro b off c el fz _ y2 y4 j v hj
  have hjl : j < news.length:=(List.getElem?_eq_some_iff.1 hj).1
  rw [aD,cb y2,← seg_getElem? c off news.length j hjl,← y4]
  exact hj
 have hfc : (Builtin.firstCells e.size k (.slice xd k xcap)).run P w=.ok news.toArray w:=by
  by_cases hk : k=0
  ·subst hk
   have : news=[]:=List.eq_nil_of_length_eq_zero (by rw [hx]; simp)
   subst this
   cases xd <;> simp [Builtin.firstCells,loadCells,loadCellsFrom]
  ·obtain ⟨b,off,c,el,fz,rfl,q2,q3,q4⟩:=hxb hk
   exact run_firstCells_some (P:=P) w e.size k _ _ _ news hx (hnews b off c el fz rfl q2 q4)
 by_cases hfit : n+k≤cap
 ·by_cases hc0 : cap=0
  ·subst hc0
   have hn0 : n=0:=by omega
   have hk0 : k=0:=by omega
   subst hn0
   subst hk0
   have hn0 : news=[]:=List.eq_nil_of_length_eq_zero (by rw [hx]; simp)
   subst hn0
   refine .inl ⟨rfl,rfl,rfl,?_⟩
   cases ad <;> simp [Builtin.append_,run_underlying hu,sizeOf,typeInfo,r1,r2,Builtin.lenOf,hfc,storeCells]
  ·refine .inr (.inl ⟨hc0,hfit,fun b off c el fz hb1 hb2=>?_⟩)
   obtain ⟨b',off',c',el',fz',e1,e2,c3,c4⟩:=hb hc0
   rw [hb1] at e1
   simp only [Option.some.injEq,Addr.mk.injEq,and_true] at e1
   obtain ⟨rfl,rfl⟩:=e1
   rw [hb2] at e2
   cases e2
   subst hb1
   have hmul : n * e.size+k * e.size≤cap * e.size:=by rw [← Nat.add_mul]; exact Nat.mul_le_mul_right _ hfit
   have hst:=ba (P:=P) b (off+n * e.size) el fz news 0 c w hb2 c3 (by omega) hone
   simp only [Nat.add_zero] at hst
   have hst : (storeCells ⟨b,off+n * e.size,none⟩ news).run P w=.ok () (w.setRow b (ao c (off+n * e.size) news)):=hst
   simp [Builtin.append_,run_underlying hu,sizeOf,typeInfo,r1,r2,Builtin.lenOf,hfc,hfit,aD,hst]
 ·have hk : k≠0:=by omega
  obtain ⟨xb,xoff,xc,xel,xfz,rfl,y2,y3,y4⟩:=hxb hk
  obtain ⟨z0,ez,hz0,_⟩:=bE (m:=⟨w,fun _=>False,fun _=>undef,[]⟩) r5
  rw [List.append_nil] at ez
  have hzs : z.cells.size=e.size:=by rw [← Array.length_toList,ez]; exact hz0.len
  have hnews:=hnews xb xoff xc xel xfz rfl y2 y4
  have hge:=grownCap_ge w (n+k) cap et
  have hcm : grownCap w (n+k) cap et≤maxLen:=grownCap_le_maxLen _ _ _ _ (by unfold maxLen; omega)
  have hfits : Builtin.nextslicecap (n+k) cap * inf.bytes≤281474976710656:=growslice_fits (by omega) (by
   have h1 : (n+k) * inf.bytes≤68719476736 * 2048:=Nat.mul_le_mul hlim r3
   omega)
  have key : ∃ olds : List Value,olds.length=n * e.size∧(n≠0→∀ b off c el fz,ad=some ⟨b,off,none⟩→w.heap[b]?=some (.cells c el fz)→olds=seg c off (n * e.size))∧(Builtin.append_ #[t,t] ty #[.slice ad n cap,.slice (some ⟨xb,xoff,none⟩) k xcap]).run P w =
    .ok (.slice (some ⟨w.heap.size,0,none⟩) (n+k) (grownCap w (n+k) cap et)) (w.drew.alloc (.cells (olds.toArray++news.toArray++Builtin.zeroCells z.cells (grownCap w (n+k) cap et - (n+k))) et)):=by
   by_cases hc0 : cap=0
   ·subst hc0
    have hn0 : n=0:=by omega
    subst hn0
    refine ⟨[],by simp,fun h=>absurd rfl h,?_⟩
    cases ad with
    | some ad=>exact run_append_grow (P:=P) w t ty et inf z hu r1 r4 ad 0 0 [] (by simp) (by intro j v hj; simp at hj) ⟨xb,xoff,none⟩ k xcap news (by rw [r2]; exact hx) hnews (by omega) (by omega) (by simpa using hfits)
    | none =>
     have hn0 : Builtin.nextslicecap k 0=k:=nextslicecap_zero (by omega)
     have:=run_append_nil (P:=P) w t ty et inf z hu r1 r4 ⟨xb,xoff,none⟩ k xcap news (by rw [r2]; exact hx) hnews (by omega) (by omega) (by simp only [Nat.zero_add,hn0] at hfits; exact hfits)
     simpa using this
   ·obtain ⟨b,off,c,el,fz,rfl,c2,c3,c4⟩:=hb hc0
    have hmul : n * e.size≤cap * e.size:=Nat.mul_le_mul_right _ hn
    have hsl : (seg c off (n * e.size)).length=n * e.size:=cn _ _ _ (by omega)
    refine ⟨seg c off (n * e.size),hsl,fun _ b' off' c' el' fz' e1 e2=>?_,?_⟩
    ·simp only [Option.some.injEq,Addr.mk.injEq,and_true] at e1
     obtain ⟨rfl,rfl⟩:=e1
     rw [c2] at e2
     cases e2
     rfl
    ·exact run_append_grow (P:=P) w t ty et inf z hu r1 r4 ⟨b,off,none⟩ n cap _ (by rw [r2]; exact hsl) (fun j v hj=>by
      have hjl : j < n * e.size:=by rw [← hsl]; exact (List.getElem?_eq_some_iff.1 hj).1
      rw [aD,cb c2,← seg_getElem? c off _ j hjl]
      exact hj) ⟨xb,xoff,none⟩ k xcap news (by rw [r2]; exact hx) hnews (by omega) (by omega) hfits
  obtain ⟨olds,k1,k2,hrun⟩:=key
  refine .inr (.inr ⟨olds,_,_,k1,k2,hge,hcm,?_,⟨(Builtin.zeroCells z.cells (grownCap w (n+k) cap et - (n+k))).toList,by simp⟩,hrun⟩)
  simp only [Array.size_append,List.size_toArray,size_zeroCells,hzs,k1,hx,← Nat.add_mul]
  congr 1
  omega
theorem qk (hi : Inv C w0 M m) {σ : Ty} {v : SV} {u : Value} {p : List (List σ.den)×List Nat} (h : m7 m.G σ v=some p) (hr : RelSV m u v) :
  ∃ hs,DeepW m.w m.F u hs σ p.1 none∧(∀ v∈u :: hs,∀ b,HB v b→∃ id,id∈p.2∧∃ o,m.G.get id=some o∧isObj o=true∧HB (m.ι id) b)∧∀ id∈p.2,∃ o,m.G.get id=some o:=by
 unfold m7 at h
 split at h
 ·cases h
  obtain ⟨ad,rfl⟩:=hr
  have hnb : ∀ b,¬ HB (.slice ad 0 0) b:=fun b hb=>by cases ad <;> simp [HB,HB1] at hb
  exact ⟨[],⟨rfl,⟨ad,0,rfl,by simp,by unfold maxLen; omega,fun h=>absurd rfl h⟩,by intro i hi; simp at hi,(by intro i v hi; cases hi),List.pairwise_singleton _ _⟩,fun v hv b hb=>by simp at hv; subst hv; exact absurd hb (hnb b),by simp⟩
 ·rename_i id
  split at h
  ·rename_i ver τ l hg
   split at h
   ·rename_i x hx
    cases h
    obtain ⟨e,hx⟩:=au hx
    simp only [Ty.slice.injEq] at e
    subst e; subst hx
    obtain ⟨_,ob,hob,hv⟩:=hr
    rw [hg] at hob
    cases hob
    obtain ⟨us,v1,v2⟩:=hv
    obtain ⟨u',hs,d1,d2⟩:=bU hi hg
    rw [d1] at v1
    simp only [Value.tuple.injEq] at v1
    subst v1
    simp only [List.getElem?_toArray,List.getElem?_cons_zero,Option.some.injEq] at v2
    subst v2
    exact ⟨hs,d2,fun v hv b hb=>⟨id,by simp,_,hg,rfl,by rw [d1,bM d2.one]; exact ⟨v,hv,hb⟩⟩,fun k hk=>by simp at hk; subst hk; exact ⟨_,hg⟩⟩
   ·simp at h
  ·simp at h
 ·simp at h
theorem pj {t : TypeId} {x y : Operand} {σ : Ty} {l xs : List (List σ.den)×List Nat} {r : List (List σ.den)} (hT : cp P C.tab=true) (hi : Inv C w0 M m) (hG : m.G=s.G) (hS : ∀ x,RelSV m (a.eval x) (aj C s.env x))
  (ho : o.op=.call { callee:=.builtin .append,args:=#[x,y],argTypes:=#[t,t] }) (ht : C.tab.get t=some (.slice (.slice σ)))
  (hl : m7 s.G σ (aj C s.env x)=some l) (hx : m7 s.G σ (aj C s.env y)=some xs) (hr : app l.1 xs.1=some r) (hnd : aM (l.2++xs.2)=true)
  (h : bw { env:=s.env,G:=aq (l.2++xs.2) s.G } (o.dst.getD 0) (.deep 0 σ r none) (fun i s2=>some (aw o.dst (.av (.ownd i)) s2))=some s') : Does P o a m.w (Res C w0 M m s s' o.dst):=by
 unfold app at hr
 split at hr
 case isFalse=>simp at hr
 rename_i hlim
 simp only [Option.some.injEq] at hr
 subst hr
 have hlimv : lim=68719476736:=rfl
 rw [hlimv] at hlim
 obtain ⟨i,hfree,h⟩:=bk h
 simp only [Option.some.injEq] at h
 obtain ⟨et,hu,hck⟩:=aC (ac hT ht)
 rw [← hG] at hl hx
 obtain ⟨hs1,p1,p2,p3⟩:=qk hi hl (hS x)
 obtain ⟨hs2,q1,q2,q3⟩:=qk hi hx (hS y)
 obtain ⟨ad,cap,b1,b2,b3,b4⟩:=p1.outer
 obtain ⟨xd,xcap,x1,x2,x3,x4⟩:=q1.outer
 obtain ⟨n1,n2,n3⟩:=dl hnd
 -- the parts are vj
 obtain ⟨d1,d2,d3,d4⟩:=ij (l.2++xs.2) hi (fun id hid=>by
  rcases List.mem_append.1 hid with hid | hid
  ·exact p3 id hid
  ·exact q3 id hid)
 have f1 : ∀ v∈a.eval x :: hs1,er w0 M ⟨m.w,m.F,m.ι,aq (l.2++xs.2) m.G⟩ v:=fun v hv b hb=>by
  obtain ⟨id,e1,ob,e2,e3,e4⟩:=p2 v hv b hb
  exact d4 id (by simp [e1]) ob e2 e3 b e4
 have f2 : ∀ v∈a.eval y :: hs2,er w0 M ⟨m.w,m.F,m.ι,aq (l.2++xs.2) m.G⟩ v:=fun v hv b hb=>by
  obtain ⟨id,e1,ob,e2,e3,e4⟩:=q2 v hv b hb
  exact d4 id (by simp [e1]) ob e2 e3 b e4
 have hcross : ∀ v∈a.eval x :: hs1,∀ v'∈a.eval y :: hs2,∀ b,HB v b→HB v' b→False:=by
  intro v hv v' hv' b hb hb'
  obtain ⟨id,e1,ob,e2,e3,e4⟩:=p2 v hv b hb
  obtain ⟨id',g1,ob',g2,g3,g4⟩:=q2 v' hv' b hb'
  have:=hi.inj id id' ob ob' b e2 e3 g2 g3 e4 g4
  subst this
  exact n3 id e1 g1
 have hap : dc (hs1++hs2):=by
  refine List.pairwise_append.2 ⟨(List.pairwise_cons.1 p1.apart).2,(List.pairwise_cons.1 q1.apart).2,fun v hv v' hv' b hb hb'=>?_⟩
  exact hcross v (List.mem_cons_of_mem _ hv) v' (List.mem_cons_of_mem _ hv') b hb hb'
 have hlen : (hs1++hs2).length=(l.1++xs.1).length:=by simp [p1.len,q1.len]
 have hinner : ∀ k (h : k < (l.1++xs.1).length) v,(hs1++hs2)[k]?=some v→HdrW m.w m.F v σ (l.1++xs.1)[k]:=by
  intro k hk v hv
  rw [List.length_append] at hk
  by_cases hkl : k < l.1.length
  ·rw [List.getElem?_append_left (by rw [p1.len]; exact hkl)] at hv
   rw [List.getElem_append_left hkl]
   exact p1.inner k hkl v hv (by simp)
  ·rw [List.getElem?_append_right (by rw [p1.len]; omega),p1.len] at hv
   rw [List.getElem_append_right (by omega)]
   exact q1.inner (k - l.1.length) (by omega) v hv (by simp)
 have hone : ∀ u∈hs2,u.oneCell'=true:=fun u hu=>q1.one u (List.mem_cons_of_mem _ hu)
 have hbase : cap≠0→∃ b off c el fz,ad=some ⟨b,off,none⟩∧m.w.heap[b]?=some (.cells c el fz)∧fI (.slice σ) c.size fz∧off+cap * (Ty.slice σ).size≤c.size:=by
  intro hc
  obtain ⟨b,off,c,el,fz,e1,e2,e3,e4,_⟩:=b4 hc
  exact ⟨b,off,c,el,fz,e1,e2,e3,by simp only [Ty.size,Nat.mul_one]; exact e4⟩
 have hxs : hs2.length=xs.1.length * (Ty.slice σ).size:=by simp [Ty.size,q1.len]
 have segEq : ∀ {c : Array Value} {off n : Nat} {hs : List Value},hs.length=n→(∀ k,k < n→c[off+k]?=hs[k]?)→hs=seg c off n:=by
  intro c off n hs e1 e2
  apply List.ext_getElem?
  intro k
  by_cases hk : k < n
  ·rw [seg_getElem? _ _ _ _ hk,e2 k hk]
  ·rw [List.getElem?_eq_none (by omega),List.getElem?_eq_none]
   unfold seg
   simp only [List.length_take,List.length_drop]
   omega
 have hxb : xs.1.length≠0→∃ b off c el fz,xd=some ⟨b,off,none⟩∧m.w.heap[b]?=some (.cells c el fz)∧off+hs2.length≤c.size∧hs2=seg c off hs2.length:=by
  intro hk
  obtain ⟨b,off,c,el,fz,e1,e2,e3,e4,e5⟩:=x4 (by omega)
  exact ⟨b,off,c,el,fz,e1,e2,by rw [q1.len]; omega,segEq rfl (fun k hk=>e5 k (by rw [← q1.len]; exact hk) (by simp))⟩
 have hfresh : Heap.get (aq (l.2++xs.2) m.G) i=none:=by rw [hG]; exact hfree
 have hall : ∀ v∈hs1++hs2,er w0 M ⟨m.w,m.F,m.ι,aq (l.2++xs.2) m.G⟩ v:=by
  intro v hv
  rcases List.mem_append.1 hv with hv | hv
  ·exact f1 v (List.mem_cons_of_mem _ hv)
  ·exact f2 v (List.mem_cons_of_mem _ hv)
 rcases pD (ty:=o.type) (ad:=ad) (xd:=xd) (xcap:=xcap) (n:=l.1.length) hu hck m.w b2 hbase hxs hone hxb hlim with ⟨c1,c2,c3,hrun⟩ | ⟨c1,c2,hrun⟩ | ⟨olds,cells,cap',c1,c2,c3,c4,c5,⟨rest,c6⟩,hrun⟩
 ·have e1 : l.1=[]:=List.eq_nil_of_length_eq_zero c3
  have e2 : xs.1=[]:=List.eq_nil_of_length_eq_zero c2
  have e3 : hs1=[]:=List.eq_nil_of_length_eq_zero (by rw [p1.len,c3])
  have hub : a.eval x=.slice ad 0 0:=by rw [b1,c3,c1]
  have hnb : ∀ b,¬ HB (.slice ad 0 0) b:=fun b hb=>by cases ad <;> simp [HB,HB1] at hb
  obtain ⟨m',r1,r2,r3,r4,r5,r6,r7⟩:=iv (m:=⟨m.w,m.F,m.ι,aq (l.2++xs.2) m.G⟩) d1 (i:=i) hfresh (u:=.slice ad 0 0) (hs:=[]) (τ:=σ) (l:=[]) ⟨rfl,⟨ad,0,rfl,by simp,by unfold maxLen; omega,fun h=>absurd rfl h⟩,by intro i hi; simp at hi,(by intro i v hi; cases hi),List.pairwise_singleton _ _⟩ (fun v hv b hb=>by simp at hv; subst hv; exact absurd hb (hnb b))
  refine Does.value (w':=m'.w) (v:=.slice ad 0 0) ?_ ⟨m',.av (.ownd i),rfl,?_,r5,d2.trans r6,(ak (a:=.ownd i) (by intros; simp)).2 r7⟩
  ·rw [c3,c1,c2] at hrun
   simp [execOp,ho,resolve,invoke,builtin,hub,x1,c2,hrun,r1]
  ·rw [← h,r3,hG,e1,e2]; rfl
 ·obtain ⟨b,off,c,el,fz,rfl,g2,g3,g4,g5⟩:=b4 c1
  have hrun:=hrun b off c el fz rfl g2
  simp only [Ty.size,Nat.mul_one] at hrun
  have hfit : off+l.1.length+hs2.length≤c.size:=by rw [q1.len]; omega
  have hub : ∀ b',HB (a.eval x) b'→b'=b:=fun b' hb'=>by rw [b1] at hb'; exact hb'.2.symm
  have hbx : HB (a.eval x) b:=by rw [b1]; exact ⟨c1,rfl⟩
  obtain ⟨fb1,fb2,fb3,fb4⟩:=f1 _ (List.mem_cons_self ..) b hbx
  have hw:=bp m.w b (ao c (off+l.1.length) hs2)
  obtain ⟨s1,s2⟩:=rn (m:=⟨m.w,m.F,m.ι,aq (l.2++xs.2) m.G⟩) d1 (w1:=m.w.setRow b (ao c (off+l.1.length) hs2)) (Mc:=fun b'=>b'=b) ⟨hw.os,hw.tape,hw.output,by rw [hw.size]; exact Nat.le_refl _,fun k _ hk=>hw.block k hk⟩ (fun b' hb'=>by subst hb'; exact ⟨fb1,fb2,fb4⟩)
  have hF : ∀ b',m.F b'→m.F b'∧(m.w.setRow b (ao c (off+l.1.length) hs2)).heap[b']?=m.w.heap[b']?:=fun b' hb'=>⟨hb',hw.block b' (fun e=>fb2 (e ▸ hb'))⟩
  have hheap : (m.w.setRow b (ao c (off+l.1.length) hs2)).heap[b]?=some (.cells (ao c (off+l.1.length) hs2) el fz):=setRow_heap m.w b c _ el fz g2
  have hnb : ∀ v∈hs1++hs2,¬ HB v b:=by
   intro v hv hb'
   rcases List.mem_append.1 hv with hv | hv
   ·exact (List.pairwise_cons.1 p1.apart).1 v hv b hbx hb'
   ·exact hcross _ (List.mem_cons_self ..) v (List.mem_cons_of_mem _ hv) b hbx hb'
  have hd : DeepW (m.w.setRow b (ao c (off+l.1.length) hs2)) m.F (.slice (some ⟨b,off,none⟩) (l.1.length+xs.1.length) cap) (hs1++hs2) σ (l.1++xs.1) none:=by
   refine ⟨hlen,⟨_,cap,by simp,by simpa using c2,b3,fun _=>⟨b,off,_,el,fz,rfl,hheap,by rw [aO _ _ _ hfit]; exact g3,by rw [aO _ _ _ hfit]; exact g4,fun k hk _=>?_⟩⟩,fun k hk v hv _=>?_,fun k v hk=>(by cases hk),?_⟩
   ·rw [b8 _ _ _ hfit]
    rw [List.length_append] at hk
    by_cases hkl : k < l.1.length
    ·rw [if_neg (by omega),List.getElem?_append_left (by rw [p1.len]; exact hkl)]
     exact g5 k hkl (by simp)
    ·rw [if_pos (by rw [q1.len]; omega),List.getElem?_append_right (by rw [p1.len]; omega),p1.len]
     congr 1; omega
   ·refine (hinner k hk v hv).mono hF (fun b' hb'=>hw.block b' (fun e=>?_))
    subst e
    exact hnb v (List.mem_of_getElem? hv) hb'
   ·refine List.Pairwise.cons (fun v hv b' hb1 hb2=>?_) hap
    have : b'=b:=hb1.2.symm
    subst this
    exact hnb v hv hb2
  obtain ⟨m',r1,r2,r3,r4,r5,r6,r7⟩:=iv (m:=⟨m.w.setRow b (ao c (off+l.1.length) hs2),m.F,m.ι,aq (l.2++xs.2) m.G⟩) s1 (i:=i) hfresh hd (fun v hv b' hb'=>by
   have : ∃ v',(v'=a.eval x∨v'∈hs1++hs2)∧HB v' b':=by
    rcases List.mem_cons.1 hv with rfl | hv
    ·exact ⟨_,.inl rfl,by rw [b1]; exact ⟨c1,hb'.2⟩⟩
    ·exact ⟨v,.inr hv,hb'⟩
   obtain ⟨v',hv',hb'⟩:=this
   have hfr : er w0 M ⟨m.w,m.F,m.ι,aq (l.2++xs.2) m.G⟩ v':=by
    rcases hv' with rfl | hv'
    ·exact f1 _ (List.mem_cons_self ..)
    ·exact hall v' hv'
   obtain ⟨k1,k2,k3,k4⟩:=hfr b' hb'
   exact ⟨k1,k2,by show b' < (m.w.setRow b _).heap.size; rw [hw.size]; exact k3,k4⟩)
  refine Does.value (w':=m'.w) (v:=.slice (some ⟨b,off,none⟩) (l.1.length+xs.1.length) cap) ?_ ⟨m',.av (.ownd i),rfl,?_,r5,(d2.trans s2).trans r6,(ak (a:=.ownd i) (by intros; simp)).2 r7⟩
  ·simp [execOp,ho,resolve,invoke,builtin,b1,x1,hrun,r1]
  ·rw [← h,r3,hG]
 ·simp only [Ty.size,Nat.mul_one] at c1 c2 c5
  have holds : olds=hs1:=by
   by_cases hl0 : l.1.length=0
   ·have e1 : hs1=[]:=List.eq_nil_of_length_eq_zero (by rw [p1.len,hl0])
    have e2 : olds=[]:=List.eq_nil_of_length_eq_zero (by rw [c1,hl0])
    rw [e1,e2]
   ·obtain ⟨b,off,c,el,fz,rfl,g2,g3,g4,g5⟩:=b4 (by omega)
    rw [c2 hl0 b off c el fz rfl g2]
    exact (segEq p1.len (fun k hk=>g5 k hk (by simp))).symm
  subst holds
  obtain ⟨m',r1,r2,r3,r4,r5⟩:=pC (m:=⟨m.w,m.F,m.ι,aq (l.2++xs.2) m.G⟩) (τ:=σ) (l:=l.1++xs.1) (hs:=olds++hs2) (cap:=cap') (fz:=(0,0)) d1 (i:=i) hfresh (w1:=m.w.drew.alloc (.cells cells et)) (dr m.w _) (c:=cells) (el:=et)
   (bu m.w.drew _) (.inl (Nat.le_refl _)) (by rw [List.length_append]; exact c3) c4 (by omega) hlen (fun k hk=>by
    rw [← Array.getElem?_toList,c6,List.getElem?_append_left (by rw [hlen]; exact hk)]) hinner hap hall
  refine Does.value (w':=m'.w) (v:=.slice (some ⟨m.w.heap.size,0,none⟩) (l.1.length+xs.1.length) cap') ?_ ⟨m',.av (.ownd i),rfl,?_,r3,d2.trans r4,by rw [List.length_append] at r5; exact r5⟩
  ·simp [execOp,ho,resolve,invoke,builtin,b1,x1,hrun,r1]
  ·rw [← h,r2,hG]
theorem rM (hi : Inv C w0 M m) (site : Nat) {v : SV} {u : Value} (hr : RelSV m u v) :
  ∃ m1,m1.w=m.w∧m1.F=m.F∧m1.G=(bf site m.G v).2∧Inv C w0 M m1∧Evo m m1∧RelSV m1 u (bf site m.G v).1:=by
 have same {v : SV} (hr : RelSV m u v) (h : bf site m.G v=(v,m.G)) : ∃ m1,m1.w=m.w∧m1.F=m.F∧m1.G=(bf site m.G v).2∧Inv C w0 M m1∧Evo m m1∧RelSV m1 u (bf site m.G v).1:=by
  rw [h]; exact ⟨m,rfl,rfl,rfl,hi,Evo.refl m,hr⟩
 cases v with
 | av at' =>
  cases at' with
  | sub id ver j =>
   obtain ⟨_,ob,hob,hv⟩:=(ak (m:=m) (a:=.sub id ver j) (by intros; simp)).1 hr
   cases ob with
   | deep ver' σ l hole =>
    cases hole with
    | some _=>exact same hr (by simp [bf,hob])
    | none =>
     cases hc : (Nat.beq ver ver' && !m.G.has (aW 8 m.G site)) with
     | false=>exact same hr (by simp only [bf,hob,hc,cond_false])
     | true =>
      have hc':=hc
      simp only [Bool.and_eq_true,Bool.not_eq_true'] at hc'
      obtain ⟨hver,hfr⟩:=hc'
      have:=Nat.eq_of_beq_eq_true hver
      subst this
      obtain ⟨hj,_,hu⟩:=hv.2 rfl
      obtain ⟨m1,a1,a2,a3,a4,a5,a6⟩:=vZ hi hob hj (jC hfr) hu
      have e : bf site m.G (.av (.sub id ver j))=(.av (.own (aW 8 m.G site)),(aW 8 m.G site,.arr σ l[j]) :: (id,.deep (ver+1) σ l (some j)) :: m.G):=by
       simp only [bf,hob,hc,cond_true,iD hj]
      rw [e]
      exact ⟨m1,a1,a2,a3,a4,a5,(ak (a:=.own _) (by intros; simp)).2 a6⟩
   | _=>exact same hr (by simp [bf,hob])
  | _=>exact same hr rfl
 | _=>exact same hr rfl
theorem zF {args : Array Operand} {ats : Array TypeId} (hT : cp P C.tab=true) (hi : Inv C w0 M m) (hG : m.G=s.G) (hS : ∀ x,RelSV m (a.eval x) (aj C s.env x))
  (ho : o.op=.call { callee:=.builtin .append,args,argTypes:=ats })
  (h : al C o s some=some s') : Does P o a m.w (Res C w0 M m s s' o.dst):=by
 simp only [al,ho] at h
 split at h
 ·rename_i t t' x y hat har
  have ha1 : args=#[x,y]:=by rw [← Array.toArray_toList (xs:=args),har]
  have ha2 : ats=#[t,t']:=by rw [← Array.toArray_toList (xs:=ats),hat]
  subst ha1
  subst ha2
  split at h
  ·rename_i e ht
   cases htt : Nat.beq t t' with
   | false=>rw [htt] at h; simp at h
   | true =>
    rw [htt] at h
    simp only [cond_true] at h
    have htt:=Nat.eq_of_beq_eq_true htt
    subst htt
    cases hnd : pu (aj C s.env y) with
    | true =>
     rw [hnd] at h
     simp only [cond_true] at h
     split at h
     ·rename_i σ _
      split at h
      ·rename_i l xs hl hx
       obtain ⟨r,hr,h⟩:=Option.bind_eq_some_iff.1 h
       cases hn : aM (l.2++xs.2) with
       | false=>rw [hn] at h; simp at h
       | true =>
        rw [hn] at h
        exact pj hT hi hG hS ho ht hl hx hr hn h
      ·simp at h
     ·simp at h
    | false =>
     rw [hnd] at h
     simp only [cond_false] at h
     split at h
     ·rename_i l y0 xs hcut hsv
      obtain ⟨r,hr,h⟩:=Option.bind_eq_some_iff.1 h
      exact qA hT hi hG hS ho ht hnd hcut hsv (by simp) hr h
     ·simp at h
     rename_i hcut
     split at h
     ·rename_i l ids xs hbase hsv
      obtain ⟨r,hr,h⟩:=Option.bind_eq_some_iff.1 h
      obtain ⟨m1,a1,a2,a3,a4,a5,a6⟩:=rM hi (o.dst.getD 0) (hS x)
      rw [← hG] at hbase h
      obtain ⟨hH,hids⟩:=iU (s:=⟨s.env,(bf (o.dst.getD 0) m.G (aj C s.env x)).2⟩) a4 a3 hbase a6
      have hN:=nC hi hnd (hG ▸ hsv) (hS y)
      have:=qr (s:=⟨s.env,(bf (o.dst.getD 0) m.G (aj C s.env x)).2⟩) (s':=s') (o:=o) (a:=a) hT a4 a3 ho ht hH hids (by rw [a1,a2]; exact hN) hr h
      rw [a1] at this
      intro K Q hK
      refine this K Q fun v w' hR=>hK v w' ?_
      obtain ⟨m',sv,k1,k2,k3,k4,k5⟩:=hR
      exact ⟨m',sv,k1,k2,k3,a5.trans k4,k5⟩
     ·simp at h
  ·simp at h
 ·simp at h
end
end Go.Vm

/-
 The machine's operations against the model's: clear.
-/
namespace Go.Vm
section
variable {P : Program} {C : Ctx} {w0 : World} {M : Own} {o : Oper} {a : Act} {m : Mem} {s s' : St}
theorem CZ {args : Array Operand} {ats : Array TypeId} (hT : cp P C.tab=true) (hi : Inv C w0 M m) (hG : m.G=s.G) (hS : ∀ x,RelSV m (a.eval x) (aj C s.env x))
  (ho : o.op=.call { callee:=.builtin .clear,args,argTypes:=ats })
  (h : al C o s some=some s') : Does P o a m.w (Res C w0 M m s s' o.dst):=by
 simp only [al,ho] at h
 split at h
 ·rename_i t x hat har
  have ha1 : args=#[x]:=by rw [← Array.toArray_toList (xs:=args),har]
  have ha2 : ats=#[t]:=by rw [← Array.toArray_toList (xs:=ats),hat]
  subst ha1
  subst ha2
  have hx:=hS x
  split at h
  ·rename_i e id off len ht hv
   rw [hv] at hx
   obtain ⟨_,ob,hob,hxv⟩:=(ak (m:=m) (a:=.view id off len) (by intros; simp)).1 hx
   rw [hG] at hob
   split at h
   ·rename_i σ l hg
    rw [hg] at hob
    simp only [Option.some.injEq] at hob
    subst hob
    cases hc : (decide (e=σ) && Nat.ble (off+len) l.length && Nat.ble 1 len) with
    | false=>rw [hc] at h; simp at h
    | true =>
     rw [hc] at h
     simp only [cond_true,Option.some.injEq] at h
     simp only [Bool.and_eq_true,decide_eq_true_eq] at hc
     obtain ⟨⟨rfl,c2⟩,c3⟩:=hc
     have c2:=Nat.le_of_ble_eq_true c2
     have c3:=Nat.le_of_ble_eq_true c3
     obtain ⟨et,hu,hck⟩:=aC (ac hT ht)
     obtain ⟨inf,z,r1,r2,r3,r4,r5,r6,r7⟩:=db hck
     obtain ⟨z0,ez,hz0,_⟩:=bE (m:=m) r5
     rw [List.append_nil] at ez
     have hzs : z.cells.size=e.size:=by rw [← Array.length_toList,ez]; exact hz0.len
     obtain ⟨b,o',cap,c,el,fz,q1,q2,q3,q4,q5,q6,q7,q8,q9⟩:=lr hi (hG ▸ hg) (j:=off) (by omega)
     simp only at hxv
     obtain ⟨_,ad1,n1,cap1,ad2,k1,k2,k3⟩:=hxv
     rw [q1] at k1
     simp only [Value.slice.injEq] at k1
     obtain ⟨rfl,rfl,rfl⟩:=k1
     have k3:=k3 (by omega)
     simp only [Option.map_some,aD] at k3
     subst k3
     have hle : off * e.size+len * e.size≤l.length * e.size:=by rw [← Nat.add_mul]; exact Nat.mul_le_mul_right _ c2
     have hle2 : l.length * e.size≤cap * e.size:=Nat.mul_le_mul_right _ q2
     obtain ⟨vs,hvs⟩ : ∃ vs,vs=(Builtin.zeroCells z.cells len).toList:=⟨_,rfl⟩
     have hvl : vs.length=len * e.size:=by rw [hvs,Array.length_toList,size_zeroCells,hzs]
     have hseg : ∀ i,i < len→(vs.drop (i * e.size)).take e.size=z0:=by
      intro i hi'
      by_cases hz : e.size=0
      ·have : z0=[]:=by have:=hz0.len; rw [hz] at this; exact List.eq_nil_of_length_eq_zero this
       rw [this,hz]; simp
      ·have:=yH z.cells (by omega) len i hi'
       rw [hzs] at this
       rw [hvs]
       unfold Builtin.zeroCells
       rw [hzs]
       unfold seg at this
       rw [this,ez]
     have hone : ∀ v∈vs,v.oneCell'=true:=by
      intro v hv
      obtain ⟨j,hj⟩:=List.mem_iff_getElem?.1 hv
      have hjl : j < vs.length:=(List.getElem?_eq_some_iff.1 hj).1
      have hs : 0 < e.size:=by
       rcases Nat.eq_zero_or_pos e.size with h0 | h0
       ·rw [hvl,h0,Nat.mul_zero] at hjl; omega
       ·exact h0
      have hd : j / e.size < len:=by rw [Nat.div_lt_iff_lt_mul hs]; omega
      have:=hseg (j / e.size) hd
      refine hz0.one v ?_
      rw [← this,List.mem_iff_getElem?]
      refine ⟨j % e.size,?_⟩
      rw [List.getElem?_take,if_pos (Nat.mod_lt _ hs),List.getElem?_drop,Nat.mul_comm,Nat.div_add_mod]
      exact hj
     have hin : o'+off * e.size+vs.length≤c.size:=by omega
     have hst:=ba (P:=P) b (o'+off * e.size) el fz vs 0 c m.w q4 q5 (by omega) hone
     simp only [Nat.add_zero] at hst
     have hst : (storeCells ⟨b,o'+off * e.size,none⟩ vs).run P m.w=.ok () (m.w.setRow b (ao c (o'+off * e.size) vs)):=hst
     have hzv : (zeroValue et).run P m.w=.ok z m.w:=by simp [zeroValue,typeInfo,r1,r4]
     obtain ⟨n,rfl⟩ : ∃ n,len=n+1:=⟨len - 1,by omega⟩
     have hrun : (Builtin.clear_ #[t] o.type #[.slice (some ⟨b,o'+off * e.size,none⟩) (n+1) (cap - off)]).run P m.w=.ok (.tuple #[]) (m.w.setRow b (ao c (o'+off * e.size) vs)):=by
      simp [Builtin.clear_,run_underlying hu,hzv,← hvs,hst]
     have hheap : (m.w.setRow b (ao c (o'+off * e.size) vs)).heap[b]?=some (.cells (ao c (o'+off * e.size) vs) el fz):=setRow_heap m.w b c _ el fz q4
     have hblk : HB (m.ι id) b:=by rw [q1]; simp [HB,HB1,q3]
     have hcl : (fZ e l off (n+1)).length=l.length:=by unfold fZ; simp; omega
     obtain ⟨g1,g2⟩:=dV hi (hG ▸ hg : m.G.get id=some (.arr e l)) rfl hblk (o':=.arr e (fZ e l off (n+1))) ⟨rfl,hcl.symm⟩ (bp m.w b (ao c (o'+off * e.size) vs)) (fun he=>by
      refine ⟨some ⟨b,o',none⟩,cap,by rw [hcl]; exact q1,by rw [hcl]; exact q2,q9,fun _=>⟨b,o',_,el,fz,rfl,hheap,by rw [aO _ _ _ hin]; exact q5,by rw [aO _ _ _ hin]; exact q6,fun i hi'=>?_⟩⟩
      refine Rd.mono he.fro ?_
      rw [hcl] at hi'
      by_cases h1 : i < off
      ·have hm : i * e.size+e.size≤off * e.size:=by
        have:=Nat.mul_le_mul_right e.size (show i+1≤off from h1)
        rw [Nat.add_mul] at this; omega
       rw [bW _ _ _ hin _ _ (.inl (by omega))]
       have e1 : (fZ e l off (n+1))[i]'(by rw [hcl]; exact hi')=l[i]:=by
        unfold fZ
        rw [List.getElem_append_left (by simp; omega),List.getElem_take]
       rw [e1]
       exact q8 i hi'
      ·by_cases h2 : i < off+(n+1)
       ·have e1 : (fZ e l off (n+1))[i]'(by rw [hcl]; exact hi')=aS e:=by
         unfold fZ
         rw [List.getElem_append_right (by simp; omega),List.getElem_append_left (by simp; omega),List.getElem_replicate]
        have hd : i - off < n+1:=by omega
        have hmi : i * e.size=off * e.size+(i - off) * e.size:=by rw [← Nat.add_mul]; congr 1; omega
        have hme : (i - off) * e.size+e.size≤(n+1) * e.size:=by
         have:=Nat.mul_le_mul_right e.size (show i - off+1≤n+1 from hd)
         rw [Nat.add_mul (i - off) 1] at this; omega
        rw [e1,hmi,← Nat.add_assoc,ke _ _ _ hin _ _ (by omega),hseg _ hd]
        exact hz0
       ·have hm : off * e.size+(n+1) * e.size≤i * e.size:=by rw [← Nat.add_mul]; exact Nat.mul_le_mul_right _ (by omega)
        rw [bW _ _ _ hin _ _ (.inr (by omega))]
        have e1 : (fZ e l off (n+1))[i]'(by rw [hcl]; exact hi')=l[i]:=by
         unfold fZ
         rw [List.getElem_append_right (by simp; omega),List.getElem_append_right (by simp; omega),List.getElem_drop]
         congr 1
         simp
         omega
        rw [e1]
        exact q8 i hi')
     refine Does.value (w':=m.w.setRow b (ao c (o'+off * e.size) vs)) (v:=.tuple #[]) ?_ ⟨_,.tup [],rfl,?_,g1,g2,⟨[],rfl,trivial⟩⟩
     ·simp [execOp,ho,resolve,invoke,builtin,k2,hrun]
     ·rw [← h]
      unfold setObj
      rw [← hG]
   ·simp at h
  ·simp at h
 ·simp at h
end
end Go.Vm

/-
 The machine's operations against the model's: operators on two values; what a step comes to, by any continuation.
-/
namespace Go.Vm
def Ei (P : Program) (C : Ctx) : Prop:=∀ t τ,C.tab.get t=some τ→τ.isAgg=true→(C.eqs.any fun e=>Nat.beq e t)=true →
 ∀ (w : World) (F : Nat→Prop) (cs cs' : List Value) (x y : τ.den) (r : Bool),eqT τ x y=some r→Rd w F τ cs x→Rd w F τ cs' y →
  (∀ w,(Op.equal t (toV τ cs) (toV τ cs')).run P w=.ok r w)∧∀ op p q w,(eqGuard op t p q (toV τ cs) (toV τ cs')).run P w=.ok () w
section
variable {P : Program} {C : Ctx} {w0 : World} {M : Own} {o : Oper} {a : Act} {m : Mem} {s : St} {R : Type} {r : R} {K : St→Option R}
def Ee (C : Ctx) (w0 : World) (M : Own) (m : Mem) (s : St) (dst : Option Nat) {R : Type} (K : St→Option R) (r : R) (v : Value) (w' : World) : Prop :=
 ∃ s',K s'=some r∧Res C w0 M m s s' dst v w'
theorem bK (hi : Inv C w0 M m) (hG : m.G=s.G) {v : Value} {sv : SV} (hrun : (execOp a.eval o).run P m.w=.ok (.value v) m.w) (hv : RelSV m v sv)
  (hs : K (aw o.dst sv s)=some r) : Does P o a m.w (Ee C w0 M m s o.dst K r) :=
 Does.value hrun ⟨_,hs,m,sv,rfl,by rw [hG],hi,Evo.refl m,hv⟩
theorem re {α : Type} {x y : Option α} {z : α} (h : uh x y=some z) : x=some z∧y=some z:=by
 unfold uh at h
 split at h
 ·rename_i e; exact ⟨h,e ▸ h⟩
 ·simp at h
theorem AJ {op : BinOp} {xt yt : TypeId} {x y : Operand} (hT : cp P C.tab=true) (hE : Ei P C) (hi : Inv C w0 M m) (hG : m.G=s.G) (hS : ∀ x,RelSV m (a.eval x) (aj C s.env x)) (ho : o.op=.binOp op xt x y yt)
  (h : al C o s K=some r) : Does P o a m.w (Ee C w0 M m s o.dst K r):=by
 simp only [al,ho] at h
 have hx:=hS x
 have hy:=hS y
 have bV (v : Value) (hg : (eqGuard op xt x y (a.eval x) (a.eval y)).run P m.w=.ok () m.w) (hb : (binOp op xt (a.eval x) (a.eval y)).run P m.w=.ok v m.w) :
   (execOp a.eval o).run P m.w=.ok (.value v) m.w:=by
  simp [execOp,ho,hg,hb]
 split at h
 ·rename_i k p k' q hp hq
  rw [hp] at hx
  rw [hq] at hy
  obtain ⟨hx,hx1,hx2⟩:=rel_int hx
  obtain ⟨hy,_,_⟩:=rel_int hy
  cases hk : decide (k=k') with
  | false=>rw [hk] at h; simp at h
  | true =>
   have hk' : k=k':=by simpa using hk
   subst hk'
   rw [hk] at h
   simp only [cond_true] at h
   have hg:=cd (P:=P) op xt x y (u:=a.eval x) (v:=a.eval y) (.inl ⟨k,p,hx⟩) m.w
   split at h
   ·cases hz : eqI q 0 with
    | true=>rw [hz] at h; simp at h
    | false =>
     rw [hz] at h
     simp only [cond_false] at h
     have hq0 : q≠0:=by intro e; subst e; simp [eqI] at hz
     exact bK hi hG (v:=.int k (DG k p q)) (bV _ hg (by rw [hx,hy]; simp [binOp,Op.intDiv,hq0,DG])) (gm (wrap_within k _)) h
   ·cases hz : eqI q 0 with
    | true=>rw [hz] at h; simp at h
    | false =>
     rw [hz] at h
     simp only [cond_false] at h
     have hq0 : q≠0:=by intro e; subst e; simp [eqI] at hz
     exact bK hi hG (v:=.int k (DL p q)) (bV _ hg (by rw [hx,hy]; simp [binOp,Op.intDiv,hq0,DL])) (gm (w6 hx1 hx2)) h
   ·split at h
    ·rename_i r hr
     obtain ⟨v,hv,hrel⟩:=wa (m:=m) (P:=P) op xt k p q hr m.w
     exact bK hi hG (v:=v) (bV _ hg (by rw [hx,hy]; exact hv)) hrel h
    ·simp at h
 ·rename_i p q hp hq
  rw [hp] at hx
  rw [hq] at hy
  obtain ⟨hx,hx1⟩:=ii hx
  obtain ⟨hy,hy1⟩:=ii hy
  have hg:=cd (P:=P) op xt x y (u:=a.eval x) (v:=a.eval y) (.inr (.inr (.inl ⟨p,hx⟩))) m.w
  split at h
  ·unfold HA at h
   split at h
   ·rename_i hle
    simp only [Option.bind_some] at h
    have hlim : lim≤68719476736:=by unfold lim; omega
    have h63 : ¬ (((p.size+q.size : Nat) : Int) > IntKind.i64.max):=by simp [IntKind.max,IntKind.signed,IntKind.bits]; omega
    exact bK hi hG (v:=.string (p++q)) (bV _ hg (by rw [hx,hy]; simp only [binOp,Op.stringOp]; rw [if_neg h63]; rfl)) (pX (by rw [size_append]; unfold maxLen; omega)) h
   ·simp at h
  ·cases op <;> simp only [Fs] at h <;> try (simp at h; done)
   ·exact bK hi hG (v:=.bool (eqS p q)) (bV _ hg (by rw [hx,hy]; simp [binOp,Op.stringOp,eqS])) dH h
   ·exact bK hi hG (v:=.bool (neS p q)) (bV _ hg (by rw [hx,hy]; simp [binOp,Op.stringOp,neS])) dH h
 ·rename_i p q hp hq
  rw [hp] at hx
  rw [hq] at hy
  have hx:=rel_bool hx
  have hy:=rel_bool hy
  have hg:=cd (P:=P) op xt x y (u:=a.eval x) (v:=a.eval y) (.inr (.inl ⟨p,hx⟩)) m.w
  cases hb : oQ (C.tab.get xt) with
  | false=>rw [hb] at h; simp at h
  | true =>
   rw [hb] at h
   simp only [cond_true] at h
   unfold oQ at hb
   split at hb
   ·rename_i ht
    have hu:=jH (ac hT ht)
    split at h
    ·exact bK hi hG (v:=.bool (eqB p q)) (bV _ hg (by rw [hx,hy]; exact run_eql_bool (P:=P) m.w xt p q hu)) dH h
    ·refine bK hi hG (v:=.bool (neB p q)) (bV _ hg (by
      rw [hx,hy]
      simp only [binOp]
      simp [run_equal_bool m.w xt p q hu,neB])) dH h
    ·simp at h
   ·simp at hb
 ·rename_i e l hp hq
  rw [hp] at hx
  cases hb : (lE y && mL (C.tab.get xt)) with
  | false=>rw [hb] at h; simp at h
  | true =>
   rw [hb] at h
   simp only [cond_true] at h
   simp only [Bool.and_eq_true] at hb
   obtain ⟨hb1,hb2⟩:=hb
   have hyv : a.eval y=.slice none 0 0:=by
    cases y with
    | const v =>
     simp only [aj,SV.av.injEq] at hq
     simp only [Act.eval]
     unfold jS at hq
     split at hq
     ·rename_i k n
      cases hz : (decide (k.min≤n) && decide (n≤k.max)) <;> rw [hz] at hq <;> simp at hq
     ·simp at hq
     ·rename_i b
      cases hz : Nat.ble b.size 1000000 <;> rw [hz] at hq <;> simp at hq
     ·rfl
     ·simp at hq
    | _=>simp [lE] at hb1
   unfold mL at hb2
   split at hb2
   ·rename_i e' ht
    obtain ⟨et,hu,_⟩:=aC (ac hT ht)
    obtain ⟨ad,cap,hx,r1,r2,r3⟩:=fa hx
    have hg:=cd (P:=P) op xt x y (u:=a.eval x) (v:=a.eval y) (.inr (.inr (.inr ⟨_,_,_,hx⟩))) m.w
    have hsome : l.isEmpty=false→ad.isNone=false:=by
     intro hl
     obtain ⟨b,off,c,el,fz,rfl,_⟩:=r3 (by intro e0; rw [e0] at hl; simp at hl)
     rfl
    split at h
    ·have hrun : (execOp a.eval o).run P m.w=.ok (.value (.bool ad.isNone)) m.w:=bV _ hg (by rw [hx,hyv]; simp only [binOp]; simp [run_equal_slice_nil m.w xt et ad _ cap hu])
     refine bK hi hG hrun dH ?_
     cases hl : l.isEmpty with
     | true =>
      rw [hl] at h
      obtain ⟨k1,k2⟩:=re h
      cases ad.isNone <;> assumption
     | false=>rw [hl] at h; rw [hsome hl]; exact h
    ·have hrun : (execOp a.eval o).run P m.w=.ok (.value (.bool (!ad.isNone))) m.w:=bV _ hg (by rw [hx,hyv]; exact run_neq_slice_nil (P:=P) m.w xt et ad _ cap hu)
     refine bK hi hG hrun dH ?_
     cases hl : l.isEmpty with
     | true =>
      rw [hl] at h
      obtain ⟨k1,k2⟩:=re h
      cases ad.isNone <;> assumption
     | false=>rw [hl] at h; rw [hsome hl]; exact h
    ·simp at h
   ·simp at hb2
 ·split at h
  ·rename_i τ ht
   cases hb : (τ.isAgg && C.eqs.any fun e=>Nat.beq e xt) with
   | false=>rw [hb] at h; simp at h
   | true =>
    rw [hb] at h
    simp only [cond_true] at h
    simp only [Bool.and_eq_true] at hb
    obtain ⟨hb1,hb2⟩:=hb
    split at h
    ·rename_i p q hp hq
     obtain ⟨cs,e1,d1⟩:=cH hi (hG ▸ hp) hx
     obtain ⟨cs',e2,d2⟩:=cH hi (hG ▸ hq) hy
     split at h
     ·rename_i res hres
      have d1' : Rd m.w (fun _=>True) τ cs p:=d1.mono (fun b _=>⟨trivial,rfl⟩)
      have d2' : Rd m.w (fun _=>True) τ cs' q:=d2.mono (fun b _=>⟨trivial,rfl⟩)
      obtain ⟨k1,k2⟩:=hE xt τ ht hb1 hb2 m.w (fun _=>True) cs cs' p q res hres d1' d2'
      have hg:=k2 op x y m.w
      have k1:=k1 m.w
      rw [← e1,← e2] at hg k1
      have v1 : a.eval x=.agg cs.toArray:=by rw [e1]; simp [toV,hb1]
      have v2 : a.eval y=.agg cs'.toArray:=by rw [e2]; simp [toV,hb1]
      split at h
      ·exact bK hi hG (v:=.bool res) (bV _ hg (by rw [v1,v2] at k1 ⊢; simp only [binOp]; simp [k1])) dH h
      ·exact bK hi hG (v:=.bool (!res)) (bV _ hg (by rw [v1,v2] at k1 ⊢; simp only [binOp]; simp [k1])) dH h
      ·simp at h
     ·simp at h
    ·simp at h
  ·simp at h
end
end Go.Vm

/-
 The machine's operations against the model's: maps.
-/
namespace Go.Vm
structure MapTy (P : Program) (t : TypeId) (k v : Ty) (kt vt : TypeId) : Prop where
 und : P.underlying t=some (.map kt vt)
 key : chk P k none kt=true
 val : chk P v none vt=true
 plain : k.plain=true
 more : k≠.unit
 flat : v.flat=true
 ask : ∀ (w : World) (F : Nat→Prop) (cs : List Value) (x : k.den) (em : Bool),Rd w F k cs x→∀ w,(Instr.checkKey em 10000 kt (toV k cs)).run P w=.ok () w
 eq : ∀ (w w' : World) (F F' : Nat→Prop) (cs cs' : List Value) (x y : k.den),Rd w F k cs x→Rd w' F' k cs' y→∀ w,(Op.equal kt (toV k cs) (toV k cs')).run P w=.ok (eqK k x y) w
def rp (P : Program) (C : Ctx) : Prop:=∀ t k v,i8 C.maps t=some (k,v)→∃ kt vt,MapTy P t k v kt vt
theorem fD : ∀ {τ : Ty},τ.plain=true→τ.flat=true
 | .int _,_=>rfl
 | .bool,_=>rfl
 | .str,_=>rfl
 | .prod a b,h=>by
  simp only [Ty.plain,Bool.and_eq_true] at h
  simp only [Ty.flat,Bool.and_eq_true]
  exact ⟨fD h.1,fD h.2⟩
 | .unit,_=>rfl
 | .slice _,h=>by cases h
 | .arr _ _,h=>by cases h
 | .ptr _,h=>by cases h
 | .clo _ _,h=>by cases h
theorem hU {w : World} {F : Nat→Prop} : ∀ {τ : Ty} {cs : List Value} {x : τ.den},τ.flat=true→Rd w F τ cs x→∀ (w' : World) (F' : Nat→Prop),Rd w' F' τ cs x
 | .int _,_,_,_,h,_,_=>h
 | .bool,_,_,_,h,_,_=>h
 | .str,_,_,_,h,_,_=>h
 | .prod a b,_,_,hf,h,_,_=>by
  simp only [Ty.flat,Bool.and_eq_true] at hf
  obtain ⟨c1,c2,h1,h2,h3⟩:=h
  exact ⟨c1,c2,h1,hU hf.1 h2 _ _,hU hf.2 h3 _ _⟩
 | .unit,_,_,_,h,_,_=>h
 | .arr n e,_,_,hf,h,_,_=>by
  obtain ⟨h1,h2,h3⟩:=h
  exact ⟨h1,h2,fun i hi=>hU (by simpa [Ty.flat] using hf) (h3 i hi) _ _⟩
 | .slice _,_,_,hf,_,_,_=>by simp [Ty.flat] at hf
 | .ptr _,_,_,hf,_,_,_=>by simp [Ty.flat] at hf
 | .clo _ _,_,_,hf,_,_,_=>by simp [Ty.flat] at hf
theorem toList_inj {a b : ByteArray} (h : a.toList=b.toList) : a=b:=by
 rw [ByteArray.toList_eq,ByteArray.toList_eq] at h
 cases a; cases b
 simp only at h
 rw [Array.toList_inj.1 h]
theorem rv (a b : ByteArray) : (a == b)=eqS a b:=by
 show (a.data == b.data)=(a.toList == b.toList)
 rw [Bool.eq_iff_iff,beq_iff_eq,beq_iff_eq,ByteArray.toList_eq,ByteArray.toList_eq]
 exact Array.toList_inj.symm
theorem pH : ∀ {τ : Ty} {x y : τ.den},τ.plain=true→eqK τ x y=true→x=y
 | .int _,x,y,_,h=>by simpa [eqK,eqT,eqI] using h
 | .bool,x,y,_,h=>by simpa [eqK,eqT,eqB] using h
 | .str,x,y,_,h=>by simp only [eqK,eqT,eqS,beq_iff_eq] at h; exact toList_inj h
 | .prod a b,x,y,hp,h=>by
  simp only [Ty.plain,Bool.and_eq_true] at hp
  simp only [eqK,eqT] at h
  cases h1 : eqT a x.1 y.1 with
  | none=>rw [h1] at h; simp at h
  | some p =>
   rw [h1] at h
   cases h2 : eqT b x.2 y.2 with
   | none=>rw [h2] at h; simp at h
   | some q =>
    rw [h2] at h
    simp only [Bool.and_eq_true] at h
    have e1:=pH (τ:=a) (x:=x.1) (y:=y.1) hp.1 (by simp [eqK,h1,h.1])
    have e2:=pH (τ:=b) (x:=x.2) (y:=y.2) hp.2 (by simp [eqK,h2,h.2])
    exact Prod.ext e1 e2
 | .unit,_,_,_,_=>rfl
 | .slice _,_,_,h,_=>by cases h
 | .arr _ _,_,_,h,_=>by cases h
 | .ptr _,_,_,h,_=>by cases h
 | .clo _ _,_,_,h,_=>by cases h
theorem sI {w w' : World} {F F' : Nat→Prop} : ∀ {τ : Ty} {cs cs' : List Value} {x : τ.den},τ.plain=true→Rd w F τ cs x→Rd w' F' τ cs' x→cs=cs'
 | .int _,_,_,_,_,h,h'=>by rw [h.1,h'.1]
 | .bool,_,_,_,_,h,h'=>by unfold Rd at h h'; rw [h,h']
 | .str,_,_,_,_,h,h'=>by rw [h.1,h'.1]
 | .prod a b,_,_,_,hp,h,h'=>by
  simp only [Ty.plain,Bool.and_eq_true] at hp
  obtain ⟨c1,c2,rfl,h1,h2⟩:=h
  obtain ⟨d1,d2,rfl,h3,h4⟩:=h'
  rw [sI hp.1 h1 h3,sI hp.2 h2 h4]
 | .unit,_,_,_,_,h,h'=>by unfold Rd at h h'; rw [h,h']
 | .slice _,_,_,_,h,_,_=>by cases h
 | .arr _ _,_,_,_,h,_,_=>by cases h
 | .ptr _,_,_,_,h,_,_=>by cases h
 | .clo _ _,_,_,_,h,_,_=>by cases h
theorem nX {w : World} {F : Nat→Prop} : ∀ {τ : Ty} {cs : List Value} {x : τ.den},τ.plain=true→Rd w F τ cs x→∀ u∈cs,∀ n,Instr.sameBits n u u=true
 | .int _,_,_,_,h,u,hu,n=>by obtain ⟨rfl,_⟩:=h; simp at hu; subst hu; cases n <;> simp [Instr.sameBits]
 | .bool,_,_,_,h,u,hu,n=>by unfold Rd at h; subst h; simp at hu; subst hu; cases n <;> simp [Instr.sameBits]
 | .str,_,_,_,h,u,hu,n=>by
  obtain ⟨rfl,_⟩:=h
  simp at hu
  subst hu
  cases n <;> simp [Instr.sameBits,rv,eqS]
 | .prod a b,_,_,hp,h,u,hu,n=>by
  simp only [Ty.plain,Bool.and_eq_true] at hp
  obtain ⟨c1,c2,rfl,h1,h2⟩:=h
  rcases List.mem_append.1 hu with hu | hu
  ·exact nX hp.1 h1 u hu n
  ·exact nX hp.2 h2 u hu n
 | .unit,_,_,_,h,u,hu,n=>by unfold Rd at h; subst h; simp at hu
 | .slice _,_,_,h,_,_,_,_=>by cases h
 | .arr _ _,_,_,h,_,_,_,_=>by cases h
 | .ptr _,_,_,h,_,_,_,_=>by cases h
 | .clo _ _,_,_,h,_,_,_,_=>by cases h
theorem Cb {w : World} {F : Nat→Prop} {τ : Ty} {cs : List Value} {x : τ.den} (hp : τ.plain=true) (h : Rd w F τ cs x) (n : Nat) : Instr.sameBits (n+1) (toV τ cs) (toV τ cs)=true:=by
 cases ha : τ.isAgg with
 | true =>
  simp only [toV,ha,cond_true,Instr.sameBits,beq_self_eq_true,Bool.true_and,List.all_eq_true]
  rintro ⟨u,v⟩ huv
  have : u=v∧u∈cs:=by
   rw [List.mem_iff_getElem?] at huv
   obtain ⟨i,hi⟩:=huv
   rw [List.getElem?_zip_eq_some] at hi
   obtain ⟨h1,h2⟩:=hi
   simp only at h1 h2
   rw [h1] at h2
   exact ⟨Option.some.inj h2,List.mem_of_getElem? h1⟩
  obtain ⟨rfl,hu⟩:=this
  exact nX hp h u hu n
 | false =>
  obtain ⟨v,rfl,_⟩:=h.single ha
  simp only [toV,ha,cond_false,List.headD_cons]
  exact nX hp h v (by simp) _
section
variable {P : Program} {C : Ctx} {w0 : World} {M : Own} {o : Oper} {a : Act} {m : Mem} {s : St} {R : Type} {r : R} {K : St→Option R}
theorem EntsW.cons {w : World} {F : Nat→Prop} {k v : Ty} {e : MapEntry} {es : List MapEntry} {p : k.den×v.den} {l : List (k.den×v.den)} (h : EntsW w F k v (e :: es) (p :: l)) :
  (∃ cs,e.key=toV k cs∧Rd w F k cs p.1)∧(∃ cs,e.val=toV v cs∧Rd w F v cs p.2)∧EntsW w F k v es l:=by
 refine ⟨(h.2 0 (by simp) (by simp)).1,(h.2 0 (by simp) (by simp)).2,by simpa using h.1,fun i h1 h2=>?_⟩
 have:=h.2 (i+1) (by simpa using h1) (by simpa using h2)
 simpa using this
theorem oJ {t kt vt : TypeId} {k v : Ty} (hM : MapTy P t k v kt vt) {w : World} {F : Nat→Prop} {cs : List Value} {x : k.den} (hx : Rd w F k cs x) : ∀ {es : List MapEntry} {l : List (k.den×v.den)} (i : Nat),EntsW w F k v es l→∀ w',
  (Instr.findAsking kt (toV k cs) es i).run P w'=.ok ((cl k v x l).map fun j=>(i+j,(es[j]?.map (·.val)).getD undef)) w'
 | [],[],i,_,w'=>rfl
 | [],_ :: _,i,h,w'=>by have:=h.1; simp at this
 | _ :: _,[],i,h,w'=>by have:=h.1; simp at this
 | e :: es,p :: l,i,h,w'=>by
  obtain ⟨⟨c1,k1,k2⟩,_,k3⟩:=h.cons
  have hq:=hM.eq w w F F cs c1 x p.1 hx k2 w'
  simp only [Instr.findAsking,Sem.run_bind,k1,hq,Result.andThen_ok]
  cases hb : eqK k x p.1 with
  | true=>simp [cl,hb]
  | false =>
   simp only [Bool.false_eq_true,if_false]
   rw [oJ hM hx (i+1) k3 w']
   simp only [cl,hb,cond_false,Option.map_map]
   congr 2
   funext j
   simp only [Function.comp_apply,List.getElem?_cons_succ]
   rw [Nat.add_assoc,Nat.add_comm 1 j]
theorem qi {k v : Ty} {d : TypeDesc} (hd : (∃ q,k=.int q∧d=.int q)∨(k=.bool∧d=.bool)∨(k=.str∧d=.string)) {w : World} {F : Nat→Prop} {cs : List Value} {x : k.den} (hx : Rd w F k cs x) : ∀ {es : List MapEntry} {l : List (k.den×v.den)} (i : Nat),EntsW w F k v es l →
  Instr.findNow d (toV k cs) es i=some ((cl k v x l).map fun j=>(i+j,(es[j]?.map (·.val)).getD undef))
 | [],[],i,_=>rfl
 | [],_ :: _,i,h=>by have:=h.1; simp at this
 | _ :: _,[],i,h=>by have:=h.1; simp at this
 | e :: es,p :: l,i,h=>by
  obtain ⟨⟨c1,k1,k2⟩,_,k3⟩:=h.cons
  have hs : Instr.sameNow d (toV k cs) e.key=some (eqK k x p.1):=by
   rw [k1]
   rcases hd with ⟨q,rfl,rfl⟩ | ⟨rfl,rfl⟩ | ⟨rfl,rfl⟩
   ·obtain ⟨rfl,_⟩:=hx; obtain ⟨rfl,_⟩:=k2; simp [toV,Ty.isAgg,Instr.sameNow,eqK,eqT,eqI]
   ·unfold Rd at hx k2; subst hx; subst k2; simp [toV,Ty.isAgg,Instr.sameNow,eqK,eqT,eqB]
   ·obtain ⟨rfl,_⟩:=hx; obtain ⟨rfl,_⟩:=k2
    simp only [toV,Ty.isAgg,cond_false,List.headD_cons,Instr.sameNow,eqK,eqT,rv]
  simp only [Instr.findNow,hs]
  cases hb : eqK k x p.1 with
  | true=>simp [cl,hb]
  | false =>
   simp only
   rw [qi hd hx (i+1) k3]
   simp only [cl,hb,cond_false,Option.map_map]
   congr 2
   funext j
   simp only [Function.comp_apply,List.getElem?_cons_succ]
   rw [Nat.add_assoc,Nat.add_comm 1 j]
theorem lK {t kt vt : TypeId} {k v : Ty} (hM : MapTy P t k v kt vt) {w : World} {F : Nat→Prop} {cs : List Value} {x : k.den} (hx : Rd w F k cs x) {es : List MapEntry} {l : List (k.den×v.den)} (h : EntsW w F k v es l) (w' : World) :
  (Instr.findKey kt (toV k cs) es).run P w'=.ok ((cl k v x l).map fun j=>(j,(es[j]?.map (·.val)).getD undef)) w':=by
 have nonagg {d : TypeDesc} (hu : P.underlying kt=some d) (hd : (∃ q,k=.int q∧d=.int q)∨(k=.bool∧d=.bool)∨(k=.str∧d=.string)) : (Instr.findKey kt (toV k cs) es).run P w'=.ok ((cl k v x l).map fun j=>(j,(es[j]?.map (·.val)).getD undef)) w':=by
  simp only [Instr.findKey,Sem.run_bind,run_underlying hu,Result.andThen_ok,qi hd hx 0 h,Sem.run_pure,Nat.zero_add]
 have agg (ha : k.isAgg=true) : (Instr.findKey kt (toV k cs) es).run P w'=.ok ((cl k v x l).map fun j=>(j,(es[j]?.map (·.val)).getD undef)) w':=by
  obtain ⟨d,hu,_⟩:=jo hM.key
  have hask:=oJ hM hx 0 h w'
  simp only [Nat.zero_add] at hask
  simp only [Instr.findKey,Sem.run_bind,run_underlying hu,Result.andThen_ok]
  cases es with
  | nil =>
   cases l with
   | nil=>rfl
   | cons _ _=>have:=h.1; simp at this
  | cons e es =>
   have hn : Instr.findNow d (toV k cs) (e :: es) 0=none:=by
    have : Instr.sameNow d (toV k cs) e.key=none:=by
     simp only [toV,ha,cond_true]
     cases d <;> rfl
    simp only [Instr.findNow,this]
   rw [hn]
   exact hask
 have hp:=hM.plain
 cases k with
 | int q=>exact nonagg (iw hM.key) (.inl ⟨q,rfl,rfl⟩)
 | bool=>exact nonagg (jH hM.key) (.inr (.inl ⟨rfl,rfl⟩))
 | str=>exact nonagg (dX hM.key) (.inr (.inr ⟨rfl,rfl⟩))
 | prod a b=>exact agg rfl
 | unit=>exact agg rfl
 | _=>cases hp
theorem kO {k v : Ty} {x : k.den} : ∀ {l : List (k.den×v.den)},dw k v x l=(cl k v x l).bind fun j=>l[j]?.map (·.2)
 | []=>rfl
 | p :: l=>by
  simp only [dw,cl]
  cases eqK k x p.1 with
  | true=>simp
  | false=>simp only [cond_false]; rw [kO]; cases cl k v x l <;> simp
theorem kY {k v : Ty} {x : k.den} {y : v.den} : ∀ {l : List (k.den×v.den)},i9 k v x y l=match cl k v x l with
  | none=>l++[(x,y)]
  | some j=>match l[j]? with
   | some p=>l.set j (p.1,y)
   | none=>l
 | []=>rfl
 | p :: l=>by
  simp only [i9,cl]
  cases eqK k x p.1 with
  | true=>simp
  | false =>
   simp only [cond_false]
   rw [kY]
   cases cl k v x l with
   | none=>simp
   | some j =>
    simp only [Option.map_some,List.getElem?_cons_succ,List.set_cons_succ]
    cases l[j]? <;> rfl
theorem m8 {k v : Ty} {x : k.den} : ∀ {l : List (k.den×v.den)} {j : Nat},cl k v x l=some j→∃ h : j < l.length,eqK k x l[j].1=true
 | [],_,h=>by simp [cl] at h
 | p :: l,j,h=>by
  simp only [cl] at h
  cases hb : eqK k x p.1 with
  | true=>rw [hb] at h; simp at h; subst h; exact ⟨by simp,hb⟩
  | false =>
   rw [hb] at h
   simp only [cond_false,Option.map_eq_some_iff] at h
   obtain ⟨j',h',rfl⟩:=h
   obtain ⟨h1,h2⟩:=m8 h'
   exact ⟨by simp [h1],by simpa using h2⟩
theorem il {k v k' v' : Ty} {l : List (k'.den×v'.den)} {l' : List (k.den×v.den)} (h : lQ k v k' v' l=some l') : ∃ (e1 : k'=k) (e2 : v'=v),e1 ▸ e2 ▸ l=l':=by
 unfold lQ at h
 split at h
 ·rename_i e; exact ⟨e.1,e.2,by simpa using h⟩
 ·simp at h
theorem t8 (hi : Inv C w0 M m) {id : Nat} {k v : Ty} (hk : k≠.unit) {l : List (k.den×v.den)} {u : Value} (hg : m.G.get id=some (.map k v l)) (hr : RelSV m u (.av (.ownm id))) :
  ∃ b es clock,u=.map (some b)∧m.ι id=.map (some b)∧m.w.heap[b]?=some (.map es clock)∧EntsW m.w m.F k v es.toList l:=by
 obtain ⟨_,ob,hob,hv⟩:=hr
 rw [hg] at hob
 cases hob
 rcases hi.objs id _ hg with ⟨_,b,es,clock,h1,h2,h3⟩ | ⟨h0,_⟩
 ·exact ⟨b,es,clock,hv.trans h1,h1,h2,h3⟩
 ·exact absurd h0 hk
theorem xp {t : TypeId} (hM : rp P C) (hi : Inv C w0 M m) (hG : m.G=s.G) (ho : o.op=.makeMap t none) {s' : St}
  (h : al C o s some=some s') : Does P o a m.w (Res C w0 M m s s' o.dst):=by
 simp only [al,ho] at h
 split at h
 ·rename_i p hp
  obtain ⟨kt,vt,hT⟩:=hM t p.1 p.2 hp
  obtain ⟨i,hn,h⟩:=bk h
  simp only [Option.some.injEq] at h
  obtain ⟨g1,g2⟩:=ji hi (cV m.w (.map #[] 0)) (i:=i) (o:=.map p.1 p.2 []) (h:=.map (some m.w.heap.size)) (by rw [hG]; exact hn) (fun b hb=>by
   have hb : m.w.heap.size=b:=hb
   subst hb; exact ⟨Nat.le_refl _,(Array.getElem?_eq_some_iff.1 (bu m.w (.map #[] 0))).1⟩) (.inl ⟨hT.more,m.w.heap.size,#[],0,by simp,bu m.w _,rfl,fun i hi=>by simp at hi⟩)
  refine Does.value (w':=m.w.alloc (.map #[] 0)) (v:=.map (some m.w.heap.size)) ?_ ⟨_,.av (.ownm i),rfl,?_,g1,g2,?_⟩
  ·simp [execOp,ho,Instr.makeMap]
  ·rw [← h,hG]
  ·exact (ak (a:=.ownm i) (by intros; simp)).2 ⟨rfl,.map p.1 p.2 [],by rw [Heap.get_cons,if_pos rfl],by simp⟩
 ·simp at h
theorem Av (x : ByteArray) (i : Nat) : (Utf8.decode x i).1≤0x10FFFF:=by
 unfold Utf8.decode
 simp only
 have hv : ∀ c : Nat,Utf8.valid (c : Int)=true→c≤0x10FFFF:=fun c hc=>by
  simp only [Utf8.valid,Bool.or_eq_true,Bool.and_eq_true,decide_eq_true_eq] at hc
  omega
 have he : Utf8.runeError≤0x10FFFF:=by decide
 split
 ·simp only; omega
 split
 ·split
  ·simp only; omega
  ·exact he
 split
 ·split
  ·simp only; omega
  ·exact he
 split
 ·split
  ·rename_i h; simp only [Bool.and_eq_true] at h; exact hv _ h.2
  ·exact he
 ·exact he
theorem C3 {t : TypeId} {x : Operand} (hT : cp P C.tab=true) (hi : Inv C w0 M m) (hG : m.G=s.G) (hS : ∀ x,RelSV m (a.eval x) (aj C s.env x)) (ho : o.op=.range t x) {s' : St}
  (h : al C o s some=some s') : Does P o a m.w (Res C w0 M m s s' o.dst):=by
 simp only [al,ho] at h
 split at h
 ·rename_i b ht hx
  have hxr:=hS x
  rw [hx] at hxr
  obtain ⟨cs,hv,hr⟩:=hxr
  obtain ⟨rfl,hlen⟩:=hr
  obtain ⟨i,hn,h⟩:=bk h
  simp only [Option.some.injEq] at h
  have hu:=dX (ac hT ht)
  obtain ⟨g1,g2⟩:=ji hi (cV m.w (.stringIter b 0)) (i:=i) (o:=.map .unit itTy [((),(b,0))]) (h:=.pointer (some ⟨m.w.heap.size,0,none⟩)) (by rw [hG]; exact hn) (fun q hb=>by
   have hb : m.w.heap.size=q:=hb
   subst hb; exact ⟨Nat.le_refl _,(Array.getElem?_eq_some_iff.1 (bu m.w (.stringIter b 0))).1⟩) (.inr ⟨rfl,m.w.heap.size,b,0,by simp,bu m.w _,hlen,rfl⟩)
  refine Does.value (w':=m.w.alloc (.stringIter b 0)) (v:=.pointer (some ⟨m.w.heap.size,0,none⟩)) ?_ ⟨_,.av (.ownm i),rfl,?_,g1,g2,?_⟩
  ·simp only [toV,Ty.isAgg,cond_false,List.headD_cons] at hv
   simp [execOp,ho,Instr.range,hv,run_underlying hu]
  ·rw [← h,hG]
  ·exact (ak (a:=.ownm i) (by intros; simp)).2 ⟨rfl,.map .unit itTy [((),(b,0))],by rw [Heap.get_cons,if_pos rfl],by simp⟩
 ·simp at h
theorem rJ {k v : Ty} {l : List (k.den×v.den)} {p : ByteArray×Int} (h : Ck k v l=some p) : k=.unit∧v=itTy:=by
 unfold Ck at h
 split at h
 ·exact ⟨rfl,rfl⟩
 ·cases h
theorem ku {w : World} {r pos : Nat} {y : ByteArray} (hb : w.heap[r]?=some (.stringIter y pos)) : (Go.getObj r).run P w=.ok (.stringIter y pos) w:=by
 simp [Go.getObj,Sem.run,hb]
theorem qz {w : World} {r pos : Nat} {y : ByteArray} (ob : Go.Obj) (hb : w.heap[r]?=some (.stringIter y pos)) : (Go.setObj r ob).run P w=.ok () { w with heap:=w.heap.setIfInBounds r ob }:=by
 simp [Go.setObj,Sem.run,hb]
theorem DF {x : Operand} {str : Bool} (hi : Inv C w0 M m) (hG : m.G=s.G) (hS : ∀ x,RelSV m (a.eval x) (aj C s.env x)) (ho : o.op=.next x str) {s' : St}
  (h : al C o s some=some s') : Does P o a m.w (Res C w0 M m s s' o.dst):=by
 cases str with
 | false=>simp [al,ho] at h
 | true =>
 simp only [al,ho] at h
 split at h
 ·rename_i id hx
  have hxr:=hS x
  rw [hx] at hxr
  split at h
  ·rename_i k v l hg
   obtain ⟨p,hp,h⟩:=Option.bind_eq_some_iff.1 h
   obtain ⟨_,ob,hob,hv⟩:=hxr
   rw [hG,hg] at hob
   cases hob
   simp only at hv
   have hg' : m.G.get id=some (.map k v l):=hG ▸ hg
   rcases hi.objs id _ hg' with ⟨h0,_⟩ | ⟨h0,b,y,pos,h1,h2,h3,h4⟩
   ·exact absurd (rJ hp).1 h0
   ·obtain ⟨rfl,rfl⟩:=rJ hp
    rw [hp] at h4
    cases h4
    have hb:=(Array.getElem?_eq_some_iff.1 h2).1
    rw [h1] at hv
    cases hm : tz (y,(pos : Int)) with
    | false =>
     rw [hm] at h
     simp only [cond_false] at h
     have hlt : ¬ pos < y.size:=by simpa [tz,ltI] using hm
     refine am hi hG (v:=.tuple #[.bool false]) (sv:=.tup [(false,[.val .bool false])]) ?_ ?_ h
     ·simp [execOp,ho,Instr.next,hv,ku h2,hlt]
     ·exact ⟨[.bool false],rfl,⟨_,rfl,⟨rfl,rfl⟩⟩,trivial⟩
    | true =>
     rw [hm] at h
     simp only [cond_true,Option.some.injEq] at h
     have hlt : pos < y.size:=by simpa [tz,ltI] using hm
     have hw : Wrote m.w b { m.w with heap:=m.w.heap.setIfInBounds b (.stringIter y (pos+(Utf8.decode y pos).2)) }:=⟨rfl,rfl,rfl,by simp,fun q hq=>by simp [Array.getElem?_setIfInBounds,Ne.symm hq]⟩
     obtain ⟨g1,g2⟩:=dV hi (id:=id) (o:=.map .unit itTy l) (o':=.map .unit itTy [((),wB (y,(pos : Int)))]) (b:=b) hg' rfl (by rw [h1]; rfl) ⟨rfl,rfl⟩ hw (fun he =>
      .inr ⟨rfl,b,y,pos+(Utf8.decode y pos).2,h1,by simp [Array.getElem?_setIfInBounds,hb],h3,by simp [Ck,wB]⟩)
     have hi64:=yZ (n:=pos) (by omega)
     have hi32 : IntKind.i32.min≤mv (y,(pos : Int))∧mv (y,(pos : Int))≤IntKind.i32.max:=by
      have:=Av y pos
      simp only [mv,Int.toNat_natCast]
      simp [IntKind.min,IntKind.max,IntKind.signed,IntKind.bits]
      omega
     refine Does.value (w':={ m.w with heap:=m.w.heap.setIfInBounds b (.stringIter y (pos+(Utf8.decode y pos).2)) }) (v:=.tuple #[.bool true,.int .i64 pos,.int .i32 (Utf8.decode y pos).1]) ?_
      ⟨_,.tup [(false,[.val .bool true]),(false,[.val (.int .i64) (pos : Int)]),(false,[.val (.int .i32) (mv (y,(pos : Int)))])],rfl,?_,g1,g2,?_⟩
     ·simp [execOp,ho,Instr.next,hv,ku h2,hlt,qz _ h2,goInt]
     ·rw [← h,hG]; rfl
     ·exact ⟨[_,_,_],rfl,⟨_,rfl,⟨rfl,rfl⟩⟩,⟨_,rfl,⟨⟨rfl,hi64⟩,rfl⟩⟩,⟨_,rfl,⟨⟨by simp [mv],hi32⟩,rfl⟩⟩,trivial⟩
  ·simp at h
 ·simp at h
theorem Eu (hi : Inv C w0 M m) {τ : Ty} {t : TypeId} (h : chk P τ none t=true) : ∃ z cs,(∀ w,(zeroValue t).run P w=.ok z w)∧z=toV τ cs∧Rd m.w m.F τ cs (aS τ):=by
 obtain ⟨z,z1,z2,z3,z4⟩:=rE h
 obtain ⟨c,e,hr,_⟩:=bE (m:=m) z1
 rw [List.append_nil] at e
 refine ⟨z,c,z4,?_,hr⟩
 cases ha : τ.isAgg with
 | true =>
  obtain ⟨cc,rfl⟩:=z2 ha
  simp only [Value.cells] at e
  simp [toV,ha,← e]
 | false =>
  rw [z3 ha] at e
  simp only at e
  simp [toV,ha,← e]
theorem zM {t : TypeId} {x ix : Operand} {ok : Bool} (hM : rp P C) (hi : Inv C w0 M m) (hG : m.G=s.G) (hS : ∀ x,RelSV m (a.eval x) (aj C s.env x)) (ho : o.op=.lookup t x ix ok) {s' : St}
  (h : al C o s some=some s') : Does P o a m.w (Res C w0 M m s s' o.dst):=by
 simp only [al,ho] at h
 split at h
 ·rename_i p id hp hx
  obtain ⟨k,v⟩:=p
  have hxr:=hS x
  rw [hx] at hxr
  split at h
  ·rename_i k' v' l hg
   obtain ⟨l',hl,h⟩:=Option.bind_eq_some_iff.1 h
   obtain ⟨e1,e2,hl⟩:=il hl
   simp only at e1 e2
   subst e1; subst e2
   simp only at hl
   subst hl
   split at h
   ·rename_i key hk
    obtain ⟨kt,vt,hT⟩:=hM t k' v' hp
    obtain ⟨b,es,clock,u1,_,u2,u3⟩:=t8 hi hT.more (hG ▸ hg) hxr
    rw [← hG] at hk
    obtain ⟨cs,c1,c2⟩:=cH hi hk (hS ix)
    have c3 : Rd m.w m.F k' cs key:=hU (fD hT.plain) c2 _ _
    obtain ⟨z,zc,z1,z2,z3⟩:=Eu hi hT.val
    have hfind:=lK hT c3 u3 m.w
    have hask:=hT.ask m.w m.F cs key es.isEmpty c3 m.w
    have hund : P.underlying t=some (.map kt vt):=hT.und
    -- the value that comes
    obtain ⟨u,uc,w1,w2,w3⟩ : ∃ u uc,(Instr.lookup t (a.eval x) (a.eval ix) ok).run P m.w=.ok (if ok then .tuple #[u,.bool (dw k' v' key l).isSome] else u) m.w∧u=toV v' uc∧Rd m.w m.F v' uc ((dw k' v' key l).getD (aS v')):=by
     rw [c1,u1]
     cases hix : cl k' v' key l with
     | none =>
      rw [hix] at hfind
      have hget : dw k' v' key l=none:=by rw [kO,hix]; rfl
      refine ⟨z,zc,?_,z2,by rw [hget]; exact z3⟩
      simp [Instr.lookup,run_underlying hund,MapKept.run_getObj_map u2,hask,hfind,z1,hget,Result.andThen]
     | some j =>
      rw [hix] at hfind
      obtain ⟨hj,_⟩:=m8 hix
      have hje : j < es.toList.length:=by rw [u3.1]; exact hj
      obtain ⟨vc,v1,v2⟩:=(u3.2 j hje hj).2
      have hget : dw k' v' key l=some l[j].2:=by rw [kO,hix]; simp [List.getElem?_eq_getElem hj]
      refine ⟨es.toList[j].val,vc,?_,v1,by rw [hget]; exact v2⟩
      simp only [Option.map_some,List.getElem?_eq_getElem hje,Option.getD_some] at hfind
      simp [Instr.lookup,run_underlying hund,MapKept.run_getObj_map u2,hask,hfind,hget,Result.andThen]
    have hlen:=w3.len
    cases ok with
    | true =>
     simp only [cond_true] at h
     refine am hi hG (v:=.tuple #[u,.bool (dw k' v' key l).isSome]) (sv:=.tup [(v'.isAgg,dg v' ((dw k' v' key l).getD (aS v'))),(false,[.val .bool (dw k' v' key l).isSome])]) ?_ ?_ h
     ·simp [execOp,ho,w1]
     ·refine ⟨[u,.bool (dw k' v' key l).isSome],rfl,?_,⟨_,rfl,⟨rfl,rfl⟩⟩,trivial⟩
      rw [w2]
      show eO m (toV v' uc) (v'.isAgg,dg v' _)
      have hr:=bP (m:=m) w3
      unfold eO
      cases ha : v'.isAgg with
      | true=>exact ⟨uc,by simp [toV,ha],w3.one,hr⟩
      | false =>
       obtain ⟨q,rfl,_⟩:=w3.single ha
       have hc:=hr.length
       obtain ⟨bb,hbb⟩:=List.length_eq_one_iff.1 (hc.symm.trans rfl)
       rw [hbb] at hr ⊢
       exact ⟨bb,rfl,by simpa [toV,ha] using hr.1⟩
    | false =>
     simp only [cond_false] at h
     refine am hi hG (v:=u) (sv:=.av (.val v' ((dw k' v' key l).getD (aS v')))) ?_ ⟨uc,w2,w3⟩ h
     simp [execOp,ho,w1]
   ·simp at h
  ·simp at h
 ·simp at h
theorem sk {t : TypeId} {x ix y : Operand} (hM : rp P C) (hi : Inv C w0 M m) (hG : m.G=s.G) (hS : ∀ x,RelSV m (a.eval x) (aj C s.env x)) (ho : o.op=.mapUpdate t x ix y) {s' : St}
  (h : al C o s some=some s') : Does P o a m.w (Res C w0 M m s s' o.dst):=by
 simp only [al,ho] at h
 split at h
 ·rename_i p id hp hx
  obtain ⟨k,v⟩:=p
  have hxr:=hS x
  rw [hx] at hxr
  split at h
  ·rename_i k' v' l hg
   obtain ⟨l',hl,h⟩:=Option.bind_eq_some_iff.1 h
   obtain ⟨e1,e2,hl⟩:=il hl
   simp only at e1 e2
   subst e1; subst e2
   simp only at hl
   subst hl
   split at h
   ·rename_i key val hk hy
    simp only [Option.some.injEq] at h
    obtain ⟨kt,vt,hT⟩:=hM t k' v' hp
    obtain ⟨b,es,clock,u1,u0,u2,u3⟩:=t8 hi hT.more (hG ▸ hg) hxr
    rw [← hG] at hk hy
    obtain ⟨cs,c1,c2⟩:=cH hi hk (hS ix)
    have c3 : Rd m.w m.F k' cs key:=hU (fD hT.plain) c2 _ _
    obtain ⟨ys,d1,d2⟩:=cH hi hy (hS y)
    have d3 : Rd m.w m.F v' ys val:=hU hT.flat d2 _ _
    have hfind:=lK hT c3 u3 m.w
    have hask:=hT.ask m.w m.F cs key false c3 m.w
    have hund : P.underlying t=some (.map kt vt):=hT.und
    have hb:=(Array.getElem?_eq_some_iff.1 u2).1
    have step {es' : Array MapEntry} {clock' : Nat} (hrun : (Instr.mapUpdate t (a.eval x) (a.eval ix) (a.eval y)).run P m.w=.ok () { m.w with heap:=m.w.heap.setIfInBounds b (.map es' clock') })
      (hents : EntsW m.w m.F k' v' es'.toList (i9 k' v' key val l)) : Does P o a m.w (Res C w0 M m s s' o.dst):=by
     have hw : Wrote m.w b { m.w with heap:=m.w.heap.setIfInBounds b (.map es' clock') }:=⟨rfl,rfl,rfl,by simp,fun q hq=>by simp [Array.getElem?_setIfInBounds,Ne.symm hq]⟩
     obtain ⟨g1,g2⟩:=dV hi (id:=id) (o:=.map k' v' l) (o':=.map k' v' (i9 k' v' key val l)) (b:=b) (hG ▸ hg) rfl (by rw [u0]; rfl) ⟨rfl,rfl⟩ hw (fun he =>
      .inl ⟨hT.more,b,es',clock',u0,by simp [Array.getElem?_setIfInBounds,hb],hents.mono he.fro⟩)
     refine Does.skip (w':={ m.w with heap:=m.w.heap.setIfInBounds b (.map es' clock') }) (by simp [execOp,ho,hrun]) ⟨_,.av .undef,rfl,?_,g1,g2,rfl⟩
     rw [← h,hG]; rfl
    cases hix : cl k' v' key l with
    | none =>
     rw [hix] at hfind
     refine step (es':=es.push { key:=toV k' cs,val:=toV v' ys,born:=clock }) (clock':=clock+1) ?_ ?_
     ·rw [u1,c1,d1]
      simp [Instr.mapUpdate,run_underlying hund,MapKept.run_getObj_map u2,hask,hfind,MapKept.run_setObj_map _ u2,Result.andThen]
     ·have e : i9 k' v' key val l=l++[(key,val)]:=by rw [kY,hix]
      rw [e,Array.toList_push]
      refine ⟨by simp [u3.1],fun i h1 h2=>?_⟩
      by_cases hil : i < l.length
      ·have hie : i < es.toList.length:=by rw [u3.1]; exact hil
       rw [List.getElem_append_left hie,List.getElem_append_left hil]
       exact u3.2 i hie hil
      ·have : i=l.length:=by simp at h2; omega
       subst this
       rw [List.getElem_append_right (by rw [u3.1]; exact Nat.le_refl _),List.getElem_append_right (Nat.le_refl _)]
       simp only [u3.1,Nat.sub_self,List.getElem_cons_zero]
       exact ⟨⟨cs,rfl,c3⟩,ys,rfl,d3⟩
    | some j =>
     rw [hix] at hfind
     obtain ⟨hj,heq⟩:=m8 hix
     have hje : j < es.toList.length:=by rw [u3.1]; exact hj
     have hja : j < es.size:=by simpa using hje
     obtain ⟨⟨kc,k1,k2⟩,_⟩:=u3.2 j hje hj
     have hkey : key=l[j].1:=pH hT.plain heq
     have hkk : es.toList[j].key=toV k' cs:=by
      rw [k1]
      have:=sI hT.plain c3 (hkey ▸ k2)
      rw [this]
     refine step (es':=es.modify j fun e=>{ e with key:=toV k' cs,val:=toV v' ys }) (clock':=clock) ?_ ?_
     ·rw [u1,c1,d1]
      have hbits:=Cb hT.plain c3 9999
      have hes : es[j]?=some es[j]:=Array.getElem?_eq_getElem hja
      have hkk' : es[j].key=toV k' cs:=by simpa using hkk
      simp only [Option.map_some,List.getElem?_eq_getElem hje,Option.getD_some] at hfind
      simp [Instr.mapUpdate,run_underlying hund,MapKept.run_getObj_map u2,hask,hfind,MapKept.run_setObj_map _ u2,Result.andThen,hes,hkk',Instr.keyThatStays,hbits]
     ·have e : i9 k' v' key val l=l.set j (l[j].1,val):=by rw [kY,hix]; simp [List.getElem?_eq_getElem hj]
      rw [e]
      refine ⟨by simp [← u3.1],fun i h1 h2=>?_⟩
      simp only [List.length_set] at h2
      have hie : i < es.toList.length:=by rw [u3.1]; exact h2
      by_cases hij : j=i
      ·subst hij
       simp only [Array.getElem_toList,Array.getElem_modify,if_true,List.getElem_set_self]
       exact ⟨⟨cs,rfl,hkey ▸ c3⟩,ys,rfl,d3⟩
      ·have:=u3.2 i hie h2
       simp only [Array.getElem_toList,Array.getElem_modify,if_neg hij,List.getElem_set_ne hij]
       simpa using this
   ·simp at h
  ·simp at h
 ·simp at h
end
end Go.Vm

/-
 What an operation comes to does not hang on what goes on behind it.
-/
namespace Go.Vm
section
variable {C : Ctx} {s : St} {R S : Type} {K : S→Option R}
theorem ay {x y : Option R} {x0 y0 : Option S} {b : Bool} (h1 : x=x0.bind K) (h2 : y=y0.bind K) : cond b x y=(cond b x0 y0).bind K:=by
 cases b <;> assumption
theorem l6 {c : Prop} [Decidable c] {x y : Option R} {x0 y0 : Option S} (h1 : x=x0.bind K) (h2 : y=y0.bind K) : (if c then x else y)=(if c then x0 else y0).bind K:=by
 split <;> assumption
theorem aG {α : Type} {x : Option α} {F : α→Option R} {F0 : α→Option S} (h : ∀ a,F a=(F0 a).bind K) : x.bind F=(x.bind F0).bind K:=by
 cases x with
 | none=>rfl
 | some a=>exact h a
theorem bC {site : Nat} {ob : Obj} {F : Nat→St→Option R} {F0 : Nat→St→Option S} (h : ∀ i s,F i s=(F0 i s).bind K) : bw s site ob F=(bw s site ob F0).bind K :=
 ay rfl (h _ _)
theorem fT {v : SV} {F : Int→Option R} {F0 : Int→Option S} (h : ∀ n,F n=(F0 n).bind K) : asI v F=(asI v F0).bind K:=by
 unfold asI; split
 ·exact h _
 ·rfl
theorem mV {v : SV} {F : Int→Option R} {F0 : Int→Option S} (h : ∀ n,F n=(F0 n).bind K) : ks v F=(ks v F0).bind K:=by
 unfold ks; split
 ·exact h _
 ·rfl
theorem Bw {e : Env} {d : Int} {x : Option Operand} {F : Int→Option R} {F0 : Int→Option S} (h : ∀ n,F n=(F0 n).bind K) : zn C e d x F=(zn C e d x F0).bind K:=by
 cases x with
 | none=>exact h _
 | some x=>exact fT h
theorem oM {sz : Nat} {i : Int} {F : List Atom→Option R} {F0 : List Atom→Option S} (h : ∀ c,F c=(F0 c).bind K) : ∀ (k j : Nat) (l : List Atom),gq k sz l i j F=(gq k sz l i j F0).bind K
 | 0,_,_=>rfl
 | k+1,j,l=>by
  unfold gq
  refine ay ?_ (oM h k (j+1) _)
  split
  ·exact h _
  ·rfl
theorem uX {t : Nat} {x : SV} {i : Int} {F : Atom→Option R} {F0 : Atom→Option S} (h : ∀ n,F n=(F0 n).bind K) : indexAt C s t x i F=(indexAt C s t x i F0).bind K:=by
 unfold indexAt; split
 ·exact aG fun _=>h _
 ·split
  ·exact aG fun _=>h _
  ·rfl
 ·split
  ·exact aG fun _=>h _
  ·rfl
 ·split
  ·exact aG fun _=>h _
  ·rfl
 ·split
  ·exact aG fun _=>h _
  ·rfl
 ·split
  ·exact ay (aG fun _=>h _) rfl
  ·rfl
 ·exact aG fun _=>h _
 ·split
  ·exact l6 (h _) rfl
  ·rfl
 ·rfl
theorem w4 {τ : Ty} {p : Atom} {F : SV→Option R} {F0 : SV→Option S} (h : ∀ n,F n=(F0 n).bind K) : loadAt s τ p F=(loadAt s τ p F0).bind K:=by
 unfold loadAt; split
 ·split
  ·split
   ·exact h _
   ·rfl
  ·rfl
 ·split
  ·refine aG fun _=>?_
   split
   ·split
    ·exact h _
    ·rfl
   ·rfl
  ·exact ay (h _) rfl
  ·rfl
 ·split
  ·refine ay (aG fun _=>?_) rfl
   split
   ·exact h _
   ·rfl
  ·rfl
 ·split
  ·exact h _
  ·rfl
 ·rfl
theorem C0 {hole : Option Nat} {j : Nat} {F : Option R} {F0 : Option S} (h : F=F0.bind K) : uR hole j F=(uR hole j F0).bind K:=by
 unfold uR; split
 ·exact h
 ·exact l6 h rfl
theorem ui {τ : Ty} {p : Atom} {v : SV} {F : St→Option R} {F0 : St→Option S} (h : ∀ n,F n=(F0 n).bind K) : storeAt s τ p v F=(storeAt s τ p v F0).bind K:=by
 unfold storeAt; split
 ·split
  ·split
   ·refine ay ?_ rfl
    split
    ·exact h _
    ·rfl
   ·rfl
  ·rfl
 ·split
  ·split
   ·refine aG fun _=>?_
    split
    ·exact ay rfl (h _)
    ·rfl
   ·rfl
  ·refine ay ?_ rfl
   split
   ·exact C0 (h _)
   ·rfl
  ·rfl
 ·split
  ·refine ay ?_ rfl
   split
   ·exact h _
   ·rfl
  ·rfl
 ·rfl
theorem zD {v : SV} {F : Int→Option R} {F0 : Int→Option S} (h : ∀ n,F n=(F0 n).bind K) : lenOf s v F=(lenOf s v F0).bind K:=by
 unfold lenOf; split
 ·exact h _
 ·exact h _
 ·exact h _
 ·split
  ·exact h _
  ·rfl
 ·split
  ·exact h _
  ·rfl
 ·split
  ·exact h _
  ·rfl
 ·split
  ·exact h _
  ·rfl
 ·split
  ·exact ay (h _) rfl
  ·rfl
 ·rfl
theorem kV {mx : Bool} {F : Int→Option R} {F0 : Int→Option S} (h : ∀ n,F n=(F0 n).bind K) : ∀ (l : List SV) (a : Int),jx mx a l F=(jx mx a l F0).bind K
 | [],a=>h a
 | v :: l,a=>mV fun b=>kV h l _
theorem jh {x : SV} {lo : Int} {hi mx : Option Int} {F : SV→Option R} {F0 : SV→Option S} (h : ∀ n,F n=(F0 n).bind K) : dG s x lo hi mx F=(dG s x lo hi mx F0).bind K:=by
 unfold dG; split
 ·exact aG fun _=>h _
 ·exact aG fun _=>h _
 ·exact l6 (h _) rfl
 ·exact l6 (h _) rfl
 ·split
  ·exact aG fun _=>h _
  ·rfl
 ·exact aG fun _=>h _
 ·split
  ·exact aG fun _=>l6 (h _) rfl
  ·rfl
 ·rfl
theorem kD {site f : Nat} {vs : List SV} {F : SV→St→Option R} {F0 : SV→St→Option S} (h : ∀ v s,F v s=(F0 v s).bind K) : eQ C s site f vs F=(eQ C s site f vs F0).bind K:=by
 unfold eQ; split
 case h_2=>rfl
 unfold ig; split
 ·split
  ·refine aG fun _=>ay ?_ rfl
   split
   ·split
    ·exact h _ _
    ·rfl
   ·rfl
  ·rfl
 ·rfl
end
section
variable {C : Ctx} {s : St} {R : Type} {K : St→Option R} {o : Oper}
theorem qG (hb : ∀ op xt x y yt,o.op≠.binOp op xt x y yt) : al C o s K=(al C o s some).bind K:=by
 obtain ⟨oo,hoo⟩ : ∃ oo,oo=o.op:=⟨_,rfl⟩
 unfold al
 dsimp only
 rw [← hoo] at hb ⊢
 clear hoo
 split
 ·rfl
 ·rfl
 ·split
  ·exact ay rfl rfl
  ·rfl
 ·split
  ·exact bC fun _ _=>rfl
  ·rfl
 ·split
  ·split
   ·exact bC fun _ _=>rfl
   ·rfl
  ·rfl
 ·split
  ·refine ay ?_ rfl
   split
   ·rfl
   ·rfl
  ·rfl
 ·split
  ·refine ay (ay ?_ ?_) rfl
   ·split
    ·split
     ·exact ay (bC fun _ _=>rfl) rfl
     ·rfl
    ·rfl
   ·split
    ·exact bC fun _ _=>rfl
    ·rfl
  ·rfl
 ·split
  ·exact w4 fun _=>rfl
  ·rfl
 ·split
  ·exact ui fun _=>rfl
  ·rfl
 ·split
  ·split
   ·rfl
   ·rfl
  ·split
   ·rfl
   ·rfl
   ·rfl
  ·rfl
  ·rfl
  ·rfl
  ·rfl
 ·exact absurd rfl (hb _ _ _ _ _)
 ·split
  ·rfl
  ·rfl
  ·rfl
 ·split
  ·rfl
  ·exact bC fun _ _=>rfl
  ·split
   ·rfl
   ·rfl
  ·rfl
  ·rfl
 ·split
  ·exact fT fun _=>fT fun _=>aG fun _=>bC fun _ _=>rfl
  ·rfl
 ·refine Bw fun _=>ay rfl ?_
  split
  ·exact jh fun _=>rfl
  ·exact fT fun _=>jh fun _=>rfl
  ·exact fT fun _=>fT fun _=>jh fun _=>rfl
  ·rfl
 ·split
  ·split
   ·split
    ·exact ay rfl rfl
    ·rfl
   ·rfl
  ·split
   ·split
    ·refine ay ?_ rfl
     split
     ·exact ay rfl rfl
     ·rfl
    ·rfl
   ·rfl
  ·split
   ·refine ay ?_ rfl
    split
    ·exact ay rfl rfl
    ·rfl
   ·rfl
  ·rfl
 ·split
  ·split
   ·split
    ·split
     ·rfl
     ·rfl
    ·rfl
   ·rfl
  ·split
   ·refine ay ?_ rfl
    split
    ·rfl
    ·rfl
   ·rfl
  ·rfl
 ·exact fT fun _=>ay (uX fun _=>rfl) rfl
 ·refine fT fun _=>?_
  split
  ·exact aG fun _=>rfl
  ·exact oM (F0:=fun c=>some (aw o.dst (dK _ c) s)) (fun _=>rfl) _ _ _
  ·exact aG fun _=>aG fun _=>rfl
  ·rfl
 ·split
  ·split
   ·rfl
   ·rfl
   ·rfl
  ·rfl
 ·split
  ·exact bC fun _ _=>rfl
  ·rfl
 ·split
  ·exact bC fun _ _=>rfl
  ·rfl
 ·split
  ·split
   ·exact aG fun _=>ay rfl rfl
   ·rfl
  ·rfl
 ·split
  ·split
   ·refine aG fun _=>?_
    split
    ·exact ay rfl rfl
    ·rfl
   ·rfl
  ·rfl
 ·split
  ·split
   ·refine aG fun _=>?_
    split
    ·rfl
    ·rfl
   ·rfl
  ·rfl
 ·split
  ·rfl
  ·split
   ·exact aG fun _=>rfl
   ·rfl
  ·split
   ·rfl
   ·rfl
  ·rfl
 ·split
  ·exact ay (zD fun _=>rfl) rfl
  ·rfl
 ·split
  ·exact mV fun _=>by refine kV ?_ _ _; intro n; rfl
  ·rfl
 ·split
  ·exact mV fun _=>by refine kV ?_ _ _; intro n; rfl
  ·rfl
 ·split
  ·split
   ·refine ay (ay ?_ ?_) rfl
    ·split
     ·split
      ·exact aG fun _=>ay (bC fun _ _=>rfl) rfl
      ·rfl
     ·rfl
    ·split
     ·exact aG fun _=>bC fun _ _=>rfl
     ·rfl
     ·split
      ·exact aG fun _=>bC fun _ _=>rfl
      ·rfl
   ·rfl
  ·rfl
 ·split
  ·split
   ·split
    ·exact ay rfl rfl
    ·rfl
   ·rfl
  ·rfl
 ·split
  ·exact kD fun _ _=>rfl
  ·exact kD fun _ _=>rfl
  ·split
   ·exact kD fun _ _=>rfl
   ·rfl
  ·rfl
 ·rfl
end
end Go.Vm

/-
 What a call asks and what it gives, in terms of memory.
-/
namespace Go.Vm
def ArgRd (w : World) (F : Nat→Prop) : Mode→(τ : Ty)→Value→τ.den→Prop
 | .rd,τ,u,x=>∃ cs,u=toV τ cs∧Rd w F τ cs x
 | .upd,.slice e,u,x=>HdrW w F u e x
 | .take,.slice e,u,x=>HdrW w F u e x
 | _,_,_,_=>False
def ArgsRd (w : World) (F : Nat→Prop) : (ins : List (Mode×Ty))→List Value→(aA (ins.map (·.2))).den→Prop
 | [],[],_=>True
 | p :: r,u :: us,x=>ArgRd w F p.1 p.2 u x.1∧ArgsRd w F r us x.2
 | _,_,_=>False
def bc : List (Mode×Ty)→List Value→List Value
 | (.rd,_) :: r,_ :: us=>bc r us
 | (_,_) :: r,u :: us=>u :: bc r us
 | _,_=>[]
def ct : List (Mode×Ty)→List Value→List Value
 | (.upd,_) :: r,u :: us=>u :: ct r us
 | (_,_) :: r,_ :: us=>ct r us
 | _,_=>[]
structure Pre (glob : List (Nat×(Σ t : Ty,t.den))) (w : World) (F : Nat→Prop) (ins : List (Mode×Ty)) (us : List Value) (x : (aA (ins.map (·.2))).den) : Prop where
 args : ArgsRd w F ins us x
 own : ∀ u∈bc ins us,∀ b,HB u b→¬ F b∧b < w.heap.size
 apart : dc (bc ins us)
 fro : ∀ b,F b→b < w.heap.size
 glob : ∀ g τ x,da glob g=some ⟨τ,x⟩→Rd w F (.ptr τ) [.pointer (some ⟨g,0,none⟩)] x
def nJ (w : World) (F : Nat→Prop) (d : Bool) : (e : Ty)→Value→List e.den→Prop
 | .slice σ,g,x=>cond d (∃ u hs,g=.tuple (u :: hs).toArray∧DeepW w F u hs σ x none) (HdrW w F g (.slice σ) x)
 | e,g,x=>HdrW w F g e x
def eT : Value→Value
 | .tuple us=>us.getD 0 undef
 | v=>v
def OwnRd (w : World) (F : Nat→Prop) (d : Bool) : (τ : Ty)→List Value→τ.den→Prop
 | .prod a b,cs,x=>∃ c1 c2,cs=c1++c2∧OwnRd w F d a c1 x.1∧OwnRd w F d b c2 x.2
 | .unit,cs,_=>cs=[]
 | .slice e,cs,x=>∃ u,cs=[u]∧nJ w F d e u x
 | .int k,cs,x=>Rd w F (.int k) cs x
 | .bool,cs,x=>Rd w F .bool cs x
 | .str,cs,x=>Rd w F .str cs x
 | _,_,_=>False
def aE : (τ : Ty)→List Value→List Value
 | .prod a b,cs=>aE a (cs.take a.size)++aE b (cs.drop a.size)
 | .slice _,cs=>cs
 | _,_=>[]
def OutsRd (w : World) (F : Nat→Prop) (d : Bool) : (outs : List (Bool×Ty))→List (List Value)→(aA (outs.map (·.2))).den→Prop
 | [],[],_=>True
 | p :: r,cs :: css,x=>cond p.1 (OwnRd w F d p.2 cs x.1) (Rd w F p.2 cs x.1)∧OutsRd w F d r css x.2
 | _,_,_=>False
def dO : List (Bool×Ty)→List (List Value)→List Value
 | p :: r,cs :: css=>cond p.1 (aE p.2 cs) []++dO r css
 | _,_=>[]
def ia : List (Bool×Ty)→List (List Value)→List Value
 | p :: r,cs :: css=>toV p.2 (cond p.1 (cs.map eT) cs) :: ia r css
 | _,_=>[]
def gk : List Value→Value
 | [u]=>u
 | us=>.tuple us.toArray
def MutsRd (w : World) (F : Nat→Prop) : (ins : List (Mode×Ty))→List Value→(aA (aQ ins)).den→Prop
 | [],_,_=>True
 | (.rd,_) :: r,_ :: us,y=>MutsRd w F r us y
 | (.take,_) :: r,_ :: us,y=>MutsRd w F r us y
 | (.upd,.slice e) :: r,u :: us,y=>HdrW w F u e y.1∧MutsRd w F r us y.2
 | _,_,_=>False
def fj (l : List Value) (b : Nat) : Prop:=∃ u∈l,HB u b
structure Post (w : World) (F : Nat→Prop) (ins : List (Mode×Ty)) (us : List Value) (outs : List (Bool×Ty)) (r : (aA (outs.map (·.2)++aQ ins)).den) (v : Value) (w' : World) (F2 : Nat→Prop) (css : List (List Value)) (d : Bool:=false) : Prop where
 kept : Kept w (fj (bc ins us)) w'
 fro : ∀ b,F b→F2 b
 f2 : ∀ b,F2 b→b < w'.heap.size∧(F b∨fj (bc ins us) b∨w.heap.size≤b)
 val : v=gk (ia outs css)
 res : OutsRd w' F2 d outs css (cX (outs.map (·.2)) (aQ ins) r).1
 muts : MutsRd w' F2 ins us (cX (outs.map (·.2)) (aQ ins) r).2
 apart : dc (dO outs css++ct ins us)
 own : ∀ u∈dO outs css++ct ins us,∀ b,HB u b→(w.heap.size≤b∨fj (bc ins us) b)∧¬ F2 b∧b < w'.heap.size
def Goes (P : Program) (f : FuncId) (vs : Array Value) (w : World) (R : Value→World→Prop) : Prop :=
 ((callFunc f vs).run P w=.ok (.enter f vs) w∧Calls P f vs w fun e w'=>∃ v,e=.returned v∧R v w')∨∃ v w',(callFunc f vs).run P w=.ok (.value v) w'∧R v w'
def Con.Holds (P : Program) (glob : List (Nat×(Σ t : Ty,t.den))) (f : FuncId) (c : Con) : Prop :=
 ∀ (w : World) (F : Nat→Prop) (us : List Value) (x : (aA (c.ins.map (·.2))).den) (r : (aA (c.outs.map (·.2)++aQ c.ins)).den),Pre glob w F c.ins us x→c.fn x=some r →
  Goes P f us.toArray w fun v w'=>∃ F2 css,Post w F c.ins us c.outs r v w' F2 css c.deep
section
variable {P : Program} {C : Ctx} {w0 : World} {M : Own} {o : Oper} {a : Act} {m : Mem} {s s' : St}
theorem Rd.flat {w : World} {F : Nat→Prop} : ∀ {τ : Ty} {cs : List Value} {x : τ.den},τ.flat=true→Rd w F τ cs x→∀ (w' : World) (F' : Nat→Prop),Rd w' F' τ cs x
 | .int _,_,_,_,h,_,_=>h
 | .bool,_,_,_,h,_,_=>h
 | .str,_,_,_,h,_,_=>h
 | .prod a b,_,_,hf,h,_,_=>by
  simp only [Ty.flat,Bool.and_eq_true] at hf
  obtain ⟨c1,c2,h1,h2,h3⟩:=h
  exact ⟨c1,c2,h1,Rd.flat hf.1 h2 _ _,Rd.flat hf.2 h3 _ _⟩
 | .unit,_,_,_,h,_,_=>h
 | .arr n e,_,_,hf,h,_,_=>by
  obtain ⟨h1,h2,h3⟩:=h
  exact ⟨h1,h2,fun i hi=>Rd.flat (by simpa [Ty.flat] using hf) (h3 i hi) _ _⟩
 | .slice _,_,_,hf,_,_,_=>by simp [Ty.flat] at hf
 | .ptr _,_,_,hf,_,_,_=>by simp [Ty.flat] at hf
 | .clo _ _,_,_,hf,_,_,_=>by simp [Ty.flat] at hf
theorem HdrW.flat {w : World} {F F' : Nat→Prop} {u : Value} {e : Ty} {l : List e.den} (hf : e.flat=true) (h : HdrW w F u e l) : HdrW w F' u e l:=by
 obtain ⟨ad,cap,h1,h2,h3,h4⟩:=h
 refine ⟨ad,cap,h1,h2,h3,fun hc=>?_⟩
 obtain ⟨b,off,c,el,fz,q1,q2,q3,q4,q5⟩:=h4 hc
 exact ⟨b,off,c,el,fz,q1,q2,q3,q4,fun i hi=>(q5 i hi).flat hf _ _⟩
theorem ArgRd.mono {w : World} {F F' : Nat→Prop} (hF : ∀ b,F b→F' b) {md : Mode} {τ : Ty} {u : Value} {x : τ.den} (h : ArgRd w F md τ u x) : ArgRd w F' md τ u x:=by
 cases md with
 | rd=>obtain ⟨cs,h1,h2⟩:=h; exact ⟨cs,h1,h2.mono fun b hb=>⟨hF b hb,rfl⟩⟩
 | upd=>cases τ <;> first | exact HdrW.mono (fun b hb=>⟨hF b hb,rfl⟩) (fun _ _=>rfl) h | exact h.elim
 | take=>cases τ <;> first | exact HdrW.mono (fun b hb=>⟨hF b hb,rfl⟩) (fun _ _=>rfl) h | exact h.elim
theorem iO {G : Heap} {τ : Ty} {r : List (Mode×Ty)} {v : SV} {vs : List SV} : bd G ((.rd,τ) :: r) (v :: vs)=(dL G v++(bd G r vs).1,(bd G r vs).2):=rfl
theorem iJ {G : Heap} {τ : Ty} {r : List (Mode×Ty)} {v : SV} {vs : List SV} : bd G ((.upd,τ) :: r) (v :: vs)=((bd G r vs).1,bZ v++(bd G r vs).2):=rfl
theorem gS {G : Heap} {τ : Ty} {r : List (Mode×Ty)} {v : SV} {vs : List SV} : bd G ((.take,τ) :: r) (v :: vs)=((bd G r vs).1,bZ v++(bd G r vs).2):=rfl
def Fm (m : Mem) (v : SV) (u : Value) : Prop:=∀ b,HB u b→∃ id o,bZ v=[id]∧m.G.get id=some o∧isObj o=true∧HB (m.ι id) b
theorem oI (hi : Inv C w0 M m) {τ : Ty} {v : SV} {x : τ.den} {u : Value} (hv : aH m.G τ v=some x) (hr : RelSV m u v) (hk : v=.av .nils∨(∃ id,v=.av (.own id))∨∃ id o n,v=.av (.view id o n)) :
  ArgRd m.w m.F .take τ u x∧Fm m v u∧(bZ v=[]∨∃ id o,bZ v=[id]∧m.G.get id=some o∧isObj o=true):=by
 cases τ with
 | slice e =>
  have key : eR ⟨[],m.G⟩ e v=some (x,bZ v):=by
   rcases hk with rfl | ⟨id,rfl⟩ | ⟨id,off,n,rfl⟩
   ·simp only [aH,Ty.isAgg,cond_false,ax,Option.some.injEq] at hv
    subst hv
    rfl
   ·simp only [aH,Ty.isAgg,cond_false,ax] at hv
    cases hg : m.G.get id with
    | none=>rw [hg] at hv; simp at hv
    | some ob =>
     cases ob with
     | arr σ l =>
      rw [hg] at hv
      obtain ⟨he,hx⟩:=au hv
      cases he
      subst hx
      simp [eR,hg,aU,bZ,bg]
     | box _=>rw [hg] at hv; simp at hv
     | dead=>rw [hg] at hv; simp at hv
     | deep _ _ _ _=>rw [hg] at hv; simp at hv
     | map _ _ _=>rw [hg] at hv; simp at hv
   ·simp only [aH,Ty.isAgg,cond_false,ax] at hv
    cases hg : m.G.get id with
    | none=>rw [hg] at hv; simp at hv
    | some ob =>
     cases ob with
     | arr σ l =>
      rw [hg] at hv
      obtain ⟨he,hx⟩:=au hv
      cases he
      subst hx
      simp [eR,hg,aU,bZ,bg]
     | box _=>rw [hg] at hv; simp at hv
     | dead=>rw [hg] at hv; simp at hv
     | deep _ _ _ _=>rw [hg] at hv; simp at hv
     | map _ _ _=>rw [hg] at hv; simp at hv
  obtain ⟨h1,h2⟩:=iU (s:=⟨[],m.G⟩) hi rfl key hr
  refine ⟨h1,?_,?_⟩
  ·intro b hbl
   rcases h2 with ⟨_,ad,rfl⟩ | ⟨id,ob,h2,h3,h4,h5⟩
   ·cases ad <;> simp [HB,HB1] at hbl
   ·refine ⟨id,ob,h2,h3,h4,?_⟩
    rcases h5 with h5 | ⟨ad,n,rfl⟩
    ·exact h5 b hbl
    ·cases ad <;> simp [HB,HB1] at hbl
  ·rcases h2 with ⟨h2,_⟩ | ⟨id,ob,h2,h3,h4,h5⟩
   ·exact .inl h2
   ·exact .inr ⟨id,ob,h2,h3,h4⟩
 | _ =>
  exfalso
  rcases hk with rfl | ⟨id,rfl⟩ | ⟨id,off,n,rfl⟩ <;> simp [aH,Ty.isAgg,ax] at hv
theorem iV {τ : Ty} {r : List (Mode×Ty)} {v : SV} {vs : List SV} {x : (aA (aQ ((.take,τ) :: r))).den} {G G' : Heap} (h : ap ((.take,τ) :: r) (v :: vs) x G=some G') :
  (v=.av .nils∨(∃ id,v=.av (.own id))∨∃ id o n,v=.av (.view id o n))∧ap r vs x (aq (bZ v) G)=some G':=by
 simp only [ap] at h
 split at h
 ·exact ⟨.inl rfl,h⟩
 ·exact ⟨.inr (.inl ⟨_,rfl⟩),h⟩
 ·exact ⟨.inr (.inr ⟨_,_,_,rfl⟩),h⟩
 ·simp at h
theorem kr {e : Ty} {r : List (Mode×Ty)} {v : SV} {vs : List SV} {x : (aA (aQ ((.upd,.slice e) :: r))).den} {G G' : Heap} (h : ap ((.upd,.slice e) :: r) (v :: vs) x G=some G') :
  (v=.av .nils∧ap r vs x.2 G=some G')∨∃ id,v=.av (.own id)∧ap r vs x.2 ((id,.arr e x.1) :: G)=some G':=by
 simp only [ap] at h
 split at h
 ·exact .inl ⟨rfl,h⟩
 ·exact .inr ⟨_,rfl,h⟩
 ·simp at h
theorem ow {l : List Value} {u : Value} {ids : List Nat} (hi : Inv C w0 M m) {v : SV} (h1 : Fm m v u) (h2 : ∀ b,fj l b→∃ id o,id∈ids∧m.G.get id=some o∧isObj o=true∧HB (m.ι id) b)
  (hn : aM (bZ v++ids)=true) (h3 : aM ids=true→dc l) (hs : bZ v=[]∨∃ id o,bZ v=[id]∧m.G.get id=some o∧isObj o=true) : dc (u :: l):=by
 rcases hs with hs | ⟨id,ob,hs,hg,hob⟩
 ·rw [hs] at hn
  refine List.Pairwise.cons ?_ (h3 hn)
  intro u' hu' b hb hb'
  obtain ⟨id,ob,k1,_⟩:=h1 b hb
  rw [hs] at k1
  cases k1
 ·rw [hs] at hn
  obtain ⟨n1,n2⟩:=ew hn
  refine List.Pairwise.cons ?_ (h3 n2)
  intro u' hu' b hb hb'
  obtain ⟨id',ob',k1,k2,k3,k4⟩:=h1 b hb
  rw [hs] at k1
  simp only [List.cons.injEq,and_true] at k1
  subst k1
  obtain ⟨id2,ob2,j1,j2,j3,j4⟩:=h2 b ⟨u',hu',hb'⟩
  have:=hi.inj _ _ _ _ b k2 k3 j2 j3 k4 j4
  subst this
  exact n1 j1
theorem lD (hi : Inv C w0 M m) : ∀ {ins : List (Mode×Ty)} {vs : List SV} {us : List Value} {x : (aA (ins.map (·.2))).den} {y : (aA (aQ ins)).den} {G G' : Heap} {F : Nat→Prop},
  cO m.G ins vs=some x→Rel2 (RelSV m) us vs→ap ins vs y G=some G'→(∀ b,Thru m (bd m.G ins vs).1 b→F b) →
  ArgsRd m.w F ins us x∧(∀ b,fj (bc ins us) b→∃ id o,id∈(bd m.G ins vs).2∧m.G.get id=some o∧isObj o=true∧HB (m.ι id) b) ∧
  (aM (bd m.G ins vs).2=true→dc (bc ins us))∧us.length=ins.length
 | [],[],[],x,y,G,G',F,h,hr,ha,hF=>⟨trivial,by rintro b ⟨u,hu,_⟩; simp [bc] at hu,fun _=>List.Pairwise.nil,rfl⟩
 | [],_ :: _,_,_,_,_,_,_,h,_,_,_=>by simp [cO] at h
 | _ :: _,[],_,_,_,_,_,_,h,_,_,_=>by simp [cO] at h
 | _ :: _,_ :: _,[],_,_,_,_,_,_,h,_,_=>h.elim
 | [],[],_ :: _,_,_,_,_,_,_,h,_,_=>h.elim
 | (md,τ) :: r,v :: vs,u :: us,x,y,G,G',F,h,hr,ha,hF=>by
  unfold cO at h
  split at h
  ·rename_i x1 hx1
   split at h
   ·rename_i x2 hx2
    have h:=Option.some.inj h
    subst h
    dsimp only at hx1
    obtain ⟨hr1,hr2⟩:=hr
    cases md with
    | rd =>
     have ha' : ap r vs y G=some G':=ha
     obtain ⟨q1,q2,q3,q4⟩:=lD hi (F:=F) hx2 hr2 ha' (fun b hb=>hF b (Thru.mono (fun i hi=>by rw [iO]; simp [hi]) hb))
     obtain ⟨cs,c1,c2⟩:=cH hi hx1 hr1
     exact ⟨⟨⟨cs,c1,c2.mono fun b hb=>⟨hF b (Thru.mono (fun i hi=>by rw [iO]; simp [hi]) hb),rfl⟩⟩,q1⟩,q2,q3,by simp [q4]⟩
    | take =>
     obtain ⟨hk,ha'⟩:=iV ha
     obtain ⟨q1,q2,q3,q4⟩:=lD hi (F:=F) hx2 hr2 ha' (fun b hb=>hF b hb)
     obtain ⟨g1,g2,g3⟩:=oI hi hx1 hr1 hk
     refine ⟨⟨ArgRd.mono (fun b hb=>hF b (.inl hb)) g1,q1⟩,?_,fun hnd=>ow hi g2 q2 hnd q3 g3,by simp [q4]⟩
     rintro b ⟨u',hu',hb⟩
     rcases List.mem_cons.1 hu' with rfl | hu'
     ·obtain ⟨id,ob,k1,k2,k3,k4⟩:=g2 b hb
      exact ⟨id,ob,by rw [gS]; simp [k1],k2,k3,k4⟩
     ·obtain ⟨id,ob,k1,k2⟩:=q2 b ⟨u',hu',hb⟩
      exact ⟨id,ob,by rw [gS]; simp [k1],k2⟩
    | upd =>
     cases τ with
     | slice e =>
      have hk : (v=.av .nils∨(∃ id,v=.av (.own id))∨∃ id o n,v=.av (.view id o n))∧∃ G1 y',ap r vs y' G1=some G':=by
       rcases kr ha with ⟨rfl,h1⟩ | ⟨id,rfl,h1⟩
       ·exact ⟨.inl rfl,_,_,h1⟩
       ·exact ⟨.inr (.inl ⟨_,rfl⟩),_,_,h1⟩
      obtain ⟨hk,G1,y',ha'⟩:=hk
      obtain ⟨q1,q2,q3,q4⟩:=lD hi (F:=F) hx2 hr2 ha' (fun b hb=>hF b hb)
      obtain ⟨g1,g2,g3⟩:=oI hi hx1 hr1 hk
      have g1':=ArgRd.mono (fun b hb=>hF b (.inl hb)) g1
      refine ⟨⟨g1',q1⟩,?_,fun hnd=>ow hi g2 q2 hnd q3 g3,by simp [q4]⟩
      rintro b ⟨u',hu',hb⟩
      rcases List.mem_cons.1 hu' with rfl | hu'
      ·obtain ⟨id,ob,k1,k2,k3,k4⟩:=g2 b hb
       exact ⟨id,ob,by rw [iJ]; simp [k1],k2,k3,k4⟩
      ·obtain ⟨id,ob,k1,k2⟩:=q2 b ⟨u',hu',hb⟩
       exact ⟨id,ob,by rw [iJ]; simp [k1],k2⟩
     | _=>simp [ap] at ha
   ·simp at h
  ·simp at h
end
end Go.Vm

/-
 The machine's operations against the model's: what a call leaves behind.
-/
namespace Go.Vm
section
variable {P : Program} {C : Ctx} {w0 : World} {M : Own} {o : Oper} {a : Act} {m : Mem} {s s' : St}
structure Aft (m : Mem) (w' : World) (F1 : Nat→Prop) (H : List Value) (G : Heap) (S : List Nat) : Prop where
 old : ∀ id o,G.get id=some o→isObj o=true→(id∉S∧m.G.get id=some o)∨∃ e l y,o=.arr e y∧m.G.get id=some (.arr e l)∧l.length=y.length∧HdrW w' F1 (m.ι id) e y∧m.ι id∈H
 get : ∀ id o,m.G.get id=some o→∃ o',G.get id=some o'∧(o'=.dead∨Alike o o')
theorem Aft.kill {w' : World} {F1 : Nat→Prop} {H : List Value} {S : List Nat} (i : Nat) {G : Heap} (h : Aft m w' F1 H G S) : Aft m w' F1 H ((i,.dead) :: G) (S++[i]):=by
 refine ⟨fun id o ho hob=>?_,fun id o ho=>?_⟩
 ·rw [Heap.get_cons] at ho
  split at ho
  ·simp only [Option.some.injEq] at ho
   subst ho
   simp [isObj] at hob
  ·rename_i hne
   rcases h.old id o ho hob with ⟨h1,h2⟩ | h1
   ·exact .inl ⟨by simp [h1,Ne.symm hne],h2⟩
   ·exact .inr h1
 ·by_cases e : i=id
  ·exact ⟨.dead,by rw [Heap.get_cons,if_pos e],.inl rfl⟩
  ·obtain ⟨o',h1,h2⟩:=h.get id o ho
   exact ⟨o',by rw [Heap.get_cons,if_neg e]; exact h1,h2⟩
theorem Aft.kills {w' : World} {F1 : Nat→Prop} {H : List Value} : ∀ (ids : List Nat) {S : List Nat} {G : Heap},Aft m w' F1 H G S→Aft m w' F1 H (aq ids G) (S++ids)
 | [],S,G,h=>by rw [List.append_nil]; exact h
 | i :: r,S,G,h=>by
  have:=Aft.kills r (h.kill i)
  rw [List.append_assoc] at this
  exact this
theorem Aft.put {w' : World} {F1 : Nat→Prop} {H : List Value} {S : List Nat} {i : Nat} {G : Heap} {e : Ty} {l y : List e.den} (hg : m.G.get i=some (.arr e l)) (hl : l.length=y.length) (hh : HdrW w' F1 (m.ι i) e y) (hm : m.ι i∈H)
  (h : Aft m w' F1 H G S) : Aft m w' F1 H ((i,.arr e y) :: G) (S++[i]):=by
 refine ⟨fun id o ho hob=>?_,fun id o ho=>?_⟩
 ·rw [Heap.get_cons] at ho
  split at ho
  ·rename_i e0
   subst e0
   simp only [Option.some.injEq] at ho
   subst ho
   exact .inr ⟨e,l,y,rfl,hg,hl,hh,hm⟩
  ·rename_i hne
   rcases h.old id o ho hob with ⟨h1,h2⟩ | h1
   ·exact .inl ⟨by simp [h1,Ne.symm hne],h2⟩
   ·exact .inr h1
 ·by_cases e0 : i=id
  ·subst e0
   rw [hg] at ho
   simp only [Option.some.injEq] at ho
   subst ho
   exact ⟨.arr e y,by rw [Heap.get_cons,if_pos rfl],.inr (show Alike (.arr e l) (.arr e y) from ⟨rfl,hl⟩)⟩
  ·obtain ⟨o',h1,h2⟩:=h.get id o ho
   exact ⟨o',by rw [Heap.get_cons,if_neg e0]; exact h1,h2⟩
theorem fe (hi : Inv C w0 M m) {w' : World} {F1 : Nat→Prop} {H : List Value} : ∀ {ins : List (Mode×Ty)} {vs : List SV} {us : List Value} {x : (aA (ins.map (·.2))).den} {y : (aA (aQ ins)).den} {G G' : Heap} {S : List Nat},
  cO m.G ins vs=some x→Rel2 (RelSV m) us vs→MutsRd w' F1 ins us y→(∀ u∈ct ins us,u∈H)→ap ins vs y G=some G'→Aft m w' F1 H G S→Aft m w' F1 H G' (S++(bd m.G ins vs).2)
 | [],[],[],x,y,G,G',S,h,hr,hm,hH,ha,hA=>by
  simp only [ap,Option.some.injEq] at ha
  subst ha
  simpa [bd] using hA
 | [],_ :: _,_,_,_,_,_,_,h,_,_,_,_,_=>by simp [cO] at h
 | _ :: _,[],_,_,_,_,_,_,h,_,_,_,_,_=>by simp [cO] at h
 | _ :: _,_ :: _,[],_,_,_,_,_,_,h,_,_,_,_=>h.elim
 | [],[],_ :: _,_,_,_,_,_,_,h,_,_,_,_=>h.elim
 | (md,τ) :: r,v :: vs,u :: us,x,y,G,G',S,h,hr,hm,hH,ha,hA=>by
  unfold cO at h
  split at h
  ·rename_i x1 hx1
   split at h
   ·rename_i x2 hx2
    dsimp only at hx1
    obtain ⟨hr1,hr2⟩:=hr
    cases md with
    | rd =>
     have ha' : ap r vs y G=some G':=ha
     have hm' : MutsRd w' F1 r us y:=hm
     have:=fe hi hx2 hr2 hm' hH ha' hA
     exact this
    | take =>
     obtain ⟨hk,ha'⟩:=iV ha
     have hm' : MutsRd w' F1 r us y:=hm
     have:=fe hi hx2 hr2 hm' hH ha' (hA.kills (bZ v))
     rw [List.append_assoc] at this
     exact this
    | upd =>
     cases τ with
     | slice e =>
      obtain ⟨hm1,hm2⟩:=hm
      have hH' : ∀ u∈ct r us,u∈H:=fun u' hu'=>hH u' (by simp [ct,hu'])
      rcases kr ha with ⟨rfl,ha'⟩ | ⟨id,rfl,ha'⟩
      ·have:=fe hi hx2 hr2 hm2 hH' ha' hA
       exact this
      ·simp only [aH,Ty.isAgg,cond_false,ax] at hx1
       cases hg : m.G.get id with
       | none=>rw [hg] at hx1; simp at hx1
       | some ob =>
        cases ob with
        | box _=>rw [hg] at hx1; simp at hx1
        | dead=>rw [hg] at hx1; simp at hx1
        | deep _ _ _ _=>rw [hg] at hx1; simp at hx1
        | map _ _ _=>rw [hg] at hx1; simp at hx1
        | arr σ l =>
         rw [hg] at hx1
         obtain ⟨he,hx⟩:=au hx1
         cases he
         subst hx
         obtain ⟨_,ob,hob,hv⟩:=hr1
         rw [hg] at hob
         simp only [Option.some.injEq] at hob
         subst hob
         have hv:=hv rfl
         subst hv
         obtain ⟨ad,cap,r1,r2,r3,r4⟩:=hi.objs id _ hg
         have hlen : l.length=y.1.length:=by
          obtain ⟨ad',cap',k1,_⟩:=hm1
          rw [r1] at k1
          simp only [Value.slice.injEq] at k1
          exact k1.2.1
         have:=fe hi hx2 hr2 hm2 hH' ha' (hA.put hg hlen hm1 (hH _ (by simp [ct])))
         rw [List.append_assoc] at this
         exact this
     | _=>simp [ap] at ha
   ·simp at h
  ·simp at h
theorem Hd (hi : Inv C w0 M m) {i : Nat} (hn : m.G.get i=none) {u : Value} {e : Ty} {l : List e.den} (hu : HdrW m.w m.F u e l)
  (hb : ∀ b,HB u b→(w0.heap.size≤b∨M b)∧¬ m.F b∧b < m.w.heap.size∧∀ id o,m.G.get id=some o→isObj o=true→¬ HB (m.ι id) b) :
  ∃ m',m'.w=m.w∧m'.F=m.F∧m'.G=(i,.arr e l) :: m.G∧m'.ι=(fun k=>if k=i then u else m.ι k)∧Inv C w0 M m'∧Evo m m'∧ah m' u (.own i):=by
 have he : Evo m ⟨m.w,m.F,fun k=>if k=i then u else m.ι k,(i,.arr e l) :: m.G⟩:=by
  refine ⟨fun b hF=>⟨hF,rfl⟩,fun id p hp=>?_⟩
  have hne : i≠id:=fun e=>by subst e; rw [hn] at hp; cases hp
  exact ⟨p,by rw [Heap.get_cons,if_neg hne]; exact hp,.inr (.inl ⟨by simp [Ne.symm hne],Alike.refl p⟩)⟩
 refine ⟨⟨m.w,m.F,fun k=>if k=i then u else m.ι k,(i,.arr e l) :: m.G⟩,rfl,rfl,rfl,rfl,⟨hi.kept,?_,?_,?_,hi.fro,fun g τ x hg=>hi.glob g τ x hg,hi.bnd,fun i v h=>cu he (hi.pin i v h)⟩,he,?_⟩
 ·intro id p hp
  rw [Heap.get_cons] at hp
  split at hp
  ·rename_i e0
   subst e0
   simp only [Option.some.injEq] at hp
   subst hp
   obtain ⟨ad,cap,h1,h2,h3,h4⟩:=hu
   exact ⟨ad,cap,by simp [h1],h2,h3,h4⟩
  ·rename_i hne
   exact bR he (by simp [Ne.symm hne]) (fun _ _=>rfl) (hi.objs id p hp)
 ·intro id p b hp hop hbl
  rw [Heap.get_cons] at hp
  split at hp
  ·rename_i e0
   subst e0
   obtain ⟨h1,h2,h3,_⟩:=hb b (by simpa using hbl)
   exact ⟨h1,h2,h3⟩
  ·rename_i hne
   exact hi.own id p b hp hop (by simpa [Ne.symm hne] using hbl)
 ·intro j k p q b hp hop hq hoq hj hk
  rw [Heap.get_cons] at hp hq
  split at hp <;> split at hq
  ·omega
  ·rename_i e0 hne; subst e0
   exact absurd (by simpa [Ne.symm hne] using hk) ((hb b (by simpa using hj)).2.2.2 k q hq hoq)
  ·rename_i hne e0; subst e0
   exact absurd (by simpa [Ne.symm hne] using hj) ((hb b (by simpa using hk)).2.2.2 j p hp hop)
  ·rename_i n1 n2
   exact hi.inj j k p q b hp hop hq hoq (by simpa [Ne.symm n1] using hj) (by simpa [Ne.symm n2] using hk)
 ·obtain ⟨ad,cap,h1,_⟩:=hu
  exact ⟨by rw [h1]; rfl,.arr e l,by rw [Heap.get_cons,if_pos rfl],fun _=>by simp⟩
theorem jO {v : Value} (h : v.oneCell'=true) : eT v=v:=by
 cases v <;> simp_all [eT,Value.oneCell']
theorem Ae {cs : List Value} (h : ∀ u∈cs,u.oneCell'=true) : cs.map eT=cs:=by
 induction cs with
 | nil=>rfl
 | cons c cs ih =>
  simp only [List.map_cons]
  rw [jO (h c (by simp)),ih fun u hu=>h u (by simp [hu])]
theorem nm {w : World} {F : Nat→Prop} {d : Bool} {e : Ty} {g : Value} {x : List e.den} (h : nJ w F d e g x) :
  (jg d e x=.arr e x∧(∀ i,e9 d e i=.own i)∧HdrW w F g e x)∨∃ σ y,e=.slice σ∧d=true∧jg d e x=.deep 0 σ y none∧(∀ i,e9 d e i=.ownd i)∧∃ u hs,g=.tuple (u :: hs).toArray∧DeepW w F u hs σ y none:=by
 cases e with
 | slice σ =>
  cases d with
  | true=>exact .inr ⟨σ,x,rfl,rfl,rfl,fun _=>rfl,h⟩
  | false=>exact .inl ⟨rfl,fun _=>rfl,h⟩
 | _=>exact .inl ⟨by cases d <;> rfl,fun _=>by cases d <;> rfl,h⟩
theorem zq {w : World} {F : Nat→Prop} {d : Bool} {e : Ty} {g : Value} {x : List e.den} (h : nJ w F d e g x) : (eT g).oneCell'=true:=by
 rcases nm h with ⟨_,_,h⟩ | ⟨σ,y,_,_,_,_,u,hs,rfl,_⟩
 ·have:=cW h
  rw [jO this]; exact this
 ·rename_i hd
  show ((u :: hs).toArray.getD 0 undef).oneCell'=true
  simpa using hd.one u (by simp)
theorem wq {w w' : World} {F F' : Nat→Prop} (hF : ∀ b,F b→F' b∧w'.heap[b]?=w.heap[b]?) {d : Bool} {e : Ty} {g : Value} {x : List e.den} (hu : ∀ b,HB g b→w'.heap[b]?=w.heap[b]?) (h : nJ w F d e g x) : nJ w' F' d e g x:=by
 cases e with
 | slice σ =>
  cases d with
  | true =>
   obtain ⟨u,hs,rfl,h⟩:=h
   exact ⟨u,hs,rfl,h.mono hF fun v hv b hb=>hu b ((bM h.one).2 ⟨v,hv,hb⟩)⟩
  | false=>exact HdrW.mono (e:=.slice σ) hF hu h
 | _=>exact HdrW.mono hF hu h
theorem OwnRd.len {w : World} {F : Nat→Prop} {d : Bool} : ∀ {τ : Ty} {cs : List Value} {x : τ.den},OwnRd w F d τ cs x→cs.length=τ.size
 | .prod a b,_,_,h=>by obtain ⟨c1,c2,rfl,h1,h2⟩:=h; simp [Ty.size,h1.len,h2.len]
 | .unit,_,_,h=>by unfold OwnRd at h; subst h; rfl
 | .slice _,_,_,h=>by obtain ⟨u,rfl,_⟩:=h; rfl
 | .int _,_,_,h=>Rd.len h
 | .bool,_,_,h=>Rd.len h
 | .str,_,_,h=>Rd.len h
 | .arr _ _,_,_,h=>h.elim
 | .ptr _,_,_,h=>h.elim
 | .clo _ _,_,_,h=>h.elim
theorem di {w : World} {F : Nat→Prop} {τ : Ty} {cs : List Value} {x : τ.den} (h : Rd w F τ cs x) : cs.map eT=cs:=Ae h.one
theorem OwnRd.one {w : World} {F : Nat→Prop} {d : Bool} : ∀ {τ : Ty} {cs : List Value} {x : τ.den},OwnRd w F d τ cs x→∀ u∈cs.map eT,u.oneCell'=true
 | .prod a b,_,_,h=>by
  obtain ⟨c1,c2,rfl,h1,h2⟩:=h
  intro u hu
  rw [List.map_append] at hu
  rcases List.mem_append.1 hu with hu | hu
  ·exact h1.one u hu
  ·exact h2.one u hu
 | .unit,_,_,h=>by unfold OwnRd at h; subst h; simp
 | .slice _,_,_,h=>by
  obtain ⟨u,rfl,h⟩:=h
  intro u' hu
  simp only [List.map_cons,List.map_nil,List.mem_singleton] at hu
  subst hu
  exact zq h
 | .int k,cs,_,h=>by rw [di (τ:=.int k) h]; exact Rd.one h
 | .bool,cs,_,h=>by rw [di (τ:=.bool) h]; exact Rd.one h
 | .str,cs,_,h=>by rw [di (τ:=.str) h]; exact Rd.one h
 | .arr _ _,_,_,h=>h.elim
 | .ptr _,_,_,h=>h.elim
 | .clo _ _,_,_,h=>h.elim
theorem OwnRd.mono {w w' : World} {F F' : Nat→Prop} {d : Bool} (hF : ∀ b,F b→F' b∧w'.heap[b]?=w.heap[b]?) : ∀ {τ : Ty} {cs : List Value} {x : τ.den},(∀ u∈aE τ cs,∀ b,HB u b→w'.heap[b]?=w.heap[b]?)→OwnRd w F d τ cs x→OwnRd w' F' d τ cs x
 | .prod a b,_,_,hu,h=>by
  obtain ⟨c1,c2,rfl,h1,h2⟩:=h
  simp only [aE,← h1.len,List.take_left,List.drop_left] at hu
  exact ⟨c1,c2,rfl,h1.mono hF fun u hu'=>hu u (by simp [hu']),h2.mono hF fun u hu'=>hu u (by simp [hu'])⟩
 | .unit,_,_,_,h=>h
 | .slice _,_,_,hu,h=>by
  obtain ⟨u,rfl,h⟩:=h
  exact ⟨u,rfl,wq hF (hu u (by simp [aE])) h⟩
 | .int _,_,_,_,h=>Rd.mono hF h
 | .bool,_,_,_,h=>Rd.mono hF h
 | .str,_,_,_,h=>Rd.mono hF h
 | .arr _ _,_,_,_,h=>h.elim
 | .ptr _,_,_,_,h=>h.elim
 | .clo _ _,_,_,_,h=>h.elim
theorem rI {u u' : Value} {m' : Mem} {i : Nat} {o' : Obj} (h1 : m'.w=m.w) (h2 : m'.F=m.F) (h3 : m'.G=(i,o') :: m.G) (h4 : m'.ι=(fun k=>if k=i then u else m.ι k)) (hf : er w0 M m u')
  (ha : ∀ b,HB u' b→¬ HB u b) : er w0 M m' u':=by
 intro b hb
 obtain ⟨k1,k2,k3,k4⟩:=hf b hb
 refine ⟨k1,by rw [h2]; exact k2,by rw [h1]; exact k3,fun id o ho hob=>?_⟩
 rw [h3,Heap.get_cons] at ho
 rw [h4]
 dsimp only
 split at ho
 ·rename_i e0
  rw [if_pos e0.symm]
  exact ha b hb
 ·rename_i hne
  rw [if_neg (Ne.symm hne)]
  exact k4 id o ho hob
theorem m4 {d : Bool} : ∀ {τ : Ty} {x : τ.den} {site : Nat} {c : List Atom} {cs : List Value} {m : Mem} {G' : Heap},Inv C w0 M m→aL d τ x site m.G=some (c,G')→OwnRd m.w m.F d τ cs x →
  dc (aE τ cs)→(∀ u∈aE τ cs,er w0 M m u) →
  ∃ m',m'.w=m.w∧m'.F=m.F∧m'.G=G'∧Inv C w0 M m'∧Evo m m'∧Rel2 (ah m') (cs.map eT) c∧∀ u',er w0 M m u'→(∀ b,HB u' b→¬ fj (aE τ cs) b)→er w0 M m' u'
 | .prod a b,x,site,c,cs,m,G',hi,h,hr,hp,hf=>by
  obtain ⟨c1,c2,rfl,h1,h2⟩:=hr
  simp only [aE,← h1.len,List.take_left,List.drop_left] at hp hf ⊢
  obtain ⟨hp1,hp2,hp3⟩:=List.pairwise_append.1 hp
  simp only [aL] at h
  split at h
  ·rename_i p hp0
   split at h
   ·rename_i q hq0
    simp only [Option.some.injEq,Prod.mk.injEq] at h
    obtain ⟨rfl,rfl⟩:=h
    obtain ⟨m1,a1,a2,a3,a4,a5,a6,a7⟩:=m4 (G':=p.2) hi hp0 h1 hp1 (fun u hu=>hf u (by simp [hu]))
    have free2 : ∀ u∈aE b c2,er w0 M m1 u:=fun u hu=>a7 u (hf u (by simp [hu])) (by
     rintro bl hbl ⟨u',hu',hbl'⟩
     exact hp3 u' hu' u hu bl hbl' hbl)
    obtain ⟨m2,b1,b2,b3,b4,b5,b6,b7⟩:=m4 (G':=q.2) a4 (by rw [a3]; exact hq0) (by rw [a1,a2]; exact h2) hp2 free2
    refine ⟨m2,b1.trans a1,b2.trans a2,b3,b4,a5.trans b5,by rw [List.map_append]; exact (dA b5 a6).append b6,fun u' hu' hn=>b7 u' (a7 u' hu' ?_) ?_⟩
    ·rintro bl hbl ⟨u,hu,hbl'⟩
     exact hn bl hbl ⟨u,by simp [hu],hbl'⟩
    ·rintro bl hbl ⟨u,hu,hbl'⟩
     exact hn bl hbl ⟨u,by simp [hu],hbl'⟩
   ·simp at h
  ·simp at h
 | .unit,x,site,c,cs,m,G',hi,h,hr,hp,hf=>by
  simp only [aL,Option.some.injEq,Prod.mk.injEq] at h
  obtain ⟨rfl,rfl⟩:=h
  unfold OwnRd at hr
  subst hr
  exact ⟨m,rfl,rfl,rfl,hi,Evo.refl m,trivial,fun _ h _=>h⟩
 | .slice e,x,site,c,cs,m,G',hi,h,hr,hp,hf=>by
  simp only [aL] at h
  cases hh : m.G.has (aW 8 m.G site) with
  | true=>rw [hh] at h; simp at h
  | false =>
   rw [hh] at h
   simp only [cond_false,Option.some.injEq,Prod.mk.injEq] at h
   obtain ⟨rfl,rfl⟩:=h
   obtain ⟨u,rfl,hu⟩:=hr
   have hfu:=hf u (by simp [aE])
   rcases nm hu with ⟨e1,e2,hu⟩ | ⟨σ,y,rfl,_,e1,e2,u',hs,rfl,hd⟩
   ·obtain ⟨m',a1,a2,a3,a4,a5,a6,a7⟩:=Hd hi (jC hh) hu hfu
    rw [e1,e2]
    exact ⟨m',a1,a2,a3,a5,a6,⟨by rw [jO (cW hu)]; exact a7,trivial⟩,fun u' hu' hn=>rI a1 a2 a3 a4 hu' (fun b hb hb'=>hn b hb ⟨u,by simp [aE],hb'⟩)⟩
   ·obtain ⟨m',a1,a2,a3,a4,a5,a6,a7⟩:=iv hi (jC hh) hd (fun v hv b hb=>hfu b ((bM hd.one).2 ⟨v,hv,hb⟩))
    rw [e1,e2]
    exact ⟨m',a1,a2,a3,a5,a6,⟨a7,trivial⟩,fun u2 hu2 hn=>rI a1 a2 a3 a4 hu2 (fun b hb hb'=>hn b hb ⟨_,by simp [aE],hb'⟩)⟩
 | .int k,x,site,c,cs,m,G',hi,h,hr,hp,hf=>by
  simp only [aL,Option.some.injEq,Prod.mk.injEq] at h
  obtain ⟨rfl,rfl⟩:=h
  exact ⟨m,rfl,rfl,rfl,hi,Evo.refl m,by rw [di (τ:=.int k) hr]; exact bP (τ:=.int k) hr,fun _ h _=>h⟩
 | .bool,x,site,c,cs,m,G',hi,h,hr,hp,hf=>by
  simp only [aL,Option.some.injEq,Prod.mk.injEq] at h
  obtain ⟨rfl,rfl⟩:=h
  exact ⟨m,rfl,rfl,rfl,hi,Evo.refl m,by rw [di (τ:=.bool) hr]; exact bP (τ:=.bool) hr,fun _ h _=>h⟩
 | .str,x,site,c,cs,m,G',hi,h,hr,hp,hf=>by
  simp only [aL,Option.some.injEq,Prod.mk.injEq] at h
  obtain ⟨rfl,rfl⟩:=h
  exact ⟨m,rfl,rfl,rfl,hi,Evo.refl m,by rw [di (τ:=.str) hr]; exact bP (τ:=.str) hr,fun _ h _=>h⟩
 | .arr _ _,_,_,_,_,_,_,_,_,h,_,_=>h.elim
 | .ptr _,_,_,_,_,_,_,_,_,h,_,_=>h.elim
 | .clo _ _,_,_,_,_,_,_,_,_,h,_,_=>h.elim
theorem zK {τ : Ty} {cs : List Value} {c : List Atom} {v : Value} (hl : cs.length=τ.size) (h1 : ∀ u∈cs,u.oneCell'=true) (hr : Rel2 (ah m) cs c) (hv : v=toV τ cs) : eO m v (τ.isAgg,c):=by
 subst hv
 unfold eO
 cases ha : τ.isAgg with
 | true=>exact ⟨cs,by simp [toV,ha],h1,hr⟩
 | false =>
  have hs:=dk ha
  rw [hs] at hl
  obtain ⟨u,rfl⟩:=List.length_eq_one_iff.1 hl
  have hc:=hr.length
  obtain ⟨b,rfl⟩:=List.length_eq_one_iff.1 (hc.symm.trans rfl)
  exact ⟨b,rfl,by simpa [toV,ha] using hr.1⟩
theorem kp {d : Bool} : ∀ {outs : List (Bool×Ty)} {x : (aA (outs.map (·.2))).den} {site : Nat} {q : List (Bool×List Atom)} {css : List (List Value)} {m : Mem} {G' : Heap},Inv C w0 M m→c8 d outs x site m.G=some (q,G')→OutsRd m.w m.F d outs css x →
  dc (dO outs css)→(∀ u∈dO outs css,er w0 M m u) →
  ∃ m',m'.w=m.w∧m'.F=m.F∧m'.G=G'∧Inv C w0 M m'∧Evo m m'∧Rel2 (eO m') (ia outs css) q
 | [],x,site,q,css,m,G',hi,h,hr,hp,hf=>by
  simp only [c8,Option.some.injEq,Prod.mk.injEq] at h
  obtain ⟨rfl,rfl⟩:=h
  exact ⟨m,rfl,rfl,rfl,hi,Evo.refl m,by cases css <;> trivial⟩
 | _ :: _,_,_,_,[],_,_,_,_,h,_,_=>h.elim
 | (b,τ) :: r,x,site,q,cs :: css,m,G',hi,h,hr,hp,hf=>by
  obtain ⟨hr1,hr2⟩:=hr
  simp only [c8] at h
  simp only [dO] at hp hf
  obtain ⟨hp1,hp2,hp3⟩:=List.pairwise_append.1 hp
  have fin {m1 : Mem} {c : List Atom} (a1 : m1.w=m.w) (a2 : m1.F=m.F) (a4 : Inv C w0 M m1) (a5 : Evo m m1) (a6 : Rel2 (ah m1) (cond b (cs.map eT) cs) c) (hone : ∀ u∈cond b (cs.map eT) cs,u.oneCell'=true) (hlen : (cond b (cs.map eT) cs).length=τ.size)
    (a7 : ∀ u∈dO r css,er w0 M m1 u) {q2 : List (Bool×List Atom)×Heap} (hq : c8 d r x.2 site m1.G=some q2) (hqq : q=(τ.isAgg,c) :: q2.1) (hG : G'=q2.2) :
    ∃ m',m'.w=m.w∧m'.F=m.F∧m'.G=G'∧Inv C w0 M m'∧Evo m m'∧Rel2 (eO m') (ia ((b,τ) :: r) (cs :: css)) q:=by
   subst hqq
   subst hG
   obtain ⟨m2,b1,b2,b3,b4,b5,b6⟩:=kp (G':=q2.2) (q:=q2.1) a4 hq (by rw [a1,a2]; exact hr2) hp2 a7
   exact ⟨m2,b1.trans a1,b2.trans a2,b3,b4,a5.trans b5,zK hlen hone (dA b5 a6) rfl,b6⟩
  cases b with
  | true =>
   simp only [cond_true] at h hr1 hp1 hp3 hf
   split at h
   ·rename_i c hc
    split at h
    ·rename_i q2 hq2
     simp only [Option.some.injEq,Prod.mk.injEq] at h
     obtain ⟨rfl,rfl⟩:=h
     obtain ⟨m1,a1,a2,a3,a4,a5,a6,a7⟩:=m4 (G':=c.2) hi hc hr1 hp1 (fun u hu=>hf u (by simp [hu]))
     refine fin a1 a2 a4 a5 a6 hr1.one (by simpa using hr1.len) (fun u hu=>a7 u (hf u (by simp [hu])) ?_) (by rw [a3]; exact hq2) rfl rfl
     rintro bl hbl ⟨u',hu',hbl'⟩
     exact hp3 u' hu' u hu bl hbl' hbl
    ·simp at h
   ·simp at h
  | false =>
   simp only [cond_false] at h hr1 hf
   split at h
   ·rename_i q2 hq2
    simp only [Option.some.injEq,Prod.mk.injEq] at h
    obtain ⟨rfl,rfl⟩:=h
    exact fin rfl rfl hi (Evo.refl m) (bP hr1) hr1.one hr1.len (fun u hu=>hf u (by simp [hu])) hq2 rfl rfl
   ·simp at h
theorem EA : ∀ {us : List Value} {q : List (Bool×List Atom)} (h : Rel2 (eO m) us q),RelSV m (gk us) (tW q)
 | [],[],h=>⟨[],rfl,trivial⟩
 | [],_ :: _,h=>h.elim
 | _ :: _,[],h=>h.elim
 | [_],_ :: _ :: _,h=>h.2.elim
 | _ :: _ :: _,[_],h=>h.2.elim
 | u1 :: u2 :: us,q1 :: q2 :: q,h=>by
  have e : tW (q1 :: q2 :: q)=.tup (q1 :: q2 :: q):=by
   unfold tW; split
   ·rename_i e; cases e
   ·rename_i e; cases e
   ·rfl
  rw [e]
  exact ⟨u1 :: u2 :: us,rfl,h⟩
 | [u],[(true,c)],h=>by
  have:=h.1
  simp only [eO,cond_true] at this
  exact this
 | [u],[(false,l)],h=>by
  have:=h.1
  simp only [eO,cond_false] at this
  obtain ⟨a,h1,h2⟩:=this
  subst h1
  exact RelSV.of_atom h2
end
end Go.Vm

