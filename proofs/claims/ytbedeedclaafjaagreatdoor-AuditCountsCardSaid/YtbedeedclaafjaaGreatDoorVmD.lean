/-
 A machine on typed values, small enough to be reckoned by the kernel, and the proof that it goes with the model: part 4 of 4. What it computes for a function is that function's contract. No condition of its own.
-/
import Derived.Test.YtbedeedclaafjaaGreatDoorVmC
import Derived.ChangeKeysEq
import Derived.Lib.LaidTab
import Derived.WideKeyArgs
import Derived.ChangeSame
import Derived.RowKit
import Derived.Test.YtbedeedclaafjaaGreatDoorVmA
import Derived.IntWalk
import Derived.Laws.Strings
set_option linter.unusedVariables false
set_option linter.unusedSimpArgs false
/-
 Equality of structs.
-/
namespace Go.Vm
def Ty.deep : Ty→Nat
 | .prod a b=>max (a.deep+1) b.deep
 | .arr _ e=>e.deep+1
 | _=>1
def Ty.Within (d : Nat) : Ty→Prop
 | .prod a b=>a.deep≤d∧b.deep≤d+1
 | _=>True
def dI (P : Program) : Ty→Option (List Field×Nat)→TypeId→Bool
 | .int _,none,_=>true
 | .bool,none,_=>true
 | .str,none,_=>true
 | .prod a b,none,t=>!(P.stoodInHeld t) && (match P.underlying t with
  | some (.struct fs)=>(match fs.toList with
   | f :: r => (f.name != "_") && dI P a none f.type && dI P b (some (r, a.size)) 0
   | []=>false)
  | _=>false)
 | .unit,none,t=>!(P.stoodInHeld t)
 | .arr _ e,none,t=>(match P.underlying t with
  | some (.array _ et)=>dI P e none et
  | _=>false)
 | .prod a b, some (f :: r, o), _ => (f.name != "_") && dI P a none f.type && dI P b (some (r, o + a.size)) 0
 | .unit,some ([],_),_=>true
 | _,_,_=>false
def BB (P : Program) (T : Tab) (eqs : List Nat) : Bool:=eqs.all fun t=>match T.get t with
 | some τ=>dI P τ none t && Nat.ble τ.deep 9000 && !(P.eqGuardType P.depth t)
 | none=>true
section
variable {P : Program}
theorem gR {τ : Ty} {t : TypeId} (h : chk P τ none t=true) (us : List Value) (o : Nat) (hl : o+τ.size≤us.length) (w : World) :
  (part t us.toArray o).run P w=.ok (toV τ ((us.drop o).take τ.size)) w:=by
 cases ha : τ.isAgg with
 | true=>simp [part,bL h,ha,aJ h,toV,List.drop_take]
 | false =>
  have h1':=dk ha
  have hlt : o < us.length:=by omega
  simp only [part,Sem.run_bind,bL h,ha,Result.andThen_ok,Bool.false_eq_true,if_false,List.getElem?_toArray,List.getElem?_eq_getElem hlt,toV,cond_false,h1',Sem.run_pure]
  rw [List.drop_eq_getElem_cons hlt]; rfl
theorem pP {α : Type} (p c r : List α) : ((p++(c++r)).drop p.length).take c.length=c:=by simp
theorem rz {b : Ty} {d : Nat} (h : b.deep≤d+1) : b.Within d:=by
 cases b <;> simp only [Ty.deep,Ty.Within] at h ⊢
 omega
mutual
theorem xM {w : World} {F : Nat→Prop} : ∀ {τ : Ty} {t : TypeId} {d : Nat} {cs cs' : List Value} {x y : τ.den} {r : Bool},chk P τ none t=true→dI P τ none t=true→τ.deep≤d→eqT τ x y=some r→Rd w F τ cs x→Rd w F τ cs' y →
  ∀ w',(Op.equalIn d t (toV τ cs) (toV τ cs')).run P w'=.ok r w'
 | .int k,t,d,cs,cs',x,y,r,h1,_,h3,h4,h5,h6,w'=>by
  obtain ⟨d,rfl⟩ : ∃ d',d=d'+1:=⟨d - 1,by simp only [Ty.deep] at h3; omega⟩
  obtain ⟨rfl,_⟩:=h5
  obtain ⟨rfl,_⟩:=h6
  simp only [eqT,Option.some.injEq] at h4
  subst h4
  exact run_equalIn_int w' d t k k x y (iw h1)
 | .bool,t,d,cs,cs',x,y,r,h1,_,h3,h4,h5,h6,w'=>by
  obtain ⟨d,rfl⟩ : ∃ d',d=d'+1:=⟨d - 1,by simp only [Ty.deep] at h3; omega⟩
  unfold Rd at h5 h6
  subst h5; subst h6
  simp only [eqT,Option.some.injEq] at h4
  subst h4
  exact run_equalIn_bool' w' d t x y (jH h1)
 | .str,t,d,cs,cs',x,y,r,h1,_,h3,h4,h5,h6,w'=>by
  obtain ⟨d,rfl⟩ : ∃ d',d=d'+1:=⟨d - 1,by simp only [Ty.deep] at h3; omega⟩
  obtain ⟨rfl,_⟩:=h5
  obtain ⟨rfl,_⟩:=h6
  simp only [eqT,Option.some.injEq] at h4
  subst h4
  exact run_equalIn_string w' d t x y (dX h1)
 | .prod a b,t,d,cs,cs',x,y,r,h1,h2,h3,h4,h5,h6,w'=>by
  simp only [dI,Bool.and_eq_true,Bool.not_eq_true'] at h2
  obtain ⟨hp,h2⟩:=h2
  simp only [chk,Bool.and_eq_true] at h1
  obtain ⟨_,h1⟩:=h1
  split at h2
  ·rename_i fs hu
   rw [hu] at h1
   simp only at h1
   split at h2
   ·rename_i f rest hfs
    rw [hfs] at h1
    simp only [Bool.and_eq_true] at h1 h2
    obtain ⟨⟨c1,c2⟩,c3⟩:=h1
    obtain ⟨⟨e1,e2⟩,e3⟩:=h2
    obtain ⟨d,rfl⟩ : ∃ d',d=d'+1:=⟨d - 1,by simp only [Ty.deep] at h3; omega⟩
    have hfo : P.fieldsOf t=fs:=by unfold Program.fieldsOf; rw [hu]
    show (Op.equalIn (d+1) t (.agg cs.toArray) (.agg cs'.toArray)).run P w'=_
    rw [run_equalIn_struct w' d t cs.toArray cs'.toArray (by rw [hfo]; exact hu) hp,hfo,hfs]
    have:=rh (τ:=.prod a b) (fs:=f :: rest) (o:=0) (d:=d) (pre:=[]) (pre':=[]) (suf:=[]) (suf':=[]) (by simp [chk,c1,c2]; simpa using c3) (by simp only [dI,Bool.and_eq_true]; exact ⟨⟨e1,e2⟩,by simpa using e3⟩) (by
     simp only [Ty.deep] at h3
     exact ⟨by omega,by omega⟩) h4 h5 h6 rfl rfl w'
    simpa using this
   ·simp at h2
  ·simp at h2
 | .unit,t,d,cs,cs',x,y,r,h1,h2,h3,h4,h5,h6,w'=>by
  simp only [dI,Bool.not_eq_true'] at h2
  simp only [chk,Bool.and_eq_true] at h1
  obtain ⟨_,h1⟩:=h1
  split at h1
  ·rename_i fs hu
   split at h1
   ·rename_i hfs
    obtain ⟨d,rfl⟩ : ∃ d',d=d'+1:=⟨d - 1,by simp only [Ty.deep] at h3; omega⟩
    have hfo : P.fieldsOf t=fs:=by unfold Program.fieldsOf; rw [hu]
    show (Op.equalIn (d+1) t (.agg cs.toArray) (.agg cs'.toArray)).run P w'=_
    rw [run_equalIn_struct w' d t cs.toArray cs'.toArray (by rw [hfo]; exact hu) h2,hfo,hfs]
    simp only [eqT,Option.some.injEq] at h4
    subst h4
    simp [Op.eqFields]
   ·simp at h1
  ·simp at h1
 | .slice _,_,_,_,_,_,_,_,_,_,_,h4,_,_,_=>by simp [eqT] at h4
 | .arr n e,t,d,cs,cs',x,y,r,h1,h2,h3,h4,h5,h6,w'=>by
  obtain ⟨d,rfl⟩ : ∃ d',d=d'+1:=⟨d - 1,by simp only [Ty.deep] at h3; omega⟩
  simp only [Ty.deep] at h3
  obtain ⟨et,hu,he⟩:=li h1
  simp only [dI,hu] at h2
  obtain ⟨ie,ze,s1,s2,_⟩:=db he
  obtain ⟨l1,l2,l3⟩:=h5
  obtain ⟨k1,k2,k3⟩:=h6
  have hc : P.cellsOf et=e.size:=by unfold Program.cellsOf; rw [s1]; simpa using s2
  show (Op.equalIn (d+1) t (.agg cs.toArray) (.agg cs'.toArray)).run P w'=_
  rw [run_equalIn_array w' d cs.toArray cs'.toArray hu s1,hc]
  have items : ∀ (q q' : List e.den) (i : Nat) (r : Bool),wJ (eqT e) q q'=some r→i+q.length=n→i+q'.length=n→(∀ j (hj : j < q.length),Rd w F e ((cs.drop ((i+j) * e.size)).take e.size) q[j])→(∀ j (hj : j < q'.length),Rd w F e ((cs'.drop ((i+j) * e.size)).take e.size) q'[j]) →
    (Op.eqItems d et e.size cs.toArray cs'.toArray (List.range' i q.length)).run P w'=.ok r w':=by
   intro q
   induction q with
   | nil =>
    intro q' i r hr hq hq' _ _
    cases q' with
    | nil=>simp only [wJ,Option.some.injEq] at hr; subst hr; simp [Op.eqItems]
    | cons b q'=>simp [wJ] at hr
   | cons a q ih =>
    intro q' i r hr hq hq' hR hR'
    cases q' with
    | nil=>simp [wJ] at hr
    | cons b q' =>
     simp only [List.length_cons] at hq hq'
     have hle : (i+1) * e.size≤n * e.size:=Nat.mul_le_mul_right _ (by omega)
     rw [Nat.add_mul,Nat.one_mul] at hle
     have p1:=gR he cs (i * e.size) (by omega) w'
     have p2:=gR he cs' (i * e.size) (by omega) w'
     simp only [wJ] at hr
     split at hr
     ·rename_i p hp
      split at hr
      ·rename_i q2 hq2
       cases hr
       have ra:=hR 0 (by simp)
       have rb:=hR' 0 (by simp)
       simp only [Nat.add_zero,List.getElem_cons_zero] at ra rb
       have ha:=xM (d:=d) he h2 (by omega) hp ra rb w'
       rw [List.length_cons,List.range'_succ]
       simp only [Op.eqItems,Sem.run_bind,p1,p2,Result.andThen_ok,ha]
       cases p with
       | false=>simp
       | true =>
        simp only [Bool.not_true,Bool.false_eq_true,if_false,Bool.true_and]
        exact ih q' (i+1) q2 hq2 (by omega) (by omega) (fun j hj=>by
         have:=hR (j+1) (by simp; omega)
         rw [show i+(j+1)=i+1+j by omega] at this
         simpa using this) (fun j hj=>by
         have:=hR' (j+1) (by simp; omega)
         rw [show i+(j+1)=i+1+j by omega] at this
         simpa using this)
      ·simp at hr
     ·simp at hr
  have:=items x y 0 r h4 (by omega) (by omega) (fun j hj=>by rw [Nat.zero_add]; exact l3 j hj) (fun j hj=>by rw [Nat.zero_add]; exact k3 j hj)
  rw [l1] at this
  rw [List.range_eq_range']
  exact this
 | .ptr _,_,_,_,_,_,_,_,_,_,_,h4,_,_,_=>by simp [eqT] at h4
 | .clo _ _,_,_,_,_,_,_,_,_,_,_,h4,_,_,_=>by simp [eqT] at h4
theorem rh {w : World} {F : Nat→Prop} : ∀ {τ : Ty} {fs : List Field} {o d : Nat} {cs cs' pre pre' suf suf' : List Value} {x y : τ.den} {r : Bool},chk P τ (some (fs,o)) 0=true→dI P τ (some (fs,o)) 0=true →
  τ.Within d→eqT τ x y=some r→Rd w F τ cs x→Rd w F τ cs' y→pre.length=o→pre'.length=o →
  ∀ w',(Op.eqFields d (pre++(cs++suf)).toArray (pre'++(cs'++suf')).toArray fs).run P w'=.ok r w'
 | .prod a b,f :: rest,o,d,cs,cs',pre,pre',suf,suf',x,y,r,h1,h2,h3,h4,h5,h6,hp,hp',w'=>by
  simp only [chk,Bool.and_eq_true] at h1
  simp only [dI,Bool.and_eq_true,bne_iff_ne,ne_eq] at h2
  obtain ⟨⟨c1,c2⟩,c3⟩:=h1
  obtain ⟨⟨e1,e2⟩,e3⟩:=h2
  have hoff : f.offset=o:=Nat.eq_of_beq_eq_true c1
  obtain ⟨u1,u2,rfl,hu1,hu2⟩:=h5
  obtain ⟨v1,v2,rfl,hv1,hv2⟩:=h6
  have lu:=hu1.len
  have lv:=hv1.len
  have p1 : (part f.type (pre++((u1++u2)++suf)).toArray f.offset).run P w'=.ok (toV a u1) w':=by
   rw [gR c2 _ _ (by simp; omega),hoff,← hp,← lu,List.append_assoc u1,pP]
  have p2 : (part f.type (pre'++((v1++v2)++suf')).toArray f.offset).run P w'=.ok (toV a v1) w':=by
   rw [gR c2 _ _ (by simp; omega),hoff,← hp',← lv,List.append_assoc v1,pP]
  simp only [eqT] at h4
  split at h4
  ·rename_i p hpp
   split at h4
   ·rename_i q hq
    cases h4
    have ha:=xM c2 e2 h3.1 hpp hu1 hv1 w'
    simp only [Op.eqFields,e1,not_false_eq_true,if_true,ne_eq,Sem.run_bind,p1,p2,Result.andThen_ok,ha]
    cases p with
    | false=>simp
    | true =>
     simp only [Bool.not_true,Bool.false_eq_true,if_false,Bool.true_and]
     have hb3 : b.Within d:=rz h3.2
     have:=rh (τ:=b) (fs:=rest) (o:=o+a.size) (d:=d) (pre:=pre++u1) (pre':=pre'++v1) (suf:=suf) (suf':=suf') c3 e3 hb3 hq hu2 hv2 (by simp; omega) (by simp; omega) w'
     simpa using this
   ·simp at h4
  ·simp at h4
 | .prod a b,[],_,_,_,_,_,_,_,_,_,_,_,h1,_,_,_,_,_,_,_,_=>by simp [chk] at h1
 | .unit,[],o,d,cs,cs',pre,pre',suf,suf',x,y,r,h1,h2,h3,h4,h5,h6,hp,hp',w'=>by
  simp only [eqT,Option.some.injEq] at h4
  subst h4
  simp [Op.eqFields]
 | .unit,_ :: _,_,_,_,_,_,_,_,_,_,_,_,h1,_,_,_,_,_,_,_,_=>by simp [chk] at h1
 | .int _,_,_,_,_,_,_,_,_,_,_,_,_,h1,_,_,_,_,_,_,_,_=>by simp [chk] at h1
 | .bool,_,_,_,_,_,_,_,_,_,_,_,_,h1,_,_,_,_,_,_,_,_=>by simp [chk] at h1
 | .str,_,_,_,_,_,_,_,_,_,_,_,_,h1,_,_,_,_,_,_,_,_=>by simp [chk] at h1
 | .slice _,_,_,_,_,_,_,_,_,_,_,_,_,h1,_,_,_,_,_,_,_,_=>by simp [chk] at h1
 | .arr _ _,_,_,_,_,_,_,_,_,_,_,_,_,h1,_,_,_,_,_,_,_,_=>by simp [chk] at h1
 | .ptr _,_,_,_,_,_,_,_,_,_,_,_,_,h1,_,_,_,_,_,_,_,_=>by simp [chk] at h1
 | .clo _ _,_,_,_,_,_,_,_,_,_,_,_,_,h1,_,_,_,_,_,_,_,_=>by simp [chk] at h1
end
theorem FE {C : Ctx} (hT : cp P C.tab=true) (h : BB P C.tab C.eqs=true) : Ei P C:=by
 intro t τ ht ha hin w F cs cs' x y r hr h1 h2
 rw [List.any_eq_true] at hin
 obtain ⟨e,he,hee⟩:=hin
 have : e=t:=Nat.eq_of_beq_eq_true hee
 subst this
 unfold BB at h
 rw [List.all_eq_true] at h
 have:=h e he
 rw [ht] at this
 simp only [Bool.and_eq_true,Bool.not_eq_true'] at this
 obtain ⟨⟨c1,c2⟩,c3⟩:=this
 refine ⟨fun w'=>?_,fun op p q w'=>?_⟩
 ·show (Op.equalIn Op.maxDepth e _ _).run P w'=_
  exact xM (ac hT ht) c1 (by have:=Nat.le_of_ble_eq_true c2; show τ.deep≤10000; omega) hr h1 h2 w'
 ·have e1 : toV τ cs=.agg cs.toArray:=by simp [toV,ha]
  have e2 : toV τ cs'=.agg cs'.toArray:=by simp [toV,ha]
  rw [e1,e2]
  exact run_eqGuard_agg w' op e p q _ _ c3
end
end Go.Vm

/-
 Maps: what is asked of their types, checked once.
-/
namespace Go.Vm
section
variable {P : Program}
mutual
theorem Ci {w : World} {F : Nat→Prop} (em : Bool) : ∀ {τ : Ty} {t : TypeId} {d : Nat} {cs : List Value} {x : τ.den},chk P τ none t=true→dI P τ none t=true→τ.plain=true→τ.deep≤d→Rd w F τ cs x →
  ∀ w',(Instr.checkKey em d t (toV τ cs)).run P w'=.ok () w'
 | .int k,t,d,cs,x,h1,_,_,h3,h5,w'=>by
  obtain ⟨d,rfl⟩ : ∃ d',d=d'+1:=⟨d - 1,by simp only [Ty.deep] at h3; omega⟩
  obtain ⟨rfl,_⟩:=h5
  simp [Instr.checkKey,run_underlying (iw h1),toV,Ty.isAgg]
 | .bool,t,d,cs,x,h1,_,_,h3,h5,w'=>by
  obtain ⟨d,rfl⟩ : ∃ d',d=d'+1:=⟨d - 1,by simp only [Ty.deep] at h3; omega⟩
  unfold Rd at h5
  subst h5
  simp [Instr.checkKey,run_underlying (jH h1),toV,Ty.isAgg]
 | .str,t,d,cs,x,h1,_,_,h3,h5,w'=>by
  obtain ⟨d,rfl⟩ : ∃ d',d=d'+1:=⟨d - 1,by simp only [Ty.deep] at h3; omega⟩
  obtain ⟨rfl,_⟩:=h5
  simp [Instr.checkKey,run_underlying (dX h1),toV,Ty.isAgg]
 | .prod a b,t,d,cs,x,h1,h2,hpl,h3,h5,w'=>by
  simp only [dI,Bool.and_eq_true,Bool.not_eq_true'] at h2
  obtain ⟨hp,h2⟩:=h2
  simp only [chk,Bool.and_eq_true] at h1
  obtain ⟨_,h1⟩:=h1
  split at h2
  ·rename_i fs hu
   rw [hu] at h1
   simp only at h1
   split at h2
   ·rename_i f rest hfs
    rw [hfs] at h1
    simp only [Bool.and_eq_true] at h1 h2
    obtain ⟨⟨c1,c2⟩,c3⟩:=h1
    obtain ⟨⟨e1,e2⟩,e3⟩:=h2
    obtain ⟨d,rfl⟩ : ∃ d',d=d'+1:=⟨d - 1,by simp only [Ty.deep] at h3; omega⟩
    have:=pK (F:=F) (w:=w) em (τ:=.prod a b) (fs:=f :: rest) (o:=0) (d:=d) (cs:=cs) (x:=x) (pre:=[]) (suf:=[]) (by simp [chk,c1,c2]; simpa using c3) (by simp only [dI,Bool.and_eq_true]; exact ⟨⟨e1,e2⟩,by simpa using e3⟩) hpl (by
     simp only [Ty.deep] at h3
     exact ⟨by omega,by omega⟩) h5 rfl w'
    simp only [List.nil_append,List.append_nil] at this
    simp only [toV,Ty.isAgg,cond_true,Instr.checkKey,Sem.run_bind,run_underlying hu,Result.andThen_ok]
    rw [← Array.forIn_toList,hfs]
    rw [this]
    rfl
   ·simp at h2
  ·simp at h2
 | .unit,t,d,cs,x,h1,h2,_,h3,h5,w'=>by
  simp only [chk,Bool.and_eq_true] at h1
  obtain ⟨_,h1⟩:=h1
  split at h1
  ·rename_i fs hu
   split at h1
   ·rename_i hfs
    obtain ⟨d,rfl⟩ : ∃ d',d=d'+1:=⟨d - 1,by simp only [Ty.deep] at h3; omega⟩
    simp only [toV,Ty.isAgg,cond_true,Instr.checkKey,Sem.run_bind,run_underlying hu,Result.andThen_ok]
    rw [← Array.forIn_toList,hfs]
    simp
   ·simp at h1
  ·simp at h1
 | .slice _,_,_,_,_,_,_,h,_,_,_=>by cases h
 | .arr _ _,_,_,_,_,_,_,h,_,_,_=>by cases h
 | .ptr _,_,_,_,_,_,_,h,_,_,_=>by cases h
 | .clo _ _,_,_,_,_,_,_,h,_,_,_=>by cases h
theorem pK {w : World} {F : Nat→Prop} (em : Bool) : ∀ {τ : Ty} {fs : List Field} {o d : Nat} {cs pre suf : List Value} {x : τ.den},chk P τ (some (fs,o)) 0=true→dI P τ (some (fs,o)) 0=true→τ.plain=true →
  τ.Within d→Rd w F τ cs x→pre.length=o →
  ∀ w',(forIn (m:=Sem) fs PUnit.unit fun f (_ : PUnit)=>(do
   if f.name ≠ "_" then Instr.checkKey em d f.type (← part f.type (pre ++ (cs ++ suf)).toArray f.offset)
   pure (ForInStep.yield PUnit.unit))).run P w'=.ok PUnit.unit w'
 | .prod a b,f :: rest,o,d,cs,pre,suf,x,h1,h2,hpl,h3,h5,hp,w'=>by
  simp only [chk,Bool.and_eq_true] at h1
  simp only [dI,Bool.and_eq_true,bne_iff_ne,ne_eq] at h2
  simp only [Ty.plain,Bool.and_eq_true] at hpl
  obtain ⟨⟨c1,c2⟩,c3⟩:=h1
  obtain ⟨⟨e1,e2⟩,e3⟩:=h2
  have hoff : f.offset=o:=Nat.eq_of_beq_eq_true c1
  obtain ⟨u1,u2,rfl,hu1,hu2⟩:=h5
  have lu:=hu1.len
  have p1 : (part f.type (pre++((u1++u2)++suf)).toArray f.offset).run P w'=.ok (toV a u1) w':=by
   rw [gR c2 _ _ (by simp; omega),hoff,← hp,← lu,List.append_assoc u1,pP]
  have ha:=Ci em c2 e2 hpl.1 h3.1 hu1 w'
  have hb3 : b.Within d:=rz h3.2
  have:=pK em (τ:=b) (fs:=rest) (o:=o+a.size) (d:=d) (pre:=pre++u1) (suf:=suf) c3 e3 hpl.2 hb3 hu2 (by simp; omega) w'
  simp only [List.forIn_cons,Sem.run_bind,e1,ne_eq,not_false_eq_true,if_true,Result.andThen_ok,p1,ha,Sem.run_pure]
  simpa using this
 | .prod a b,[],_,_,_,_,_,_,h1,_,_,_,_,_,_=>by simp [chk] at h1
 | .unit,[],o,d,cs,pre,suf,x,h1,h2,_,h3,h5,hp,w'=>by simp
 | .unit,_ :: _,_,_,_,_,_,_,h1,_,_,_,_,_,_=>by simp [chk] at h1
 | .int _,_,_,_,_,_,_,_,h1,_,_,_,_,_,_=>by simp [chk] at h1
 | .bool,_,_,_,_,_,_,_,h1,_,_,_,_,_,_=>by simp [chk] at h1
 | .str,_,_,_,_,_,_,_,h1,_,_,_,_,_,_=>by simp [chk] at h1
 | .slice _,_,_,_,_,_,_,_,h1,_,_,_,_,_,_=>by simp [chk] at h1
 | .arr _ _,_,_,_,_,_,_,_,h1,_,_,_,_,_,_=>by simp [chk] at h1
 | .ptr _,_,_,_,_,_,_,_,h1,_,_,_,_,_,_=>by simp [chk] at h1
 | .clo _ _,_,_,_,_,_,_,_,h1,_,_,_,_,_,_=>by simp [chk] at h1
end
theorem mB : ∀ {τ : Ty},τ.plain=true→∀ x y : τ.den,eqT τ x y=some (eqK τ x y)
 | .int _,_,_,_=>rfl
 | .bool,_,_,_=>rfl
 | .str,_,_,_=>rfl
 | .prod a b,h,x,y=>by
  simp only [Ty.plain,Bool.and_eq_true] at h
  have h1:=mB h.1 x.1 y.1
  have h2:=mB h.2 x.2 y.2
  unfold eqK
  simp only [eqT,h1,h2]
 | .unit,_,_,_=>rfl
 | .slice _,h,_,_=>by cases h
 | .arr _ _,h,_,_=>by cases h
 | .ptr _,h,_,_=>by cases h
 | .clo _ _,h,_,_=>by cases h
def Cn (P : Program) (p : Nat×(Ty×Ty)) : Bool:=match P.underlying p.1 with
 | some (.map kt vt)=>chk P p.2.1 none kt && chk P p.2.2 none vt && p.2.1.plain && p.2.2.flat && !(decide (p.2.1=.unit)) && dI P p.2.1 none kt && Nat.ble p.2.1.deep 9000
 | _=>false
def oS (P : Program) (T : List (Nat×(Ty×Ty))) : Bool:=T.all (Cn P)
theorem wG {T : List (Nat×(Ty×Ty))} : ∀ {t : Nat} {p : Ty×Ty},i8 T t=some p→(t,p)∈T:=by
 induction T with
 | nil=>intro t p h; simp [i8] at h
 | cons q r ih =>
  intro t p h
  obtain ⟨i,v⟩:=q
  simp only [i8] at h
  cases hb : Nat.beq i t with
  | true=>rw [hb] at h; simp at h; subst h; rw [Nat.eq_of_beq_eq_true hb]; simp
  | false=>rw [hb] at h; exact List.mem_cons_of_mem _ (ih h)
theorem Ec {C : Ctx} (h : oS P C.maps=true) : rp P C:=by
 intro t k v ht
 unfold oS at h
 rw [List.all_eq_true] at h
 have:=h _ (wG ht)
 unfold Cn at this
 simp only at this
 split at this
 ·rename_i kt vt hu
  simp only [Bool.and_eq_true] at this
  obtain ⟨⟨⟨⟨⟨⟨c1,c2⟩,c3⟩,c4⟩,c0⟩,c5⟩,c6⟩:=this
  have c0 : ¬ k=.unit:=by simpa using c0
  have c6:=Nat.le_of_ble_eq_true c6
  exact ⟨kt,vt,hu,c1,c2,c3,c0,c4,fun w F cs x em hx w'=>Ci em c1 c5 c3 (by omega) hx w',fun w w1 F F1 cs cs' x y hx hy w'=>by
   show (Op.equalIn Op.maxDepth kt _ _).run P w'=_
   exact xM c1 c5 (by show k.deep≤10000; omega) (mB c3 x y) hx (hU (fD c3) hy w F) w'⟩
 ·simp at this
end
end Go.Vm

/-
 A function's contract, from its text and its loops.
-/
namespace Go.Vm
structure LoopPf (C : Ctx) (A : Anns) (body : Code) where
 key : Nat
 ann : Ann
 B : ann.head.ty.den→Option (ann.head.ty.den⊕iZ ann.exits)
 fix : ann.fn=ai B
 R : ∀ x,round C A ann (eE key body) x=B x
theorem C7 {C : Ctx} {A : Anns} {body : Code} (l : List (LoopPf C A body)) (h1 : bO body=l.map fun p=>eE p.key body)
  (h2 : (l.map fun p=>A.get (eb (eE p.key body)))=l.map fun p=>some p.ann) : oi C A (bO body):=by
 intro c hc ann hann x y hy
 rw [h1] at hc
 obtain ⟨p,hp,rfl⟩:=List.mem_map.1 hc
 have h3 : A.get (eb (eE p.key body))=some p.ann:=by
  clear h1 hc
  induction l with
  | nil=>simp at hp
  | cons q l ih =>
   simp only [List.map_cons,List.cons.injEq] at h2
   rcases List.mem_cons.1 hp with rfl | hp
   ·exact h2.1
   ·exact ih h2.2 hp
 rw [h3] at hann
 cases hann
 rw [p.fix] at hy
 have : round C A p.ann (eE p.key body)=p.B:=funext p.R
 rw [this]
 exact cE.1 hy
structure SeatOK (P : Program) (T : Tab) (eqs : List Nat) : Prop where
 tab : cp P T=true
 eqs : BB P T eqs=true
 order : P.follows .mixedOrders=true
theorem SeatOK.ctx {P : Program} {C : Ctx} (h : SeatOK P C.tab C.eqs) (hm : oS P C.maps=true) (hc : ∀ f site c,C.con f site=some c→c.Holds P C.glob f) : CtxOK P C :=
 ⟨h.tab,FE h.tab h.eqs,Ec hm,hc⟩
theorem Cp {d : Bool} {P : Program} {C : Ctx} {A : Anns} {f : FuncId} {fn : Func} {ins : List (Mode×Ty)} {outs : mP} {M : (aA (ins.map (·.2))).den→Option (aA ((outs.map (·.2)).map (·.2)++aQ ins)).den}
  (hS : SeatOK P C.tab C.eqs) (hc : ∀ f site c,C.con f site=some c→c.Holds P C.glob f) (hf : P.funcs[f]?=some fn) (hb : fn.body=some (fF fn))
  (hL : oi C A (bO (fF fn))) (hk : (!(fn.name == "runtime.NumGoroutine") && iG fn.ntmps (fF fn) && sT A ins && rC P outs && oS P C.maps) = true) (hres : fn.results = (outs.map (·.1)).toArray)
  (heq : ∀ x,pw C A (fF fn) ins outs x d=M x) : Con.Holds P C.glob f ⟨ins,outs.map (·.2),M,d⟩:=by
 simp only [Bool.and_eq_true,Bool.not_eq_true'] at hk
 obtain ⟨⟨⟨⟨k1,k2⟩,k3⟩,k4⟩,k5⟩:=hk
 exact As (hS.ctx k5 hc) (s7 hS.order) hf hb k1 hL k2 k3 hres k4 heq
end Go.Vm

/-
 A law's arguments, read as data, are readings of the machine; and the law's statement from the contract of its function.
-/
namespace Go.Vm
open Go.ChangeShapes Go.RowKit
def Ty.good : Ty→Bool
 | .int _=>true
 | .bool=>true
 | .str=>true
 | .slice e=>e.good && Nat.blt 0 e.size
 | .prod a b=>a.good && b.good
 | .unit=>true
 | .arr _ e=>e.good
 | _=>false
def Wf : (τ : Ty)→τ.den→Prop
 | .int k,n=>k.min≤n∧n≤k.max
 | .bool,_=>True
 | .str,s=>s.size≤maxLen
 | .slice e,l=>l.length≤maxLen∧∀ x∈l,Wf e x
 | .prod a b,x=>Wf a x.1∧Wf b x.2
 | .unit,_=>True
 | .arr n e,l=>l.length=n∧∀ x∈l,Wf e x
 | .ptr e,x=>Wf e x
 | .clo _ e,x=>Wf e x
theorem Rd.wf {w : World} {F : Nat→Prop} : ∀ {τ : Ty} {cs : List Value} {x : τ.den},Rd w F τ cs x→Wf τ x
 | .int _,_,_,h=>h.2
 | .bool,_,_,_=>trivial
 | .str,_,_,h=>h.2
 | .slice e,_,l,h=>by
  obtain ⟨a,cap,_,h2,h3,h4⟩:=h
  refine ⟨by omega,fun x hx=>?_⟩
  obtain ⟨i,hi,rfl⟩:=List.getElem_of_mem hx
  obtain ⟨b,off,c,el,fz,_,_,_,_,q5⟩:=h4 (List.ne_nil_of_mem hx)
  exact (q5 i hi).wf
 | .prod a b,_,_,h=>by
  obtain ⟨c1,c2,_,h1,h2⟩:=h
  exact ⟨h1.wf,h2.wf⟩
 | .unit,_,_,_=>trivial
 | .arr n e,_,l,h=>by
  obtain ⟨h1,_,h3⟩:=h
  refine ⟨h1,fun x hx=>?_⟩
  obtain ⟨i,hi,rfl⟩:=List.getElem_of_mem hx
  exact (h3 i hi).wf
 | .ptr e,_,_,h=>by
  obtain ⟨b,off,c,el,fz,_,_,_,_,h⟩:=h
  exact Rd.wf (τ:=e) h
 | .clo g e,_,_,h=>by
  obtain ⟨vs,_,h⟩:=h
  exact Rd.wf (τ:=e) h
section
variable {H : Type}
def ofD : (τ : Ty)→DataW H→Option τ.den
 | .int _,.lit (.int _ n)=>some n
 | .bool,.lit (.bool b)=>some b
 | .str,.lit (.string s)=>some ⟨s.toArray⟩
 | .slice _,.nil=>some []
 | .slice e,.slice l _=>l.mapM (ofD e)
 | .arr _ e,.agg l=>l.mapM (ofD e)
 | .prod a b,.agg (d :: r)=>match ofD a d with
  | some x=>match ofD b (.agg r) with
   | some y=>some (x,y)
   | none=>none
  | none=>none
 | .unit,.agg []=>some ()
 | _,_=>none
variable {enc : TypeId×Value→H} {P : Program} {W : World} {sp : Nat→Bool} {hd : Bool}
theorem fB {τ : Ty} {t : TypeId} (h : chk P τ none t=true) : P.cellsOf t=τ.size:=by
 obtain ⟨i,z,h1,h2,_⟩:=db h
 simp [Program.cellsOf,h1,h2]
theorem qO {α β : Type} {f : α→Option β} : ∀ {l : List α},(∀ a∈l,∃ b,f a=some b)→∃ r,l.mapM f=some r
 | [],_=>⟨[],rfl⟩
 | a :: l,h=>by
  obtain ⟨b,hb⟩:=h a (by simp)
  obtain ⟨r,hr⟩:=qO fun x hx=>h x (List.mem_cons_of_mem _ hx)
  exact ⟨b :: r,by simp [List.mapM_cons,hb,hr]⟩
theorem x7 {e : Ty} {ys : List (DataW H×List MemPlace)} {Q : Nat→e.den→Prop} (h : ∀ i y,ys[i]?=some y→∃ x,ofD e y.1=some x∧Q i x) :
  ∃ l,(ys.map (·.1)).mapM (ofD e)=some l∧l.length=ys.length∧∀ i (hi : i < l.length),Q i l[i]:=by
 obtain ⟨l,hl⟩:=qO (f:=ofD e) (l:=ys.map (·.1)) fun d hd=>by
  obtain ⟨y,hy,rfl⟩:=List.mem_map.1 hd
  obtain ⟨i,hi,rfl⟩:=List.getElem_of_mem hy
  obtain ⟨x,hx,_⟩:=h i ys[i] (List.getElem?_eq_getElem hi)
  exact ⟨x,hx⟩
 have hlen : l.length=ys.length:=by simpa using Lib.mapM_length hl
 refine ⟨l,hl,hlen,fun i hi=>?_⟩
 have hi' : i < ys.length:=by omega
 obtain ⟨x,hx,hq⟩:=h i ys[i] (List.getElem?_eq_getElem hi')
 obtain ⟨b,hb1,hb2⟩:=Lib.mapM_at hl i ys[i].1 (by simp [hi'])
 rw [hx] at hb2
 cases hb2
 have : l[i]=x:=by rw [List.getElem?_eq_getElem hi] at hb1; exact Option.some.inj hb1
 rw [this]; exact hq
theorem ub {a : Addr} {n : Nat} {cs : List Value} (h : W.cells? 0 a n=some cs) : cs.length=n∧∀ j,j < n→W.cell? (a.add j)=cs[j]?:=by
 unfold World.cells? at h
 rw [if_pos (Nat.zero_le _)] at h
 have hl : cs.length=n:=by simpa using Lib.mapM_length h
 refine ⟨hl,fun j hj=>?_⟩
 obtain ⟨b,hb1,hb2⟩:=Lib.mapM_at h j j (by simp [hj])
 rw [hb2,hb1]
theorem DV {a : Addr} {v : Value} (h : W.cell? a=some v) : ∃ b off c el fz,a=⟨b,off,none⟩∧W.heap[b]?=some (.cells c el fz):=by
 obtain ⟨b,off,spot⟩:=a
 unfold World.cell? at h
 split at h
 ·rename_i c el fz hh
  cases spot with
  | none=>exact ⟨b,off,c,el,fz,rfl,hh⟩
  | some _=>simp at h
 ·cases h
mutual
theorem lT : ∀ {τ : Ty} {t : TypeId} {fuel : Nat} {cs : List Value} {x : DataW H×List MemPlace},τ.good=true→chk P τ none t=true→DataW.trod enc P W 0 sp hd fuel t cs=some x →
  ∃ y,ofD τ x.1=some y∧Rd W (fun b=>b < W.heap.size) τ cs y
 | .int k,t,fuel,cs,x,_,hc,h=>by
  obtain ⟨n,rfl,rfl,hw⟩:=DataW.trod_int (iw hc) h
  simp only [Lit.wf,Bool.and_eq_true,decide_eq_true_eq] at hw
  exact ⟨n,rfl,rfl,hw⟩
 | .bool,t,fuel,cs,x,_,hc,h=>by
  cases fuel with
  | zero=>simp [DataW.trod] at h
  | succ fuel =>
   simp only [DataW.trod,jH hc] at h
   split at h
   all_goals try (simp_all; done)
   rename_i b heq
   simp only [Option.some.injEq] at h
   subst h
   exact ⟨b,rfl,rfl⟩
 | .str,t,fuel,cs,x,_,hc,h=>by
  cases fuel with
  | zero=>simp [DataW.trod] at h
  | succ fuel =>
   simp only [DataW.trod,dX hc] at h
   split at h <;> simp_all
   obtain ⟨h1,rfl⟩:=h
   exact ⟨_,rfl,rfl,h1⟩
 | .slice e,t,fuel,cs,x,hg,hc,h=>by
  simp only [Ty.good,Bool.and_eq_true] at hg
  have hpos : 0 < e.size:=Nat.le_of_ble_eq_true hg.2
  obtain ⟨et,hu,hce⟩:=aC hc
  cases fuel with
  | zero=>simp [DataW.trod] at h
  | succ fuel =>
   simp only [DataW.trod,hu,fB hce] at h
   split at h
   all_goals try (simp_all; done)
   ·cases h
    exact ⟨[],rfl,none,0,rfl,Nat.le_refl _,Nat.zero_le _,fun h=>absurd rfl h⟩
   ·rename_i e' a len cap heq
    split at h
    ·rename_i hcond
     obtain ⟨elems,he,h⟩:=Option.bind_eq_some_iff.1 h
     obtain ⟨rest,_,rfl⟩:=Option.map_eq_some_iff.1 h
     have hel : elems.length=len:=by simpa using Lib.mapM_length he
     have each : ∀ i y,elems[i]?=some y→∃ ci,W.cells? 0 (a.add (i * e.size)) e.size=some ci∧DataW.trod enc P W 0 sp hd fuel et ci=some y:=by
      intro i y hy
      have hi : i < len:=by have:=(List.getElem?_eq_some_iff.1 hy).1; omega
      obtain ⟨b,hb1,hb2⟩:=Lib.mapM_at he i i (by simp [hi])
      rw [hy] at hb1; cases hb1
      cases heq
      rw [fB hce] at hb2
      exact Option.bind_eq_some_iff.1 hb2
     obtain ⟨l,q1,q2,q3⟩:=x7 (e:=e) (ys:=elems) (Q:=fun i x=>∃ ci,W.cells? 0 (a.add (i * e.size)) e.size=some ci∧Rd W (fun b=>b < W.heap.size) e ci x) fun i y hy=>by
      obtain ⟨ci,h1,h2⟩:=each i y hy
      obtain ⟨x,h3,h4⟩:=lT hg.1 hce h2
      exact ⟨x,h3,ci,h1,h4⟩
     refine ⟨l,q1,some a,cap,by rw [q2,hel],by omega,hcond.2.2,fun hne=>?_⟩
     have hl0 : 0 < l.length:=List.length_pos_iff.2 hne
     obtain ⟨c0,h1,_⟩:=q3 0 hl0
     obtain ⟨k1,k2⟩:=ub h1
     have h00 : W.cell? a=some (c0[0]'(by omega)):=by
      have:=k2 0 hpos
      rw [List.getElem?_eq_getElem (by omega)] at this
      simpa [Addr.add] using this
     obtain ⟨b,off,c,el,fz,rfl,hh⟩:=DV h00
     have pt : ∀ i (hi : i < l.length),∃ ci,ci.length=e.size∧(∀ j,j < e.size→c[off+i * e.size+j]?=ci[j]?)∧Rd W (fun b=>b < W.heap.size) e ci l[i]:=by
      intro i hi
      obtain ⟨ci,g1,g2⟩:=q3 i hi
      obtain ⟨g3,g4⟩:=ub g1
      refine ⟨ci,g3,fun j hj=>?_,g2⟩
      have:=g4 j hj
      rw [aD,aD,cb hh] at this
      exact this
     have hb : b < W.heap.size:=(Array.getElem?_eq_some_iff.1 hh).1
     have hsz : off+l.length * e.size≤c.size:=by
      obtain ⟨ci,g3,g4,_⟩:=pt (l.length - 1) (by omega)
      have:=g4 (e.size - 1) (by omega)
      rw [List.getElem?_eq_getElem (by omega)] at this
      have hlt:=(Array.getElem?_eq_some_iff.1 this).1
      have : l.length * e.size=(l.length - 1) * e.size+e.size:=by
       obtain ⟨n,hn⟩ : ∃ n,l.length=n+1:=⟨l.length - 1,by omega⟩
       rw [hn]; simp [Nat.add_mul]
      omega
     refine ⟨b,off,c,el,fz,rfl,hb,hh,hsz,fun i hi=>?_⟩
     obtain ⟨ci,g3,g4,g5⟩:=pt i hi
     have : seg c (off+i * e.size) e.size=ci:=by
      apply List.ext_getElem?
      intro j
      by_cases hj : j < e.size
      ·rw [seg_getElem? _ _ _ _ hj,g4 j hj]
      ·rw [List.getElem?_eq_none (by omega : ci.length≤j)]
       unfold seg; rw [List.getElem?_take,if_neg hj]
     rw [this]; exact g5
    ·cases h
 | .prod a b,t,fuel,cs,x,hg,hc,h=>by
  have hc0:=hc
  simp only [chk,Bool.and_eq_true] at hc
  obtain ⟨_,hc⟩:=hc
  split at hc
  ·rename_i fs hu
   cases fuel with
   | zero=>simp [DataW.trod] at h
   | succ fuel =>
    simp only [DataW.trod,hu,fB hc0] at h
    split at h
    ·rename_i hlen
     obtain ⟨xs,hx,rfl⟩:=Option.map_eq_some_iff.1 h
     split at hc
     ·rename_i f r hfs
      simp only [Bool.and_eq_true] at hc
      rw [hfs] at hx
      have:=nk (τ:=.prod a b) (fs:=f :: r) (o:=0) (cs:=cs) (xs:=xs) hg (by simp only [chk,Bool.and_eq_true]; exact ⟨hc.1,by simpa using hc.2⟩) hx (by simpa using hlen)
      simpa using this
     ·simp at hc
    ·cases h
  ·simp at hc
 | .unit,t,fuel,cs,x,_,hc,h=>by
  have hc0:=hc
  simp only [chk,Bool.and_eq_true] at hc
  obtain ⟨_,hc⟩:=hc
  split at hc
  ·rename_i fs hu
   split at hc
   ·rename_i hfs
    cases fuel with
    | zero=>simp [DataW.trod] at h
    | succ fuel =>
     simp only [DataW.trod,hu,fB hc0,hfs] at h
     split at h
     ·rename_i hlen
      simp only [List.mapM_nil,Option.pure_def,Option.map_some,Option.some.injEq] at h
      subst h
      refine ⟨(),rfl,?_⟩
      simp only [Ty.size] at hlen
      exact List.length_eq_zero_iff.1 hlen
     ·cases h
   ·simp at hc
  ·simp at hc
 | .arr n e,t,fuel,cs,x,hg,hc,h=>by
  obtain ⟨et,hu,hce⟩:=li hc
  cases fuel with
  | zero=>simp [DataW.trod] at h
  | succ fuel =>
   simp only [DataW.trod,hu,fB hc,fB hce] at h
   split at h
   ·rename_i hlen
    obtain ⟨xs,hx,rfl⟩:=Option.map_eq_some_iff.1 h
    have hxl : xs.length=n:=by simpa using Lib.mapM_length hx
    obtain ⟨l,q1,q2,q3⟩:=x7 (e:=e) (ys:=xs) (Q:=fun i x=>Rd W (fun b=>b < W.heap.size) e ((cs.drop (i * e.size)).take e.size) x) fun i y hy=>by
     have hi : i < n:=by have:=(List.getElem?_eq_some_iff.1 hy).1; omega
     obtain ⟨b,hb1,hb2⟩:=Lib.mapM_at hx i i (by simp [hi])
     rw [hy] at hb1; cases hb1
     exact lT hg hce hb2
    exact ⟨l,q1,by omega,by simpa [Ty.size] using hlen,q3⟩
   ·cases h
 | .ptr _,_,_,_,_,hg,_,_=>by simp [Ty.good] at hg
 | .clo _ _,_,_,_,_,hg,_,_=>by simp [Ty.good] at hg
theorem nk : ∀ {τ : Ty} {fs : List Field} {o fuel : Nat} {cs : List Value} {xs : List (DataW H×List MemPlace)},τ.good=true→chk P τ (some (fs,o)) 0=true →
  fs.mapM (fun f=>DataW.trod enc P W 0 sp hd fuel f.type ((cs.drop f.offset).take (P.cellsOf f.type)))=some xs→cs.length=o+τ.size →
  ∃ y,ofD τ (.agg (xs.map (·.1)))=some y∧Rd W (fun b=>b < W.heap.size) τ (cs.drop o) y
 | .prod a b,f :: r,o,fuel,cs,xs,hg,hc,hx,hl=>by
  simp only [Ty.good,Bool.and_eq_true] at hg
  simp only [chk,Bool.and_eq_true] at hc
  obtain ⟨⟨c1,c2⟩,c3⟩:=hc
  have hoff : f.offset=o:=Nat.eq_of_beq_eq_true c1
  rw [List.mapM_cons] at hx
  simp only [Option.bind_eq_bind,Option.bind_eq_some_iff,Option.pure_def,Option.some.injEq] at hx
  obtain ⟨x0,h0,xs',hxs,rfl⟩:=hx
  rw [fB c2,hoff] at h0
  obtain ⟨y0,e0,r0⟩:=lT hg.1 c2 h0
  obtain ⟨y1,e1,r1⟩:=nk (τ:=b) (o:=o+a.size) hg.2 c3 hxs (by simp only [Ty.size] at hl; omega)
  refine ⟨(y0,y1),?_,(cs.drop o).take a.size,cs.drop (o+a.size),?_,r0,r1⟩
  ·simp only [List.map_cons,ofD,e0,e1]
  ·rw [← List.drop_drop,List.take_append_drop]
 | .unit,[],o,fuel,cs,xs,_,_,hx,hl=>by
  simp only [List.mapM_nil,Option.pure_def,Option.some.injEq] at hx
  subst hx
  refine ⟨(),rfl,?_⟩
  have : cs.drop o=[]:=List.drop_eq_nil_of_le (by simp only [Ty.size] at hl; omega)
  exact this
 | .prod _ _,[],_,_,_,_,_,hc,_,_=>by simp [chk] at hc
 | .unit,_ :: _,_,_,_,_,_,hc,_,_=>by simp [chk] at hc
 | .int _,_,_,_,_,_,_,hc,_,_=>by simp [chk] at hc
 | .bool,_,_,_,_,_,_,hc,_,_=>by simp [chk] at hc
 | .str,_,_,_,_,_,_,hc,_,_=>by simp [chk] at hc
 | .slice _,_,_,_,_,_,_,hc,_,_=>by simp [chk] at hc
 | .arr _ _,_,_,_,_,_,_,hc,_,_=>by simp [chk] at hc
 | .ptr _,_,_,_,_,_,hg,_,_,_=>by simp [Ty.good] at hg
 | .clo _ _,_,_,_,_,_,hg,_,_,_=>by simp [Ty.good] at hg
end
theorem Ax {τ : Ty} {t : TypeId} {base : Nat} {v : Value} (hg : τ.good=true) (hc : chk P τ none t=true) (h : Value.okWide P W .any base t v) : toV τ v.cells.toList=v:=by
 cases τ with
 | int k=>simp only [Value.okWide,iw hc,Cell.okWide,Cell.ok] at h; split at h <;> simp_all [toV,Ty.isAgg,Value.cells]
 | bool=>simp only [Value.okWide,jH hc,Cell.okWide,Cell.ok] at h; split at h <;> simp_all [toV,Ty.isAgg,Value.cells]
 | str=>simp only [Value.okWide,dX hc,Cell.okWide,Cell.ok] at h; split at h <;> simp_all [toV,Ty.isAgg,Value.cells]
 | slice e =>
  obtain ⟨et,hu,_⟩:=aC hc
  simp only [Value.okWide,hu,Cell.okWide,Cell.ok] at h; split at h <;> simp_all [toV,Ty.isAgg,Value.cells]
 | prod a b =>
  obtain ⟨d,hu,hd⟩:=jo hc
  unfold Value.okWide at h
  rw [hu] at h
  cases d <;> simp [Ty.isAgg] at hd
  all_goals
   obtain ⟨cs,rfl,_⟩:=h
   simp [toV,Ty.isAgg,Value.cells]
 | unit =>
  obtain ⟨d,hu,hd⟩:=jo hc
  unfold Value.okWide at h
  rw [hu] at h
  cases d <;> simp [Ty.isAgg] at hd
  all_goals
   obtain ⟨cs,rfl,_⟩:=h
   simp [toV,Ty.isAgg,Value.cells]
 | arr n e =>
  obtain ⟨d,hu,hd⟩:=jo hc
  unfold Value.okWide at h
  rw [hu] at h
  cases d <;> simp [Ty.isAgg] at hd
  all_goals
   obtain ⟨cs,rfl,_⟩:=h
   simp [toV,Ty.isAgg,Value.cells]
 | ptr _=>simp [Ty.good] at hg
 | clo _ _=>simp [Ty.good] at hg
def fw (P : Program) : List (Mode×Ty)→List TypeId→Bool
 | [],[]=>true
 | (.rd,τ) :: l,t :: ts=>τ.good && chk P τ none t && P.readableRec t && Nat.blt t P.types.size && fw P l ts
 | _,_=>false
def uB : (ins : List (Mode×Ty))→(aA (ins.map (·.2))).den→Prop
 | [],_=>True
 | p :: l,x=>Wf p.2 x.1∧uB l x.2
theorem yL {base : Nat} : ∀ {ins : List (Mode×Ty)} {ts : List TypeId} {vs : List Value} {ds : List (DataW H)} {ps : List MemPlace},fw P ins ts=true→DataW.TrodAll enc P W 0 sp hd ts vs ds ps →
  (∀ (j : Nat) t v,ts[j]?=some t→vs[j]?=some v→Value.okWide P W .any base t v)→∃ x,ArgsRd W (fun b=>b < W.heap.size) ins vs x∧uB ins x∧bc ins vs=[]∧ds.length=ins.length
 | [],[],vs,ds,ps,_,h,_=>by
  obtain ⟨rfl,rfl,rfl⟩:=trodAll_nil h
  exact ⟨(),trivial,trivial,rfl,rfl⟩
 | [],_ :: _,_,_,_,hi,_,_=>by simp [fw] at hi
 | (_,_) :: _,[],_,_,_,hi,_,_=>by simp [fw] at hi
 | (.upd,_) :: _,_ :: _,_,_,_,hi,_,_=>by simp [fw] at hi
 | (.take,_) :: _,_ :: _,_,_,_,hi,_,_=>by simp [fw] at hi
 | (.rd,τ) :: l,t :: ts,vs,ds,ps,hi,h,hok=>by
  simp only [fw,Bool.and_eq_true] at hi
  obtain ⟨⟨⟨⟨c1,c2⟩,_⟩,_⟩,c3⟩:=hi
  obtain ⟨v,vs',d,ds',p,q,rfl,rfl,rfl,⟨fuel,h1⟩,h2⟩:=trodAll_cons h
  obtain ⟨y,_,hr⟩:=lT c1 c2 h1
  obtain ⟨x,x1,x2,x3,x4⟩:=yL (base:=base) c3 h2 fun j t v hj hv=>hok (j+1) t v (by simpa using hj) (by simpa using hv)
  exact ⟨(y,x),⟨⟨v.cells.toList,(Ax c1 c2 (hok 0 t v rfl rfl)).symm,hr⟩,x1⟩,⟨hr.wf,x2⟩,x3,by simp [x4]⟩
theorem rP {W' : World} {sp' : Nat→Bool} (hl : laidOutB P=true) : ∀ {ins : List (Mode×Ty)} {ts : List TypeId} {vs : List Value} {ds : List (DataW H)} {ps : List MemPlace},fw P ins ts=true →
  DataW.TrodAll enc P W 0 (fun _=>true) true ts vs ds ps→(∀ p∈ps,W.sameAt W' p)→(∀ p∈ps,sp' p.block=true)→DataW.TrodAll enc P W' 0 sp' true ts vs ds ps
 | [],[],vs,ds,ps,_,h,_,_=>by
  obtain ⟨rfl,rfl,rfl⟩:=trodAll_nil h
  exact rfl
 | [],_ :: _,_,_,_,hi,_,_,_=>by simp [fw] at hi
 | (_,_) :: _,[],_,_,_,hi,_,_,_=>by simp [fw] at hi
 | (.upd,_) :: _,_ :: _,_,_,_,hi,_,_,_=>by simp [fw] at hi
 | (.take,_) :: _,_ :: _,_,_,_,hi,_,_,_=>by simp [fw] at hi
 | (.rd,τ) :: l,t :: ts,vs,ds,ps,hi,h,hs,hsp=>by
  simp only [fw,Bool.and_eq_true] at hi
  obtain ⟨⟨⟨⟨_,_⟩,c4⟩,c5⟩,c3⟩:=hi
  obtain ⟨v,vs',d,ds',p,q,rfl,rfl,rfl,h1,h2⟩:=trodAll_cons h
  exact ⟨p,q,WideElems.Trod_stays hl c4 (Nat.le_of_ble_eq_true c5) h1 (fun x hx=>hs x (by simp [hx])) (fun x hx=>hsp x (by simp [hx])),rP hl c3 h2 (fun x hx=>hs x (by simp [hx])) (fun x hx=>hsp x (by simp [hx])),rfl⟩
end
theorem zw {H : Type} {enc : TypeId×Value→H} {P : Program} {f : Func} {s : ChangeSpec} {W W' : World} {args : Array Value} {ds : List (DataW H)} {before : List MemPlace} {ins : List (Mode×Ty)} {tb : TypeId} {fresh handsOn je : Bool}
  (hl : laidOutB P=true) (hi : fw P ins f.params.toList=true) (hr : f.resultTypes=#[tb]) (hb : P.underlying tb=some .bool) (hv : s.vars=[])
  (hW : DataW.Whole enc P f.params.toList s.vars false W args.toList ds [] before) (hs : s.fn H (ds++[])={ results:=[.lit (.bool true)],args:=ds })
  (hk : Kept W (fun _=>False) W') : s.post enc P f false fresh handsOn je W args (.bool true) W':=by
 have hold : ∀ p∈before,decide (p.block < W.heap.size)=true:=fun p hp=>by simpa using hW.lt p hp
 have hblk : ∀ b,b < W.heap.size→W'.heap[b]?=W.heap[b]?:=fun b hb=>hk.block b hb (fun h=>h)
 have hsame : ∀ p∈before,W.sameAt W' p:=by
  intro p hp
  have:=hblk p.block (hW.lt p hp)
  cases p with
  | cell b off=>simp only [MemPlace.block] at this; simp [World.sameAt,World.cell?,this]
  | map b=>exact this
 have hW':=hW
 obtain ⟨p,q,hA,hV,rfl,hz,_⟩:=hW
 rw [hv] at hV
 obtain rfl : q=[]:=hV
 simp only [List.append_nil] at hold hsame hz hW'
 have args' : ∀ sp : Nat→Bool,(∀ x∈p,sp x.block=true)→DataW.TrodAll enc P W' 0 sp true f.params.toList args.toList ds p:=fun sp hsp=>rP hl hi hA hsame hsp
 have res' : ∀ (b : Nat) (sp : Nat→Bool) (hd : Bool),DataW.TrodAll enc P W' b sp hd f.resultTypes.toList ((Value.bool true).resultList f.resultTypes.size) [.lit (.bool true)] []:=by
  intro b sp hd
  rw [hr]
  exact trodAll_mk1 (shut_bool hb true)
 have ok' : ∀ (j : Nat) (t : TypeId) (r : Value),f.resultTypes[j]?=some t→((Value.bool true).resultList f.resultTypes.size)[j]?=some r→Value.okWide P W' .any 0 t r:=by
  intro j t r hj hv
  rw [hr] at hj hv
  match j,hj,hv with
  | 0,hj,hv =>
   simp [Value.resultList] at hj hv
   subst hj; subst hv
   simp [Value.okWide,hb,Cell.okWide,Cell.ok]
 have vars' : ∀ sp : Nat→Bool,DataW.TrodVars enc P W' sp s.vars (s.fn H (ds++[])).vars []:=by
  intro sp; rw [hv,hs]; exact rfl
 refine ⟨ds,[],p,[],p,[],hW',by rw [hs]; exact res' _ _ _,by rw [hs]; exact args' _ hold,vars' _,⟨hk.os,hk.output,fun i hi=>?_⟩,fun _=>⟨ok',[.lit (.bool true)]++ds,[],p,⟨p,[],?_,?_,by simp,?_,fun h=>by cases h⟩,fun x hx _=>hx⟩⟩
 ·rw [hblk i hi]
  cases h : W.heap[i]? with
  | none=>trivial
  | some o =>
   cases o with
   | cells c t fr=>exact ⟨rfl,rfl,rfl,fun _ _=>rfl⟩
   | map es ck=>exact .inr ⟨rfl,rfl⟩
   | _=>rfl
 ·have:=trodAll_append (args' (fun _=>true) (fun _ _=>rfl)) (res' 0 (fun _=>true) true)
  simpa using this
 ·rw [hv]; exact rfl
 ·intro b off hp
  have:=hblk b (of_decide_eq_true (hold _ hp))
  have h2:=hz b off hp
  simpa [World.frozen?,this] using h2
theorem zZ {H : Type} {enc : TypeId×Value→H} {P : Program} {f : FuncId} {fn : Func} {s : ChangeSpec} {glob : List (Nat×(Σ t : Ty,t.den))} {ins : List (Mode×Ty)} {tb : TypeId} {M : (aA (ins.map (·.2))).den→Option (aA ([(true,Ty.bool)].map (·.2)++aQ ins)).den} {fresh handsOn je : Bool}
  (hl : laidOutB P = true) (hf : P.funcs[f]? = some fn) (hb : fn.body.isSome = true) (hn : (fn.name == "runtime.NumGoroutine") = false) (hi : fw P ins fn.params.toList = true) (hr : fn.resultTypes = #[tb]) (hbt : P.underlying tb = some .bool) (hv : s.vars = [])
  (hs : ∀ ds : List (DataW H),ds.length=ins.length→s.fn H (ds++[])={ results:=[.lit (.bool true)],args:=ds })
  (hc : Con.Holds P glob f ⟨ins,[(true,.bool)],M,false⟩) (hM : ∀ x,uB ins x→∃ r,M x=some (true,r))
  {W : World} {base : Nat} {args : Array Value} {ds gs : List (DataW H)} {before : List MemPlace}
  (hg : ∀ g τ x,da glob g=some ⟨τ,x⟩→Rd W (fun b=>b < W.heap.size) (.ptr τ) [.pointer (some ⟨g,0,none⟩)] x)
  (hok : ∀ (j : Nat) t v,fn.params[j]?=some t→args[j]?=some v→Value.okWide P W .any base t v) (hW : DataW.Whole enc P fn.params.toList s.vars false W args.toList ds gs before) :
  Calls P f args W fun e W'=>∃ v,e=.returned v∧s.post enc P fn false fresh handsOn je W args v W':=by
 have hW0:=hW
 obtain ⟨p,q,hA,hV,_,_,_⟩:=hW
 obtain rfl : gs=[]:=by
  rw [hv] at hV
  cases gs with
  | nil=>rfl
  | cons g r=>exact absurd hV (by intro h; cases h)
 obtain ⟨x,a1,a2,a3,a4⟩:=yL (base:=base) hi hA (fun j t v hj hv=>hok j t v (by rw [← Array.getElem?_toList]; exact hj) (by rw [← Array.getElem?_toList]; exact hv))
 obtain ⟨r,hMx⟩:=hM x a2
 have hp : Pre glob W (fun b=>b < W.heap.size) ins args.toList x:=⟨a1,by rw [a3]; simp,by rw [a3]; exact List.Pairwise.nil,fun b hb=>hb,hg⟩
 have fin : ∀ {v : Value} {W' : World},(∃ F2 css,Post W (fun b=>b < W.heap.size) ins args.toList [(true,.bool)] (true,r) v W' F2 css)→s.post enc P fn false fresh handsOn je W args v W':=by
  rintro v W' ⟨F2,css,hP⟩
  have hk:=hP.kept
  rw [a3] at hk
  have hk' : Kept W (fun _=>False) W':=⟨hk.os,hk.tape,hk.output,hk.size,fun b hb _=>hk.block b hb (by rintro ⟨u,hu,_⟩; simp at hu)⟩
  have hv' : v=.bool true:=by
   have h1:=hP.res
   have h2:=hP.val
   match css,h1 with
   | [cs],h1 =>
    have h3 : Rd W' F2 .bool cs true:=h1.1
    unfold Rd at h3
    subst h3
    rw [h2]; rfl
  subst hv'
  exact zw hl hi hr hbt hv hW0 (hs ds a4) hk'
 have hn' : ¬ fn.name = "runtime.NumGoroutine" := by simpa using hn
 obtain ⟨body,hbody⟩:=Option.isSome_iff_exists.1 hb
 have hcall : (callFunc f args).run P W=.ok (.enter f args) W:=by simp [callFunc,hf,hn',hbody]
 have harr : args.toList.toArray=args:=by simp
 rcases hc W _ args.toList x (true,r) hp hMx with ⟨_,h2⟩ | ⟨v,w',h1,_⟩
 ·rw [harr] at h2
  refine h2.mono fun e W' he=>?_
  obtain ⟨v,rfl,hR⟩:=he
  exact ⟨v,rfl,fin hR⟩
 ·rw [harr,hcall] at h1
  cases h1
end Go.Vm
namespace Go.Vm
theorem oB {P : Program} {W : World} {laid : List (String×DataW Unit)} (h : laidMetH P laid W) (hno : (laid.filter fun x=>x.2.handleName?.isSome)=[]) {name : String} {d : DataW Unit} {g : Nat} {t : TypeId} {τ : Ty} {x : τ.den}
  (hmem : (name,d)∈laid) (hg : P.globalNamed name=some g) (ht : (P.globals[g]?).map (·.type)=some t) (hc : (chk P τ none t && τ.good)=true) (hx : ofD τ d=some x) :
  Rd W (fun b=>b < W.heap.size) (.ptr τ) [.pointer (some ⟨g,0,none⟩)] x:=by
 simp only [Bool.and_eq_true] at hc
 unfold laidMetH at h
 rw [hno] at h
 obtain ⟨ps,hv,_⟩:=h
 have key : ∀ (l : List (String×DataW Unit)) (ps : List MemPlace),DataW.LaidVars P W l ps→(name,d)∈l→∃ g t cs fuel p,P.globalNamed name=some g∧(P.globals[g]?).map (·.type)=some t∧W.var? P name=some cs∧DataW.trod (fun _=>()) P W 0 (fun _=>true) false fuel t cs.toList=some (d,p):=by
  intro l
  induction l with
  | nil=>intro _ _ hm; simp at hm
  | cons q l ih =>
   obtain ⟨n,e⟩:=q
   rintro ps ⟨g,t,cs,fuel,p,q,h1,h2,h3,h4,h5,_⟩ hm
   rcases List.mem_cons.1 hm with hm | hm
   ·cases hm; exact ⟨g,t,cs,fuel,p,h1,h2,h3,h4⟩
   ·exact ih q h5 hm
 obtain ⟨g',t',cs,fuel,p,h1,h2,h3,h4⟩:=key laid ps hv hmem
 rw [hg] at h1; cases h1
 rw [ht] at h2; cases h2
 obtain ⟨y,hy,hr⟩:=lT hc.2 hc.1 h4
 rw [hx] at hy; cases hy
 unfold World.var? at h3
 rw [hg] at h3
 simp only [Option.bind_some] at h3
 split at h3
 ·rename_i c el fz hh
  cases h3
  have hb : g < W.heap.size:=(Array.getElem?_eq_some_iff.1 hh).1
  have hl:=hr.len
  rw [Array.length_toList] at hl
  refine ⟨g,0,cs,el,fz,rfl,hb,hh,by omega,?_⟩
  have : seg cs 0 τ.size=cs.toList:=by
   unfold seg
   rw [List.drop_zero,List.take_of_length_le (by rw [Array.length_toList]; omega)]
  rw [this]; exact hr
 ·cases h3
theorem GR {W : World} {glob : List (Nat×(Σ t : Ty,t.den))} (h : ∀ p∈glob,Rd W (fun b=>b < W.heap.size) (.ptr p.2.1) [.pointer (some ⟨p.1,0,none⟩)] p.2.2) :
  ∀ g τ x,da glob g=some ⟨τ,x⟩→Rd W (fun b=>b < W.heap.size) (.ptr τ) [.pointer (some ⟨g,0,none⟩)] x:=by
 induction glob with
 | nil=>intro g τ x hg; simp [da] at hg
 | cons p r ih =>
  intro g τ x hg
  obtain ⟨k,v⟩:=p
  simp only [da] at hg
  cases hk : Nat.beq k g with
  | true =>
   rw [hk] at hg
   cases hg
   rw [← Nat.eq_of_beq_eq_true hk]
   exact h (k,⟨τ,x⟩) (by simp)
  | false=>rw [hk] at hg; exact ih (fun p hp=>h p (by simp [hp])) g τ x hg
end Go.Vm

/-
 Plain laws for what the decompiler prints: numbers, lists, strings, loops.
-/
namespace Go.Vm
theorem Eh : lim=68719476736:=by decide
theorem wF {a b : Int} (h1 : -9223372036854775808≤a+b) (h2 : a+b≤9223372036854775807) : bj .i64 a b=a+b:=IntWalk.i64_in _ ⟨h1,h2⟩
theorem F9 {a b : Int} (h1 : -9223372036854775808≤a - b) (h2 : a - b≤9223372036854775807) : cv .i64 a b=a - b:=IntWalk.i64_in _ ⟨h1,h2⟩
theorem cR {a : Nat} (h : a < 9223372036854775807) : bj .i64 (a : Int) 1=((a+1 : Nat) : Int):=by rw [wF (by omega) (by omega)]; rfl
theorem zR {a : Nat} (h : a≤9223372036854775800) : cv .i64 (a : Int) 1=(a : Int) - 1:=F9 (by omega) (by omega)
theorem bi {a b : Int} (h : a < b) : ltI a b=true:=by simp [ltI,h]
theorem aZ {a b : Int} (h : b≤a) : ltI a b=false:=by simp [ltI]; omega
theorem nu {a b : Int} (h : b < a) : gtI a b=true:=by simp [gtI,h]
theorem nE {a b : Int} (h : a≤b) : gtI a b=false:=by simp [gtI]; omega
theorem gX {a b : Int} (h : b≤a) : geI a b=true:=by simp [geI]; omega
theorem jc {a b : Int} (h : a < b) : geI a b=false:=by simp [geI]; omega
theorem Fq {a b : Int} (h : a≤b) : leI a b=true:=by simp [leI,h]
theorem E4 {a b : Int} (h : b < a) : leI a b=false:=by simp [leI]; omega
theorem qI {a b : Int} (h : a=b) : eqI a b=true:=by simp [eqI,h]
theorem vJ {a b : Int} (h : a≠b) : eqI a b=false:=by simp [eqI,h]
theorem C1 {a b : Int} (h : a≠b) : neI a b=true:=by simp [neI,h]
theorem tU {a b : Int} (h : a=b) : neI a b=false:=by simp [neI,h]
def oth (d : Nat) : Nat:=if d % 2=0 then d+1 else d - 1
theorem s8 {n i : Nat} (h : i < n) : kb n (i : Int)=some i:=by simp [kb,h]
theorem aB {α : Type} {l : List α} {i : Nat} : aV l (i : Int)=l[i]?:=by simp [aV]
theorem uP {α : Type} {l : List α} {i : Int} (h : 0≤i) : aV l i=l[i.toNat]?:=by simp [aV,h]
theorem sH {α : Type} {l r : List α} (h : l.length+r.length≤68719476736) : app l r=some (l++r):=by simp [app,Eh,h]
section
variable {σ ρ : Type} {f : σ→Option (σ⊕ρ)}
theorem mF {s t : σ} (h : f s=some (.inl t)) : ai f s=ai f t:=by rw [kQ,h]; rfl
theorem dS {s : σ} {r : ρ} (h : f s=some (.inr r)) : ai f s=some r:=by rw [kQ,h]; rfl
theorem gw (I : σ→Prop) (m : σ→Nat) (Q : ρ→Prop) (step : ∀ s,I s→(∃ t,f s=some (.inl t)∧I t∧m t < m s)∨∃ r,f s=some (.inr r)∧Q r) : ∀ s,I s→∃ r,ai f s=some r∧Q r:=by
 have : ∀ n s,m s≤n→I s→∃ r,ai f s=some r∧Q r:=by
  intro n
  induction n with
  | zero =>
   intro s hm hs
   rcases step s hs with ⟨t,_,_,h⟩ | ⟨r,h1,h2⟩
   ·omega
   ·exact ⟨r,dS h1,h2⟩
  | succ n ih =>
   intro s hm hs
   rcases step s hs with ⟨t,h1,h2,h⟩ | ⟨r,h1,h2⟩
   ·rw [mF h1]; exact ih t (by omega) h2
   ·exact ⟨r,dS h1,h2⟩
 exact fun s hs=>this (m s) s (Nat.le_refl _) hs
end
def IJ {α : Type} (x : List α×Int×Int×Unit) : Option ((List α×Int×Int×Unit)⊕((List α×Unit)⊕Empty)) :=
 cond (ltI x.2.1 x.2.2.1) ((kb x.1.length x.2.2.1).bind fun j1=>(x.1[j1]?).bind fun y2=>(kb x.1.length x.2.1).bind fun j3=>(x.1[j3]?).bind fun y4=>(kb x.1.length x.2.1).bind fun j5=>(x.1[j5]?).bind fun _=>(kb (x.1.set j5 y2).length x.2.2.1).bind fun j7=>((x.1.set j5 y2)[j7]?).bind fun _=>some (.inl (((x.1.set j5 y2).set j7 y4),((bj .i64 x.2.1 1),((cv .i64 x.2.2.1 1),()))))) (some (.inr (.inl (x.1,()))))
end Go.Vm
namespace Go.Vm
def lw {S α ε : Type} (g : Nat→S→α→Option (S⊕ε)) : Nat→S→List α→Option (S⊕ε)
 | _,s,[]=>some (.inl s)
 | i,s,a :: l=>(g i s a).bind (Sum.elim (fun t=>lw g (i+1) t l) (fun e=>some (.inr e)))
theorem rH {σ ρ S α ε : Type} {B : σ→Option (σ⊕ρ)} (I : Nat→S→Prop) (st : S→Nat→σ) (out : S→ρ) (ex : ε→ρ) (g : Nat→S→α→Option (S⊕ε)) (l : List α)
  (h1 : ∀ s i a,I i s→l[i]?=some a→B (st s i)=(g i s a).bind (Sum.elim (fun t=>some (.inl (st t (i+1)))) (fun e=>some (.inr (ex e)))))
  (hI : ∀ s i a t,I i s→l[i]?=some a→g i s a=some (.inl t)→I (i+1) t)
  (h2 : ∀ s,I l.length s→B (st s l.length)=some (.inr (out s))) : ∀ (r p : List α) (s : S),p++r=l→I p.length s→ai B (st s p.length)=(lw g p.length s r).bind (Sum.elim (fun t=>some (out t)) (fun e=>some (ex e)))
 | [],p,s,h,hs=>by
  have : p.length=l.length:=by rw [← h]; simp
  rw [this] at hs ⊢
  rw [dS (h2 s hs)]
  rfl
 | a :: r,p,s,h,hs=>by
  have ha : l[p.length]?=some a:=by rw [← h]; simp
  rw [kQ,h1 s p.length a hs ha]
  simp only [lw]
  cases hg : g p.length s a with
  | none=>rfl
  | some x =>
   cases x with
   | inl t =>
    simp only [Option.bind_some,Sum.elim_inl]
    have:=rH I st out ex g l h1 hI h2 r (p++[a]) t (by simp [h]) (by simpa using hI s p.length a t hs ha hg)
    simpa using this
   | inr e=>rfl
theorem Fe {σ ρ S α ε : Type} {B : σ→Option (σ⊕ρ)} (I : Nat→S→Prop) (st : S→Nat→σ) (out : S→ρ) (ex : ε→ρ) (g : Nat→S→α→Option (S⊕ε)) (l : List α)
  (h1 : ∀ s i a,I i s→l[i]?=some a→B (st s i)=(g i s a).bind (Sum.elim (fun t=>some (.inl (st t (i+1)))) (fun e=>some (.inr (ex e)))))
  (hI : ∀ s i a t,I i s→l[i]?=some a→g i s a=some (.inl t)→I (i+1) t)
  (h2 : ∀ s,I l.length s→B (st s l.length)=some (.inr (out s))) (s : S) (hs : I 0 s) : ai B (st s 0)=(lw g 0 s l).bind (Sum.elim (fun t=>some (out t)) (fun e=>some (ex e))) :=
 rH I st out ex g l h1 hI h2 l [] s rfl hs
theorem Iq {σ ρ S α ε : Type} {B : σ→Option (σ⊕ρ)} (st : S→Nat→σ) (out : S→ρ) (ex : ε→ρ) (g : Nat→S→α→Option (S⊕ε)) (l : List α)
  (h1 : ∀ s i a,l[i]?=some a→B (st s i)=(g i s a).bind (Sum.elim (fun t=>some (.inl (st t (i+1)))) (fun e=>some (.inr (ex e)))))
  (h2 : ∀ s,B (st s l.length)=some (.inr (out s))) (s : S) : ai B (st s 0)=(lw g 0 s l).bind (Sum.elim (fun t=>some (out t)) (fun e=>some (ex e))) :=
 Fe (fun _ _=>True) st out ex g l (fun s i a _=>h1 s i a) (fun _ _ _ _ _ _ _=>trivial) (fun s _=>h2 s) s trivial
end Go.Vm

