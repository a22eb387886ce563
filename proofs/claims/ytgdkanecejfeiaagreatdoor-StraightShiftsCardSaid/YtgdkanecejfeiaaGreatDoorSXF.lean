/-
 Code and calls; slices.Insert; a closed call that has been run.
-/
import Derived.Test.YtgdkanecejfeiaaGreatDoorSXE
import Derived.Test.YtgdkanecejfeiaaGreatDoorSVmC
import Derived.Scope
import Derived.Test.YtgdkanecejfeiaaGreatDoorSVmExt
import Derived.Test.YtgdkanecejfeiaaGreatDoorSVmExt4
open List renaming getElem?_eq_getElem→A2,mem_cons→B3,all_eq_true→Lg,mem_cons_of_mem→Ll,mem_singleton→LD,mem_cons_self→LL,map_append→ME
open Bool renaming and_eq_true→A4
open Nat renaming eq_of_beq_eq_true→A5,le_refl→A7,beq→A8,le_of_ble_eq_true→B7,lt_of_lt_of_le→LA,le_trans→LQ,mul→LZ,add_zero→L7,mul_one→M4,sub_zero→Nv
open Option.some renaming inj→B4
open List.Pairwise renaming nil→Mo
open Array renaming replicate→Nd
open Option renaming isSome_iff_exists→N8
set_option linter.unusedVariables false
set_option linter.unusedSimpArgs false
/-
 Code and calls.
-/
namespace Go.Rx
open Go.Vm
section
variable {P:Program} {GL:List Nat} {call:Call1} {w0:World} {N:Nat} {msk:Nat}
noncomputable section
def yX (ps:rn) (id:Nat):Bool:=ps.all fun p=>!(A8 p.1 id)
def dg (P:Program) (N:Nat) (mn:List Nat) (ps:rn):Code→Bool
 | .region id ops d=>jb N ops.toList && cond d (z6 P ops (pa ps id ops.toList)) (yX ps id)
 | .seq a b=>dg P N mn ps a && dg P N mn ps b
 | .cond _ a b=>dg P N mn ps a && dg P N mn ps b
 | .block _ c=>dg P N mn ps c
 | .loop c=>dg P N mn ps c
 | .scope c=>dg P N mn ps c
 | _=>true
end
def PostO (GL:List Nat) (w0:World) (N msk:Nat) (s:RS) (w:World) (ι : Io) (Q:Exit→Act→World→Prop):Out→Prop
 | .no=>False
 | .go e s'=>∀ a' w' ι',Go1 GL w0 s.nx w ι s.H.get s'.nx w' ι' s'.H.get→RSim GL w0 N a' w' ι' (egt msk e .nil) s'→Q .normal a' w'
 | .exit i e s'=>∀ a' w' ι',Go1 GL w0 s.nx w ι s.H.get s'.nx w' ι' s'.H.get→RSim GL w0 N a' w' ι' (egt msk e .nil) s'→Q (.exit i) a' w'
 | .ret e s'=>∀ a' w' ι',Go1 GL w0 s.nx w ι s.H.get s'.nx w' ι' s'.H.get→RSim GL w0 N a' w' ι' (egt msk e .nil) s'→Q .ret a' w'
theorem PostO.after {s s1:RS} {w w1:World} {ι ι1:Io} {Q:Exit→Act→World→Prop} (g:Go1 GL w0 s.nx w ι s.H.get s1.nx w1 ι1 s1.H.get):∀ {o:Out},PostO GL w0 N msk s w ι Q o→PostO GL w0 N msk s1 w1 ι1 Q o
 | .no,h=>h
 | .go _ _,h=>fun a' w' ι' g' hs=>h a' w' ι' (g.trans g') hs
 | .exit _ _ _,h=>fun a' w' ι' g' hs=>h a' w' ι' (g.trans g') hs
 | .ret _ _,h=>fun a' w' ι' g' hs=>h a' w' ι' (g.trans g') hs
theorem wB {ps:rn} {id:Nat} {ops:List Oper} (h:yX ps id=true):pa ps id ops=iy 0 ops:=by
 unfold yX at h
 rw [Lg] at h
 induction ps with
 | nil=>rfl
 | cons p r ih =>
  have h1:=h p (LL ..)
  change cond (A8 p.1 id) p.2 (pa r id ops)=_
  cases hb:A8 p.1 id with
  | true=>rw [hb] at h1; cases h1
  | false=>exact ih fun q hq=>h q (Ll _ hq)
theorem zw {a:Act} {w:World} {ι : Io} {e:cE} {l:Lc} {s:RS} (h:RSim GL w0 N a w ι (egt msk e l) s):RSim GL w0 N a w ι (egt msk e .nil) s:=by
 refine ⟨h.inv,h.top,h.defers,h.size,fun t=>?_⟩
 have:=h.env t
 unfold egt at this ⊢
 cases hk:iE msk t with
 | true=>rw [hk] at this; exact this
 | false=>trivial
theorem xG (f:cE→RS→Out) (n:Nat) (e:cE) (s:RS):ut f (n+1) e s=(match f e s with | .no=>.no | .go e' s'=>ut f n e' s' | .exit i e' s'=>.exit i e' s' | .ret e' s'=>.ret e' s'):=by
 show Out.rec (motive:=fun _=>Out) .no (fun e' s'=>ut f n e' s') .exit .ret (f e s)=_
 cases f e s <;> rfl
theorem GN (hm:P.follows .mixedOrders=true) (hC:jW P GL call) {mn:List Nat} {ps:rn} {lf:Nat}:∀ (c:Code),dg P N mn ps c=true→∀ {Q:Exit→Act→World→Prop} {a:Act} {w:World} {ι : Io} {e:cE} {s:RS},RSim GL w0 N a w ι (egt msk e .nil) s →
  PostO GL w0 N msk s w ι Q ((mkC P GL msk mn ps lf c).run call e s)→c.wp P Q a w:=by
 intro c
 induction c with
 | skip=>intro _ Q a w ι e s hs h; exact wp_skip (h a w ι (Go1.refl hs.inv hs.top) hs)
 | region id ops d =>
  intro hk Q a w ι e s hs h
  unfold dg at hk
  simp only [A4] at hk
  obtain ⟨hd,hk⟩:=hk
  change PostO GL w0 N msk s w ι Q ((eU P GL msk ops.toList (pa ps id ops.toList)).run call e .nil s []) at h
  rcases uq (call:=call) (P:=P) (GL:=GL) (msk:=msk) (all:=ops.toList) (pa ps id ops.toList) e .nil s [] with h1 | ⟨e',s',h1⟩
  ·rw [h1] at h; exact h.elim
  ·rw [h1] at h
   obtain ⟨recs,σ',h2,l',rfl⟩:=xA _ h1
   have fin:∀ a' w' ι',Go1 GL w0 s.nx w ι s.H.get s'.nx w' ι' s'.H.get→RSim GL w0 N a' w' ι' (egt msk e' l') s'→Q .normal a' w':=fun a' w' ι' g hs'=>h a' w' ι' g (zw hs')
   cases d with
   | true=>exact uQ hm hC (CM hk) (jL hd) h2 hs fin
   | false =>
    rw [wB hk] at h2
    obtain ⟨k1,k2⟩:=pG ops.toList 0
    have:=IE hC (Q:=Q) (jL hd) h2 k2 hs fin
    rw [k1] at this
    refine wp_region ?_
    rw [List.range_eq_range']
    simpa using this
 | seq x y ihx ihy =>
  intro hk Q a w ι e s hs h
  unfold dg at hk
  simp only [A4] at hk
  change PostO GL w0 N msk s w ι Q (JM ((mkC P GL msk mn ps lf x).run call e s) ((mkC P GL msk mn ps lf y).run call)) at h
  refine wp_seq (ihx hk.1 hs ?_)
  generalize (mkC P GL msk mn ps lf x).run call e s=o at h
  cases o with
  | no=>exact h
  | go e1 s1=>exact fun a1 w1 ι1 g hs1=>ihy hk.2 hs1 (PostO.after g h)
  | exit i e1 s1=>exact h
  | ret e1 s1=>exact h
 | cond x y z ihy ihz =>
  intro hk Q a w ι e s hs h
  unfold dg at hk
  simp only [A4] at hk
  change PostO GL w0 N msk s w ι Q (E4 (rev GL msk e .nil x) ((mkC P GL msk mn ps lf y).run call e s) ((mkC P GL msk mn ps lf z).run call e s)) at h
  unfold E4 at h
  cases hb:(rev GL msk e .nil x).asBool with
  | none=>rw [hb] at h; exact h.elim
  | some b =>
   rw [hb] at h
   have hv:=uV (a:=a) (x:=x) hs.inv.glob fun t _=>hs.env t
   rw [← uM,iC hb] at hv
   refine wp_cond (rel_bool hv) ?_
   cases b with
   | true=>exact ihy hk.1 hs h
   | false=>exact ihz hk.2 hs h
 | block id x ih =>
  intro hk Q a w ι e s hs h
  unfold dg at hk
  change PostO GL w0 N msk s w ι Q (FR id ((mkC P GL msk mn ps lf x).run call e s)) at h
  refine wp_block (ih hk hs ?_)
  generalize (mkC P GL msk mn ps lf x).run call e s=o at h
  cases o with
  | no=>exact h
  | go e1 s1=>exact h
  | exit i e1 s1 =>
   intro a1 w1 ι1 g hs1
   show (if i=id then Q .normal a1 w1 else Q (.exit i) a1 w1)
   change PostO GL w0 N msk s w ι Q (cond (A8 i id) (.go e1 s1) (.exit i e1 s1)) at h
   cases hi:A8 i id with
   | true=>rw [hi] at h; rw [if_pos (A5 hi)]; exact h a1 w1 ι1 g hs1
   | false=>rw [hi] at h; rw [if_neg (Nat.ne_of_beq_eq_false hi)]; exact h a1 w1 ι1 g hs1
  | ret e1 s1=>exact h
 | loop x ih =>
  intro hk Q a w ι e s hs h
  unfold dg at hk
  change PostO GL w0 N msk s w ι Q (ut ((mkC P GL msk mn ps lf x).run call) lf e s) at h
  have key:∀ (n:Nat) {a:Act} {w:World} {ι : Io} {e:cE} {s:RS},RSim GL w0 N a w ι (egt msk e .nil) s→PostO GL w0 N msk s w ι Q (ut ((mkC P GL msk mn ps lf x).run call) n e s)→Code.rounds P x Q n a w:=by
   intro n
   induction n with
   | zero=>intro a w ι e s _ h; exact h
   | succ n ihn =>
    intro a w ι e s hs h
    rw [xG] at h
    show x.wp P (Exit.then (Code.rounds P x Q n) Q) a w
    refine ih hk hs ?_
    generalize (mkC P GL msk mn ps lf x).run call e s=o at h
    cases o with
    | no=>exact h
    | go e1 s1=>exact fun a1 w1 ι1 g hs1=>ihn hs1 (PostO.after g h)
    | exit i e1 s1=>exact h
    | ret e1 s1=>exact h
  exact wp_loop_rounds lf (key lf hs h)
 | exit id=>intro _ Q a w ι e s hs h; exact wp_exit (h a w ι (Go1.refl hs.inv hs.top) hs)
 | ret=>intro _ Q a w ι e s hs h; exact wp_ret (h a w ι (Go1.refl hs.inv hs.top) hs)
 | label l=>intro _ Q a w ι e s hs h; exact wp_label (h a w ι (Go1.refl hs.inv hs.top) hs)
 | scope x ih =>
  intro hk Q a w ι e s hs h
  unfold dg at hk
  change PostO GL w0 N msk s w ι Q ((mkC P GL msk mn ps lf x).run call e s) at h
  refine wp_scope_straight (ih hk hs ?_)
  generalize (mkC P GL msk mn ps lf x).run call e s=o at h
  cases o with
  | no=>exact h
  | go e1 s1=>exact h
  | exit i e1 s1=>exact h
  | ret e1 s1=>exact h
 | _=>intro _ Q a w ι e s hs h; exact h.elim
theorem mH:∀ {vs:List RV} {i:Nat} {e e':cE},wS msk i vs e=some e'→∀ t,iE msk t=true→e'.get t=if i≤t∧t < i+vs.length then vs[t - i]? else e.get t
 | [],i,e,e',h,t,_=>by
  cases h
  rw [if_neg (by simp only [List.length_nil]; omega)]
 | v :: r,i,e,e',h,t,ht=>by
  unfold wS at h
  simp only [List.length_cons]
  cases hk:iE msk i with
  | true =>
   rw [hk] at h
   simp only [cond_true] at h
   rw [iT,Tr.putK_eq] at h
   split at h
   ·rename_i u hu
    rw [mH h t ht,Tr.get_put (t:=e) hu t]
    by_cases hti:i=t
    ·subst hti
     rw [if_neg (by omega),if_pos rfl,if_pos (by omega)]
     simp
    ·by_cases h2:i≤t∧t < i+(r.length+1)
     ·rw [if_pos (by omega),if_pos h2]
      have:t - i=(t - Nat.succ i)+1:=by omega
      rw [this]; simp
     ·rw [if_neg (by omega),if_neg hti,if_neg h2]
   ·cases h
  | false =>
   rw [hk] at h
   simp only [cond_false] at h
   rw [mH h t ht]
   by_cases hti:i=t
   ·subst hti; rw [ht] at hk; cases hk
   ·by_cases h2:i≤t∧t < i+(r.length+1)
    ·rw [if_pos (by omega),if_pos h2]
     have:t - i=(t - Nat.succ i)+1:=by omega
     rw [this]; simp
    ·rw [if_neg (by omega),if_neg h2]
theorem All2.get {α β : Type} {R : α→β→Prop}:∀ {l:List α} {r:List β},All2 R l r→∀ {i:Nat} {y : β},r[i]?=some y→∃ x,l[i]?=some x∧R x y
 | _,_,.nil,i,y,h=>by simp at h
 | _,_,.cons h t,i,y,hy=>by
  cases i with
  | zero=>simp at hy; subst hy; exact ⟨_,rfl,h⟩
  | succ i=>simpa using t.get (by simpa using hy)
theorem All2.len {α β : Type} {R : α→β→Prop}:∀ {l:List α} {r:List β},All2 R l r→l.length=r.length
 | _,_,.nil=>rfl
 | _,_,.cons _ t=>by simp [t.len]
theorem Fy {ι : Io} {w:World} {t:TypeId} {x v:RV} {u:Value} {ob:Option RO} (hx:RelV ι u x) (hb:nS w0 w ι x ob) (h:rr ob (ldT P t) x=some v) :
  ∃ r ad,u=.pointer (some ad)∧(loadVar t ad).run P w=.ok r w∧RelV ι r v:=by
 obtain ⟨r,h1,h2⟩:=wq (P:=P) hx hb h
 unfold rr at h
 replace h:=bF h rfl; obtain ⟨⟨g,n⟩,k1,h⟩:=h
 replace h:=bF h rfl; obtain ⟨⟨b,off⟩,k2,h⟩:=h
 rw [fC k2] at hx
 obtain ⟨L,q1,q2⟩:=eE hx
 refine ⟨r,_,q2,?_,h2⟩
 rw [q2] at h1
 simpa [Instr.loadAt,Instr.sureAddr] using h1
theorem pz {a:Act} {w:World} {ι : Io} {e:cE} {s:RS} (hs:RSim GL w0 N a w ι (egt msk e .nil) s):∀ {rs:List ResultVar} {vs:List RV},jh P msk e s rs=some vs→∃ us:List Value,(rs.mapM (ou a)).run P w=.ok us w∧All2 (fun u v=>RelV ι u v) us vs
 | [],vs,h=>by cases h; exact ⟨[],by simp,.nil⟩
 | r :: rs,vs,h=>by
  unfold jh at h
  split at h
  ·rename_i v vs' h1 h2
   cases h
   obtain ⟨us,q1,q2⟩:=pz hs h2
   have one:∃ u,(ou a r).run P w=.ok u w∧RelV ι u v:=by
    cases r with
    | tmp t=>cases h1; exact ⟨_,by simp [ou],hs.env t⟩
    | cell t τ =>
     obtain ⟨r,ad,k1,k2,k3⟩:=Fy (P:=P) (hs.env t) (wt hs.inv.blk _) h1
     exact ⟨r,by simp [ou,k1,asAddr,k2],k3⟩
   obtain ⟨u,k1,k2⟩:=one
   exact ⟨u :: us,by simp [List.mapM_cons,k1,q1],.cons k2 q2⟩
  ·cases h
theorem sE {ι : Io}:∀ {vs:List RV} {us:List Value} {q:List (Bool×List RC)},He vs=some q→All2 (fun u v=>RelV ι u v) us vs→RelT ι q us
 | [],_,q,h,.nil=>by cases h; exact .nil
 | v :: vs,_,q,h,.cons h1 t=>by
  unfold He at h
  split at h
  ·rename_i c q' hq
   cases h
   exact RelT.cons (g:=false) (.cons h1 .nil) (fun _=>rfl) (sE hq t)
  ·rename_i c q' hq
   cases h
   obtain ⟨us',rfl,h2⟩:=h1
   exact RelT.cons (g:=true) h2 (fun h=>by cases h) (sE hq t)
  ·cases h
theorem CP {ι : Io} {vs:List RV} {us:List Value} {v:RV} (h:FQ vs=some v) (hr:All2 (fun u v=>RelV ι u v) us vs):RelV ι (iI us) v:=by
 unfold FQ at h
 split at h
 ·cases h
  cases hr with
  | cons h1 t=>cases t; exact h1
 ·rename_i hne
  split at h
  ·rename_i q hq
   cases h
   refine ⟨us,?_,sE hq hr⟩
   match us with
   | []=>rfl
   | [u] =>
    exfalso
    have:=hr.len
    match vs,this with
    | [v],_=>exact hne v rfl
   | _ :: _ :: _=>rfl
  ·cases h
noncomputable def Hl (P:Program) (f:Nat) (fp:FP):Bool:=match P.funcs[f]? with
 | some fn=>(match fn.body with
  | some c => dg P fn.ntmps fp.mn fp.plans c && !(fn.name == "runtime.NumGoroutine")
  | none=>false)
 | none=>false
noncomputable def FX (P:Program) (M:FPs):Bool:=M.all fun p=>Hl P p.1 p.2
def XOK (P:Program) (GL:List Nat) (X:XTab):Prop:=∀ f x,X.find f=some x→∀ args s v s',J4 x args s=some (v,s')→∀ w0 w ι us,RInv GL w0 w ι s.H.get→(∀ b,s.nx≤b→ι b=none)→All2 (fun u v=>RelV ι u v) us args →
 Goes P f us.toArray w fun u w'=>∃ ι',Go1 GL w0 s.nx w ι s.H.get s'.nx w' ι' s'.H.get∧RelV ι' u v
theorem FPs.get_mem:∀ {M:FPs} {f:Nat} {fp:FP},M.get f=some fp→(f,fp)∈M
 | [],_,_,h=>by cases h
 | p :: r,f,fp,h=>by
  change cond (A8 p.1 f) (some p.2) (FPs.get r f)=some fp at h
  cases hb:A8 p.1 f with
  | true =>
   rw [hb] at h
   cases h
   rw [← A5 hb]
   exact LL ..
  | false=>rw [hb] at h; exact Ll _ (FPs.get_mem h)
theorem FZ (hm:P.follows .mixedOrders=true) {X:XTab} (hX:XOK P GL X) {M:FPs} (hM:FX P M=true) {lf:Nat} (n:Nat):jW P GL (AY P GL X M lf n):=by
 induction n with
 | zero=>intro f args s v s' h; cases h
 | succ n ihn =>
  intro f args s v s' h w0 w ι us hi ht hargs
  change yQ P GL (X.find f) lf (M.get f) (AY P GL X M lf n) P.funcs[f]? args s=some (v,s') at h
  unfold yQ at h
  split at h
  ·rename_i x hx
   exact hX f x hx args s v s' h w0 w ι us hi ht hargs
  ·unfold Hj at h
   split at h
   ·rename_i fn fp hfn hfp
    split at h
    ·rename_i c hc
     have hchk:=Lg.1 hM _ (FPs.get_mem hfp)
     unfold Hl at hchk
     simp only [hfn,hc,A4,Bool.not_eq_true'] at hchk
     obtain ⟨hk,hname⟩:=hchk
     have hn' : ¬ fn.name = "runtime.NumGoroutine" := by simpa using hname
     refine .inl ⟨by simp [callFunc,hfn,hn',hc],?_⟩
     unfold Ea at h
     split at h
     ·rename_i e he
      refine calls_of_wp hfn hc ?_
      have hsim:RSim GL w0 fn.ntmps { tmps:=us.toArray++Nd (fn.ntmps - us.toArray.size) undef,defers:=[] } w ι (egt fp.msk e .nil) s:=by
       refine ⟨hi,ht,rfl,by simp; omega,fun t=>?_⟩
       unfold egt
       cases hkt:iE fp.msk t with
       | false=>trivial
       | true =>
        simp only [cond_true]
        rw [mH he t hkt]
        by_cases htl:t < args.length
        ·rw [if_pos (by omega),Nv]
         obtain ⟨u,h1,h2⟩:=hargs.get (A2 htl)
         rw [A2 htl]
         show RelV ι _ args[t]
         have hul:t < us.length:=by rw [hargs.len]; exact htl
         have:(us.toArray++Nd (fn.ntmps - us.toArray.size) undef).getD t undef=u:=by
          rw [Array.getD_eq_getD_getElem?,Array.getElem?_append_left (by simpa using hul)]
          simp [h1]
         rw [this]
         exact h2
        ·rw [if_neg (by omega)]
         trivial
      refine GN hm ihn (msk:=fp.msk) (ps:=fp.plans) (lf:=lf) c hk hsim ?_
      have fin:∀ {e':cE} {s1:RS},Bw (jh P fp.msk e' s1 fn.results.toList) s1=some (v,s')→∀ a' w' ι',Go1 GL w0 s.nx w ι s.H.get s1.nx w' ι' s1.H.get→RSim GL w0 fn.ntmps a' w' ι' (egt fp.msk e' .nil) s1 →
        a'.defers=[]∧∃ u,(Go.results fn a'.tmps).run P w'=.ok u w'∧∃ v',Ending.returned u=.returned v'∧∃ ι',Go1 GL w0 s.nx w ι s.H.get s'.nx w' ι' s'.H.get∧RelV ι' v' v:=by
       intro e' s1 hr a' w' ι' g hs'
       unfold Bw at hr
       split at hr
       ·rename_i vs hvs
        split at hr
        ·rename_i v1 hv1
         cases hr
         obtain ⟨us',k1,k2⟩:=pz hs' hvs
         refine ⟨hs'.defers,iI us',?_,_,rfl,ι',g,CP hv1 k2⟩
         have hf':Go.results fn a'.tmps=(do let vs ← fn.results.mapM (ou a'); pure (if h:vs.size=1 then vs[0] else .tuple vs)):=by
          unfold Go.results
          congr 1
         have hrun:(Go.results fn a'.tmps).run P w'=((fn.results.toList.mapM (ou a')).run P w').andThen fun vs w'=>.ok (iI vs) w':=by
          rw [hf']
          simp only [Array.mapM_eq_mapM_toList,Sem.run_bind,map_eq_pure_bind,bind_assoc,pure_bind,Sem.run_pure]
          congr 1
          funext l w'
          match l with
          | []=>rfl
          | [u]=>rfl
          | _ :: _ :: _=>simp [iI]
         rw [hrun,k1]
         rfl
        ·cases hr
       ·cases hr
      generalize (mkC P GL fp.msk fp.mn fp.plans lf c).run (AY P GL X M lf n) e s=o at h
      cases o with
      | no=>cases h
      | go e1 s1=>exact fin h
      | exit i e1 s1=>cases h
      | ret e1 s1=>exact fin h
     ·cases h
    ·cases h
   ·cases h
end
end Go.Rx

/-
 Numbers in a row.
-/
namespace Go.Rx
open Go.Vm
theorem Ew {ι : Io} {c:RC} {n:Int} {u:Value} (h:Ip c=some n) (hr:RelC ι c u):u=.int .i64 n∧IntKind.i64.min≤n∧n≤IntKind.i64.max:=by
 unfold Ip at h
 split at h
 ·rename_i m
  cases h
  cases hr with
  | nat hm=>refine ⟨rfl,?_,?_⟩ <;> simp [IntKind.min,IntKind.max,IntKind.signed,IntKind.bits] <;> simp [maxI] at hm <;> omega
 ·cases h
  cases hr with
  | int h1 h2=>exact ⟨rfl,h1,h2⟩
 ·cases h
theorem iX {ι : Io}:∀ {c:List RC} {l:List Int} {us:List Value},wD c=some l→RelL ι c us→us=l.map (Value.int .i64)∧(∀ n∈l,IntKind.i64.min≤n∧n≤IntKind.i64.max)∧l.length=c.length
 | [],l,us,h,hr=>by cases h; cases hr; exact ⟨rfl,fun n hn=>(by cases hn),rfl⟩
 | c :: r,l,us,h,hr=>by
  unfold wD at h
  split at h
  ·rename_i n l' h1 h2
   cases h
   cases hr with
   | cons h3 t =>
    obtain ⟨e1,e2⟩:=Ew h1 h3
    obtain ⟨e3,e4,e5⟩:=iX h2 t
    refine ⟨by rw [e1,e3]; rfl,?_,by simp [e5]⟩
    intro m hm
    rcases B3.1 hm with rfl | hm
    ·exact e2
    ·exact e4 m hm
  ·cases h
end Go.Rx

/-
 slices.Insert, as it is told.
-/
namespace Go.Rx
open Go.Vm
section
variable {P:Program} {GL:List Nat} {w0:World}
theorem Go1.give {nx:Nat} {w w':World} {ι : Io} {h h2:Hp} {D:List Nat} {o':RO} {L':Loc} (hi:RInv GL w0 w ι h) (ht:∀ b,nx≤b→ι b=none)
  (hD:∀ d∈D,∃ o L,h d=some o∧kq o=true∧ι d=some L) (h2d:∀ d∈D,h2 d=some .dead) (h2n:∀ b,b∉D→h2 b=h b)
  (hk:Kept w (fun B=>∃ d∈D,∃ L,ι d=some L∧L.B=B) w') (h6:w.heap.size≤L'.B∨∃ d∈D,∃ L,ι d=some L∧L.B=L'.B) (h7:L'.B < w'.heap.size)
  (hn:RBlk w0 w' (ι.set nx L') nx o'):Go1 GL w0 nx w ι h (nx+1) w' (ι.set nx L') (Hp.set h2 nx o'):=by
 have hle : ι.le (ι.set nx L'):=Io.set_le (ht nx (A7 _))
 have inset:∀ b L1,(ι.set nx L') b=some L1→b≠nx→ι b=some L1:=fun b L1 h1 h2=>by simpa [Io.set,h2] using h1
 have atnew:∀ L1,(ι.set nx L') nx=some L1→L1=L':=fun L1 h=>by rw [Io.set_self] at h; exact (B4 h).symm
 have get:∀ x ox,(Hp.set h2 nx o') x=some ox→dy ox=true→x≠nx→x∉D∧h x=some ox:=by
  intro x ox hx ha hne
  simp only [Hp.set,hne,if_false] at hx
  by_cases hd:x∈D
  ·rw [h2d x hd] at hx; cases hx; cases ha
  ·exact ⟨hd,by rw [← h2n x hd]; exact hx⟩
 -- where the given blocks stood,nothing else stands
 have apart:∀ {d:Nat} {L:Loc} {x:Nat} {ox:RO} {Lx:Loc},d∈D→ι d=some L→x∉D→h x=some ox→dy ox=true→ι x=some Lx→L.B≠Lx.B:=by
  intro d L x ox Lx hd hL hx hox ha hLx e
  obtain ⟨o,L1,k1,k2,k3⟩:=hD d hd
  rw [hL] at k3
  cases k3
  have:=hi.inj d x o ox L Lx k1 hox k2 ha hL hLx e
  exact hx (this ▸ hd)
 have same:∀ {x:Nat} {ox:RO} {Lx:Loc},x∉D→h x=some ox→dy ox=true→ι x=some Lx→w'.heap[Lx.B]?=w.heap[Lx.B]?:=by
  intro x ox Lx hx hox ha hLx
  refine hk.block Lx.B (hi.lt x Lx hLx) ?_
  rintro ⟨d,hd,L,hL,e⟩
  exact apart hd hL hx hox ha hLx e
 have low0:∀ d∈D,∀ L,ι d=some L→w0.heap.size≤L.B:=by
  intro d hd L hL
  obtain ⟨o,L1,k1,k2,k3⟩:=hD d hd
  rw [hL] at k3
  cases k3
  have hb:=hi.blk d o k1
  cases o with
  | cells t n=>obtain ⟨L2,c,el,fz,q1,q2,_⟩:=hb; rw [hL] at q1; cases q1; exact q2
  | map es=>obtain ⟨L2,c,el,q1,q2,_⟩:=hb; rw [hL] at q1; cases q1; exact q2
  | ro t n=>cases k2
  | dead=>cases k2
 refine ⟨⟨?_,?_,?_,?_,?_⟩,hle,?_,Nat.le_succ _,?_,hk.size,?_,?_⟩
 ·have hs:=hi.kept.size
  refine ⟨hk.os.trans hi.kept.os,hk.tape.trans hi.kept.tape,hk.output.trans hi.kept.output,LQ hs hk.size,fun B hB hM=>?_⟩
  refine (hk.block B (by omega) ?_).trans (hi.kept.block B hB hM)
  rintro ⟨d,hd,L,hL,e⟩
  have:=low0 d hd L hL
  omega
 ·intro x ox hx
  by_cases e:x=nx
  ·subst e; simp [Hp.set] at hx; subst hx; exact hn
  ·cases ha:dy ox with
   | false=>cases ox <;> first | trivial | cases ha
   | true =>
    obtain ⟨e2,hx'⟩:=get x ox hx ha e
    exact (hi.blk x ox hx').mono hle fun Lx hLx=>same e2 hx' ha hLx
 ·intro x y ox oy Lx Ly hx hy k1 k2 k3 k4 k5
  by_cases e1:x=nx <;> by_cases e2:y=nx
  ·exact e1.trans e2.symm
  ·subst e1
   have:=atnew _ k3; subst this
   obtain ⟨n1,n2⟩:=get y oy hy k2 e2
   have hy':=inset _ _ k4 e2
   have hyl:=hi.lt y Ly hy'
   rcases h6 with h6 | ⟨d,hd,L,hL,hLe⟩
   ·omega
   ·exact absurd (hLe.trans k5) (apart hd hL n1 n2 k2 hy')
  ·subst e2
   have:=atnew _ k4; subst this
   obtain ⟨n1,n2⟩:=get x ox hx (ch k1) e1
   have hx':=inset _ _ k3 e1
   have hxl:=hi.lt x Lx hx'
   rcases h6 with h6 | ⟨d,hd,L,hL,hLe⟩
   ·omega
   ·exact absurd (hLe.trans k5.symm) (apart hd hL n1 n2 (ch k1) hx')
  ·exact hi.inj x y ox oy Lx Ly (get x ox hx (ch k1) e1).2 (get y oy hy k2 e2).2 k1 k2 (inset _ _ k3 e1) (inset _ _ k4 e2) k5
 ·intro x Lx hLx
  by_cases e:x=nx
  ·subst e; rw [atnew _ hLx]; exact h7
  ·exact LA (hi.lt x Lx (inset _ _ hLx e)) hk.size
 ·intro g hg
  obtain ⟨n,hn⟩:=hi.glob g hg
  exact ⟨n,hle _ _ hn⟩
 ·intro x hx; simp [Io.set,Nat.ne_of_lt hx]
 ·intro x hx
  have:x≠nx:=by omega
  simp only [Io.set,this,if_false]; exact ht x (by omega)
 ·intro B hB' hn'
  refine hk.block B hB' ?_
  rintro ⟨d,hd,L,hL,e⟩
  obtain ⟨o,L1,k1,k2,k3⟩:=hD d hd
  rw [hL] at k3
  cases k3
  exact hn' d o L k1 k2 hL e
 ·intro x ox Lx hx hox hLx
  by_cases e:x=nx
  ·subst e; rw [atnew _ hLx]
   rcases h6 with h6 | ⟨d,hd,L,hL,hLe⟩
   ·exact .inl h6
   ·obtain ⟨o,L1,k1,k2,k3⟩:=hD d hd
    rw [hL] at k3
    cases k3
    exact .inr ⟨d,o,L,k1,ch k2,.inl k2,fun _=>k2,hL,hLe⟩
  ·obtain ⟨_,hx'⟩:=get x ox hx hox e
   exact .inr ⟨x,ox,Lx,hx',hox,.inr rfl,id,inset _ _ hLx e,rfl⟩
theorem jB {o:Option RO} (h:nB o=true):∃ t n,o=some (.cells t n):=by
 unfold nB at h
 split at h
 ·rename_i t n; exact ⟨t,n,rfl⟩
 ·cases h
theorem zM {w:World} {ι : Io} {h:Hp} (hi:RInv GL w0 w ι h) {b off len:Nat} {cap:Option Nat} {t:Tr RC} {m:Nat} (hb:h b=some (.cells t m)) {u:Value} (hx:RelV ι u (.one (.sl b off len cap 1))) {c:List RC} {l:List Int} (hint:wD c=some l) (hc:iv (gk (h b)) off (LZ len 1)=some c) :
  ∃ L k cs el fz,ι b=some L∧u=.slice (some ⟨L.B,L.base+off,none⟩) len k∧w.heap[L.B]?=some (.cells cs el fz)∧HdrW w (fun _=>False) u (.int .i64) l∧l.length=len∧(∀ B,HB u B→B=L.B):=by
 obtain ⟨L,k,q1,q2,q3,q4,q5,q6⟩:=kb hx
 rw [hb] at hc
 obtain ⟨t',m',k1,k2,k3⟩:=dk hc
 cases k1
 obtain ⟨L2,cs,el,fz,r1,r2,r3,r4,r5,r6,r7⟩:=hi.blk b _ hb
 have eL:=B4 (q1.symm.trans r1)
 subst eL
 simp only [Nat.mul_eq,M4] at k2 k3
 have hseg:=eo r7 k3 k2
 obtain ⟨e1,e2,e3⟩:=iX hint hseg
 have hlen:=(dU k3).1
 have hl:l.length=len:=by omega
 refine ⟨L,k,cs,el,fz,q1,q2,r3,?_,hl,?_⟩
 ·rw [q2,← hl]
  refine xv r3 (.inl r6) (by rw [r4]; omega) (by omega) q6 (fun i hi'=>?_) e2
  have h1:=seg_getElem? cs (L.base+off) len i (by omega)
  rw [← h1,e1]
  simp [hi']
 ·intro B hB
  rw [q2] at hB
  simp only [HB,HB1] at hB
  exact hB.2.symm
theorem zE {f:Nat} (hcon:Con.Holds P [] f insertC) {args:List RV} {s s':RS} {v:RV} (h:uZ args s=some (v,s')) {w:World} {ι : Io} {us:List Value} (hi:RInv GL w0 w ι s.H.get) (ht:∀ b,s.nx≤b→ι b=none) (hargs:All2 (fun u v=>RelV ι u v) us args) :
  Goes P f us.toArray w fun u w'=>∃ ι',Go1 GL w0 s.nx w ι s.H.get s'.nx w' ι' s'.H.get∧RelV ι' u v:=by
 unfold uZ at h
 split at h
 ·rename_i x i y
  match us,hargs with
  | [u1,u2,u3],.cons hx (.cons hiV (.cons hy .nil)) =>
  unfold HH at h
  split at h
  ·rename_i k c n c' n' hk hc hc'
   replace h:=ag h; obtain ⟨hb,h⟩:=h
   simp only [A4] at hb
   obtain ⟨⟨⟨⟨⟨⟨b1,b2⟩,b3⟩,b4⟩,b5⟩,b6⟩,b7⟩:=hb
   have b1:=B7 b1
   have b2:=A5 b2
   have b3:=A5 b3
   have b4:=B7 b4
   have b5:n+n'≤1000000:=B7 b5
   obtain ⟨l,hl⟩:=N8.1 b6
   obtain ⟨vs,hvs⟩:=N8.1 b7
   have hiV':=hiV
   rw [jH hk] at hiV'
   -- what the contract gives
   have run:∀ (D:List Nat) (s2:RS) (tr:Tr RC),HdrW w (fun _=>False) u1 (.int .i64) l→HdrW w (fun _=>False) u3 (.int .i64) vs→l.length=n→vs.length=n'→(∀ B,HB u1 B→HB u3 B→False) →
     (∀ d∈D,∃ o L,s.H.get d=some o∧kq o=true∧ι d=some L)→(∀ d∈D,s2.H.get d=some .dead)→(∀ b,b∉D→s2.H.get b=s.H.get b)→s2.nx=s.nx →
     (∀ B,(HB u1 B∨HB u3 B)→∃ d∈D,∃ L,ι d=some L∧L.B=B)→RelL ι c (l.map (Value.int .i64))→RelL ι c' (vs.map (Value.int .i64))→u2=.int .i64 (k:Int) →
     gP (c.take k++c'++c.drop k) 0 .nil=some tr→th s2 (.cells tr (n+n'))=some s'→v=.one (.sl s.nx 0 (n+n') none 1) →
     Goes P f [u1,u2,u3].toArray w fun u w'=>∃ ι',Go1 GL w0 s.nx w ι s.H.get s'.nx w' ι' s'.H.get∧RelV ι' u v:=by
    intro D s2 tr q1 q2 q3 q4 q5 q6 q7 q8 q9 q10 q11 q12 q13 q14 q15 q16
    have hlt:∀ B,(HB u1 B∨HB u3 B)→B < w.heap.size:=by
     intro B hB
     obtain ⟨d,_,L,hL,rfl⟩:=q10 B hB
     exact hi.lt d L hL
    have hkb:IntKind.i64.min≤((k:Nat):Int)∧((k:Nat):Int)≤IntKind.i64.max:=by
     simp [IntKind.min,IntKind.max,IntKind.signed,IntKind.bits]; omega
    have hpre:Pre [] w (fun _=>False) insertC.ins [u1,u2,u3] (l,(k:Int),vs,()):=by
     refine ⟨⟨q1,⟨[.int .i64 (k:Int)],by rw [q13]; rfl,rfl,?_⟩,q2,trivial⟩,?_,?_,fun b hb=>hb.elim,fun g τ x hg=>by cases hg⟩
     ·exact hkb
     ·intro u hu B hB
      refine ⟨id,hlt B ?_⟩
      have hu:u=u1∨u=u3:=by simpa [ax,insertC] using hu
      rcases hu with rfl | rfl
      ·exact .inl hB
      ·exact .inr hB
     ·show cz [u1,u3]
      refine List.pairwise_cons.2 ⟨fun u hu=>?_,List.pairwise_singleton _ _⟩
      rw [LD.1 hu]
      exact q5
    have hfn:insertC.fn (l,(k:Int),vs,())=some (l.take k++vs++l.drop k,()):=by
     show yT l (k:Int) vs=_
     unfold yT
     rw [if_pos]
     ·simp
     ·refine ⟨by omega,by simp; omega,by omega,?_⟩
      have:lim=68719476736:=rfl
      omega
    have hg:=hcon.get rfl hpre hfn
    obtain ⟨g1,g2⟩:=dW q15
    have fin:∀ u w',(∃ F2 css,xy w (fun _=>False) insertC.ins [u1,u2,u3] insertC.outs (l.take k++vs++l.drop k,()) u w' F2 css insertC.deep)→∃ ι',Go1 GL w0 s.nx w ι s.H.get s'.nx w' ι' s'.H.get∧RelV ι' u v:=by
     rintro u w' ⟨F2,css,hp⟩
     have hres:=hp.res
     have hval:=hp.val
     have hown:=hp.own
     match css,hres with
     | [cs],hres =>
     have h1:OwnRd w' F2 false (.slice (.int .i64)) cs (l.take k++vs++l.drop k):=hres.1
     obtain ⟨uu,rfl,h2⟩:=h1
     obtain ⟨ad,cp,h3,h4,h5,h6⟩:=h2
     have hRl:(l.take k++vs++l.drop k).length=n+n':=by simp; omega
     have hRl':List.length (l.take k++vs++l.drop k:List Int)≤cp:=h4
     obtain ⟨B,off,cells,el,fz,rfl,k2,k3,k4,k5⟩:=h6 (by omega)
     have hu:u=.slice (some ⟨B,off,none⟩) (n+n') cp:=by
      rw [hval,← hRl,← h3]
      show toV (.slice (.int .i64)) ([uu].map aJ)=uu
      rw [h3]; rfl
     have hHB:HB uu B:=by
      rw [h3]
      exact ⟨by omega,rfl⟩
     have hmem:uu∈bZ insertC.outs [[uu]]++aX insertC.ins [u1,u2,u3]:=by simp [bZ,aR,insertC]
     obtain ⟨o1,_,o3⟩:=hown uu hmem B hHB
     have among:∀ B,cP (ax insertC.ins [u1,u2,u3]) B→∃ d∈D,∃ L,ι d=some L∧L.B=B:=by
      rintro B' ⟨u',hu',hB'⟩
      have hu':u'=u1∨u'=u3:=by simpa [ax,insertC] using hu'
      rcases hu' with rfl | rfl
      ·exact q10 B' (.inl hB')
      ·exact q10 B' (.inr hB')
     have hkept:Kept w (fun B=>∃ d∈D,∃ L,ι d=some L∧L.B=B) w':=⟨hp.kept.os,hp.kept.tape,hp.kept.output,hp.kept.size,fun b hb hn=>hp.kept.block b hb fun ha=>hn (among b ha)⟩
     have hfz:fz.2≤fz.1:=by
      rcases k3 with h | ⟨h,_⟩
      ·exact h
      ·cases h
     have hnone:=ht s.nx (A7 _)
     simp only [Ty.size,M4] at k4 k5
     have hblk:RBlk w0 w' (ι.set s.nx ⟨B,off,cells.size⟩) s.nx (.cells tr (n+n')):=by
      refine ⟨⟨B,off,cells.size⟩,cells,el,fz,Io.set_self _ _ _,?_,k2,rfl,by show off+(n+n')≤cells.size; omega,hfz,?_⟩
      ·rcases o1 with o1 | o1
       ·exact LQ hi.kept.size o1
       ·obtain ⟨d,hd,L,hL,hLB⟩:=among B o1
        obtain ⟨o,L1,z1,z2,z3⟩:=q6 d hd
        rw [hL] at z3
        cases z3
        have hbk:=hi.blk d o z1
        show w0.heap.size≤B
        cases o with
        | cells t n=>obtain ⟨L2,c,el,fz,y1,y2,_⟩:=hbk; rw [hL] at y1; cases y1; omega
        | map es=>obtain ⟨L2,c,el,y1,y2,_⟩:=hbk; rw [hL] at y1; cases y1; omega
        | ro t n=>cases z2
        | dead=>cases z2
      ·intro i hi'
       have hrel:RelL ι (c.take k++c'++c.drop k) ((l.take k++vs++l.drop k).map (Value.int .i64)):=by
        rw [ME,ME,List.map_take,List.map_drop]
        exact ((q11.take k).append q12).append (q11.drop k)
       have hcl:=hrel.len
       rw [List.length_map,hRl] at hcl
       have hlt':i < (c.take k++c'++c.drop k).length:=by omega
       obtain ⟨u',y1,y2⟩:=hrel.get (A2 hlt')
       have hs:=dr q14 i
       rw [if_pos (by omega)] at hs
       refine ⟨_,u',by rw [hs,Nv,A2 hlt'],?_,y2.mono (Io.set_le hnone)⟩
       have h9:=k5 i (by show i < (l.take k++vs++l.drop k).length; omega)
       have hw5:off+i < cells.size:=by omega
       have hsg:=seg_getElem? cells (off+i) 1 0 (by omega)
       rw [h9.1,L7] at hsg
       rw [← hsg]
       rw [List.getElem?_map] at y1
       have hil:i < (l.take k++vs++l.drop k).length:=by omega
       rw [A2 hil] at y1
       simp at y1 ⊢
       exact y1
     refine ⟨ι.set s.nx ⟨B,off,cells.size⟩,?_,?_⟩
     ·rw [g1,g2,q9]
      refine Go1.give hi ht q6 q7 q8 hkept ?_ o3 hblk
      rcases o1 with o1 | o1
      ·exact .inl o1
      ·exact .inr (among B o1)
     ·rw [q16,hu]
      exact RelC.sl (Io.set_self _ _ _) (by omega) (by show off+0+cp * 1≤cells.size; omega) (fun c hc=>by cases hc) h5
    rcases hg with ⟨a1,a2⟩ | ⟨u,w',a1,a2⟩
    ·refine .inl ⟨a1,Calls.mono a2 ?_⟩
     rintro e w'' ⟨v',rfl,hp⟩
     exact ⟨v',rfl,fin v' w'' hp⟩
    ·exact .inr ⟨u,w',a1,fin u w' a2⟩
   have ei:u2=.int .i64 (k:Int):=(qp hiV').1
   unfold H3 at h
   split at h
   ·rename_i b off len cap b' off' len' cap'
    replace h:=ag h; obtain ⟨hb,h⟩:=h
    simp only [A4] at hb
    obtain ⟨⟨d1,d2⟩,d3⟩:=hb
    obtain ⟨t1,m1,hb1⟩:=jB d2
    obtain ⟨t2,m2,hb2⟩:=jB d3
    have hne:b≠b':=by intro e; rw [e,Nat.beq_refl] at d1; cases d1
    replace h:=eT h; obtain ⟨h,hv⟩:=h
    obtain ⟨s1,k1,h⟩:=iZ h
    obtain ⟨s2,k2,h⟩:=iZ h
    obtain ⟨tr,k3,k4⟩:=fH h
    obtain ⟨z1,z2⟩:=dP k1
    obtain ⟨z3,z4⟩:=dP k2
    have rc1:iv (gk (s.H.get b)) off (LZ len 1)=some c∧n=len:=by
     change (match iv (gk (s.H.get b)) off (LZ len 1) with | some c=>some (c,len) | none=>none)=some (c,n) at hc
     split at hc
     ·rename_i c1 hc1; cases hc; exact ⟨hc1,rfl⟩
     ·cases hc
    have rc2:iv (gk (s.H.get b')) off' (LZ len' 1)=some c'∧n'=len':=by
     change (match iv (gk (s.H.get b')) off' (LZ len' 1) with | some c=>some (c,len') | none=>none)=some (c',n') at hc'
     split at hc'
     ·rename_i c1 hc1; cases hc'; exact ⟨hc1,rfl⟩
     ·cases hc'
    obtain ⟨L1,kk1,cs1,el1,fz1,p1,p2,p3,p4,p5,p6⟩:=zM hi hb1 hx hl rc1.1
    obtain ⟨L2,kk2,cs2,el2,fz2,r1,r2,r3,r4,r5,r6⟩:=zM hi hb2 hy hvs rc2.1
    have rel1:RelL ι c (l.map (Value.int .i64)):=by
     obtain ⟨t',m',y1,y2,y3⟩:=dk rc1.1
     obtain ⟨o',y4,y5⟩:=dM y1
     obtain ⟨Lq,cq,eq,fq,y6,y7,y8,y9,y10⟩:=eW y5 (hi.blk b o' y4)
     have:=eo y10 y3 y2
     rw [(iX hl this).1] at this
     exact this
    have rel2:RelL ι c' (vs.map (Value.int .i64)):=by
     obtain ⟨t',m',y1,y2,y3⟩:=dk rc2.1
     obtain ⟨o',y4,y5⟩:=dM y1
     obtain ⟨Lq,cq,eq,fq,y6,y7,y8,y9,y10⟩:=eW y5 (hi.blk b' o' y4)
     have:=eo y10 y3 y2
     rw [(iX hvs this).1] at this
     exact this
    refine run [b,b'] s2 tr p4 r4 (by rw [p5,rc1.2]) (by rw [r5,rc2.2]) ?_ ?_ ?_ ?_ (z4.trans z2) ?_ rel1 rel2 ei k3 k4 hv
    ·intro B h1 h2
     have e1:=p6 B h1
     have e2:=r6 B h2
     exact hne (hi.inj b b' _ _ L1 L2 hb1 hb2 rfl rfl p1 r1 (by omega))
    ·intro d hd
     have hd:d=b∨d=b':=by simpa using hd
     rcases hd with rfl | rfl
     ·exact ⟨_,L1,hb1,rfl,p1⟩
     ·exact ⟨_,L2,hb2,rfl,r1⟩
    ·intro d hd
     have hd:d=b∨d=b':=by simpa using hd
     rw [z3,z1]
     rcases hd with rfl | rfl
     ·simp [Hp.set]
     ·simp [Hp.set]
    ·intro x hx'
     simp only [B3,LD,not_or,List.not_mem_nil,not_false_eq_true,and_true] at hx'
     rw [z3,z1]
     simp [Hp.set,hx'.1,hx'.2]
    ·intro B hB
     rcases hB with hB | hB
     ·exact ⟨b,by simp,L1,p1,(p6 B hB).symm⟩
     ·exact ⟨b',by simp,L2,r1,(r6 B hB).symm⟩
   ·rename_i b' off' len' cap'
    replace h:=ag h; obtain ⟨d3,h⟩:=h
    obtain ⟨t2,m2,hb2⟩:=jB d3
    replace h:=eT h; obtain ⟨h,hv⟩:=h
    obtain ⟨s2,k2,h⟩:=iZ h
    obtain ⟨tr,k3,k4⟩:=fH h
    obtain ⟨z3,z4⟩:=dP k2
    cases hc
    cases hl
    have rc2:iv (gk (s.H.get b')) off' (LZ len' 1)=some c'∧n'=len':=by
     change (match iv (gk (s.H.get b')) off' (LZ len' 1) with | some c=>some (c,len') | none=>none)=some (c',n') at hc'
     split at hc'
     ·rename_i c1 hc1; cases hc'; exact ⟨hc1,rfl⟩
     ·cases hc'
    obtain ⟨L2,kk2,cs2,el2,fz2,r1,r2,r3,r4,r5,r6⟩:=zM hi hb2 hy hvs rc2.1
    have rel2:RelL ι c' (vs.map (Value.int .i64)):=by
     obtain ⟨t',m',y1,y2,y3⟩:=dk rc2.1
     obtain ⟨o',y4,y5⟩:=dM y1
     obtain ⟨Lq,cq,eq,fq,y6,y7,y8,y9,y10⟩:=eW y5 (hi.blk b' o' y4)
     have:=eo y10 y3 y2
     rw [(iX hvs this).1] at this
     exact this
    have hu1:u1=.slice none 0 0:=(gG hx).1
    have hnil:∀ B,¬ HB u1 B:=by intro B hB; rw [hu1] at hB; simp [HB,HB1] at hB
    refine run [b'] s2 tr ⟨none,0,hu1,A7 _,by unfold maxLen; omega,fun h=>absurd rfl h⟩ r4 rfl (by rw [r5,rc2.2]) (fun B h1 _=>hnil B h1) ?_ ?_ ?_ z4 ?_ RelL.nil rel2 ei k3 k4 hv
    ·intro d hd
     have hd:d=b':=by simpa using hd
     subst hd
     exact ⟨_,L2,hb2,rfl,r1⟩
    ·intro d hd
     have hd:d=b':=by simpa using hd
     rw [z3]
     subst hd
     simp [Hp.set]
    ·intro x hx'
     have hx':x≠b':=by simpa using hx'
     rw [z3]
     simp [Hp.set,hx']
    ·intro B hB
     rcases hB with hB | hB
     ·exact absurd hB (hnil B)
     ·exact ⟨b',by simp,L2,r1,(r6 B hB).symm⟩
   ·cases h
  ·cases h
 ·cases h
end
end Go.Rx

/-
 A closed call that the evaluator has run: a contract of the machine.
-/
namespace Go.Rx
open Go.Vm
def H2 (a b:Nat):Tr RO:=.node (some (.ro (.node (some (.nat a)) (.node (some (.nat b)) .nil .nil .nil .nil) .nil .nil .nil) 2)) .nil .nil .nil .nil
noncomputable def trueCon:Con:=⟨[],[(false,.bool)],fun _=>some (true,()),false⟩
theorem xO {r:Option (RV×RS)} (h:uF r=true):∃ s,r=some (.one (.bool true),s):=by
 unfold uF at h
 split at h
 ·exact ⟨_,rfl⟩
 ·cases h
theorem Dt {P:Program} {call:Call1} (hc:jW P [0] call) {a b:Nat} (ha:a≤maxI) (hb:b≤maxI) {f:Nat} (hr:uF (call f [] ⟨H2 a b,1⟩)=true) {glob:List (Nat×(Σ t:Ty,t.den))}
  (hg:eK glob 0=some ⟨.arr 2 (.int .i64),[(a:Int),(b:Int)]⟩):Con.Holds P glob f trueCon:=by
 refine Con.Holds.plain rfl ?_
 intro w F us x r hp hM
 obtain ⟨s',hs⟩:=xO hr
 have hus:us=[]:=by
  have h:=hp.args
  match us,h with
  | [],_=>rfl
  | _ :: _,h=>exact h.elim
 subst hus
 have hr:r=(true,()):=by
  have:some ((true,()):Bool×Unit)=some r:=hM
  exact (B4 this).symm
 obtain ⟨b0,off,c,el,fz,h1,h2,h3,h4,h5⟩ : ∃ b9 off c el fz,[Value.pointer (some ⟨0,0,none⟩)]=[.pointer (some ⟨b9,off,none⟩)]∧F b9∧w.heap[b9]?=some (.cells c el fz)∧off+(Ty.arr 2 (.int .i64)).size≤c.size∧Rd w F (.arr 2 (.int .i64)) (seg c off (Ty.arr 2 (.int .i64)).size) [(a:Int),(b:Int)]:=by
  have h:=hp.glob 0 _ _ hg
  unfold Rd at h
  exact h
 injection h1 with h1 _
 injection h1 with h1
 injection h1 with h1
 injection h1 with e1 e2 _
 subst e1 e2
 have hsz:(Ty.arr 2 (.int .i64)).size=2:=rfl
 rw [hsz] at h4 h5
 obtain ⟨_,_,h6⟩:=h5
 have c0:c[0]?=some (.int .i64 (a:Int)):=by
  have h:=(h6 0 (by simp)).1
  have h7:=seg_getElem? c 0 2 0 (by omega)
  simp [Ty.size] at h
  rw [L7] at h7
  rw [← h7,← List.head?_eq_getElem?]
  cases hq:seg c 0 2 with
  | nil=>rw [hq] at h; simp at h
  | cons x l=>rw [hq] at h; simp at h; simp [h]
 have c1:c[1]?=some (.int .i64 (b:Int)):=by
  have h:=(h6 1 (by simp)).1
  have h7:=seg_getElem? c 0 2 1 (by omega)
  simp [Ty.size] at h
  rw [Nat.zero_add] at h7
  rw [← h7]
  have h8:((seg c 0 2).drop 1)[0]?=some (.int .i64 (b:Int)):=by
   rw [← List.drop_one] at h
   cases hq:(seg c 0 2).drop 1 with
   | nil=>rw [hq] at h; simp at h
   | cons x l=>rw [hq] at h; simp at h; simp [h]
  rw [List.getElem?_drop] at h8
  simpa using h8
 have hlt:0 < w.heap.size:=(Array.getElem?_eq_some_iff.1 h3).1
 let ι : Io:=fun k=>if k=0 then some ⟨0,0,c.size⟩ else none
 have hι : ∀ k L,ι k=some L→k=0∧L=⟨0,0,c.size⟩:=by
  intro k L h
  by_cases e:k=0
  ·subst e; exact ⟨rfl,(B4 h).symm⟩
  ·simp [ι,e] at h
 have hget:∀ k o,(H2 a b).get k=some o→k=0∧o=.ro (.node (some (.nat a)) (.node (some (.nat b)) .nil .nil .nil .nil) .nil .nil .nil) 2:=by
  intro k o h
  cases k with
  | zero=>exact ⟨rfl,(B4 h).symm⟩
  | succ k =>
   unfold H2 at h
   rw [Tr.get_succ] at h
   have:n9 (Tr.nil:Tr RO) .nil .nil .nil (k % 4)=.nil:=by rw [eY]; split <;> rfl
   rw [this,Tr.get_nil] at h
   cases h
 have hi:RInv [0] w w ι (H2 a b).get:=by
  refine ⟨Kept.refl w NoM,?_,?_,?_,?_⟩
  ·intro k o h
   obtain ⟨rfl,rfl⟩:=hget k o h
   refine ⟨⟨0,0,c.size⟩,c,el,fz,rfl,h3,rfl,by show 0+2≤c.size; omega,?_⟩
   intro i hi
   match i,hi with
   | 0,_=>exact ⟨.nat a,_,Tr.get_zero _ _ _ _ _,c0,.nat ha⟩
   | 1,_=>exact ⟨.nat b,_,rfl,c1,.nat hb⟩
  ·intro k k' o o' L L' h h' ho
   obtain ⟨_,rfl⟩:=hget k o h
   cases ho
  ·intro k L h
   obtain ⟨_,rfl⟩:=hι k L h
   exact hlt
  ·intro g hg
   rw [LD.1 hg]
   exact ⟨c.size,rfl⟩
 have ht:∀ k,1≤k→ι k=none:=fun k hk=>by simp [ι,Nat.ne_of_gt hk]
 have hG:=hc f [] ⟨H2 a b,1⟩ _ s' hs w w ι [] hi ht .nil
 have fin:∀ u w',(∃ ι',Go1 [0] w 1 w ι (H2 a b).get s'.nx w' ι' s'.H.get∧RelV ι' u (.one (.bool true)))→∃ F2 css,xy w F trueCon.ins [] trueCon.outs r u w' F2 css trueCon.deep:=by
  rintro u w' ⟨ι',g,hv⟩
  have hu:u=.bool true:=by cases (show RelC ι' (.bool true) u from hv); rfl
  subst hu hr
  have hk:=g.inv.kept
  refine ⟨F,[[.bool true]],?_,fun _ h=>h,?_,rfl,⟨rfl,trivial⟩,trivial,Mo,fun u hu=>(by cases hu)⟩
  ·exact ⟨hk.os,hk.tape,hk.output,hk.size,fun b hb _=>hk.block b hb (fun h=>h)⟩
  ·intro b hb
   exact ⟨LA (hp.fro b hb) hk.size,.inl hb⟩
 rcases hG with ⟨q1,q2⟩ | ⟨u,w',q1,q2⟩
 ·refine .inl ⟨q1,Calls.mono q2 ?_⟩
  rintro e w' ⟨v,rfl,h⟩
  exact ⟨v,rfl,fin v w' h⟩
 ·exact .inr ⟨u,w',q1,fin u w' q2⟩
end Go.Rx

