/-
 A machine on typed values, small enough to be reckoned by the kernel, and the proof that it goes with the model: part 3 of 4. What it computes for a function is that function's contract. No condition of its own.
-/
import Derived.Test.YtgdkanecejfeiaaGreatDoorSVmB
import Derived.LoopN
open Option.some renaming injEq→A1,inj→B4
open Bool renaming and_eq_true→A4,not_eq_true'→Lz
open Nat renaming eq_of_beq_eq_true→A5,le_refl→A7,beq→A8,zero_add→Ln,lt_of_lt_of_le→LA,add_zero→L7,beq_refl→M5,ne_of_beq_eq_false→M8,sub_zero→Nv
open List renaming replicate→A6,mem_append→B1,mem_cons→B3,length_cons→La,all_eq_true→Lg,map_cons→Li,pairwise_cons→Lr,getElem?_cons_zero→Lt,getElem?_toArray→Lv,mem_singleton→LD,append_assoc→LH,pairwise_singleton→LP,append_nil→LU,nil_append→LW,any_eq_false→L4,any_eq_true→L9,pairwise_append→Mm,mem_filter→Mp,Pairwise→Mq,map_append→ME,mem_map→MO,mem_flatMap→MT,take_left→MY,drop_left→MZ,length_map→Nh,flatMap_append→NI,all_cons→NP,tail_cons→N6,length_eq_one_iff→Og,mem_of_mem_tail→Oo,range'→Oq
open Option renaming bind_eq_some_iff→B6
open Int renaming toNat_natCast→B8
open Prod.mk renaming injEq→Ld
open Array renaming getElem?_toList→LO,getD_eq_getD_getElem?→Md,ext'→MW,replicate→Nd,map→NU
open List.Pairwise renaming nil→Mo,cons→M6
open List.cons renaming injEq→Mx
open List.Sublist renaming refl→NG
open Sum.inr renaming injEq→OP
set_option linter.unusedVariables false
set_option linter.unusedSimpArgs false
/-
 What a call asks, in terms of memory: the arguments.
-/
namespace Go.Vm
section
variable {P:Program} {C:Ctx} {w0:World} {M:Own} {o:Oper} {a:Act} {m:Mem} {s s':St}
def HdrsOf (m:Mem) (L:List Value) (I:List Nat):Prop :=
 (∀ b,cP L b→∃ id o,id∈I∧m.G.get id=some o∧isObj o=true∧HB (m.ι id) b)∧(aK I=true→cz L)
theorem HdrsOf.nil (m:Mem) (I:List Nat):HdrsOf m [] I:=⟨by rintro b ⟨u,hu,_⟩; simp at hu,fun _=>Mo⟩
theorem HdrsOf.append (hi:Inv C w0 M m) {L1 L2:List Value} {I1 I2:List Nat} (h1:HdrsOf m L1 I1) (h2:HdrsOf m L2 I2):HdrsOf m (L1++L2) (I1++I2):=by
 refine ⟨?_,fun hn=>?_⟩
 ·rintro b ⟨u,hu,hb⟩
  rcases B1.1 hu with hu | hu
  ·obtain ⟨id,o,k1,k2⟩:=h1.1 b ⟨u,hu,hb⟩
   exact ⟨id,o,by simp [k1],k2⟩
  ·obtain ⟨id,o,k1,k2⟩:=h2.1 b ⟨u,hu,hb⟩
   exact ⟨id,o,by simp [k1],k2⟩
 ·obtain ⟨n1,n2,n3⟩:=aT hn
  refine Mm.2 ⟨h1.2 n1,h2.2 n2,?_⟩
  intro u hu v hv b hb hb'
  obtain ⟨id,o,k1,k2,k3,k4⟩:=h1.1 b ⟨u,hu,hb⟩
  obtain ⟨id',o',j1,j2,j3,j4⟩:=h2.1 b ⟨v,hv,hb'⟩
  have:=hi.inj id id' o o' b k2 k3 j2 j3 k4 j4
  subst this
  exact n3 id k1 j1
theorem HdrsOf.of_has {v:SV} {u:Value} (h:Ib m v u):HdrsOf m [u] (bD v):=by
 refine ⟨?_,fun _=>LP _ _⟩
 rintro b ⟨u',hu',hb⟩
 simp only [LD] at hu'
 subst hu'
 obtain ⟨id,o,k1,k2,k3,k4⟩:=h b hb
 exact ⟨id,o,by rw [k1]; simp,k2,k3,k4⟩
theorem HdrsOf.cons (hi:Inv C w0 M m) {u:Value} {L:List Value} {I1 I2:List Nat} (h1:HdrsOf m [u] I1) (h2:HdrsOf m L I2):HdrsOf m (u :: L) (I1++I2):=h1.append hi h2
theorem Cu {d:Bool} (hi:Inv C w0 M m) {e:Ty} {at':Atom} {u:Value} {y:List e.den} (hr:ae m u at') (hy:aE m.G (.slice e) at'=some y) (ho:fe (d && e.isSl) at'=true) :
  ∃ g,aJ g=u∧kW m.w m.F d e g y∧HdrsOf m [g] (bf at'):=by
 cases hde:(d && e.isSl) with
 | false =>
  rw [hde] at ho
  have hk:SV.av at'=.av .nils∨(∃ id,SV.av at'=.av (.own id))∨∃ id o n,SV.av at'=.av (.view id o n):=by
   cases at' <;> simp [fe] at ho ⊢
  have hnv:∀ τ x,at'≠.val τ x:=by intro τ x e; subst e; simp [fe] at ho
  have hsv:aW m.G (.slice e) (.av at')=some y:=by
   cases at' <;> simp [fe] at ho <;> exact hy
  obtain ⟨g1,g2,g3⟩:=nT hi hsv ((ah hnv).2 hr) hk
  have g1:HdrW m.w m.F u e y:=g1
  have hown:kW m.w m.F d e u y:=by
   cases e with
   | slice σ =>
    cases d with
    | true=>simp [Ty.isSl] at hde
    | false=>exact g1
   | _=>exact g1
  exact ⟨u,bV (bq g1),hown,HdrsOf.of_has g2⟩
 | true =>
  rw [hde] at ho
  simp only [A4] at hde
  obtain ⟨rfl,hsl⟩:=hde
  cases e with
  | slice σ =>
   cases at' with
   | nils =>
    simp only [aE,A1] at hy
    subst hy
    obtain ⟨ad,rfl⟩:=hr
    have hnb:∀ b,¬ HB (.slice ad 0 0) b:=fun b hb=>by cases ad <;> simp [HB,HB1] at hb
    have hd:DeepW m.w m.F (.slice ad 0 0) [] σ [] none:=⟨rfl,⟨ad,0,rfl,by simp,by unfold maxLen; omega,fun h=>absurd rfl h⟩,by intro i hi; simp at hi,(by intro i v hi; cases hi),LP _ _⟩
    refine ⟨.tuple [.slice ad 0 0].toArray,rfl,⟨_,[],rfl,hd⟩,?_,fun _=>LP _ _⟩
    rintro b ⟨u',hu',hb⟩
    simp only [LD] at hu'
    subst hu'
    obtain ⟨v,hv,hb⟩:=(bR hd.one).1 hb
    simp only [LD] at hv
    subst hv
    exact absurd hb (hnb b)
   | ownd id =>
    obtain ⟨_,ob,hob,hv⟩:=hr
    simp only [aE] at hy
    rw [hob] at hy
    cases ob with
    | deep ver τ l' hole =>
     cases hole with
     | some _=>simp at hy
     | none =>
      simp only at hy
      obtain ⟨e',hy⟩:=au hy
      simp only [Ty.slice.injEq] at e'
      subst e'; subst hy
      obtain ⟨vs,v1,v2⟩:=hv
      obtain ⟨u',hs,d1,d2⟩:=cg hi hob
      rw [d1] at v1
      simp only [Value.tuple.injEq] at v1
      subst v1
      simp only [Lv,Lt,A1] at v2
      subst v2
      refine ⟨.tuple (u' :: hs).toArray,by simp [aJ],⟨_,hs,rfl,d2⟩,?_,fun _=>LP _ _⟩
      rintro b ⟨u2,hu2,hb⟩
      simp only [LD] at hu2
      subst hu2
      exact ⟨id,_,by simp [bf],hob,rfl,by rw [d1]; exact hb⟩
    | _=>simp at hy
   | _=>simp [fe] at ho
  | _=>simp [Ty.isSl] at hsl
theorem ib {own:Bool} {k:List Nat}:∀ {o:Nat} {l r:List Atom},ct own k o (l++r)=ct own k o l++ct own k (o+l.length) r
 | _,[],_=>rfl
 | o,a :: l,r=>by
  simp only [List.cons_append,ct,La,ib (l:=l),LH]
  rw [show o+1+l.length=o+(l.length+1) by omega]
theorem nl (hi:Inv C w0 M m) {Fr:Nat→Prop} {τ : Ty} (hf : τ.flat=true) {us:List Value} {at':Atom} {l:List Atom} {x : τ.den} (hr:Rel2 (ae m) us (at' :: l)) (hy:aE m.G τ at'=some x) :
  ∃ u us',us=[u].map aJ++us'∧Rd m.w Fr τ [u] x∧Rel2 (ae m) us' l:=by
 cases us with
 | nil=>exact hr.elim
 | cons u us =>
  have h:=(dn hi hy hr.1).flat hf m.w Fr
  exact ⟨u,us,by rw [bI h]; rfl,h,hr.2⟩
theorem o6 (hi:Inv C w0 M m) {k:List Nat} {Fr:Nat→Prop} (hF:∀ b,m.F b→Fr b):∀ {o:Nat} {τ : Ty} {us:List Value} {l rest rest':List Atom} {x : τ.den},Rel2 (ae m) us l→ay m.G τ l=some (x,rest)→jo k o τ l=(true,rest') →
  (∀ b,Thru m (ct false k o l) b→Fr b) →
  ∃ c us' lc,us=c.map aJ++us'∧l=lc++rest∧rest'=rest∧lc.length=τ.size∧BoxRd m.w Fr k o τ c x∧Rel2 (ae m) us' rest∧HdrsOf m (bz k o τ c) (ct true k o lc)
 | o,.prod a b,us,l,rest,rest',x,hr,hc,ho,hT=>by
  simp only [ay] at hc
  split at hc
  ·rename_i x1 r1 h1
   split at hc
   ·rename_i x2 r2 h2
    have hc:=B4 hc
    simp only [Ld] at hc
    obtain ⟨rfl,rfl⟩:=hc
    simp only [jo,Ld,A4] at ho
    obtain ⟨⟨o1,o2⟩,o3⟩:=ho
    obtain ⟨c1,us1,lc1,a1,a2,a3,al,a4,a5,a6⟩:=o6 hi hF (k:=k) (o:=o) (rest':=(jo k o a l).2) hr h1 (by rw [← o1]) hT
    rw [a3] at o2 o3
    subst a2
    have hT2:∀ b',Thru m (ct false k (o+a.size) r1) b'→Fr b':=fun b' hb=>hT b' (Thru.mono (fun i hi=>by rw [ib,al]; simp [hi]) hb)
    obtain ⟨c2,us2,lc2,b1,b2,b3,bl,b4,b5,b6⟩:=o6 hi hF (k:=k) (o:=o+a.size) (rest':=(jo k (o+a.size) b r1).2) a5 h2 (by rw [← o2]) hT2
    subst a1
    subst b1
    subst b2
    have hh:bz k o (.prod a b) (c1++c2)=bz k o a c1++bz k (o+a.size) b c2:=by
     show bz k o a ((c1++c2).take a.size)++bz k (o+a.size) b ((c1++c2).drop a.size)=_
     rw [← a4.len,MY,MZ]
    refine ⟨c1++c2,us2,lc1++lc2,by simp,by simp,by rw [← o3,b3],by simp [al,bl,Ty.size],⟨c1,c2,rfl,a4,b4⟩,b5,?_⟩
    rw [hh,ib,al]
    exact a6.append hi b6
   ·simp at hc
  ·simp at hc
 | o,.unit,us,l,rest,rest',x,hr,hc,ho,hT=>by
  simp only [ay,A1,Ld] at hc
  simp only [jo,Ld,true_and] at ho
  obtain ⟨_,rfl⟩:=hc
  subst ho
  exact ⟨[],us,[],rfl,rfl,rfl,rfl,rfl,hr,HdrsOf.nil _ _⟩
 | o,.slice e,us,l,rest,rest',x,hr,hc,ho,hT=>by
  cases l with
  | nil=>simp [ay] at hc
  | cons at' l =>
   cases us with
   | nil=>exact hr.elim
   | cons u us =>
    simp only [ay] at hc
    split at hc
    ·rename_i y hy
     have hc:=B4 hc
     simp only [Ld] at hc
     obtain ⟨rfl,rfl⟩:=hc
     simp only [jo,Ld] at ho
     obtain ⟨o1,rfl⟩:=ho
     cases hk:A8 (dJ k o) 0 with
     | true =>
      have h:=(dn hi hy hr.1).mono (w':=m.w) (F':=Fr) fun b hb=>⟨hT b (Thru.mono (fun i hi=>by simp [ct,hk,hi]) hb),rfl⟩
      refine ⟨[u],us,[at'],by rw [bI h]; rfl,rfl,rfl,rfl,by unfold BoxRd; rw [hk]; exact h,hr.2,?_⟩
      unfold bz
      rw [hk]
      exact HdrsOf.nil _ _
     | false =>
      rw [hk] at o1
      simp only [cond_false] at o1
      obtain ⟨g,g1,g2,g3⟩:=Cu hi hr.1 hy o1
      refine ⟨[g],us,[at'],by rw [← g1]; rfl,rfl,rfl,rfl,?_,hr.2,?_⟩
      ·unfold BoxRd
       rw [hk]
       exact ⟨g,rfl,m7 (fun b hb=>⟨hF b hb,rfl⟩) (fun _ _=>rfl) g2⟩
      ·unfold bz
       rw [hk]
       have e:ct true k o [at']=bf at':=by simp [ct,hk]
       rw [e]
       exact g3
    ·simp at hc
 | o,.int k',us,[],rest,rest',x,hr,hc,ho,hT=>by simp [ay] at hc
 | o,.int k',us,at' :: l,rest,rest',x,hr,hc,ho,hT=>by
  simp only [ay] at hc
  split at hc
  ·rename_i y hy
   have hc:=B4 hc
   simp only [Ld] at hc
   obtain ⟨rfl,rfl⟩:=hc
   simp only [jo,Ld,true_and] at ho
   obtain ⟨u,us',h1,h2,h3⟩:=nl (Fr:=Fr) hi (τ:=.int k') rfl hr hy
   exact ⟨[u],us',[at'],h1,rfl,ho.symm,rfl,h2,h3,HdrsOf.nil _ _⟩
  ·simp at hc
 | o,.bool,us,[],rest,rest',x,hr,hc,ho,hT=>by simp [ay] at hc
 | o,.bool,us,at' :: l,rest,rest',x,hr,hc,ho,hT=>by
  simp only [ay] at hc
  split at hc
  ·rename_i y hy
   have hc:=B4 hc
   simp only [Ld] at hc
   obtain ⟨rfl,rfl⟩:=hc
   simp only [jo,Ld,true_and] at ho
   obtain ⟨u,us',h1,h2,h3⟩:=nl (Fr:=Fr) hi (τ:=.bool) rfl hr hy
   exact ⟨[u],us',[at'],h1,rfl,ho.symm,rfl,h2,h3,HdrsOf.nil _ _⟩
  ·simp at hc
 | o,.str,us,[],rest,rest',x,hr,hc,ho,hT=>by simp [ay] at hc
 | o,.str,us,at' :: l,rest,rest',x,hr,hc,ho,hT=>by
  simp only [ay] at hc
  split at hc
  ·rename_i y hy
   have hc:=B4 hc
   simp only [Ld] at hc
   obtain ⟨rfl,rfl⟩:=hc
   simp only [jo,Ld,true_and] at ho
   obtain ⟨u,us',h1,h2,h3⟩:=nl (Fr:=Fr) hi (τ:=.str) rfl hr hy
   exact ⟨[u],us',[at'],h1,rfl,ho.symm,rfl,h2,h3,HdrsOf.nil _ _⟩
  ·simp at hc
 | _,.arr _ _,_,_,_,_,_,_,_,ho,_=>by simp [jo] at ho
 | _,.ptr _,_,_,_,_,_,_,_,ho,_=>by simp [jo] at ho
 | _,.clo _ _,_,_,_,_,_,_,_,ho,_=>by simp [jo] at ho
theorem cV {p:Value} {hs:List Value}:aJ (nV p hs)=p:=by simp [nV,aJ]
theorem xV (hi:Inv C w0 M m) {k:List Nat} {T:Ty} {id:Nat} {l:List Atom} {u:Value} {x:T.den} {rest rest':List Atom} {Fr:Nat→Prop} (hF:∀ b,m.F b→Fr b) (hg:m.G.get id=some (.box l)) (hr:ae m u (.ptr id 0)) (hc:ay m.G T l=some (x,rest)) (ho:jo k 0 T l=(true,rest')) (hor:rest=[]∨rest'=[])
  (hn:aK (cG true k m.G (.av (.ptr id 0)))=true) (hT:∀ b,Thru m (cG false k m.G (.av (.ptr id 0))) b→Fr b) :
  ∃ t,aJ t=u∧GR m.w Fr k T t x∧HdrsOf m [t] (cG true k m.G (.av (.ptr id 0)))∧m.ι id=u∧rest=[]:=by
 have e1:cG true k m.G (.av (.ptr id 0))=id :: ct true k 0 l:=by simp [cG,hg]
 have e2:cG false k m.G (.av (.ptr id 0))=ct false k 0 l:=by simp [cG,hg]
 rw [e1] at hn ⊢
 rw [e2] at hT
 obtain ⟨_,ob,hob,hv⟩:=hr
 rw [hg] at hob
 simp only [A1] at hob
 subst hob
 obtain ⟨b,hι,rfl⟩:=hv
 obtain ⟨b',c,el,h1,h2,h3,h4⟩:=hi.objs id _ hg
 rw [hι] at h1
 simp only [Value.pointer.injEq,A1,Addr.mk.injEq,and_true] at h1
 subst h1
 obtain ⟨cs,us',lc,a1,a2,a3,a4,a5,a6,a7⟩:=o6 hi hF h4 hc ho hT
 have a8:rest=[]:=by
  rcases hor with h | h
  ·exact h
  ·rw [← a3,h]
 subst a8
 match us',a6 with
 | [],_ =>
  rw [LU] at a1 a2
  subst a2
  obtain ⟨n1,n2⟩:=dE hn
  have hp:∀ bl,HB1 (.pointer (some ⟨b,0,none⟩)) bl→HB (m.ι id) bl:=fun bl hb=>by rw [hι]; exact hb
  refine ⟨nV (.pointer (some ⟨b,0,none⟩)) (bz k 0 T cs),cV,⟨b,c,el,cs,rfl,h2,a1,a5,?_⟩,⟨?_,fun _=>LP _ _⟩,hι,rfl⟩
  ·refine M6 ?_ (a7.2 n2)
   intro v hv bl hb hb'
   obtain ⟨id',o',k1,k2,k3,k4⟩:=a7.1 bl ⟨v,hv,hb'⟩
   have:=hi.inj id id' _ o' bl hg rfl k2 k3 (hp bl hb) k4
   subst this
   exact n1 k1
  ·rintro bl ⟨u',hu',hb⟩
   simp only [LD] at hu'
   subst hu'
   rcases me.1 hb with hb | ⟨v,hv,hb⟩
   ·exact ⟨id,_,by simp,hg,rfl,hp bl hb⟩
   ·obtain ⟨id',o',k1,k2⟩:=a7.1 bl ⟨v,hv,hb⟩
    exact ⟨id',o',by simp [k1],k2⟩
theorem oY {w:World} {F:Nat→Prop} {τ : Ty} {cs:List Value} {x : τ.den} (h:Rd w F τ cs x):aJ (toV τ cs)=toV τ cs:=by
 cases ha : τ.isAgg with
 | true=>simp [toV,ha,aJ]
 | false =>
  obtain ⟨v,rfl,_⟩:=h.single ha
  have h1:=h.one v (by simp)
  rw [nk ha]
  exact bV h1
theorem eM {G:Heap} {k:List Nat} {τ : Ty} {r:List (Mode×Ty)} {v:SV} {vs:List SV}:aP G ((.box k,τ) :: r) (v :: vs)=(cG false k G v++(aP G r vs).1,cG true k G v++(aP G r vs).2):=rfl
theorem lH (hi:Inv C w0 M m):∀ {ins:List (Mode×Ty)} {vs:List SV} {us:List Value} {x:(aB (ins.map (·.2))).den} {y:(aB (aY ins)).den} {G G':Heap} {F:Nat→Prop},
  dD m.G ins vs=some x→Rel2 (RelSV m) us vs→ac ins vs y G=some G'→cM m.G ins vs=true→aK (aP m.G ins vs).2=true→(∀ b,Thru m (aP m.G ins vs).1 b→F b) →
  ∃ ts:List Value,us=ts.map aJ∧ArgsRd m.w F ins ts x∧HdrsOf m (ax ins ts) (aP m.G ins vs).2∧ts.length=ins.length
 | [],[],[],x,y,G,G',F,h,hr,ha,hb,hn,hF=>⟨[],rfl,trivial,HdrsOf.nil _ _,rfl⟩
 | [],_ :: _,_,_,_,_,_,_,h,_,_,_,_,_=>by simp [dD] at h
 | _ :: _,[],_,_,_,_,_,_,h,_,_,_,_,_=>by simp [dD] at h
 | _ :: _,_ :: _,[],_,_,_,_,_,_,h,_,_,_,_=>h.elim
 | [],[],_ :: _,_,_,_,_,_,_,h,_,_,_,_=>h.elim
 | (md,τ) :: r,v :: vs,u :: us,x,y,G,G',F,h,hr,ha,hb,hn,hF=>by
  unfold dD at h
  split at h
  ·rename_i x1 hx1
   split at h
   ·rename_i x2 hx2
    have h:=B4 h
    subst h
    dsimp only at hx1
    obtain ⟨hr1,hr2⟩:=hr
    have hFm:∀ b,m.F b→F b:=fun b hb=>hF b (.inl hb)
    cases md with
    | rd =>
     have ha':ac r vs y G=some G':=ha
     obtain ⟨ts,q0,q1,q2,q4⟩:=lH hi (F:=F) hx2 hr2 ha' hb hn (fun b hb=>hF b (Thru.mono (fun i hi=>by rw [lF]; simp [hi]) hb))
     obtain ⟨cs,c1,c2⟩:=dF hi hx1 hr1
     exact ⟨u :: ts,by rw [Li,← q0,c1,oY c2],⟨⟨cs,c1,c2.mono fun b hb=>⟨hF b (Thru.mono (fun i hi=>by rw [lF]; simp [hi]) hb),rfl⟩⟩,q1⟩,q2,by simp [q4]⟩
    | take =>
     obtain ⟨hk,ha'⟩:=fg ha
     rw [i6] at hn
     obtain ⟨n1,n2,_⟩:=aT hn
     obtain ⟨ts,q0,q1,q2,q4⟩:=lH hi (F:=F) hx2 hr2 ha' hb n2 (fun b hb=>hF b hb)
     obtain ⟨g1,g2,g3⟩:=nT hi hx1 hr1 hk
     have g1':=ArgRd.mono (F':=F) hFm g1
     have hone:aJ u=u:=by
      cases τ <;> first | exact g1'.elim | exact bV (bq g1')
     refine ⟨u :: ts,by rw [Li,← q0,hone],⟨g1',q1⟩,?_,by simp [q4]⟩
     rw [i6]
     exact (HdrsOf.of_has g2).cons hi q2
    | upd =>
     cases τ with
     | slice e =>
      have hk:(v=.av .nils∨(∃ id,v=.av (.own id))∨∃ id o n,v=.av (.view id o n))∧∃ G1 y',ac r vs y' G1=some G':=by
       rcases fO ha with ⟨rfl,h1⟩ | ⟨id,rfl,h1⟩
       ·exact ⟨.inl rfl,_,_,h1⟩
       ·exact ⟨.inr (.inl ⟨_,rfl⟩),_,_,h1⟩
      obtain ⟨hk,G1,y',ha'⟩:=hk
      rw [kp] at hn
      obtain ⟨n1,n2,_⟩:=aT hn
      obtain ⟨ts,q0,q1,q2,q4⟩:=lH hi (F:=F) hx2 hr2 ha' hb n2 (fun b hb=>hF b hb)
      obtain ⟨g1,g2,g3⟩:=nT hi hx1 hr1 hk
      have g1':HdrW m.w F u e x1:=ArgRd.mono (F':=F) hFm g1
      refine ⟨u :: ts,by rw [Li,← q0,bV (bq g1')],⟨g1',q1⟩,?_,by simp [q4]⟩
      rw [kp]
      exact (HdrsOf.of_has g2).cons hi q2
     | _=>simp [ac] at ha
    | box k =>
     cases τ with
     | ptr T =>
      simp only [cM,A4] at hb
      obtain ⟨hb1,hb2⟩:=hb
      split at hb1
      ·rename_i id
       split at hb1
       ·rename_i l hl
        simp only [A4,List.isEmpty_iff] at hb1
        have ha':∃ y' G1,ac r vs y' G1=some G':=⟨_,_,ha⟩
        obtain ⟨y',G1,ha'⟩:=ha'
        rw [eM] at hn
        obtain ⟨n1,n2,_⟩:=aT hn
        obtain ⟨ts,q0,q1,q2,q4⟩:=lH hi (F:=F) hx2 hr2 ha' hb2 n2 (fun b hb=>hF b (Thru.mono (fun i hi=>by rw [eM]; simp [hi]) hb))
        simp only [aW,jC,hl] at hx1
        cases hc1:Nat.ble (0+T.size) l.length with
        | false=>rw [hc1] at hx1; simp at hx1
        | true =>
         rw [hc1] at hx1
         simp only [cond_true,List.drop_zero] at hx1
         split at hx1
         ·rename_i x1' rest hc
          have hx1:=B4 hx1
          subst hx1
          obtain ⟨t,t1,t2,t3,_⟩:=xV hi (Fr:=F) hFm hl ((ah (by intros; simp)).1 hr1) hc (by rw [← hb1.1,← hb1.2]) (.inr rfl) n1 (fun b hb=>hF b (Thru.mono (fun i hi=>by rw [eM]; simp [hi]) hb))
          refine ⟨t :: ts,by rw [Li,← q0,t1],⟨t2,q1⟩,?_,by simp [q4]⟩
          rw [eM]
          exact t3.cons hi q2
         ·simp at hx1
       ·simp at hb1
      ·simp at hb1
     | _=>simp [ac] at ha
   ·simp at h
  ·simp at h
def pR:List (Mode×Ty)→Bool
 | []=>true
 | (.box _,_) :: _=>false
 | _ :: r=>pR r
theorem ju:∀ {ins:List (Mode×Ty)} {us us':List Value},pR ins=true→mB ins us us'→us'=us
 | [],[],[],_,_=>rfl
 | [],[],_ :: _,_,h=>h.elim
 | [],_ :: _,_,_,h=>by cases h
 | (md,_) :: _,[],us',_,h=>by cases md <;> cases us' <;> exact h.elim
 | (md,_) :: _,_ :: _,[],_,h=>by cases md <;> exact h.elim
 | (md,τ) :: r,u :: us,u' :: us',hn,h=>by
  cases md with
  | box k=>simp [pR] at hn
  | rd=>obtain ⟨rfl,h⟩:=h; rw [ju (ins:=r) hn h]
  | upd=>obtain ⟨rfl,h⟩:=h; rw [ju (ins:=r) hn h]
  | take=>obtain ⟨rfl,h⟩:=h; rw [ju (ins:=r) hn h]
theorem tZ:∀ {ins:List (Mode×Ty)} {us:List Value},us.length=ins.length→mB ins us us
 | [],[],_=>trivial
 | [],_ :: _,h=>by simp at h
 | _ :: _,[],h=>by simp at h
 | (md,τ) :: r,u :: us,h=>by
  have:=tZ (ins:=r) (us:=us) (by simpa using h)
  cases md <;> exact ⟨rfl,this⟩
theorem g9 {w:World} {F:Nat→Prop}:∀ {ins:List (Mode×Ty)} {us:List Value} {x:(aB (ins.map (·.2))).den},pR ins=true→ArgsRd w F ins us x→us.map aJ=us∧us.length=ins.length
 | [],[],_,_,_=>⟨rfl,rfl⟩
 | [],_ :: _,_,_,h=>h.elim
 | _ :: _,[],_,_,h=>h.elim
 | (md,τ) :: r,u :: us,x,hn,h=>by
  have key:∀ {md:Mode},(∀ k,md≠.box k)→ArgRd w F md τ u x.1→aJ u=u:=by
   intro md hm h
   cases md with
   | rd=>obtain ⟨cs,rfl,h2⟩:=h; exact oY h2
   | upd=>cases τ <;> first | exact h.elim | exact bV (bq h)
   | take=>cases τ <;> first | exact h.elim | exact bV (bq h)
   | box k=>exact absurd rfl (hm k)
  cases md with
  | box k=>simp [pR] at hn
  | rd=>obtain ⟨q1,q2⟩:=g9 (ins:=r) hn h.2; exact ⟨by rw [Li,key (by intro k e; cases e) h.1,q1],by simp [q2]⟩
  | upd=>obtain ⟨q1,q2⟩:=g9 (ins:=r) hn h.2; exact ⟨by rw [Li,key (by intro k e; cases e) h.1,q1],by simp [q2]⟩
  | take=>obtain ⟨q1,q2⟩:=g9 (ins:=r) hn h.2; exact ⟨by rw [Li,key (by intro k e; cases e) h.1,q1],by simp [q2]⟩
end
theorem Goes.mono {P:Program} {f:FuncId} {vs:Array Value} {w:World} {R R':Value→World→Prop} (h:Goes P f vs w R) (hr:∀ v w',R v w'→R' v w'):Goes P f vs w R':=by
 rcases h with ⟨h1,h2⟩ | ⟨v,w',h1,h2⟩
 ·exact .inl ⟨h1,Calls.mono h2 fun e w' ⟨v,he,hR⟩=>⟨v,he,hr v w' hR⟩⟩
 ·exact .inr ⟨v,w',h1,hr v w' h2⟩
theorem Con.Holds.plain {P:Program} {glob:List (Nat×(Σ t:Ty,t.den))} {f:FuncId} {c:Con} (hn:pR c.ins=true)
  (h:∀ (w:World) (F:Nat→Prop) (us:List Value) (x:(aB (c.ins.map (·.2))).den) (r:(aB (c.outs.map (·.2)++aY c.ins)).den),Pre glob w F c.ins us x→c.fn x=some r →
   Goes P f us.toArray w fun v w'=>∃ F2 css,xy w F c.ins us c.outs r v w' F2 css c.deep):Con.Holds P glob f c:=by
 intro w F us x r hp hf
 obtain ⟨q1,q2⟩:=g9 hn hp.args
 rw [q1]
 exact (h w F us x r hp hf).mono fun v w' ⟨F2,css,hP⟩=>⟨us,F2,css,tZ q2,hP⟩
theorem Con.Holds.get {P:Program} {glob:List (Nat×(Σ t:Ty,t.den))} {f:FuncId} {c:Con} (hc:Con.Holds P glob f c) (hn:pR c.ins=true) {w:World} {F:Nat→Prop} {us:List Value} {x:(aB (c.ins.map (·.2))).den} {r:(aB (c.outs.map (·.2)++aY c.ins)).den}
  (hp:Pre glob w F c.ins us x) (hf:c.fn x=some r):Goes P f us.toArray w fun v w'=>∃ F2 css,xy w F c.ins us c.outs r v w' F2 css c.deep:=by
 have h:=hc w F us x r hp hf
 obtain ⟨q1,q2⟩:=g9 hn hp.args
 rw [q1] at h
 refine h.mono fun v w' ⟨us',F2,css,hs,hP⟩=>?_
 have:=ju hn hs
 subst this
 exact ⟨F2,css,hP⟩
end Go.Vm

/-
 The machine's operations against the model's: what a call leaves behind.
-/
namespace Go.Vm
section
variable {P:Program} {C:Ctx} {w0:World} {M:Own} {o:Oper} {a:Act} {m:Mem} {s s':St}
structure Aft (m:Mem) (w':World) (F1:Nat→Prop) (H:List Value) (G:Heap) (S:List Nat):Prop where
 old:∀ id o,G.get id=some o→isObj o=true→(id∉S∧m.G.get id=some o)∨∃ o0,m.G.get id=some o0∧isObj o0=true∧Alike o0 o∧(∀ G',db ⟨w',F1,m.ι,G'⟩ id o)∧∀ b,HB (m.ι id) b→cP H b
 get:∀ id o,m.G.get id=some o→∃ o',G.get id=some o'∧(o'=.dead∨Alike o o')
theorem Aft.kill {w':World} {F1:Nat→Prop} {H:List Value} {S:List Nat} (i:Nat) {G:Heap} (h:Aft m w' F1 H G S):Aft m w' F1 H ((i,.dead) :: G) (S++[i]):=by
 refine ⟨fun id o ho hob=>?_,fun id o ho=>?_⟩
 ·rw [Heap.get_cons] at ho
  split at ho
  ·simp only [A1] at ho
   subst ho
   simp [isObj] at hob
  ·rename_i hne
   rcases h.old id o ho hob with ⟨h1,h2⟩ | h1
   ·exact .inl ⟨by simp [h1,Ne.symm hne],h2⟩
   ·exact .inr h1
 ·by_cases e:i=id
  ·exact ⟨.dead,by rw [Heap.get_cons,if_pos e],.inl rfl⟩
  ·obtain ⟨o',h1,h2⟩:=h.get id o ho
   exact ⟨o',by rw [Heap.get_cons,if_neg e]; exact h1,h2⟩
theorem Aft.kills {w':World} {F1:Nat→Prop} {H:List Value}:∀ (ids:List Nat) {S:List Nat} {G:Heap},Aft m w' F1 H G S→Aft m w' F1 H (am ids G) (S++ids)
 | [],S,G,h=>by rw [LU]; exact h
 | i :: r,S,G,h=>by
  have:=Aft.kills r (h.kill i)
  rw [LH] at this
  exact this
theorem Aft.put {w':World} {F1:Nat→Prop} {H:List Value} {S:List Nat} {i:Nat} {G:Heap} {o0 o1:Obj} (hg:m.G.get i=some o0) (hob:isObj o0=true) (ha:Alike o0 o1) (hh:∀ G',db ⟨w',F1,m.ι,G'⟩ i o1) (hm:∀ b,HB (m.ι i) b→cP H b)
  (h:Aft m w' F1 H G S):Aft m w' F1 H ((i,o1) :: G) (S++[i]):=by
 refine ⟨fun id o ho hob'=>?_,fun id o ho=>?_⟩
 ·rw [Heap.get_cons] at ho
  split at ho
  ·rename_i e0
   subst e0
   simp only [A1] at ho
   subst ho
   exact .inr ⟨o0,hg,hob,ha,hh,hm⟩
  ·rename_i hne
   rcases h.old id o ho hob' with ⟨h1,h2⟩ | h1
   ·exact .inl ⟨by simp [h1,Ne.symm hne],h2⟩
   ·exact .inr h1
 ·by_cases e0:i=id
  ·subst e0
   rw [hg] at ho
   simp only [A1] at ho
   subst ho
   exact ⟨o1,by rw [Heap.get_cons,if_pos rfl],.inr ha⟩
  ·obtain ⟨o',h1,h2⟩:=h.get id o ho
   exact ⟨o',by rw [Heap.get_cons,if_neg e0]; exact h1,h2⟩
def br:List (Mode×Ty)→List SV→List Nat
 | (.rd,_) :: r,_ :: vs=>br r vs
 | (.box _,_) :: r,.av (.ptr i _) :: vs=>i :: br r vs
 | (_,_) :: r,v :: vs=>bD v++br r vs
 | _,_=>[]
def cU:List (Mode×Ty)→List Value→List Value
 | (.upd,_) :: r,u :: us=>u :: cU r us
 | (.box _,_) :: r,u :: us=>aJ u :: cU r us
 | (_,_) :: r,_ :: us=>cU r us
 | _,_=>[]
theorem kZ {m:Mem}:∀ (us:List Value),Rel2 (ae m) us (A6 us.length .u)
 | []=>trivial
 | _ :: us=>⟨trivial,kZ us⟩
theorem eS {G:Heap}:∀ {ins:List (Mode×Ty)} {vs:List SV},cM G ins vs=true→∀ i∈(aP G ins vs).2,i∈br ins vs∨i∈bk G ins vs
 | [],vs,_,i,h=>by cases vs <;> simp [aP] at h
 | (md,τ) :: r,[],_,i,h=>by cases md <;> simp [aP] at h
 | (.rd,τ) :: r,v :: vs,hb,i,h=>eS (ins:=r) (vs:=vs) hb i h
 | (.upd,τ) :: r,v :: vs,hb,i,h=>by
  have h:i∈bD v++(aP G r vs).2:=h
  have e:br ((.upd,τ) :: r) (v :: vs)=bD v++br r vs:=rfl
  rw [e]
  rcases B1.1 h with h | h
  ·exact .inl (by simp [h])
  ·rcases eS (ins:=r) (vs:=vs) hb i h with h | h
   ·exact .inl (by simp [h])
   ·exact .inr h
 | (.take,τ) :: r,v :: vs,hb,i,h=>by
  have h:i∈bD v++(aP G r vs).2:=h
  have e:br ((.take,τ) :: r) (v :: vs)=bD v++br r vs:=rfl
  rw [e]
  rcases B1.1 h with h | h
  ·exact .inl (by simp [h])
  ·rcases eS (ins:=r) (vs:=vs) hb i h with h | h
   ·exact .inl (by simp [h])
   ·exact .inr h
 | (.box k,τ) :: r,v :: vs,hb,i,h=>by
  cases τ with
  | ptr T =>
   simp only [cM,A4] at hb
   obtain ⟨hb1,hb2⟩:=hb
   replace h:i∈cG true k G v++(aP G r vs).2:=h
   split at hb1
   ·rename_i id
    split at hb1
    ·rename_i l hl
     have e:bk G ((.box k,.ptr T) :: r) (.av (.ptr id 0) :: vs)=ct true k 0 l++bk G r vs:=by simp [bk,cG,hl]
     have e1:cG true k G (.av (.ptr id 0))=id :: ct true k 0 l:=by simp [cG,hl]
     have e2:br ((.box k,.ptr T) :: r) (.av (.ptr id 0) :: vs)=id :: br r vs:=rfl
     rw [e1] at h
     rw [e,e2]
     rcases B1.1 h with h | h
     ·rcases B3.1 h with rfl | h
      ·exact .inl (by simp)
      ·exact .inr (by simp [h])
     ·rcases eS (ins:=r) (vs:=vs) hb2 i h with h | h
      ·exact .inl (by simp [h])
      ·exact .inr (by simp [h])
    ·simp at hb1
   ·simp at hb1
  | _=>simp [cM] at hb
theorem fG (hi:Inv C w0 M m) {w':World} {F1:Nat→Prop} {H:List Value}:∀ {ins:List (Mode×Ty)} {vs:List SV} {us ts us':List Value} {x:(aB (ins.map (·.2))).den} {y:(aB (aY ins)).den} {G G':Heap} {S:List Nat},
  dD m.G ins vs=some x→Rel2 (RelSV m) us vs→us=ts.map aJ→mB ins ts us'→MutsRd w' F1 ins us' y→(∀ u∈cU ins us',u∈H)→cM m.G ins vs=true→ac ins vs y G=some G'→Aft m w' F1 H G S→Aft m w' F1 H G' (S++br ins vs)
 | [],[],[],ts,us',x,y,G,G',S,h,hr,ht,hs,hm,hH,hb,ha,hA=>by
  simp only [ac,A1] at ha
  subst ha
  simpa [br] using hA
 | [],_ :: _,_,_,_,_,_,_,_,_,h,_,_,_,_,_,_,_,_=>by simp [dD] at h
 | _ :: _,[],_,_,_,_,_,_,_,_,h,_,_,_,_,_,_,_,_=>by simp [dD] at h
 | _ :: _,_ :: _,[],_,_,_,_,_,_,_,_,h,_,_,_,_,_,_,_=>h.elim
 | [],[],_ :: _,_,_,_,_,_,_,_,_,h,_,_,_,_,_,_,_=>h.elim
 | (md,τ) :: r,v :: vs,u :: us,[],_,_,_,_,_,_,_,_,h,_,_,_,_,_,_=>by simp at h
 | (md,τ) :: r,v :: vs,u :: us,_ :: _,[],_,_,_,_,_,_,_,_,h,_,_,_,_,_=>by cases md <;> exact h.elim
 | (md,τ) :: r,v :: vs,u :: us,t :: ts,u' :: us',x,y,G,G',S,h,hr,ht,hs,hm,hH,hb,ha,hA=>by
  unfold dD at h
  split at h
  ·rename_i x1 hx1
   split at h
   ·rename_i x2 hx2
    dsimp only at hx1
    obtain ⟨hr1,hr2⟩:=hr
    simp only [Li,Mx] at ht
    obtain ⟨ht1,ht2⟩:=ht
    cases md with
    | rd =>
     have ha':ac r vs y G=some G':=ha
     have hm':MutsRd w' F1 r us' y:=hm
     exact fG (ins:=r) hi hx2 hr2 ht2 hs.2 hm' hH hb ha' hA
    | take =>
     obtain ⟨hk,ha'⟩:=fg ha
     have hm':MutsRd w' F1 r us' y:=hm
     have:=fG (ins:=r) hi hx2 hr2 ht2 hs.2 hm' hH hb ha' (hA.kills (bD v))
     rw [LH] at this
     exact this
    | upd =>
     cases τ with
     | slice e =>
      obtain ⟨hm1,hm2⟩:=hm
      have hH':∀ u∈cU r us',u∈H:=fun u' hu'=>hH u' (by simp [cU,hu'])
      rcases fO ha with ⟨rfl,ha'⟩ | ⟨id,rfl,ha'⟩
      ·have:=fG (ins:=r) hi hx2 hr2 ht2 hs.2 hm2 hH' hb ha' hA
       exact this
      ·simp only [aW,Ty.isAgg,cond_false,aE] at hx1
       cases hg:m.G.get id with
       | none=>rw [hg] at hx1; simp at hx1
       | some ob =>
        cases ob with
        | box _=>rw [hg] at hx1; simp at hx1
        | dead=>rw [hg] at hx1; simp at hx1
        | deep _ _ _ _=>rw [hg] at hx1; simp at hx1
        | map _ _ _=>rw [hg] at hx1; simp at hx1
        | arr σ l =>
         rw [hg] at hx1
         obtain ⟨he,hx⟩:=au hx1
         cases he
         subst hx
         obtain ⟨_,ob,hob,hv⟩:=hr1
         rw [hg] at hob
         simp only [A1] at hob
         subst hob
         have hv:=hv rfl
         subst hv
         obtain ⟨ad,cap,r1,r2,r3,r4⟩:=hi.objs id _ hg
         have hu':u'=m.ι id:=by
          rw [hs.1,ht1]
          have h1:(aJ t).oneCell'=true:=by rw [← ht1,r1]; rfl
          have h2:t.oneCell'=true:=by rw [← hs.1]; exact bq hm1
          rw [bV h2]
         rw [hu'] at hm1
         have hlen:l.length=y.1.length:=by
          obtain ⟨ad',cap',k1,_⟩:=hm1
          rw [r1] at k1
          simp only [Value.slice.injEq] at k1
          exact k1.2.1
         have:=fG (ins:=r) hi hx2 hr2 ht2 hs.2 hm2 hH' hb ha' (hA.put (o1:=.arr e y.1) hg rfl ⟨rfl,hlen⟩ (fun _=>hm1) (fun b hb=>⟨u',hH _ (by simp [cU]),by rw [hu']; exact hb⟩))
         rw [LH] at this
         exact this
     | _=>simp [ac] at ha
    | box k =>
     cases τ with
     | ptr T =>
      obtain ⟨hm1,hm2⟩:=hm
      have hH':∀ u∈cU r us',u∈H:=fun u' hu'=>hH u' (by simp [cU,hu'])
      simp only [cM,A4] at hb
      obtain ⟨hb1,hb2⟩:=hb
      split at hb1
      ·rename_i id
       split at hb1
       ·rename_i l hl
        have ha':ac r vs y.2 ((id,.box (A6 T.size .u)) :: G)=some G':=ha
        obtain ⟨_,ob,hob,hv⟩:=(ah (a:=.ptr id 0) (by intros; simp)).1 hr1
        rw [hl] at hob
        simp only [A1] at hob
        subst hob
        obtain ⟨b,hι,hu⟩:=hv
        obtain ⟨b',c,el,cs,k1,k2,k3,k4,k5⟩:=hm1
        have hp:aJ u'=.pointer (some ⟨b,0,none⟩):=by rw [hs.1,← ht1,hu]
        rw [k1,cV] at hp
        simp only [Value.pointer.injEq,A1,Addr.mk.injEq,and_true] at hp
        subst hp
        have hlen:c.toList.length=T.size:=by rw [k3,Nh,k4.len]
        have hrel:∀ G',db ⟨w',F1,m.ι,G'⟩ id (.box (A6 T.size .u)):=fun G'=>⟨b',c,el,hι,k2,by rw [k3]; exact k4.one,by rw [← hlen]; exact kZ _⟩
        have:=fG (ins:=r) hi hx2 hr2 ht2 hs.2 hm2 hH' hb2 ha' (hA.put (o1:=.box (A6 T.size .u)) hl rfl trivial hrel (fun bl hbl=>⟨aJ u',hH _ (by simp [cU]),by rw [k1,cV]; rw [hι] at hbl; exact hbl⟩))
        rw [LH] at this
        exact this
       ·simp at hb1
      ·simp at hb1
     | _=>simp [ac] at ha
   ·simp at h
  ·simp at h
theorem HM (hi:Inv C w0 M m) {i:Nat} (hn:m.G.get i=none) {u:Value} {e:Ty} {l:List e.den} (hu:HdrW m.w m.F u e l)
  (hb:∀ b,HB u b→(w0.heap.size≤b∨M b)∧¬ m.F b∧b < m.w.heap.size∧∀ id o,m.G.get id=some o→isObj o=true→¬ HB (m.ι id) b) :
  ∃ m',m'.w=m.w∧m'.F=m.F∧m'.G=(i,.arr e l) :: m.G∧m'.ι=(fun k=>if k=i then u else m.ι k)∧Inv C w0 M m'∧Evo m m'∧ae m' u (.own i):=by
 have he:Evo m ⟨m.w,m.F,fun k=>if k=i then u else m.ι k,(i,.arr e l) :: m.G⟩:=by
  refine ⟨fun b hF=>⟨hF,rfl⟩,fun id p hp=>?_⟩
  have hne:i≠id:=fun e=>by subst e; rw [hn] at hp; cases hp
  exact ⟨p,by rw [Heap.get_cons,if_neg hne]; exact hp,.inr (.inl ⟨by simp [Ne.symm hne],Alike.refl p⟩)⟩
 refine ⟨⟨m.w,m.F,fun k=>if k=i then u else m.ι k,(i,.arr e l) :: m.G⟩,rfl,rfl,rfl,rfl,⟨hi.kept,?_,?_,?_,hi.fro,fun g τ x hg=>hi.glob g τ x hg,hi.bnd,fun i v h=>cX he (hi.pin i v h)⟩,he,?_⟩
 ·intro id p hp
  rw [Heap.get_cons] at hp
  split at hp
  ·rename_i e0
   subst e0
   simp only [A1] at hp
   subst hp
   obtain ⟨ad,cap,h1,h2,h3,h4⟩:=hu
   exact ⟨ad,cap,by simp [h1],h2,h3,h4⟩
  ·rename_i hne
   exact co he (by simp [Ne.symm hne]) (fun _ _=>rfl) (hi.objs id p hp)
 ·intro id p b hp hop hbl
  rw [Heap.get_cons] at hp
  split at hp
  ·rename_i e0
   subst e0
   obtain ⟨h1,h2,h3,_⟩:=hb b (by simpa using hbl)
   exact ⟨h1,h2,h3⟩
  ·rename_i hne
   exact hi.own id p b hp hop (by simpa [Ne.symm hne] using hbl)
 ·intro j k p q b hp hop hq hoq hj hk
  rw [Heap.get_cons] at hp hq
  split at hp <;> split at hq
  ·omega
  ·rename_i e0 hne; subst e0
   exact absurd (by simpa [Ne.symm hne] using hk) ((hb b (by simpa using hj)).2.2.2 k q hq hoq)
  ·rename_i hne e0; subst e0
   exact absurd (by simpa [Ne.symm hne] using hj) ((hb b (by simpa using hk)).2.2.2 j p hp hop)
  ·rename_i n1 n2
   exact hi.inj j k p q b hp hop hq hoq (by simpa [Ne.symm n1] using hj) (by simpa [Ne.symm n2] using hk)
 ·obtain ⟨ad,cap,h1,_⟩:=hu
  exact ⟨by rw [h1]; rfl,.arr e l,by rw [Heap.get_cons,if_pos rfl],fun _=>by simp⟩
theorem OwnRd.len {w:World} {F:Nat→Prop} {d:Bool}:∀ {τ : Ty} {cs:List Value} {x : τ.den},OwnRd w F d τ cs x→cs.length=τ.size
 | .prod a b,_,_,h=>by obtain ⟨c1,c2,rfl,h1,h2⟩:=h; simp [Ty.size,h1.len,h2.len]
 | .unit,_,_,h=>by unfold OwnRd at h; subst h; rfl
 | .slice _,_,_,h=>by obtain ⟨u,rfl,_⟩:=h; rfl
 | .int _,_,_,h=>Rd.len h
 | .bool,_,_,h=>Rd.len h
 | .str,_,_,h=>Rd.len h
 | .arr _ _,_,_,h=>h.elim
 | .ptr _,_,_,h=>h.elim
 | .clo _ _,_,_,h=>h.elim
theorem OwnRd.one {w:World} {F:Nat→Prop} {d:Bool}:∀ {τ : Ty} {cs:List Value} {x : τ.den},OwnRd w F d τ cs x→∀ u∈cs.map aJ,u.oneCell'=true
 | .prod a b,_,_,h=>by
  obtain ⟨c1,c2,rfl,h1,h2⟩:=h
  intro u hu
  rw [ME] at hu
  rcases B1.1 hu with hu | hu
  ·exact h1.one u hu
  ·exact h2.one u hu
 | .unit,_,_,h=>by unfold OwnRd at h; subst h; simp
 | .slice _,_,_,h=>by
  obtain ⟨u,rfl,h⟩:=h
  intro u' hu
  simp only [Li,List.map_nil,LD] at hu
  subst hu
  exact tH h
 | .int k,cs,_,h=>by rw [bI (τ:=.int k) h]; exact Rd.one h
 | .bool,cs,_,h=>by rw [bI (τ:=.bool) h]; exact Rd.one h
 | .str,cs,_,h=>by rw [bI (τ:=.str) h]; exact Rd.one h
 | .arr _ _,_,_,h=>h.elim
 | .ptr _,_,_,h=>h.elim
 | .clo _ _,_,_,h=>h.elim
theorem OwnRd.mono {w w':World} {F F':Nat→Prop} {d:Bool} (hF:∀ b,F b→F' b∧w'.heap[b]?=w.heap[b]?):∀ {τ : Ty} {cs:List Value} {x : τ.den},(∀ u∈aR τ cs,∀ b,HB u b→w'.heap[b]?=w.heap[b]?)→OwnRd w F d τ cs x→OwnRd w' F' d τ cs x
 | .prod a b,_,_,hu,h=>by
  obtain ⟨c1,c2,rfl,h1,h2⟩:=h
  simp only [aR,← h1.len,MY,MZ] at hu
  exact ⟨c1,c2,rfl,h1.mono hF fun u hu'=>hu u (by simp [hu']),h2.mono hF fun u hu'=>hu u (by simp [hu'])⟩
 | .unit,_,_,_,h=>h
 | .slice _,_,_,hu,h=>by
  obtain ⟨u,rfl,h⟩:=h
  exact ⟨u,rfl,m7 hF (hu u (by simp [aR])) h⟩
 | .int _,_,_,_,h=>Rd.mono hF h
 | .bool,_,_,_,h=>Rd.mono hF h
 | .str,_,_,_,h=>Rd.mono hF h
 | .arr _ _,_,_,_,h=>h.elim
 | .ptr _,_,_,_,h=>h.elim
 | .clo _ _,_,_,_,h=>h.elim
theorem l8 {u u':Value} {m':Mem} {i:Nat} {o':Obj} (h1:m'.w=m.w) (h2:m'.F=m.F) (h3:m'.G=(i,o') :: m.G) (h4:m'.ι=(fun k=>if k=i then u else m.ι k)) (hf:cZ w0 M m u')
  (ha:∀ b,HB u' b→¬ HB u b):cZ w0 M m' u':=by
 intro b hb
 obtain ⟨k1,k2,k3,k4⟩:=hf b hb
 refine ⟨k1,by rw [h2]; exact k2,by rw [h1]; exact k3,fun id o ho hob=>?_⟩
 rw [h3,Heap.get_cons] at ho
 rw [h4]
 dsimp only
 split at ho
 ·rename_i e0
  rw [if_pos e0.symm]
  exact ha b hb
 ·rename_i hne
  rw [if_neg (Ne.symm hne)]
  exact k4 id o ho hob
theorem oC {d:Bool}:∀ {τ : Ty} {x : τ.den} {site:Nat} {c:List Atom} {cs:List Value} {m:Mem} {G':Heap},Inv C w0 M m→ba d τ x site m.G=some (c,G')→OwnRd m.w m.F d τ cs x →
  cz (aR τ cs)→(∀ u∈aR τ cs,cZ w0 M m u) →
  ∃ m',m'.w=m.w∧m'.F=m.F∧m'.G=G'∧Inv C w0 M m'∧Evo m m'∧Rel2 (ae m') (cs.map aJ) c∧(∀ u',cZ w0 M m u'→(∀ b,HB u' b→¬ cP (aR τ cs) b)→cZ w0 M m' u') ∧
   ∀ id ob,m.G.get id=some ob→m'.G.get id=some ob∧m'.ι id=m.ι id
 | .prod a b,x,site,c,cs,m,G',hi,h,hr,hp,hf=>by
  obtain ⟨c1,c2,rfl,h1,h2⟩:=hr
  simp only [aR,← h1.len,MY,MZ] at hp hf ⊢
  obtain ⟨hp1,hp2,hp3⟩:=Mm.1 hp
  simp only [ba] at h
  split at h
  ·rename_i p hp0
   split at h
   ·rename_i q hq0
    simp only [A1,Ld] at h
    obtain ⟨rfl,rfl⟩:=h
    obtain ⟨m1,a1,a2,a3,a4,a5,a6,a7,a8⟩:=oC (G':=p.2) hi hp0 h1 hp1 (fun u hu=>hf u (by simp [hu]))
    have free2:∀ u∈aR b c2,cZ w0 M m1 u:=fun u hu=>a7 u (hf u (by simp [hu])) (by
     rintro bl hbl ⟨u',hu',hbl'⟩
     exact hp3 u' hu' u hu bl hbl' hbl)
    obtain ⟨m2,b1,b2,b3,b4,b5,b6,b7,b8⟩:=oC (G':=q.2) a4 (by rw [a3]; exact hq0) (by rw [a1,a2]; exact h2) hp2 free2
    refine ⟨m2,b1.trans a1,b2.trans a2,b3,b4,a5.trans b5,by rw [ME]; exact (dw b5 a6).append b6,fun u' hu' hn=>b7 u' (a7 u' hu' ?_) ?_,fun id ob ho=>⟨(b8 id ob (a8 id ob ho).1).1,(b8 id ob (a8 id ob ho).1).2.trans (a8 id ob ho).2⟩⟩
    ·rintro bl hbl ⟨u,hu,hbl'⟩
     exact hn bl hbl ⟨u,by simp [hu],hbl'⟩
    ·rintro bl hbl ⟨u,hu,hbl'⟩
     exact hn bl hbl ⟨u,by simp [hu],hbl'⟩
   ·simp at h
  ·simp at h
 | .unit,x,site,c,cs,m,G',hi,h,hr,hp,hf=>by
  simp only [ba,A1,Ld] at h
  obtain ⟨rfl,rfl⟩:=h
  unfold OwnRd at hr
  subst hr
  exact ⟨m,rfl,rfl,rfl,hi,Evo.refl m,trivial,fun _ h _=>h,fun _ _ h=>⟨h,rfl⟩⟩
 | .slice e,x,site,c,cs,m,G',hi,h,hr,hp,hf=>by
  simp only [ba] at h
  cases hh:m.G.has (aO 8 m.G site) with
  | true=>rw [hh] at h; simp at h
  | false =>
   rw [hh] at h
   simp only [cond_false,A1,Ld] at h
   obtain ⟨rfl,rfl⟩:=h
   obtain ⟨u,rfl,hu⟩:=hr
   have hfu:=hf u (by simp [aR])
   have hnone:=gR hh
   have keep {m':Mem} {ob:Obj} {v:Value} (a3:m'.G=(aO 8 m.G site,ob) :: m.G) (a4:m'.ι=(fun k'=>if k'=aO 8 m.G site then v else m.ι k')):∀ id ob,m.G.get id=some ob→m'.G.get id=some ob∧m'.ι id=m.ι id:=by
    intro id ob' ho
    have hne:aO 8 m.G site≠id:=fun e=>by rw [e] at hnone; rw [hnone] at ho; cases ho
    rw [a3,a4,Heap.get_cons,if_neg hne]
    exact ⟨ho,by simp [Ne.symm hne]⟩
   rcases kE hu with ⟨e1,e2,hu⟩ | ⟨σ,y,rfl,_,e1,e2,u',hs,rfl,hd⟩
   ·obtain ⟨m',a1,a2,a3,a4,a5,a6,a7⟩:=HM hi (gR hh) hu hfu
    rw [e1,e2]
    exact ⟨m',a1,a2,a3,a5,a6,⟨by rw [bV (bq hu)]; exact a7,trivial⟩,fun u' hu' hn=>l8 a1 a2 a3 a4 hu' (fun b hb hb'=>hn b hb ⟨u,by simp [aR],hb'⟩),keep a3 a4⟩
   ·obtain ⟨m',a1,a2,a3,a4,a5,a6,a7⟩:=ia hi (gR hh) hd (fun v hv b hb=>hfu b ((bR hd.one).2 ⟨v,hv,hb⟩))
    rw [e1,e2]
    exact ⟨m',a1,a2,a3,a5,a6,⟨a7,trivial⟩,fun u2 hu2 hn=>l8 a1 a2 a3 a4 hu2 (fun b hb hb'=>hn b hb ⟨_,by simp [aR],hb'⟩),keep a3 a4⟩
 | .int k,x,site,c,cs,m,G',hi,h,hr,hp,hf=>by
  simp only [ba,A1,Ld] at h
  obtain ⟨rfl,rfl⟩:=h
  exact ⟨m,rfl,rfl,rfl,hi,Evo.refl m,by rw [bI (τ:=.int k) hr]; exact bA (τ:=.int k) hr,fun _ h _=>h,fun _ _ h=>⟨h,rfl⟩⟩
 | .bool,x,site,c,cs,m,G',hi,h,hr,hp,hf=>by
  simp only [ba,A1,Ld] at h
  obtain ⟨rfl,rfl⟩:=h
  exact ⟨m,rfl,rfl,rfl,hi,Evo.refl m,by rw [bI (τ:=.bool) hr]; exact bA (τ:=.bool) hr,fun _ h _=>h,fun _ _ h=>⟨h,rfl⟩⟩
 | .str,x,site,c,cs,m,G',hi,h,hr,hp,hf=>by
  simp only [ba,A1,Ld] at h
  obtain ⟨rfl,rfl⟩:=h
  exact ⟨m,rfl,rfl,rfl,hi,Evo.refl m,by rw [bI (τ:=.str) hr]; exact bA (τ:=.str) hr,fun _ h _=>h,fun _ _ h=>⟨h,rfl⟩⟩
 | .arr _ _,_,_,_,_,_,_,_,_,h,_,_=>h.elim
 | .ptr _,_,_,_,_,_,_,_,_,h,_,_=>h.elim
 | .clo _ _,_,_,_,_,_,_,_,_,h,_,_=>h.elim
theorem CO {τ : Ty} {cs:List Value} {c:List Atom} {v:Value} (hl:cs.length=τ.size) (h1:∀ u∈cs,u.oneCell'=true) (hr:Rel2 (ae m) cs c) (hv:v=toV τ cs):gB m v (τ.isAgg,c):=by
 subst hv
 unfold gB
 cases ha : τ.isAgg with
 | true=>exact ⟨cs,by simp [toV,ha],h1,hr⟩
 | false =>
  have hs:=gZ ha
  rw [hs] at hl
  obtain ⟨u,rfl⟩:=Og.1 hl
  have hc:=hr.length
  obtain ⟨b,rfl⟩:=Og.1 (hc.symm.trans rfl)
  exact ⟨b,rfl,by simpa [toV,ha] using hr.1⟩
theorem mw {d:Bool}:∀ {outs:List (Bool×Ty)} {x:(aB (outs.map (·.2))).den} {site:Nat} {q:List (Bool×List Atom)} {css:List (List Value)} {m:Mem} {G':Heap},Inv C w0 M m→dT d outs x site m.G=some (q,G')→OutsRd m.w m.F d outs css x →
  cz (bZ outs css)→(∀ u∈bZ outs css,cZ w0 M m u) →
  ∃ m',m'.w=m.w∧m'.F=m.F∧m'.G=G'∧Inv C w0 M m'∧Evo m m'∧Rel2 (gB m') (kg outs css) q∧(∀ u',cZ w0 M m u'→(∀ b,HB u' b→¬ cP (bZ outs css) b)→cZ w0 M m' u') ∧
   ∀ id ob,m.G.get id=some ob→m'.G.get id=some ob∧m'.ι id=m.ι id
 | [],x,site,q,css,m,G',hi,h,hr,hp,hf=>by
  simp only [dT,A1,Ld] at h
  obtain ⟨rfl,rfl⟩:=h
  exact ⟨m,rfl,rfl,rfl,hi,Evo.refl m,by cases css <;> trivial,fun _ h _=>h,fun _ _ h=>⟨h,rfl⟩⟩
 | _ :: _,_,_,_,[],_,_,_,_,h,_,_=>h.elim
 | (b,τ) :: r,x,site,q,cs :: css,m,G',hi,h,hr,hp,hf=>by
  obtain ⟨hr1,hr2⟩:=hr
  simp only [dT] at h
  simp only [bZ] at hp hf
  obtain ⟨hp1,hp2,hp3⟩:=Mm.1 hp
  have fin {m1:Mem} {c:List Atom} (a1:m1.w=m.w) (a2:m1.F=m.F) (a4:Inv C w0 M m1) (a5:Evo m m1) (a6:Rel2 (ae m1) (cond b (cs.map aJ) cs) c) (hone:∀ u∈cond b (cs.map aJ) cs,u.oneCell'=true) (hlen:(cond b (cs.map aJ) cs).length=τ.size)
    (a7:∀ u∈bZ r css,cZ w0 M m1 u) (a8:∀ u',cZ w0 M m u'→(∀ bl,HB u' bl→¬ cP (cond b (aR τ cs) []) bl)→cZ w0 M m1 u') (a9:∀ id ob,m.G.get id=some ob→m1.G.get id=some ob∧m1.ι id=m.ι id) {q2:List (Bool×List Atom)×Heap} (hq:dT d r x.2 site m1.G=some q2) (hqq:q=(τ.isAgg,c) :: q2.1) (hG:G'=q2.2) :
    ∃ m',m'.w=m.w∧m'.F=m.F∧m'.G=G'∧Inv C w0 M m'∧Evo m m'∧Rel2 (gB m') (kg ((b,τ) :: r) (cs :: css)) q∧(∀ u',cZ w0 M m u'→(∀ bl,HB u' bl→¬ cP (bZ ((b,τ) :: r) (cs :: css)) bl)→cZ w0 M m' u') ∧
     ∀ id ob,m.G.get id=some ob→m'.G.get id=some ob∧m'.ι id=m.ι id:=by
   subst hqq
   subst hG
   obtain ⟨m2,b1,b2,b3,b4,b5,b6,b7,b9⟩:=mw (G':=q2.2) (q:=q2.1) a4 hq (by rw [a1,a2]; exact hr2) hp2 a7
   refine ⟨m2,b1.trans a1,b2.trans a2,b3,b4,a5.trans b5,⟨CO hlen hone (dw b5 a6) rfl,b6⟩,fun u' hu' hn=>b7 u' (a8 u' hu' ?_) ?_,fun id ob ho=>⟨(b9 id ob (a9 id ob ho).1).1,(b9 id ob (a9 id ob ho).1).2.trans (a9 id ob ho).2⟩⟩
   ·rintro bl hbl ⟨u,hu,hbl'⟩
    exact hn bl hbl ⟨u,by simp only [bZ,B1]; exact .inl hu,hbl'⟩
   ·rintro bl hbl ⟨u,hu,hbl'⟩
    exact hn bl hbl ⟨u,by simp only [bZ,B1]; exact .inr hu,hbl'⟩
  cases b with
  | true =>
   simp only [cond_true] at h hr1 hp1 hp3 hf
   split at h
   ·rename_i c hc
    split at h
    ·rename_i q2 hq2
     simp only [A1,Ld] at h
     obtain ⟨rfl,rfl⟩:=h
     obtain ⟨m1,a1,a2,a3,a4,a5,a6,a7,a9⟩:=oC (G':=c.2) hi hc hr1 hp1 (fun u hu=>hf u (by simp [hu]))
     refine fin a1 a2 a4 a5 a6 hr1.one (by simpa using hr1.len) (fun u hu=>a7 u (hf u (by simp [hu])) ?_) a7 a9 (by rw [a3]; exact hq2) rfl rfl
     rintro bl hbl ⟨u',hu',hbl'⟩
     exact hp3 u' hu' u hu bl hbl' hbl
    ·simp at h
   ·simp at h
  | false =>
   simp only [cond_false] at h hr1 hf
   split at h
   ·rename_i q2 hq2
    simp only [A1,Ld] at h
    obtain ⟨rfl,rfl⟩:=h
    exact fin rfl rfl hi (Evo.refl m) (bA hr1) hr1.one hr1.len (fun u hu=>hf u (by simp [hu])) (fun _ h _=>h) (fun _ _ h=>⟨h,rfl⟩) hq2 rfl rfl
   ·simp at h
theorem mC {k:List Nat}:∀ {o:Nat} {τ : Ty} {x : τ.den} {site:Nat} {c:List Atom} {cs:List Value} {m:Mem} {G':Heap},Inv C w0 M m→fI k o τ x site m.G=some (c,G')→BoxRd m.w m.F k o τ cs x →
  cz (bz k o τ cs)→(∀ u∈bz k o τ cs,cZ w0 M m u) →
  ∃ m',m'.w=m.w∧m'.F=m.F∧m'.G=G'∧Inv C w0 M m'∧Evo m m'∧Rel2 (ae m') (cs.map aJ) c∧(∀ u',cZ w0 M m u'→(∀ b,HB u' b→¬ cP (bz k o τ cs) b)→cZ w0 M m' u') ∧
   ∀ id ob,m.G.get id=some ob→m'.G.get id=some ob∧m'.ι id=m.ι id
 | o,.prod a b,x,site,c,cs,m,G',hi,h,hr,hp,hf=>by
  obtain ⟨c1,c2,rfl,h1,h2⟩:=hr
  have hh:bz k o (.prod a b) (c1++c2)=bz k o a c1++bz k (o+a.size) b c2:=by
   show bz k o a ((c1++c2).take a.size)++bz k (o+a.size) b ((c1++c2).drop a.size)=_
   rw [← h1.len,MY,MZ]
  rw [hh] at hp hf ⊢
  obtain ⟨hp1,hp2,hp3⟩:=Mm.1 hp
  simp only [fI] at h
  split at h
  ·rename_i p hp0
   split at h
   ·rename_i q hq0
    simp only [A1,Ld] at h
    obtain ⟨rfl,rfl⟩:=h
    obtain ⟨m1,a1,a2,a3,a4,a5,a6,a7,a8⟩:=mC (k:=k) (G':=p.2) hi hp0 h1 hp1 (fun u hu=>hf u (by simp [hu]))
    have free2:∀ u∈bz k (o+a.size) b c2,cZ w0 M m1 u:=fun u hu=>a7 u (hf u (by simp [hu])) (by
     rintro bl hbl ⟨u',hu',hbl'⟩
     exact hp3 u' hu' u hu bl hbl' hbl)
    obtain ⟨m2,b1,b2,b3,b4,b5,b6,b7,b8⟩:=mC (k:=k) (G':=q.2) a4 (by rw [a3]; exact hq0) (by rw [a1,a2]; exact h2) hp2 free2
    refine ⟨m2,b1.trans a1,b2.trans a2,b3,b4,a5.trans b5,by rw [ME]; exact (dw b5 a6).append b6,fun u' hu' hn=>b7 u' (a7 u' hu' ?_) ?_,fun id ob ho=>?_⟩
    ·rintro bl hbl ⟨u,hu,hbl'⟩
     exact hn bl hbl ⟨u,by simp [hu],hbl'⟩
    ·rintro bl hbl ⟨u,hu,hbl'⟩
     exact hn bl hbl ⟨u,by simp [hu],hbl'⟩
    ·obtain ⟨k1,k2⟩:=a8 id ob ho
     obtain ⟨k3,k4⟩:=b8 id ob k1
     exact ⟨k3,k4.trans k2⟩
   ·simp at h
  ·simp at h
 | o,.unit,x,site,c,cs,m,G',hi,h,hr,hp,hf=>by
  simp only [fI,A1,Ld] at h
  obtain ⟨rfl,rfl⟩:=h
  unfold BoxRd at hr
  subst hr
  exact ⟨m,rfl,rfl,rfl,hi,Evo.refl m,trivial,fun _ h _=>h,fun _ _ h=>⟨h,rfl⟩⟩
 | o,.slice e,x,site,c,cs,m,G',hi,h,hr,hp,hf=>by
  unfold BoxRd at hr
  unfold bz at hp hf ⊢
  unfold fI at h
  cases hk:A8 (dJ k o) 0 with
  | true =>
   rw [hk] at hr h hp hf
   simp only [cond_true,A1,Ld] at h
   obtain ⟨rfl,rfl⟩:=h
   have hr:Rd m.w m.F (.slice e) cs x:=hr
   exact ⟨m,rfl,rfl,rfl,hi,Evo.refl m,by rw [bI hr]; exact bA (τ:=.slice e) hr,fun _ h _=>h,fun _ _ h=>⟨h,rfl⟩⟩
  | false =>
   rw [hk] at hr h hp hf
   simp only [cond_false] at h hr hp hf
   cases hh:m.G.has (aO 8 m.G (100000 * (o+1)+site)) with
   | true=>rw [hh] at h; simp at h
   | false =>
    rw [hh] at h
    simp only [cond_false,A1,Ld] at h
    obtain ⟨rfl,rfl⟩:=h
    obtain ⟨u,rfl,hu⟩:=hr
    have hfu:=hf u (by simp)
    have hnone:=gR hh
    have keep {m':Mem} {ob:Obj} {v:Value} (a3:m'.G=(aO 8 m.G (100000 * (o+1)+site),ob) :: m.G) (a4:m'.ι=(fun k'=>if k'=aO 8 m.G (100000 * (o+1)+site) then v else m.ι k')):∀ id ob,m.G.get id=some ob→m'.G.get id=some ob∧m'.ι id=m.ι id:=by
     intro id ob' ho
     have hne:aO 8 m.G (100000 * (o+1)+site)≠id:=fun e=>by rw [e] at hnone; rw [hnone] at ho; cases ho
     rw [a3,a4,Heap.get_cons,if_neg hne]
     exact ⟨ho,by simp [Ne.symm hne]⟩
    rcases kE hu with ⟨e1,e2,hu⟩ | ⟨σ,y,rfl,_,e1,e2,u',hs,rfl,hd⟩
    ·obtain ⟨m',a1,a2,a3,a4,a5,a6,a7⟩:=HM hi hnone hu hfu
     rw [e1,e2]
     exact ⟨m',a1,a2,a3,a5,a6,⟨by rw [bV (bq hu)]; exact a7,trivial⟩,fun u' hu' hn=>l8 a1 a2 a3 a4 hu' (fun b hb hb'=>hn b hb ⟨u,by simp,hb'⟩),keep a3 a4⟩
    ·obtain ⟨m',a1,a2,a3,a4,a5,a6,a7⟩:=ia hi hnone hd (fun v hv b hb=>hfu b ((bR hd.one).2 ⟨v,hv,hb⟩))
     rw [e1,e2]
     exact ⟨m',a1,a2,a3,a5,a6,⟨a7,trivial⟩,fun u2 hu2 hn=>l8 a1 a2 a3 a4 hu2 (fun b hb hb'=>hn b hb ⟨_,by simp,hb'⟩),keep a3 a4⟩
 | o,.int k',x,site,c,cs,m,G',hi,h,hr,hp,hf=>by
  simp only [fI,A1,Ld] at h
  obtain ⟨rfl,rfl⟩:=h
  exact ⟨m,rfl,rfl,rfl,hi,Evo.refl m,by rw [bI (τ:=.int k') hr]; exact bA (τ:=.int k') hr,fun _ h _=>h,fun _ _ h=>⟨h,rfl⟩⟩
 | o,.bool,x,site,c,cs,m,G',hi,h,hr,hp,hf=>by
  simp only [fI,A1,Ld] at h
  obtain ⟨rfl,rfl⟩:=h
  exact ⟨m,rfl,rfl,rfl,hi,Evo.refl m,by rw [bI (τ:=.bool) hr]; exact bA (τ:=.bool) hr,fun _ h _=>h,fun _ _ h=>⟨h,rfl⟩⟩
 | o,.str,x,site,c,cs,m,G',hi,h,hr,hp,hf=>by
  simp only [fI,A1,Ld] at h
  obtain ⟨rfl,rfl⟩:=h
  exact ⟨m,rfl,rfl,rfl,hi,Evo.refl m,by rw [bI (τ:=.str) hr]; exact bA (τ:=.str) hr,fun _ h _=>h,fun _ _ h=>⟨h,rfl⟩⟩
 | _,.arr _ _,_,_,_,_,_,_,_,_,h,_,_=>h.elim
 | _,.ptr _,_,_,_,_,_,_,_,_,h,_,_=>h.elim
 | _,.clo _ _,_,_,_,_,_,_,_,_,h,_,_=>h.elim
def BoxLive (m:Mem):List (Mode×Ty)→List Value→List SV→Prop
 | (.box _,_) :: r,u :: us,v :: vs=>(∀ id o,v=.av (.ptr id o)→∃ l,m.G.get id=some (.box l)∧m.ι id=aJ u)∧BoxLive m r us vs
 | _ :: r,_ :: us,_ :: vs=>BoxLive m r us vs
 | _,_,_=>True
theorem BoxLive.mono {m m':Mem} (h:∀ id l,m.G.get id=some (.box l)→(∃ l',m'.G.get id=some (.box l'))∧m'.ι id=m.ι id):∀ {ins:List (Mode×Ty)} {us:List Value} {vs:List SV},BoxLive m ins us vs→BoxLive m' ins us vs
 | [],us,vs,_=>by cases us <;> cases vs <;> trivial
 | (md,τ) :: r,[],vs,_=>by cases md <;> cases vs <;> trivial
 | (md,τ) :: r,u :: us,[],_=>by cases md <;> trivial
 | (md,τ) :: r,u :: us,v :: vs,hb=>by
  cases md with
  | box k =>
   refine ⟨fun id o hv=>?_,BoxLive.mono h hb.2⟩
   obtain ⟨l,h1,h2⟩:=hb.1 id o hv
   obtain ⟨h3,h4⟩:=h id l h1
   exact ⟨h3.choose,h3.choose_spec,h4.trans h2⟩
  | rd=>exact BoxLive.mono (ins:=r) h hb
  | upd=>exact BoxLive.mono (ins:=r) h hb
  | take=>exact BoxLive.mono (ins:=r) h hb
theorem zh (w:World) (b:Nat):Wrote w b w:=⟨rfl,rfl,rfl,rfl,fun _ _=>rfl⟩
theorem dv:∀ {ins:List (Mode×Ty)} {vs:List SV} {us:List Value} {y:(aB (aY ins)).den} {site:Nat} {m:Mem} {G':Heap},Inv C w0 M m→bH ins vs y site m.G=some G'→MutsRd m.w m.F ins us y→BoxLive m ins us vs →
  cz (aX ins us)→(∀ u∈aX ins us,cZ w0 M m (.tuple (eZ u).tail.toArray)) →
  ∃ m',m'.w=m.w∧m'.F=m.F∧m'.G=G'∧Inv C w0 M m'∧Evo m m'
 | [],vs,us,y,site,m,G',hi,h,hm,hl,hp,hf=>by
  have h:some m.G=some G':=by cases vs <;> exact h
  cases h
  exact ⟨m,rfl,rfl,rfl,hi,Evo.refl m⟩
 | (md,τ) :: r,[],us,y,site,m,G',hi,h,hm,hl,hp,hf=>by
  cases md <;> first | (simp [bH] at h; done) | (cases τ <;> simp [bH] at h)
 | (md,τ) :: r,v :: vs,[],y,site,m,G',hi,h,hm,hl,hp,hf=>by
  cases md <;> first | exact hm.elim | (cases τ <;> exact hm.elim)
 | (.rd,τ) :: r,v :: vs,u :: us,y,site,m,G',hi,h,hm,hl,hp,hf=>dv (ins:=r) (vs:=vs) (us:=us) (y:=y) hi h hm hl hp hf
 | (.take,τ) :: r,v :: vs,u :: us,y,site,m,G',hi,h,hm,hl,hp,hf=>dv (ins:=r) (vs:=vs) (us:=us) (y:=y) hi h hm hl hp hf
 | (.upd,τ) :: r,v :: vs,u :: us,y,site,m,G',hi,h,hm,hl,hp,hf=>by
  cases τ with
  | slice e=>exact dv (ins:=r) (vs:=vs) (us:=us) (y:=y.2) hi h hm.2 hl (Lr.1 (show Mq _ (u :: aX r us) from hp)).2 (fun u' hu'=>hf u' (by simp [aX,hu']))
  | _=>exact hm.elim
 | (.box k,τ) :: r,v :: vs,u :: us,y,site,m,G',hi,h,hm,hl,hp,hf=>by
  cases τ with
  | ptr T =>
   obtain ⟨hp1,hp2⟩:=Lr.1 (show Mq _ (u :: aX r us) from hp)
   obtain ⟨⟨b,c,el,cs,k1,k2,k3,k4,k5⟩,hm2⟩:=hm
   obtain ⟨hl1,hl2⟩:=hl
   simp only [bH] at h
   split at h
   ·rename_i id
    split at h
    ·rename_i p hp0
     obtain ⟨l,l1,l2⟩:=hl1 id 0 rfl
     rw [k1,cV] at l2
     obtain ⟨kp1,kp2⟩:=Lr.1 k5
     have hfr:∀ v∈bz k 0 T cs,cZ w0 M m v:=by
      intro v hv bl hbl
      obtain ⟨u',hu',hb'⟩:=jv.1 hbl
      have hmem:u'∈(eZ u).tail:=by
       rw [k1]
       simp only [nV,eZ,N6,MT]
       exact ⟨v,hv,hu'⟩
      exact hf u (by simp [aX]) bl ⟨u',hmem,hb'⟩
     obtain ⟨m1,a1,a2,a3,a4,a5,a6,a7,a8⟩:=mC (G':=p.2) (c:=p.1) hi hp0 k4 kp2 hfr
     obtain ⟨g1,g2⟩:=a8 id _ l1
     have hbl:HB (m1.ι id) b:=by rw [g2,l2]; rfl
     obtain ⟨i1,i2⟩:=gX (o':=.box p.1) a4 g1 rfl hbl trivial (zh m1.w b) (fun he=>⟨b,c,el,by show m1.ι id=_; rw [g2,l2],by show m1.w.heap[b]?=_; rw [a1]; exact k2,by rw [k3]; exact k4.one,by rw [k3]; exact dw he a6⟩)
     have hlive:BoxLive ⟨m1.w,m1.F,m1.ι,(id,.box p.1) :: m1.G⟩ r us vs:=hl2.mono (fun id' l' hg'=>by
      obtain ⟨q1,q2⟩:=a8 id' _ hg'
      refine ⟨?_,q2⟩
      show ∃ l',Heap.get ((id,.box p.1) :: m1.G) id'=some (.box l')
      rw [Heap.get_cons]
      split
      ·exact ⟨_,rfl⟩
      ·exact ⟨l',q1⟩)
     have hfree:∀ u'∈aX r us,cZ w0 M ⟨m1.w,m1.F,m1.ι,(id,.box p.1) :: m1.G⟩ (.tuple (eZ u').tail.toArray):=by
      intro u' hu'
      have h1:cZ w0 M m1 (.tuple (eZ u').tail.toArray):=a7 _ (hf u' (by simp [aX,hu'])) (by
       rintro bl hbl ⟨v',hv',hbl'⟩
       have e1:HB u bl:=by rw [k1]; exact me.2 (.inr ⟨v',hv',hbl'⟩)
       obtain ⟨w1,hw1,hw2⟩:=hbl
       have e2:HB u' bl:=jv.2 ⟨w1,Oo (by simpa using hw1),hw2⟩
       exact hp1 u' hu' bl e1 e2)
      intro bl hbl
      obtain ⟨q1,q2,q3,q4⟩:=h1 bl hbl
      refine ⟨q1,q2,q3,fun id' o' ho' hob'=>?_⟩
      change Heap.get ((id,.box p.1) :: m1.G) id'=_ at ho'
      rw [Heap.get_cons] at ho'
      split at ho'
      ·rename_i e0
       subst e0
       exact q4 id _ g1 rfl
      ·exact q4 id' o' ho' hob'
     obtain ⟨m2,b1,b2,b3,b4,b5⟩:=dv (ins:=r) (vs:=vs) (us:=us) (y:=y.2) (m:=⟨m1.w,m1.F,m1.ι,(id,.box p.1) :: m1.G⟩) i1 (by show bH r vs y.2 site ((id,.box p.1) :: m1.G)=_; rw [a3]; exact h) (by show MutsRd m1.w m1.F r us y.2; rw [a1,a2]; exact hm2) hlive hp2 hfree
     exact ⟨m2,b1.trans a1,b2.trans a2,b3,b4,a5.trans (i2.trans b5)⟩
    ·simp at h
   ·simp at h
  | _=>exact hm.elim
theorem Gl:∀ {us:List Value} {q:List (Bool×List Atom)} (h:Rel2 (gB m) us q),RelSV m (iI us) (yi q)
 | [],[],h=>⟨[],rfl,trivial⟩
 | [],_ :: _,h=>h.elim
 | _ :: _,[],h=>h.elim
 | [_],_ :: _ :: _,h=>h.2.elim
 | _ :: _ :: _,[_],h=>h.2.elim
 | u1 :: u2 :: us,q1 :: q2 :: q,h=>by
  have e:yi (q1 :: q2 :: q)=.tup (q1 :: q2 :: q):=by
   unfold yi; split
   ·rename_i e; cases e
   ·rename_i e; cases e
   ·rfl
  rw [e]
  exact ⟨u1 :: u2 :: us,rfl,h⟩
 | [u],[(true,c)],h=>by
  have:=h.1
  simp only [gB,cond_true] at this
  exact this
 | [u],[(false,l)],h=>by
  have:=h.1
  simp only [gB,cond_false] at this
  obtain ⟨a,h1,h2⟩:=this
  subst h1
  exact RelSV.of_atom h2
end
end Go.Vm

/-
 The machine's operations against the model's: a call.
-/
namespace Go.Vm
section
variable {P:Program} {C:Ctx} {w0:World} {M:Own} {o:Oper} {a:Act} {m:Mem} {s s':St}
theorem EG (hi:Inv C w0 M m) {w':World} {F1 Mc:Nat→Prop} {H:List Value} {G1:Heap} {S:List Nat} (hA:Aft m w' F1 H G1 S) (hk:Kept m.w Mc w')
  (hMc:∀ b,Mc b→∃ id o,id∈S∧m.G.get id=some o∧isObj o=true∧HB (m.ι id) b) (hF:∀ b,m.F b→F1 b) (hFlt:∀ b,F1 b→b < w'.heap.size)
  (hnF:∀ id o b,G1.get id=some o→isObj o=true→HB (m.ι id) b→¬ F1 b) (hbnd:∀ b,F1 b→M.rd b∨M.wr b∨w0.heap.size≤b) :
  Inv C w0 M ⟨w',F1,m.ι,G1⟩∧Evo m ⟨w',F1,m.ι,G1⟩:=by
 have hMF:∀ b,m.F b→¬ Mc b:=by
  intro b hb hm
  obtain ⟨id,o,_,h1,h2,h3⟩:=hMc b hm
  exact (hi.own id o b h1 h2 h3).2.1 hb
 have he:Evo m ⟨w',F1,m.ι,G1⟩:=by
  refine ⟨fun b hb=>⟨hF b hb,hk.block b (hi.fro b hb) (hMF b hb)⟩,fun id o ho=>?_⟩
  obtain ⟨o',h1,h2⟩:=hA.get id o ho
  refine ⟨o',h1,?_⟩
  rcases h2 with h2 | h2
  ·exact .inl h2
  ·exact .inr (.inl ⟨rfl,h2⟩)
 have alive:∀ id o,G1.get id=some o→isObj o=true→∃ o',m.G.get id=some o'∧isObj o'=true:=by
  intro id o ho hob
  rcases hA.old id o ho hob with ⟨_,h⟩ | ⟨o0,h,h',_⟩
  ·exact ⟨o,h,hob⟩
  ·exact ⟨_,h,h'⟩
 refine ⟨⟨?_,?_,?_,?_,hFlt,fun g τ x hg=>(hi.glob g τ x hg).mono he.fro,hbnd,fun i v h=>cX he (hi.pin i v h)⟩,he⟩
 ·refine ⟨hk.os.trans hi.kept.os,hk.tape.trans hi.kept.tape,hk.output.trans hi.kept.output,Nat.le_trans hi.kept.size hk.size,fun b hb hM=>?_⟩
  have:=hi.kept.size
  refine (hk.block b (by omega) ?_).trans (hi.kept.block b hb hM)
  intro hm
  obtain ⟨id,o,_,h1,h2,h3⟩:=hMc b hm
  rcases (hi.own id o b h1 h2 h3).1 with h | h
  ·omega
  ·exact hM h
 ·intro id o ho
  by_cases hob:isObj o=true
  ·rcases hA.old id o ho hob with ⟨h1,h2⟩ | ⟨o0,h1,h2,h3,h4,_⟩
   ·refine co he rfl (fun b hb=>hk.block b (hi.own id o b h2 hob hb).2.2 ?_) (hi.objs id o h2)
    intro hm
    obtain ⟨id',o',k1,k2,k3,k4⟩:=hMc b hm
    have:=hi.inj id id' o o' b h2 hob k2 k3 hb k4
    subst this
    exact h1 k1
   ·exact h4 _
  ·cases o <;> simp_all [isObj,db]
 ·intro id o b ho hob hb
  obtain ⟨o',h1,h2⟩:=alive id o ho hob
  obtain ⟨k1,k2,k3⟩:=hi.own id o' b h1 h2 hb
  exact ⟨k1,hnF id o b ho hob hb,LA k3 hk.size⟩
 ·intro i j p q b hp hop hq hoq h1 h2
  obtain ⟨p',p1,p2⟩:=alive i p hp hop
  obtain ⟨q',q1,q2⟩:=alive j q hq hoq
  exact hi.inj i j p' q' b p1 p2 q1 q2 h1 h2
theorem qC {w:World} {F F':Nat→Prop} {d:Bool} {e:Ty} {g:Value} {x:List e.den} (hf:cond d (Ty.slice e).shallowD (Ty.slice e).shallow=true) (h:kW w F d e g x):kW w F' d e g x:=by
 cases e with
 | slice σ =>
  cases d with
  | true =>
   obtain ⟨u,hs,rfl,h⟩:=h
   have hf : σ.flat=true:=hf
   exact ⟨u,hs,rfl,h.len,by
    obtain ⟨ad,cap,h1,h2,h3,h4⟩:=h.outer
    exact ⟨ad,cap,h1,h2,h3,h4⟩,fun i hi v hv hn=>(h.inner i hi v hv hn).flat hf,h.gone,h.apart⟩
  | false=>exact HdrW.flat (e:=.slice σ) hf h
 | _=>exact HdrW.flat (by cases d <;> exact hf) h
theorem OwnRd.flat {w:World} {F F':Nat→Prop} {d:Bool}:∀ {τ : Ty} {cs:List Value} {x : τ.den},cond d τ.shallowD τ.shallow=true→OwnRd w F d τ cs x→OwnRd w F' d τ cs x
 | .prod a b,_,_,hf,h=>by
  have hf:cond d a.shallowD a.shallow=true∧cond d b.shallowD b.shallow=true:=by
   cases d <;> simpa [Ty.shallow,Ty.shallowD] using hf
  obtain ⟨c1,c2,rfl,h1,h2⟩:=h
  exact ⟨c1,c2,rfl,h1.flat hf.1,h2.flat hf.2⟩
 | .unit,_,_,_,h=>h
 | .slice _,_,_,hf,h=>by
  obtain ⟨u,rfl,h⟩:=h
  exact ⟨u,rfl,qC hf h⟩
 | .int _,_,_,_,h=>h
 | .bool,_,_,_,h=>h
 | .str,_,_,_,h=>h
 | .arr _ _,_,_,_,h=>h.elim
 | .ptr _,_,_,_,h=>h.elim
 | .clo _ _,_,_,_,h=>h.elim
theorem OutsRd.flat {w:World} {F F':Nat→Prop} {d:Bool}:∀ {outs:List (Bool×Ty)} {css:List (List Value)} {x:(aB (outs.map (·.2))).den},(outs.all fun p=>p.1 && cond d p.2.shallowD p.2.shallow)=true→OutsRd w F d outs css x→OutsRd w F' d outs css x
 | [],[],_,_,_=>trivial
 | [],_ :: _,_,_,h=>h.elim
 | _ :: _,[],_,_,h=>h.elim
 | (b,τ) :: r,cs :: css,x,hf,h=>by
  simp only [NP,A4] at hf
  obtain ⟨⟨hb,hs⟩,hf2⟩:=hf
  subst hb
  exact ⟨OwnRd.flat hs h.1,OutsRd.flat hf2 h.2⟩
theorem BoxRd.flat {w:World} {F F':Nat→Prop} {k:List Nat}:∀ {o:Nat} {τ : Ty} {cs:List Value} {x : τ.den},tF k o τ=true→BoxRd w F k o τ cs x→BoxRd w F' k o τ cs x
 | o,.prod a b,_,_,hf,h=>by
  simp only [tF,A4] at hf
  obtain ⟨c1,c2,rfl,h1,h2⟩:=h
  exact ⟨c1,c2,rfl,h1.flat hf.1,h2.flat hf.2⟩
 | _,.unit,_,_,_,h=>h
 | o,.slice e,_,_,hf,h=>by
  simp only [tF,A4,Lz] at hf
  unfold BoxRd at h ⊢
  rw [hf.1] at h ⊢
  obtain ⟨u,rfl,h⟩:=h
  exact ⟨u,rfl,qC hf.2 h⟩
 | _,.int _,_,_,_,h=>h
 | _,.bool,_,_,_,h=>h
 | _,.str,_,_,_,h=>h
 | _,.arr _ _,_,_,_,h=>h.elim
 | _,.ptr _,_,_,_,h=>h.elim
 | _,.clo _ _,_,_,_,h=>h.elim
theorem MutsRd.flat {w:World} {F F':Nat→Prop}:∀ {ins:List (Mode×Ty)} {us:List Value} {y:(aB (aY ins)).den},ij ins=true→MutsRd w F ins us y→MutsRd w F' ins us y
 | [],_,_,_,_=>trivial
 | (md,τ) :: _,[],_,_,h=>by cases md <;> first | exact h.elim | (cases τ <;> exact h.elim)
 | (.rd,_) :: r,_ :: us,y,hf,h=>MutsRd.flat (ins:=r) (us:=us) (y:=y) hf h
 | (.take,_) :: r,_ :: us,y,hf,h=>MutsRd.flat (ins:=r) (us:=us) (y:=y) hf h
 | (.upd,τ) :: r,u :: us,y,hf,h=>by
  cases τ with
  | slice e =>
   simp only [ij,A4] at hf
   exact ⟨HdrW.flat hf.1 h.1,MutsRd.flat hf.2 h.2⟩
  | _=>exact h.elim
 | (.box k,τ) :: r,u :: us,y,hf,h=>by
  cases τ with
  | ptr T =>
   simp only [ij,A4] at hf
   obtain ⟨⟨b,c,el,cs,k1,k2,k3,k4,k5⟩,h2⟩:=h
   exact ⟨⟨b,c,el,cs,k1,k2,k3,k4.flat hf.1,k5⟩,MutsRd.flat hf.2 h2⟩
  | _=>exact h.elim
theorem fM {w:World} {F:Nat→Prop}:∀ {ins:List (Mode×Ty)} {us:List Value} {y:(aB (aY ins)).den},MutsRd w F ins us y→∀ {b:Nat},cP (cU ins us) b→cP (aX ins us) b
 | [],us,_,_,b,h=>by obtain ⟨u,hu,_⟩:=h; cases us <;> simp [cU] at hu
 | (md,τ) :: r,[],_,h,b,_=>by cases md <;> first | exact h.elim | (cases τ <;> exact h.elim)
 | (.rd,_) :: r,_ :: us,y,h,b,ha=>fM (ins:=r) (us:=us) (y:=y) h ha
 | (.take,_) :: r,_ :: us,y,h,b,ha=>fM (ins:=r) (us:=us) (y:=y) h ha
 | (.upd,τ) :: r,u :: us,y,h,b,ha=>by
  cases τ with
  | slice e =>
   obtain ⟨v,hv,hb⟩:=ha
   rcases B3.1 (show v∈u :: cU r us from hv) with rfl | hv
   ·exact ⟨_,by simp [aX],hb⟩
   ·obtain ⟨v',hv',hb'⟩:=fM (ins:=r) (us:=us) (y:=y.2) h.2 ⟨v,hv,hb⟩
    exact ⟨v',by simp [aX,hv'],hb'⟩
  | _=>exact h.elim
 | (.box k,τ) :: r,u :: us,y,h,b,ha=>by
  cases τ with
  | ptr T =>
   obtain ⟨v,hv,hb⟩:=ha
   rcases B3.1 (show v∈aJ u :: cU r us from hv) with rfl | hv
   ·obtain ⟨⟨bl,c,el,cs,k1,_⟩,_⟩:=h
    refine ⟨u,by simp [aX],?_⟩
    rw [k1,cV] at hb
    rw [k1]
    exact me.2 (.inl hb)
   ·obtain ⟨v',hv',hb'⟩:=fM (ins:=r) (us:=us) (y:=y.2) h.2 ⟨v,hv,hb⟩
    exact ⟨v',by simp [aX,hv'],hb'⟩
  | _=>exact h.elim
theorem gQ {u:Value} {b:Nat} (h:HB (.tuple (eZ u).tail.toArray) b):HB u b:=by
 obtain ⟨w1,hw1,hw2⟩:=h
 exact jv.2 ⟨w1,Oo (by simpa using hw1),hw2⟩
theorem gm {w:World} {F:Nat→Prop}:∀ {ins:List (Mode×Ty)} {us:List Value} {y:(aB (aY ins)).den},MutsRd w F ins us y→cz (aX ins us)→∀ u∈aX ins us,∀ b,HB (.tuple (eZ u).tail.toArray) b→¬ cP (cU ins us) b
 | [],us,_,_,_,u,hu,_,_=>by cases us <;> simp [aX] at hu
 | (md,τ) :: r,[],_,h,_,_,_,_,_=>by cases md <;> first | exact h.elim | (cases τ <;> exact h.elim)
 | (.rd,_) :: r,_ :: us,y,h,hp,u,hu,b,hb=>gm (ins:=r) (us:=us) (y:=y) h hp u hu b hb
 | (.take,_) :: r,_ :: us,y,h,hp,u,hu,b,hb=>gm (ins:=r) (us:=us) (y:=y) h hp u hu b hb
 | (.upd,τ) :: r,u0 :: us,y,h,hp,u,hu,b,hb=>by
  cases τ with
  | slice e =>
   obtain ⟨hp1,hp2⟩:=Lr.1 (show Mq _ (u0 :: aX r us) from hp)
   rcases B3.1 (show u∈u0 :: aX r us from hu) with rfl | hu1
   ·have h1:u.oneCell'=true:=bq h.1
    obtain ⟨w1,hw1,_⟩:=hb
    cases u <;> simp_all [eZ,Value.oneCell']
   ·rintro ⟨z,hz,hzb⟩
    rcases B3.1 (show z∈u0 :: cU r us from hz) with rfl | hz
    ·exact hp1 u hu1 b hzb (gQ hb)
    ·exact gm (ins:=r) (us:=us) (y:=y.2) h.2 hp2 u hu1 b hb ⟨z,hz,hzb⟩
  | _=>exact h.elim
 | (.box k,τ) :: r,u0 :: us,y,h,hp,u,hu,b,hb=>by
  cases τ with
  | ptr T =>
   obtain ⟨hp1,hp2⟩:=Lr.1 (show Mq _ (u0 :: aX r us) from hp)
   obtain ⟨⟨bl,c,el,cs,k1,k2,k3,k4,k5⟩,h2⟩:=h
   rcases B3.1 (show u∈u0 :: aX r us from hu) with rfl | hu1
   ·rintro ⟨z,hz,hzb⟩
    rcases B3.1 (show z∈aJ u :: cU r us from hz) with rfl | hz
    ·rw [k1,cV] at hzb
     obtain ⟨w1,hw1,hw2⟩:=hb
     rw [k1] at hw1
     simp only [nV,eZ,N6,MT] at hw1
     obtain ⟨v,hv,hv2⟩:=hw1
     exact (Lr.1 k5).1 v hv b hzb (jv.2 ⟨w1,hv2,hw2⟩)
    ·obtain ⟨u2,hu2,hb2⟩:=fM h2 ⟨z,hz,hzb⟩
     exact hp1 u2 hu2 b (gQ hb) hb2
   ·rintro ⟨z,hz,hzb⟩
    rcases B3.1 (show z∈aJ u0 :: cU r us from hz) with rfl | hz
    ·rw [k1,cV] at hzb
     exact hp1 u hu1 b (by rw [k1]; exact me.2 (.inl hzb)) (gQ hb)
    ·exact gm (ins:=r) (us:=us) (y:=y.2) h2 hp2 u hu1 b hb ⟨z,hz,hzb⟩
  | _=>exact h.elim
def bJ:List (Mode×Ty)→List SV→List Nat
 | (.box _,_) :: r,.av (.ptr i _) :: vs=>i :: bJ r vs
 | _ :: r,_ :: vs=>bJ r vs
 | _,_=>[]
theorem nH {G:Heap}:∀ {ins:List (Mode×Ty)} {vs:List SV},cM G ins vs=true→(∀ i∈bJ ins vs,i∈br ins vs)∧(∀ i∈br ins vs,i∈(aP G ins vs).2)∧(∀ i∈bk G ins vs,i∈(aP G ins vs).2)∧(aK (aP G ins vs).2=true→aK (br ins vs)=true∧∀ i∈br ins vs,i∉bk G ins vs)
 | [],vs,_=>by cases vs <;> simp [bJ,br,bk,aP,aK]
 | (md,τ) :: r,[],_=>by cases md <;> simp [bJ,br,bk,aP,aK]
 | (.rd,τ) :: r,v :: vs,hb=>nH (ins:=r) (vs:=vs) hb
 | (.upd,τ) :: r,v :: vs,hb=>by
  obtain ⟨h0,h1,h2,h3⟩:=nH (ins:=r) (vs:=vs) hb
  have e:br ((.upd,τ) :: r) (v :: vs)=bD v++br r vs:=rfl
  have e2:(aP G ((.upd,τ) :: r) (v :: vs)).2=bD v++(aP G r vs).2:=rfl
  have e3:bk G ((.upd,τ) :: r) (v :: vs)=bk G r vs:=rfl
  have e4:bJ ((.upd,τ) :: r) (v :: vs)=bJ r vs:=rfl
  rw [e,e2,e3,e4]
  refine ⟨fun i hi=>by simp [h0 i hi],fun i hi=>?_,fun i hi=>by simp [h2 i hi],fun hn=>?_⟩
  ·rcases B1.1 hi with hi | hi
   ·simp [hi]
   ·simp [h1 i hi]
  ·obtain ⟨n1,n2,n3⟩:=aT hn
   obtain ⟨m1,m2⟩:=h3 n2
   refine ⟨jP n1 m1 fun i hi hi'=>n3 i hi (h1 i hi'),fun i hi hi'=>?_⟩
   rcases B1.1 hi with hi | hi
   ·exact n3 i hi (h2 i hi')
   ·exact m2 i hi hi'
 | (.take,τ) :: r,v :: vs,hb=>by
  obtain ⟨h0,h1,h2,h3⟩:=nH (ins:=r) (vs:=vs) hb
  have e:br ((.take,τ) :: r) (v :: vs)=bD v++br r vs:=rfl
  have e2:(aP G ((.take,τ) :: r) (v :: vs)).2=bD v++(aP G r vs).2:=rfl
  have e3:bk G ((.take,τ) :: r) (v :: vs)=bk G r vs:=rfl
  have e4:bJ ((.take,τ) :: r) (v :: vs)=bJ r vs:=rfl
  rw [e,e2,e3,e4]
  refine ⟨fun i hi=>by simp [h0 i hi],fun i hi=>?_,fun i hi=>by simp [h2 i hi],fun hn=>?_⟩
  ·rcases B1.1 hi with hi | hi
   ·simp [hi]
   ·simp [h1 i hi]
  ·obtain ⟨n1,n2,n3⟩:=aT hn
   obtain ⟨m1,m2⟩:=h3 n2
   refine ⟨jP n1 m1 fun i hi hi'=>n3 i hi (h1 i hi'),fun i hi hi'=>?_⟩
   rcases B1.1 hi with hi | hi
   ·exact n3 i hi (h2 i hi')
   ·exact m2 i hi hi'
 | (.box k,τ) :: r,v :: vs,hb=>by
  cases τ with
  | ptr T =>
   simp only [cM,A4] at hb
   obtain ⟨hb1,hb2⟩:=hb
   obtain ⟨h0,h1,h2,h3⟩:=nH (ins:=r) (vs:=vs) hb2
   split at hb1
   ·rename_i id
    split at hb1
    ·rename_i l hl
     have e:br ((.box k,.ptr T) :: r) (.av (.ptr id 0) :: vs)=[id]++br r vs:=rfl
     have e2:(aP G ((.box k,.ptr T) :: r) (.av (.ptr id 0) :: vs)).2=([id]++ct true k 0 l)++(aP G r vs).2:=by
      show cG true k G (.av (.ptr id 0))++_=_
      simp [cG,hl]
     have e3:bk G ((.box k,.ptr T) :: r) (.av (.ptr id 0) :: vs)=ct true k 0 l++bk G r vs:=by simp [bk,cG,hl]
     have e4:bJ ((.box k,.ptr T) :: r) (.av (.ptr id 0) :: vs)=id :: bJ r vs:=rfl
     rw [e,e2,e3,e4]
     refine ⟨fun i hi=>?_,fun i hi=>?_,fun i hi=>?_,fun hn=>?_⟩
     ·rcases B3.1 hi with rfl | hi
      ·simp
      ·simp [h0 i hi]
     ·rcases B1.1 hi with hi | hi
      ·simp at hi; simp [hi]
      ·simp [h1 i hi]
     ·rcases B1.1 hi with hi | hi
      ·simp [hi]
      ·simp [h2 i hi]
     ·obtain ⟨n1,n2,n3⟩:=aT hn
      obtain ⟨n4,n5,n6⟩:=aT n1
      obtain ⟨m1,m2⟩:=h3 n2
      refine ⟨jP n4 m1 fun i hi hi'=>n3 i (by simp at hi; simp [hi]) (h1 i hi'),fun i hi hi'=>?_⟩
      rcases B1.1 hi with hi | hi <;> rcases B1.1 hi' with hi' | hi'
      ·exact n6 i hi hi'
      ·exact n3 i (by simp at hi; simp [hi]) (h2 i hi')
      ·exact n3 i (by simp [hi']) (h1 i hi)
      ·exact m2 i hi hi'
    ·simp at hb1
   ·simp at hb1
  | _=>simp [cM] at hb
theorem fE {id:Nat}:∀ {ins:List (Mode×Ty)} {vs:List SV} {y:(aB (aY ins)).den} {G G':Heap},ac ins vs y G=some G'→id∉br ins vs→(∃ l,G.get id=some (.box l))→∃ l,G'.get id=some (.box l)
 | [],vs,y,G,G',h,hn,hl=>by
  cases vs with
  | nil=>simp only [ac,A1] at h; subst h; exact hl
  | cons=>simp [ac] at h
 | (md,τ) :: r,[],y,G,G',h,hn,hl=>by
  cases md <;> first | (simp [ac] at h; done) | (cases τ <;> simp [ac] at h)
 | (.rd,τ) :: r,v :: vs,y,G,G',h,hn,hl=>fE (ins:=r) (vs:=vs) (y:=y) h hn hl
 | (.take,τ) :: r,v :: vs,y,G,G',h,hn,hl=>by
  obtain ⟨_,h'⟩:=fg h
  have e:br ((.take,τ) :: r) (v :: vs)=bD v++br r vs:=rfl
  rw [e] at hn
  simp only [B1,not_or] at hn
  refine fE (ins:=r) h' hn.2 ?_
  obtain ⟨l,hl⟩:=hl
  exact ⟨l,by rw [bu _ _ id hn.1]; exact hl⟩
 | (.upd,τ) :: r,v :: vs,y,G,G',h,hn,hl=>by
  cases τ with
  | slice e =>
   have e:br ((.upd,.slice e) :: r) (v :: vs)=bD v++br r vs:=rfl
   rw [e] at hn
   simp only [B1,not_or] at hn
   rcases fO h with ⟨rfl,h'⟩ | ⟨i,rfl,h'⟩
   ·exact fE (ins:=r) h' hn.2 hl
   ·refine fE (ins:=r) h' hn.2 ?_
    obtain ⟨l,hl⟩:=hl
    refine ⟨l,?_⟩
    rw [Heap.get_cons,if_neg (by have:=hn.1; simp [bD,bf] at this; exact fun e=>this e.symm)]
    exact hl
  | _=>simp [ac] at h
 | (.box k,τ) :: r,v :: vs,y,G,G',h,hn,hl=>by
  cases τ with
  | ptr T =>
   simp only [ac] at h
   split at h
   ·rename_i i
    have e:br ((.box k,.ptr T) :: r) (.av (.ptr i 0) :: vs)=i :: br r vs:=rfl
    rw [e] at hn
    simp only [B3,not_or] at hn
    refine fE (ins:=r) h hn.2 ?_
    obtain ⟨l,hl⟩:=hl
    exact ⟨l,by rw [Heap.get_cons,if_neg (fun e=>hn.1 e.symm)]; exact hl⟩
   ·simp at h
  | _=>simp [ac] at h
theorem ja:∀ {ins:List (Mode×Ty)} {vs:List SV} {y:(aB (aY ins)).den} {G G':Heap},ac ins vs y G=some G'→aK (br ins vs)=true→∀ id∈bJ ins vs,∃ l,G'.get id=some (.box l)
 | [],vs,y,G,G',h,hn,id,hid=>by cases vs <;> simp [bJ] at hid
 | (md,τ) :: r,[],y,G,G',h,hn,id,hid=>by cases md <;> simp [bJ] at hid
 | (.rd,τ) :: r,v :: vs,y,G,G',h,hn,id,hid=>ja (ins:=r) (vs:=vs) (y:=y) h hn id hid
 | (.take,τ) :: r,v :: vs,y,G,G',h,hn,id,hid=>by
  obtain ⟨_,h'⟩:=fg h
  exact ja (ins:=r) h' (aT (show aK (bD v++br r vs)=true from hn)).2.1 id hid
 | (.upd,τ) :: r,v :: vs,y,G,G',h,hn,id,hid=>by
  cases τ with
  | slice e =>
   have hn2:=(aT (show aK (bD v++br r vs)=true from hn)).2.1
   rcases fO h with ⟨rfl,h'⟩ | ⟨i,rfl,h'⟩
   ·exact ja (ins:=r) h' hn2 id hid
   ·exact ja (ins:=r) h' hn2 id hid
  | _=>simp [ac] at h
 | (.box k,τ) :: r,v :: vs,y,G,G',h,hn,id,hid=>by
  cases τ with
  | ptr T =>
   simp only [ac] at h
   split at h
   ·rename_i i
    obtain ⟨n1,n2⟩:=dE (show aK (i :: br r vs)=true from hn)
    rcases B3.1 (show id∈i :: bJ r vs from hid) with rfl | hid
    ·exact fE (ins:=r) h n1 ⟨_,by rw [Heap.get_cons,if_pos rfl]⟩
    ·exact ja (ins:=r) h n2 id hid
   ·simp at h
  | _=>simp [ac] at h
theorem kG {w':World} {F1:Nat→Prop} {G1:Heap}:∀ {ins:List (Mode×Ty)} {vs:List SV} {us ts us':List Value},Rel2 (RelSV m) us vs→us=ts.map aJ→mB ins ts us'→cM m.G ins vs=true→(∀ id∈bJ ins vs,∃ l,G1.get id=some (.box l))→BoxLive ⟨w',F1,m.ι,G1⟩ ins us' vs
 | [],vs,us,ts,us',_,_,_,_,_=>by cases us' <;> cases vs <;> trivial
 | (md,τ) :: r,[],us,ts,us',_,_,_,_,_=>by cases md <;> cases us' <;> trivial
 | (md,τ) :: r,v :: vs,us,ts,[],_,_,_,_,_=>by cases md <;> trivial
 | (md,τ) :: r,v :: vs,[],ts,u' :: us',h,_,_,_,_=>h.elim
 | (md,τ) :: r,v :: vs,u :: us,[],u' :: us',_,h,_,_,_=>by simp at h
 | (md,τ) :: r,v :: vs,u :: us,t :: ts,u' :: us',hr,ht,hs,hb,hl=>by
  simp only [Li,Mx] at ht
  obtain ⟨ht1,ht2⟩:=ht
  cases md with
  | rd=>exact kG (ins:=r) hr.2 ht2 hs.2 hb hl
  | upd=>exact kG (ins:=r) hr.2 ht2 hs.2 hb hl
  | take=>exact kG (ins:=r) hr.2 ht2 hs.2 hb hl
  | box k =>
   cases τ with
   | ptr T =>
    simp only [cM,A4] at hb
    obtain ⟨hb1,hb2⟩:=hb
    split at hb1
    ·rename_i id
     split at hb1
     ·rename_i l hg
      have e4:bJ ((.box k,.ptr T) :: r) (.av (.ptr id 0) :: vs)=id :: bJ r vs:=rfl
      rw [e4] at hl
      refine ⟨?_,kG (ins:=r) hr.2 ht2 hs.2 hb2 fun i hi=>hl i (by simp [hi])⟩
      intro i o he
      simp only [SV.av.injEq,Atom.ptr.injEq] at he
      obtain ⟨rfl,rfl⟩:=he
      obtain ⟨l',hl'⟩:=hl id (by simp)
      refine ⟨l',hl',?_⟩
      obtain ⟨_,ob,hob,hv⟩:=(ah (a:=.ptr id 0) (by intros; simp)).1 hr.1
      rw [hg] at hob
      simp only [A1] at hob
      subst hob
      obtain ⟨b,hι,hu⟩:=hv
      show m.ι id=aJ u'
      rw [hs.1,← ht1,hu,hι]
     ·simp at hb1
    ·simp at hb1
   | _=>simp [cM] at hb
theorem eO {l r:List Nat} (h:e9 l r=true) {i:Nat} (h1:i∈l) (h2:i∈r):False:=by
 simp only [e9,Lz,L4] at h
 have:=h i h1
 rw [L9] at this
 exact this ⟨i,h2,M5 i⟩
theorem C4 (hi:Inv C w0 M m) (hC:∀ f site c,C.con f site=some c→c.Holds P C.glob f) {site f:Nat} {vs:List SV} {us:List Value} {dst:Option Nat} (hr:Rel2 (RelSV m) us vs) (hG:m.G=s.G)
  (h:jD C s site f vs (fun v s'=>some (aG dst v s'))=some s'):Goes P f us.toArray m.w (Res C w0 M m s s' dst):=by
 unfold jD at h
 rw [← hG] at h
 split at h
 ·rename_i c hc
  split at h
  ·rename_i x hx
   obtain ⟨r,hfn,h⟩:=B6.1 h
   obtain ⟨ro,hro⟩ : ∃ ro:(aB (c.outs.map (·.2))).den×(aB (aY c.ins)).den,ep (c.outs.map (·.2)) (aY c.ins) r=ro:=⟨_,rfl⟩
   rw [hro] at h
   cases hchk:(aK (aP m.G c.ins vs).2 && e9 (aP m.G c.ins vs).1 (aP m.G c.ins vs).2 && cM m.G c.ins vs) with
   | false=>rw [hchk] at h; simp at h
   | true =>
    rw [hchk] at h
    simp only [cond_true] at h
    simp only [A4] at hchk
    obtain ⟨⟨hnd,hap⟩,hbx⟩:=hchk
    split at h
    ·rename_i G' hG'
     split at h
     ·rename_i q hq
      split at h
      ·rename_i G2 hG2
       simp only [A1] at h
       obtain ⟨ts,t0,r1,r2,r4⟩:=lH hi (F:=Thru m (aP m.G c.ins vs).1) hx hr hG' hbx hnd (fun b hb=>hb)
       have blkF:∀ id o b,m.G.get id=some o→isObj o=true→HB (m.ι id) b→id∉(aP m.G c.ins vs).1→¬ Thru m (aP m.G c.ins vs).1 b:=by
        rintro id o b h1 h2 h3 hn (hb | ⟨id',hid',o',k1,k2,k3⟩)
        ·exact (hi.own id o b h1 h2 h3).2.1 hb
        ·have:=hi.inj id id' o o' b h1 h2 k1 k2 h3 k3
         subst this
         exact hn hid'
       have hpre:Pre C.glob m.w (Thru m (aP m.G c.ins vs).1) c.ins ts x:=by
        refine ⟨r1,?_,r2.2 hnd,?_,fun g τ x hg=>(hi.glob g τ x hg).mono fun b hb=>⟨.inl hb,rfl⟩⟩
        ·intro u hu b hb
         obtain ⟨id,o,k1,k2,k3,k4⟩:=r2.1 b ⟨u,hu,hb⟩
         exact ⟨blkF id o b k2 k3 k4 (fun hn=>eO hap hn k1),(hi.own id o b k2 k3 k4).2.2⟩
        ·rintro b (hb | ⟨id',hid',o',k1,k2,k3⟩)
         ·exact hi.fro b hb
         ·exact (hi.own id' o' b k1 k2 k3).2.2
       rw [t0]
       refine Goes.mono (hC f site c hc m.w _ ts x r hpre hfn) ?_
       rintro v w' ⟨us',F2,css,hsame,hp⟩
       have hpr:OutsRd w' F2 c.deep c.outs css ro.1:=by rw [← hro]; exact hp.res
       have hpm:MutsRd w' F2 c.ins us' ro.2:=by rw [← hro]; exact hp.muts
       obtain ⟨d0,d1,d2,d3⟩:=nH hbx
       obtain ⟨d4,d5⟩:=d3 hnd
       obtain ⟨F1,G1,S,hA,hF,hFlt,hnF,hS2,hres,hmuts,hF12,hG1,hbnd,hlive⟩ : ∃ (F1:Nat→Prop) (G1:Heap) (S:List Nat),Aft m w' F1 (cU c.ins us') G1 S∧(∀ b,m.F b→F1 b)∧(∀ b,F1 b→b < w'.heap.size) ∧
         (∀ id o b,G1.get id=some o→isObj o=true→HB (m.ι id) b→¬ F1 b)∧(∀ i∈(aP m.G c.ins vs).2,i∈S)∧OutsRd w' F1 c.deep c.outs css ro.1 ∧
         MutsRd w' F1 c.ins us' ro.2∧(∀ b,F1 b→F2 b) ∧
         G1=cond (nN c) (am (bk m.G c.ins vs) G') (am (aP m.G c.ins vs).1 (am (bk m.G c.ins vs) G'))∧(∀ b,F1 b→M.rd b∨M.wr b∨w0.heap.size≤b) ∧
         ∀ id∈bJ c.ins vs,∃ l,G1.get id=some (.box l):=by
        have hA0:∀ F1,Aft m w' F1 (cU c.ins us') m.G []:=fun F1=>⟨fun id o h1 h2=>.inl ⟨by simp,h1⟩,fun id o h1=>⟨o,h1,.inr (Alike.refl o)⟩⟩
        have live1:∀ id∈bJ c.ins vs,∃ l,(am (bk m.G c.ins vs) G').get id=some (.box l):=by
         intro id hid
         obtain ⟨l,hl⟩:=ja hG' d4 id hid
         exact ⟨l,by rw [bu _ _ id (d5 id (d0 id hid))]; exact hl⟩
        cases hfl:nN c with
        | true =>
         have hfl':=hfl
         simp only [nN,A4] at hfl'
         have hmf:=hpm.flat (F':=m.F) hfl'.2
         have hA:=(fG hi hx hr t0 hsame hmf (fun u hu=>hu) hbx hG' (hA0 m.F)).kills (bk m.G c.ins vs)
         rw [LW] at hA
         refine ⟨m.F,_,_,hA,fun b hb=>hb,fun b hb=>LA (hi.fro b hb) hp.kept.size,?_,fun i hi=>B1.2 (eS hbx i hi),hpr.flat hfl'.1,hmf,fun b hb=>hp.fro b (.inl hb),rfl,hi.bnd,live1⟩
         intro id o b h1 h2 h3
         rcases hA.old id o h1 h2 with ⟨_,k⟩ | ⟨o0,k,k',_⟩
         ·exact (hi.own id o b k h2 h3).2.1
         ·exact (hi.own id _ b k k' h3).2.1
        | false =>
         have hA:=((fG hi hx hr t0 hsame hpm (fun u hu=>hu) hbx hG' (hA0 F2)).kills (bk m.G c.ins vs)).kills (aP m.G c.ins vs).1
         rw [LW] at hA
         refine ⟨F2,_,_,hA,fun b hb=>hp.fro b (.inl hb),fun b hb=>(hp.f2 b hb).1,?_,fun i hi=>B1.2 (.inl (B1.2 (eS hbx i hi))),hpr,hpm,fun b hb=>hb,rfl,?_,?_⟩
         rotate_left
         ·have ofOwn {b:Nat} (h:w0.heap.size≤b∨M b):M.rd b∨M.wr b∨w0.heap.size≤b:=by
           rcases h with h | h
           ·exact .inr (.inr h)
           ·exact .inr (.inl h)
          intro b hb
          rcases (hp.f2 b hb).2 with (h | ⟨id,_,o,j1,j2,j3⟩) | h | h
          ·exact hi.bnd b h
          ·exact ofOwn (hi.own id o b j1 j2 j3).1
          ·obtain ⟨id,o,j1,j2,j3,j4⟩:=r2.1 b h
           exact ofOwn (hi.own id o b j2 j3 j4).1
          ·have:=hi.kept.size
           exact .inr (.inr (by omega))
         ·intro id hid
          obtain ⟨l,hl⟩:=live1 id hid
          exact ⟨l,by rw [bu _ _ id (fun hn=>eO hap hn (d1 id (d0 id hid)))]; exact hl⟩
         intro id o b h1 h2 h3 hF2
         rcases hA.old id o h1 h2 with ⟨k0,k⟩ | ⟨o0,k,_,_,_,k2⟩
         ·simp only [B1,not_or] at k0
          rcases (hp.f2 b hF2).2 with hb | hb | hb
          ·exact blkF id o b k h2 h3 k0.2 hb
          ·obtain ⟨id',o',j1,j2,j3,j4⟩:=r2.1 b hb
           have:=hi.inj id id' o o' b k h2 j2 j3 h3 j4
           subst this
           rcases eS hbx id j1 with j1 | j1
           ·exact k0.1.1 j1
           ·exact k0.1.2 j1
          ·have:=(hi.own id o b k h2 h3).2.2
           omega
         ·obtain ⟨u,hu,hub⟩:=fM hpm (k2 b h3)
          exact (hp.own u (by simp [hu]) b hub).2.1 hF2
       have hMc:∀ b,cP (ax c.ins ts) b→∃ id o,id∈S∧m.G.get id=some o∧isObj o=true∧HB (m.ι id) b:=by
        intro b hb
        obtain ⟨id,o,k1,k2⟩:=r2.1 b hb
        exact ⟨id,o,hS2 id k1,k2⟩
       obtain ⟨i1,i2⟩:=EG hi hA hp.kept hMc hF hFlt hnF hbnd
       obtain ⟨ap1,ap2,ap3⟩:=Mm.1 hp.apart
       have hfree1:∀ u∈bZ c.outs css++aX c.ins us',∀ b,HB u b→(¬ cP (cU c.ins us') b)→(w0.heap.size≤b∨M b)∧¬ F1 b∧b < w'.heap.size∧∀ id o,G1.get id=some o→isObj o=true→¬ HB (m.ι id) b:=by
        intro u hu b hb hno
        obtain ⟨k1,k2,k3⟩:=hp.own u hu b hb
        refine ⟨?_,fun hb'=>k2 (hF12 b hb'),k3,fun id o ho hob hbl=>?_⟩
        ·rcases k1 with k1 | k1
         ·have:=hi.kept.size
          exact .inl (by omega)
         ·obtain ⟨id,o,j1,j2,j3,j4⟩:=r2.1 b k1
          exact (hi.own id o b j2 j3 j4).1
        ·rcases hA.old id o ho hob with ⟨j0,j⟩ | ⟨o0,j,_,_,_,j2⟩
         ·rcases k1 with k1 | k1
          ·have:=(hi.own id o b j hob hbl).2.2
           omega
          ·obtain ⟨id',o',l1,l2,l3,l4⟩:=hMc b k1
           have:=hi.inj id id' o o' b j hob l2 l3 hbl l4
           subst this
           exact j0 l1
         ·exact hno (j2 b hbl)
       have hfree:∀ u∈bZ c.outs css,cZ w0 M ⟨w',F1,m.ι,G1⟩ u:=fun u hu b hb=>hfree1 u (by simp [hu]) b hb (fun ha=>by
        obtain ⟨u2,hu2,hb2⟩:=fM hmuts ha
        exact ap3 u hu u2 hu2 b hb hb2)
       have hfree2:∀ u∈aX c.ins us',cZ w0 M ⟨w',F1,m.ι,G1⟩ (.tuple (eZ u).tail.toArray):=fun u hu b hb=>hfree1 u (by simp [hu]) b (gQ hb) (gm hmuts ap2 u hu b hb)
       obtain ⟨m',a1,a2,a3,a4,a5,a6,a7,a8⟩:=mw (m:=⟨w',F1,m.ι,G1⟩) (q:=q.1) (G':=q.2) i1 (by rw [show Mem.G ⟨w',F1,m.ι,G1⟩=G1 from rfl,hG1]; exact hq) hres ap1 hfree
       obtain ⟨m2,b1,b2,b3,b4,b5⟩:=dv (m:=m') (us:=us') a4 (by rw [a3]; exact hG2) (by rw [a1,a2]; exact hmuts) ((kG hr t0 hsame hbx hlive).mono fun id l hg=>⟨⟨l,(a8 id _ hg).1⟩,(a8 id _ hg).2⟩) ap2
        (fun u hu=>a7 _ (hfree2 u hu) fun b hb ⟨u2,hu2,hb2⟩=>ap3 u2 hu2 u hu b hb2 (gQ hb))
       refine ⟨m2,yi q.1,b1.trans a1,by rw [← h,b3],b4,(i2.trans a5).trans b5,?_⟩
       rw [hp.val]
       exact gC b5 (Gl a6)
      ·simp at h
     ·simp at h
    ·simp at h
  ·simp at h
 ·simp at h
theorem mU (site:Nat):∀ {ins:List (Mode×Ty)} {vs:List SV} {us:List Value} {m:Mem},Inv C w0 M m→Rel2 (RelSV m) us vs →
  ∃ m1,m1.w=m.w∧m1.F=m.F∧m1.G=(cd site ins vs m.G).2∧Inv C w0 M m1∧Evo m m1∧Rel2 (RelSV m1) us (cd site ins vs m.G).1
 | [],vs,us,m,hi,hr=>⟨m,rfl,rfl,by cases vs <;> rfl,hi,Evo.refl m,by cases vs <;> exact hr⟩
 | p :: r,[],us,m,hi,hr=>by
  obtain ⟨md,τ⟩:=p
  cases md <;> exact ⟨m,rfl,rfl,rfl,hi,Evo.refl m,hr⟩
 | (md,τ) :: r,v :: vs,[],m,hi,hr=>hr.elim
 | (md,τ) :: r,v :: vs,u :: us,m,hi,hr=>by
  have keep:∃ m1,m1.w=m.w∧m1.F=m.F∧m1.G=(cd site r vs m.G).2∧Inv C w0 M m1∧Evo m m1∧Rel2 (RelSV m1) (u :: us) (v :: (cd site r vs m.G).1):=by
   obtain ⟨m1,a1,a2,a3,a4,a5,a6⟩:=mU site (ins:=r) hi hr.2
   exact ⟨m1,a1,a2,a3,a4,a5,gC a5 hr.1,a6⟩
  cases md with
  | rd=>exact keep
  | upd=>exact keep
  | box k=>exact keep
  | take =>
   obtain ⟨m1,a1,a2,a3,a4,a5,a6⟩:=tV hi site hr.1
   have hr2:Rel2 (RelSV m1) us vs:=hr.2.mono fun _ _ h=>gC a5 h
   obtain ⟨m2,b1,b2,b3,b4,b5,b6⟩:=mU site (ins:=r) a4 hr2
   rw [a3] at b3 b6
   exact ⟨m2,b1.trans a1,b2.trans a2,b3,b4,a5.trans b5,gC b5 a6,b6⟩
theorem sr (hi:Inv C w0 M m) (hC:∀ f site c,C.con f site=some c→c.Holds P C.glob f) {site f:Nat} {vs:List SV} {us:List Value} {dst:Option Nat} (hr:Rel2 (RelSV m) us vs) (hG:m.G=s.G)
  (h:gE C s site f vs (fun v s'=>some (aG dst v s'))=some s'):Goes P f us.toArray m.w (Res C w0 M m s s' dst):=by
 unfold gE at h
 split at h
 ·rename_i c hc
  obtain ⟨m1,a1,a2,a3,a4,a5,a6⟩:=mU site (ins:=c.ins) hi hr
  rw [← hG,← a3] at h
  have:=C4 (s:=⟨s.env,m1.G⟩) (s':=s') (dst:=dst) a4 hC (f:=f) a6 rfl (by rw [hG] at h ⊢; exact h)
  rw [a1] at this
  refine this.mono fun v w' hR=>?_
  obtain ⟨m',sv,k1,k2,k3,k4,k5⟩:=hR
  exact ⟨m',sv,k1,k2,k3,a5.trans k4,k5⟩
 ·simp at h
end
end Go.Vm

/-
 The machine's operations against the model's: every operation.
-/
namespace Go.Vm
section
variable {P:Program} {C:Ctx} {w0:World} {M:Own} {o:Oper} {a:Act} {m:Mem} {s s':St}
theorem Rel2.map_left {α β γ : Type} {r : β→γ→Prop} {f : α→β} {g : α→γ}:∀ (l:List α),(∀ x,r (f x) (g x))→Rel2 r (l.map f) (l.map g)
 | [],_=>trivial
 | x :: l,h=>⟨h x,Rel2.map_left l h⟩
theorem pS {G:Heap}:∀ {ins:List (Mode×Ty)} {vs:List SV} {x:(aB (ins.map (·.2))).den},dD G ins vs=some x→∀ v∈vs,∃ τ,∃ y : τ.den,aW G τ v=some y
 | [],[],_,_=>by simp
 | [],_ :: _,_,h=>by simp [dD] at h
 | _ :: _,[],_,h=>by simp [dD] at h
 | p :: r,v :: vs,x,h=>by
  unfold dD at h
  split at h
  ·rename_i x1 hx1
   split at h
   ·rename_i x2 hx2
    intro v' hv'
    rcases B3.1 hv' with rfl | hv'
    ·exact ⟨p.2,x1,hx1⟩
    ·exact pS hx2 v' hv'
   ·simp at h
  ·simp at h
theorem Bh:∀ {us:List Value} {caps:List Nat},Rel2 (fun u c=>∃ o,m.G.get c=some o∧(match o with
    | .box _=>∃ b,m.ι c=.pointer (some ⟨b,0,none⟩)∧u=.pointer (some ⟨b,0,none⟩)
    | .dead=>True
    | _=>False)) us caps→(∀ i∈caps,∃ l,m.G.get i=some (.box l))→Rel2 (RelSV m) us (caps.map fun i=>.av (.ptr i 0))
 | [],[],_,_=>trivial
 | [],_ :: _,h,_=>h.elim
 | _ :: _,[],h,_=>h.elim
 | u :: us,c :: caps,h,hb=>by
  obtain ⟨l,hl⟩:=hb c (by simp)
  obtain ⟨ob,ho,hv⟩:=h.1
  rw [hl] at ho
  simp only [A1] at ho
  subst ho
  obtain ⟨b,h1,rfl⟩:=hv
  exact ⟨(ah (a:=.ptr c 0) (by intros; simp)).2 ⟨rfl,_,hl,b,h1,rfl⟩,Bh h.2 fun i hi=>hb i (by simp [hi])⟩
theorem si:∀ {τ : Ty} {y : τ.den} {us:List Value} {l:List SV},Rd m.w m.F τ us y→cj τ y=some l→Rel2 (RelSV m) us l
 | .prod (.ptr a) b,y,us,l,h,hl=>by
  simp only [cj] at hl
  split at hl
  ·rename_i l' hl'
   simp only [A1] at hl
   subst hl
   obtain ⟨c1,c2,rfl,h1,h2⟩:=h
   have h1':=h1
   obtain ⟨bb,off,c,el,fz,rfl,_⟩:=h1
   exact ⟨⟨_,rfl,h1'⟩,si h2 hl'⟩
  ·simp at hl
 | .unit,_,us,l,h,hl=>by
  simp only [cj,A1] at hl
  subst hl
  unfold Rd at h
  subst h
  trivial
 | .prod (.int _) _,_,_,_,_,hl=>by simp [cj] at hl
 | .prod .bool _,_,_,_,_,hl=>by simp [cj] at hl
 | .prod .str _,_,_,_,_,hl=>by simp [cj] at hl
 | .prod (.slice _) _,_,_,_,_,hl=>by simp [cj] at hl
 | .prod (.prod _ _) _,_,_,_,_,hl=>by simp [cj] at hl
 | .prod .unit _,_,_,_,_,hl=>by simp [cj] at hl
 | .prod (.arr _ _) _,_,_,_,_,hl=>by simp [cj] at hl
 | .prod (.clo _ _) _,_,_,_,_,hl=>by simp [cj] at hl
 | .int _,_,_,_,_,hl=>by simp [cj] at hl
 | .bool,_,_,_,_,hl=>by simp [cj] at hl
 | .str,_,_,_,_,hl=>by simp [cj] at hl
 | .slice _,_,_,_,_,hl=>by simp [cj] at hl
 | .arr _ _,_,_,_,_,hl=>by simp [cj] at hl
 | .ptr _,_,_,_,_,hl=>by simp [cj] at hl
 | .clo _ _,_,_,_,_,hl=>by simp [cj] at hl
theorem wU {site:Nat} {G:Heap} {v:SV} {i:Nat} {l:List Atom} (h:(bM site G v).2.get i=some (.box l)):G.get i=some (.box l):=by
 unfold bM at h
 split at h
 ·split at h
  ·rename_i ver' σ l' hg
   cases hc:(A8 _ ver' && !G.has (aO 8 G site)) with
   | false=>rw [hc] at h; exact h
   | true =>
    rw [hc] at h
    simp only [cond_true] at h
    rw [Heap.get_cons,Heap.get_cons] at h
    split at h
    ·simp at h
    ·split at h
     ·simp at h
     ·exact h
  ·exact h
 ·exact h
theorem eD {site:Nat} {i:Nat} {l:List Atom}:∀ {ins:List (Mode×Ty)} {vs:List SV} {G:Heap},(cd site ins vs G).2.get i=some (.box l)→G.get i=some (.box l)
 | [],vs,G,h=>by cases vs <;> exact h
 | (md,_) :: _,[],G,h=>by cases md <;> exact h
 | (.rd,_) :: r,v :: vs,G,h=>eD (ins:=r) (vs:=vs) h
 | (.upd,_) :: r,v :: vs,G,h=>eD (ins:=r) (vs:=vs) h
 | (.box _,_) :: r,v :: vs,G,h=>eD (ins:=r) (vs:=vs) h
 | (.take,_) :: r,v :: vs,G,h=>wU (eD (ins:=r) (vs:=vs) h)
theorem ef {site:Nat} {i j:Nat}:∀ {ins:List (Mode×Ty)} {vs:List SV} {G:Heap},SV.av (.ptr i j)∈vs→SV.av (.ptr i j)∈(cd site ins vs G).1
 | [],vs,G,h=>by cases vs <;> exact h
 | (md,_) :: _,[],G,h=>by cases h
 | (.rd,_) :: r,v :: vs,G,h=>by
  rcases B3.1 h with h | h
  ·exact B3.2 (.inl h)
  ·exact B3.2 (.inr (ef (ins:=r) (vs:=vs) h))
 | (.upd,_) :: r,v :: vs,G,h=>by
  rcases B3.1 h with h | h
  ·exact B3.2 (.inl h)
  ·exact B3.2 (.inr (ef (ins:=r) (vs:=vs) h))
 | (.box _,_) :: r,v :: vs,G,h=>by
  rcases B3.1 h with h | h
  ·exact B3.2 (.inl h)
  ·exact B3.2 (.inr (ef (ins:=r) (vs:=vs) h))
 | (.take,_) :: r,v :: vs,G,h=>by
  rcases B3.1 h with h | h
  ·subst h; exact B3.2 (.inl rfl)
  ·exact B3.2 (.inr (ef (ins:=r) (vs:=vs) h))
theorem vB {site f:Nat} {vs:List SV} {K:SV→St→Option St} (h:gE C s site f vs K=some s'):∀ i j,SV.av (.ptr i j)∈vs→∃ l,s.G.get i=some (.box l):=by
 intro i j hij
 unfold gE at h
 split at h
 ·rename_i c hc
  unfold jD at h
  split at h
  ·rename_i c' hc'
   rw [hc] at hc'
   cases hc'
   split at h
   ·rename_i x hx
    obtain ⟨τ,y,hy⟩:=pS hx _ (ef (site:=site) (ins:=c.ins) (G:=s.G) hij)
    cases τ <;> simp only [aW] at hy <;> try (simp at hy; done)
    unfold jC at hy
    split at hy
    ·rename_i l hl
     exact ⟨l,eD hl⟩
    ·simp at hy
   ·simp at h
  ·simp at h
 ·simp at h
theorem ur {g:Operand} {args:Array Operand} {ats:Array TypeId} {f:FuncId} {vs:List Value} {R:Value→World→Prop} (ho:o.op=.call { callee:=.value g,args,argTypes:=ats }) (hg:a.eval g=.func (.func f) #[] vs.toArray)
  (h:Goes P f (args.toList.map a.eval++vs).toArray m.w R):Does P o a m.w R:=by
 have e:(args.toList.map a.eval++vs).toArray=(#[]++NU a.eval args)++vs.toArray:=by
  apply MW; simp
 rw [e] at h
 have hx:(execOp a.eval o).run P m.w=(callFunc f ((#[]++NU a.eval args)++vs.toArray)).run P m.w:=by
  simp [execOp,ho,resolve,hg,Deferred.ofValue,invoke]
 rcases h with ⟨h1,h2⟩ | ⟨v,w',h1,h2⟩
 ·exact Does.call (by rw [hx,h1]) h2
 ·exact Does.value (by rw [hx,h1]) h2
theorem D1 {g:Operand} {args:Array Operand} {ats:Array TypeId} {f:FuncId} {r:Value} {R:Value→World→Prop} (ho:o.op=.call { callee:=.value g,args,argTypes:=ats }) (hg:a.eval g=.func (.func f) #[r] #[])
  (h:Goes P f (r :: args.toList.map a.eval).toArray m.w R):Does P o a m.w R:=by
 have e:(r :: args.toList.map a.eval).toArray=(#[r]++NU a.eval args)++#[]:=by
  apply MW; simp
 rw [e] at h
 have hx:(execOp a.eval o).run P m.w=(callFunc f ((#[r]++NU a.eval args)++#[])).run P m.w:=by
  simp [execOp,ho,resolve,hg,Deferred.ofValue,invoke]
 rcases h with ⟨h1,h2⟩ | ⟨v,w',h1,h2⟩
 ·exact Does.call (by rw [hx,h1]) h2
 ·exact Does.value (by rw [hx,h1]) h2
theorem tm:∀ {us:List Value} {q:List (Σ t:Ty,t.den)},Rel2 (fun u (p:Σ t:Ty,t.den)=>Rd m.w m.F p.1 [u] p.2∧p.1.isAgg=false) us q→Rel2 (ae m) us (q.map fun p=>Atom.val p.1 p.2)
 | [],[],_=>trivial
 | _ :: _,_ :: _,h=>⟨h.1,tm h.2⟩
theorem EE {g:Operand} {args:Array Operand} {ats:Array TypeId} (hC:∀ f site c,C.con f site=some c→c.Holds P C.glob f) (hi:Inv C w0 M m) (hG:m.G=s.G) (hS:∀ x,RelSV m (a.eval x) (ap C s.env x))
  (ho:o.op=.call { callee:=.value g,args,argTypes:=ats }) (h:aA C o s some=some s'):Does P o a m.w (Res C w0 M m s s' o.dst):=by
 simp only [aA,ho] at h
 have hg:=hS g
 have hargs:Rel2 (RelSV m) (args.toList.map a.eval) (args.toList.map (ap C s.env)):=Rel2.map_left _ hS
 split at h
 ·rename_i f caps hq
  rw [hq] at hg
  obtain ⟨vs,hgv,hc⟩:=hg
  have hb:=vB h
  refine ur ho hgv (sr hi hC (hargs.append (Bh hc fun i hi'=>?_)) hG h)
  rw [hG]
  exact hb i 0 (by simp only [B1,MO]; exact .inr ⟨i,hi',rfl⟩)
 ·rename_i f q hq
  rw [hq] at hg
  obtain ⟨us,hgv,h1,h2⟩:=hg
  exact D1 ho hgv (sr hi hC (show Rel2 (RelSV m) (Value.agg us.toArray :: args.toList.map a.eval) (SV.agg (q.map fun p=>Atom.val p.1 p.2) :: args.toList.map (ap C s.env)) from ⟨⟨us,rfl,h1,tm h2⟩,hargs⟩) hG h)
 ·rename_i f τ y hq
  rw [hq] at hg
  split at h
  ·rename_i l hl
   obtain ⟨cs,hgv,vs,rfl,hrd⟩:=hg
   exact ur ho hgv (sr hi hC (hargs.append (si hrd hl)) hG h)
  ·simp at h
 ·simp at h
theorem F3 {R:Type} {r:R} {K:St→Option R} (hT:dX P C.tab=true) (hE:Ga P C) (hM:uk P C) (hC:∀ f site c,C.con f site=some c→c.Holds P C.glob f) (hi:Inv C w0 M m) (hG:m.G=s.G) (hS:∀ x,RelSV m (a.eval x) (ap C s.env x))
  (h:aA C o s K=some r):Does P o a m.w (Gm C w0 M m s o.dst K r):=by
 by_cases hb:∀ op xt x y yt,o.op≠.binOp op xt x y yt
 ·rw [tN hb] at h
  obtain ⟨s',h,hK⟩:=B6.1 h
  have wrap:Does P o a m.w (Res C w0 M m s s' o.dst)→Does P o a m.w (Gm C w0 M m s o.dst K r):=fun hd K' Q hK'=>hd K' Q fun v w' hv=>hK' v w' ⟨s',hK,hv⟩
  refine wrap ?_
  cases ho:o.op with
  | move x=>exact BR hi hG hS (.inl ho) h
  | assign x=>exact BR hi hG hS (.inr ho) h
  | pick c x y=>exact GT hi hG hS ho h
  | alloc t=>exact DU hT hi hG ho h
  | box t x=>exact IF hi hG hS ho h
  | build t ps=>exact EF hT hi hG hS ho h
  | buildSlice t n ps=>exact td hT hi hG hS ho h
  | load t x=>exact Gu hT hi hG hS ho h
  | store t x y=>exact Dk hT hi hG hS ho h
  | nilCheck x=>exact x8 hi hG hS ho h
  | binOp op xt x y yt=>exact absurd ho (hb _ _ _ _ _)
  | unOp op t x=>exact Gc hi hG hS ho h
  | makeSlice t n c=>exact vh hT hi hG hS ho h
  | slice t x lo hi' mx=>exact FV hT hi hG hS ho h
  | fieldAddr t x f=>exact vU hT hi hG hS ho h
  | indexAddr t x i=>exact uE hT hi hG hS ho h
  | extract x i=>exact Ax hi hG hS ho h
  | makeFunc fn first caps=>exact yj hi hG hS ho h
  | makeMap t res =>
   cases res with
   | none=>exact yM hM hi hG ho h
   | some _=>simp [aA,ho] at h
  | lookup t x ix ok=>exact Cd hM hi hG hS ho h
  | mapUpdate t x ix y=>exact vH hM hi hG hS ho h
  | call c =>
   obtain ⟨callee,args,ats⟩:=c
   cases callee with
   | value g=>exact EE hC hi hG hS ho h
   | builtin b =>
    cases b with
    | len=>exact IZ (t:=⟨.builtin .len,args,ats⟩) hT hi hG hS ho h
    | min=>exact IH hi hG hS ho h
    | max=>exact IQ hi hG hS ho h
    | append=>exact Cn hT hi hG hS ho h
    | _=>simp [aA,ho] at h
   | invoke _ _=>simp [aA,ho] at h
  | _=>simp [aA,ho] at h
 ·simp only [Classical.not_forall,Classical.not_not] at hb
  obtain ⟨op,xt,x,y,yt,ho⟩:=hb
  exact Ds hT hE hi hG hS ho h
end
end Go.Vm

/-
 The machine's steps against the model's, in a frame: a step, what is given up, a region.
-/
namespace Go.Vm
section
variable {P:Program} {C:Ctx} {w0:World} {M:Own} {N:Nat} {o:Oper} {a:Act} {m:Mem} {s:St}
theorem kL (a:Act) (dst:Option Nat) (v:Value) (hd:∀ d,dst=some d→d < a.tmps.size) (t:Nat):(a.put dst v).tmps.getD t undef=if dst=some t then v else a.tmps.getD t undef:=by
 cases dst with
 | none=>simp [Act.put]
 | some d =>
  have h:=hd d rfl
  by_cases e:d=t
  ·subst e; simp [Act.put,h]
  ·have:¬ (some d=some t):=by simpa using e
   rw [if_neg this]
   simp [Act.put,Md,Array.getElem?_setIfInBounds,e]
theorem yF (dst:Option Nat) (sv:SV) (s:St) (t:Nat):(aG dst sv s).env.get t=if dst=some t then sv else s.env.get t:=by
 cases dst with
 | none=>simp [aG]
 | some d =>
  simp only [aG]
  rw [Env.get_cons]
  by_cases e:d=t
  ·simp [e]
  ·simp [e]
theorem BC {e:Env} {m':Mem} {v:Value} {sv:SV} {dst:Option Nat} {G:Heap} (hs:Sim C w0 M N a m e) (hi:Inv C w0 M m') (he:Evo m m') (hv:RelSV m' v sv) (hd:∀ d,dst=some d→d < N) :
  Sim C w0 M N (a.put dst v) m' (aG dst sv ⟨e,G⟩).env:=by
 refine ⟨hi,by cases dst <;> exact hs.defers,by cases dst <;> simp [Act.put,hs.size],fun t=>?_⟩
 rw [kL a dst v (fun d h=>LA (hd d h) hs.size),yF]
 split
 ·exact hv
 ·exact gC he (hs.env t)
theorem Heap.get_map (f:Obj→Obj):∀ (G:Heap) (i:Nat),Heap.get (G.map fun p=>(p.1,f p.2)) i=(G.get i).map f
 | [],_=>rfl
 | (k,v) :: r,i=>by
  simp only [Li,Heap.get]
  cases A8 k i with
  | true=>rfl
  | false=>exact Heap.get_map f r i
theorem Env.get_map (f:SV→SV) (hf:f (.av .u)=.av .u):∀ (e:Env) (i:Nat),Env.get (e.map fun p=>(p.1,f p.2)) i=f (e.get i)
 | [],_=>hf.symm
 | (k,v) :: r,i=>by
  simp only [Li,Env.get]
  cases A8 k i with
  | true=>rfl
  | false=>exact Env.get_map f hf r i
theorem jM:∀ (ids:List Nat) (G:Heap) (i:Nat),i∈ids→(am ids G).get i=some .dead
 | j :: r,G,i,h=>by
  show (am r ((j,.dead) :: G)).get i=_
  by_cases hr:i∈r
  ·exact jM r _ i hr
  ·rcases B3.1 h with h | h
   ·subst h; rw [bu r _ i hr,Heap.get_cons,if_pos rfl]
   ·exact absurd h hr
theorem gI {ids:List Nat} {i:Nat}:(ids.any fun j=>A8 i j)=true↔i∈ids:=by
 rw [L9]
 constructor
 ·rintro ⟨j,hj,h⟩
  rw [A5 h]; exact hj
 ·intro h; exact ⟨i,h,M5 i⟩
theorem lr (hi:Inv C w0 M m) {ids:List Nat} {m1:Mem} (hw:m1.w=m.w) (he:Evo m m1) (hF:∀ b,Thru m ids b→m1.F b) {u:Value} {at':Atom} (h:ae m u at'):ae m1 u (eN m.G ids at'):=by
 have thru {i:Nat} (hin:i∈ids) {b:Nat} (hb:Thru m [i] b):m1.F b:=hF b (Thru.mono (fun k hk=>by simp at hk; subst hk; exact hin) hb)
 cases at' with
 | own i =>
  simp only [eN]
  cases hin:(ids.any fun j=>A8 i j) with
  | false=>exact bC he h
  | true =>
   have hin:=gI.1 hin
   simp only [cond_true]
   cases hg:m.G.get i with
   | none=>exact bC he h
   | some ob =>
    cases ob with
    | arr τ l =>
     obtain ⟨_,ob,hob,hv⟩:=h
     rw [hg] at hob
     simp only [A1] at hob
     subst hob
     have hv:=hv rfl
     subst hv
     exact ⟨(Au hi hg).mono fun b hb=>⟨thru hin hb,by rw [hw]⟩,rfl⟩
    | _=>exact bC he h
 | view i off len =>
  simp only [eN]
  cases hin:(ids.any fun j=>A8 i j) with
  | false=>exact bC he h
  | true =>
   have hin:=gI.1 hin
   simp only [cond_true]
   cases hg:m.G.get i with
   | none=>exact bC he h
   | some ob =>
    cases ob with
    | arr τ l =>
     have hr:aE m.G (.slice τ) (.view i off len)=some ((l.drop off).take len):=by simp [aE,hg,bG]
     have:=dn hi hr h
     exact ⟨this.mono fun b hb=>⟨thru hin hb,by rw [hw]⟩,rfl⟩
    | _=>exact bC he h
 | u=>trivial
 | undef=>exact h
 | nils=>exact h
 | val _ _=>exact bC he h
 | ptr _ _=>exact bC he h
 | aptr _ _ _=>exact bC he h
 | cut _ _ _=>exact bC he h
 | bnd _ _=>exact bC he h
 | saptr _ _ _ _=>exact bC he h
 | ownm _=>exact bC he h
 | ownd i =>
  simp only [eN]
  cases hin:(ids.any fun j=>A8 i j) with
  | false=>exact bC he h
  | true =>
   have hin:=gI.1 hin
   simp only [cond_true]
   split
   ·rename_i ver τ l hg
    have hr:aE m.G (.slice (.slice τ)) (.ownd i)=some l:=by simp [aE,hg,bG]
    have:=dn hi hr h
    exact ⟨this.mono fun b hb=>⟨thru hin hb,by rw [hw]⟩,rfl⟩
   ·exact bC he h
 | sub i ver j =>
  simp only [eN]
  cases hin:(ids.any fun j=>A8 i j) with
  | false=>exact bC he h
  | true =>
   have hin:=gI.1 hin
   simp only [cond_true]
   split
   ·rename_i ver' τ l hg
    cases hv:A8 ver ver' with
    | false=>exact bC he h
    | true =>
     simp only [cond_true]
     have hr:aE m.G (.slice τ) (.sub i ver j)=some (aZ l j):=by simp [aE,hg,bG,hv]
     have:=dn hi hr h
     exact ⟨this.mono fun b hb=>⟨thru hin hb,by rw [hw]⟩,rfl⟩
   ·exact bC he h
 | clo _ _=>exact bC he h
theorem Rel2.map_right {α β : Type} {r s : α→β→Prop} {f : β→β} (h:∀ x y,r x y→s x (f y)):∀ {l:List α} {k:List β},Rel2 r l k→Rel2 s l (k.map f)
 | [],[],_=>trivial
 | [],_ :: _,h=>h.elim
 | _ :: _,[],h=>h.elim
 | _ :: _,_ :: _,hh=>⟨h _ _ hh.1,Rel2.map_right h hh.2⟩
theorem II (hi:Inv C w0 M m) {ids:List Nat} {m1:Mem} (hw:m1.w=m.w) (he:Evo m m1) (hF:∀ b,Thru m ids b→m1.F b) {u:Value} {sv:SV} (h:RelSV m u sv):RelSV m1 u (Ep m.G ids sv):=by
 cases sv with
 | av at' =>
  cases at' with
  | val τ x=>exact gC he h
  | _=>exact RelSV.of_atom (lr hi hw he hF ((ah (by intros; simp)).1 h))
 | agg l =>
  obtain ⟨us,h1,h2,h3⟩:=h
  exact ⟨us,h1,h2,Rel2.map_right (f:=eN m.G ids) (fun _ _ h=>lr hi hw he hF h) h3⟩
 | tup l =>
  obtain ⟨us,h1,h2⟩:=h
  refine ⟨us,h1,Rel2.map_right ?_ h2⟩
  rintro v ⟨b,l⟩ hv
  cases b with
  | true=>obtain ⟨us,h1,h0,h2⟩:=hv; exact ⟨us,h1,h0,Rel2.map_right (f:=eN m.G ids) (fun _ _ h=>lr hi hw he hF h) h2⟩
  | false =>
   obtain ⟨a,h1,h2⟩:=hv
   simp only at h1
   subst h1
   exact ⟨_,rfl,lr hi hw he hF h2⟩
theorem rj (ids:List Nat) (hs:Sim C w0 M N a m s.env) (hG:m.G=s.G):∃ m',m'.w=m.w∧m'.G=(vM ids s).G∧Sim C w0 M N a m' (vM ids s).env:=by
 obtain ⟨m1,a1,a2,a3,a4,a5,a6⟩:=cS ids hs.inv
 have hget:∀ id o,Heap.get (am ids (m.G.map fun p=>(p.1,m9 m.G ids p.2))) id=some o→o=.dead∨(id∉ids∧∃ o0,m.G.get id=some o0∧o=m9 m.G ids o0):=by
  intro id o ho
  by_cases hin:id∈ids
  ·rw [jM ids _ id hin] at ho
   simp only [A1] at ho
   exact .inl ho.symm
  ·rw [bu ids _ id hin,Heap.get_map] at ho
   obtain ⟨o0,h1,h2⟩:=Option.map_eq_some_iff.1 ho
   exact .inr ⟨hin,o0,h1,h2.symm⟩
 have halike:∀ o0,Alike o0 (m9 m.G ids o0):=by
  intro o0; cases o0 <;> first | exact ⟨rfl,rfl⟩ | trivial
 have hobj:∀ o0,isObj (m9 m.G ids o0)=isObj o0:=by intro o0; cases o0 <;> rfl
 let m2:Mem:=⟨m1.w,m1.F,m1.ι,am ids (m.G.map fun p=>(p.1,m9 m.G ids p.2))⟩
 have he2:Evo m m2:=by
  refine ⟨a5.fro,fun id o ho=>?_⟩
  by_cases hin:id∈ids
  ·exact ⟨.dead,jM ids _ id hin,.inl rfl⟩
  ·refine ⟨m9 m.G ids o,?_,.inr (.inl ⟨by show m1.ι id=_; rw [a2],halike o⟩)⟩
   show Heap.get (am ids _) id=_
   rw [bu ids _ id hin,Heap.get_map,ho]; rfl
 have hi2:Inv C w0 M m2:=by
  refine ⟨a4.kept,?_,?_,?_,a4.fro,fun g τ x hg=>a4.glob g τ x hg,a4.bnd,fun i v h=>cX he2 (hs.inv.pin i v h)⟩
  ·intro id o ho
   rcases hget id o ho with rfl | ⟨hin,o0,h0,rfl⟩
   ·trivial
   ·have hr:=hs.inv.objs id o0 h0
    cases o0 with
    | dead=>trivial
    | arr τ l=>exact co he2 (by show m1.ι id=_; rw [a2]) (fun b _=>by show m1.w.heap[b]?=_; rw [a1]) hr
    | deep ver τ l hole=>exact co he2 (by show m1.ι id=_; rw [a2]) (fun b _=>by show m1.w.heap[b]?=_; rw [a1]) hr
    | map k v l=>exact co he2 (by show m1.ι id=_; rw [a2]) (fun b _=>by show m1.w.heap[b]?=_; rw [a1]) hr
    | box l =>
     obtain ⟨b,c,el,h1,h2,h3,h4⟩:=hr
     exact ⟨b,c,el,by show m1.ι id=_; rw [a2]; exact h1,by show m1.w.heap[b]?=_; rw [a1]; exact h2,h3,Rel2.map_right (f:=eN m.G ids) (fun _ _ h=>lr (m1:=m2) hs.inv a1 he2 a6 h) h4⟩
  ·intro id o b ho hob hb
   rcases hget id o ho with rfl | ⟨hin,o0,h0,rfl⟩
   ·simp [isObj] at hob
   ·exact a4.own id o0 b (by rw [a3,bu ids _ id hin]; exact h0) (by rw [← hobj o0]; exact hob) hb
  ·intro i j p q b hp hop hq hoq h1 h2
   rcases hget i p hp with rfl | ⟨hin,o0,h0,rfl⟩
   ·simp [isObj] at hop
   ·rcases hget j q hq with rfl | ⟨hin',o1,h0',rfl⟩
    ·simp [isObj] at hoq
    ·exact a4.inj i j o0 o1 b (by rw [a3,bu ids _ i hin]; exact h0) (by rw [← hobj o0]; exact hop) (by rw [a3,bu ids _ j hin']; exact h0') (by rw [← hobj o1]; exact hoq) h1 h2
 refine ⟨m2,a1,by show am ids _=am ids _; rw [hG],hi2,hs.defers,hs.size,fun t=>?_⟩
 show RelSV m2 _ (Env.get (s.env.map fun p=>(p.1,Ep s.G ids p.2)) t)
 rw [Env.get_map _ (by rfl),← hG]
 exact II (m1:=m2) hs.inv a1 he2 a6 (hs.env t)
structure CtxOK (P:Program) (C:Ctx):Prop where
 tab:dX P C.tab=true
 eqs:Ga P C
 maps:uk P C
 con:∀ f site c,C.con f site=some c→c.Holds P C.glob f
theorem Gy {R:Type} {r:R} {K:St→Option R} (hC:CtxOK P C) (hs:Sim C w0 M N a m s.env) (hG:m.G=s.G) (hd:∀ d,o.dst=some d→d < N) (h:aA C o s K=some r)
  {Kc:Act→World→Prop} {Q:Exit→Act→World→Prop} (hK:∀ s' a' m',K s'=some r→m'.G=s'.G→Sim C w0 M N a' m' s'.env→Kc a' m'.w):o.wp P a m.w Kc Q:=by
 refine F3 hC.tab hC.eqs hC.maps hC.con hs.inv hG (rJ hs.inv hs.env) h Kc Q ?_
 rintro v w' ⟨s',hK',m',sv,rfl,rfl,h1,h2,h3⟩
 exact hK _ _ m' hK' (by cases o.dst <;> rfl) (BC hs h1 h2 h3 hd)
theorem Ak (hs:Sim C w0 M N a m s.env) (hG:m.G=s.G) (o:Oper):∃ m',m'.w=m.w∧m'.G=(na C o s).G∧Sim C w0 M N a m' (na C o s).env:=by
 unfold na
 split
 ·exact ⟨m,rfl,hG,hs⟩
 ·exact rj _ hs hG
theorem qw {d:Nat} {sv:SV} (hs:Sim C w0 M N a m s.env) (h:s.env.get d=sv):Sim C w0 M N a m ((d,sv) :: s.env):=by
 refine ⟨hs.inv,hs.defers,hs.size,fun t=>?_⟩
 rw [Env.get_cons]
 split
 ·rename_i e; subst e; rw [← h]; exact hs.env d
 ·exact hs.env t
theorem uI {ops:Array Oper} {j d:Nat} {b:Bool} (hs:Sim C w0 M N a m s.env) (hj:fl ops.toList j=some d) (h:s.env.get d=.av (.val .bool b)):yielded ops a.tmps j=some b:=by
 have hv:=hs.env d
 rw [h] at hv
 have hv:=rel_bool hv
 have hd:(ops[j]?).bind (·.dst)=some d:=by
  unfold fl at hj
  rw [LO] at hj
  split at hj
  ·rename_i o ho; simp [ho,hj]
  ·simp at hj
 unfold yielded
 rw [hd]
 have:a.tmps[d]?=some (.bool b):=by
  rw [Md] at hv
  cases hg:a.tmps[d]? with
  | none=>rw [hg] at hv; simp [undef] at hv
  | some v=>rw [hg] at hv; simpa using hv
 simp [this]
theorem s9 {ops:Array Oper} {j d:Nat} (hs:Sim C w0 M N a m s.env) (hj:fl ops.toList j=some d) (h:s.env.get d=.av .undef):yielded ops a.tmps j=none:=by
 have hv:=hs.env d
 rw [h] at hv
 have hv:a.tmps.getD d undef=undef:=hv
 have hd:(ops[j]?).bind (·.dst)=some d:=by
  unfold fl at hj
  rw [LO] at hj
  split at hj
  ·rename_i o ho; simp [ho,hj]
  ·simp at hj
 unfold yielded
 rw [hd]
 rw [Md] at hv
 cases hg:a.tmps[d]? with
 | none=>simp [hg]
 | some v=>rw [hg] at hv; simp at hv; subst hv; simp [hg,undef]
theorem oz {R:Type} {res:R} {K:St→Option R} (hC:CtxOK P C) {ops:Array Oper} {Q:Exit→Act→World→Prop}
  (hK:∀ s' a' m',K s'=some res→m'.G=s'.G→Sim C w0 M N a' m' s'.env→Q .normal a' m'.w) (hd:∀ o∈ops.toList,∀ d,o.dst=some d→d < N) :
  ∀ (l:List Oper) (k:Nat) {s:St} {a:Act} {m:Mem},(∀ j,l[j]?=ops[k+j]?)→gw C ops.toList l s K=some res→m.G=s.G→Sim C w0 M N a m s.env→wpOps P ops Q (Oq k l.length) a m.w
 | [],k,s,a,m,_,h,hG,hs=>hK s a m h hG hs
 | o :: r,k,s,a,m,hl,h,hG,hs=>by
  have h0:ops[k]?=some o:=by simpa using (hl 0).symm
  have hmem:o∈ops.toList:=by rw [Array.mem_toList_iff]; exact Array.mem_of_getElem? h0
  have hl':∀ j,r[j]?=ops[k+1+j]?:=fun j=>by have:=hl (j+1); simpa [Nat.add_assoc,Nat.add_comm 1 j] using this
  rw [La,List.range'_succ]
  simp only [wpOps,h0]
  have go {s:St} {m:Mem} (hG:m.G=s.G) (hs:Sim C w0 M N a m s.env) (h:aA C o (na C o s) (fun s'=>gw C ops.toList r s' K)=some res):o.wp P a m.w (wpOps P ops Q (Oq (k+1) r.length)) Q:=by
   obtain ⟨m',e1,e2,e3⟩:=Ak hs hG o
   rw [← e1]
   exact Gy hC e3 e2 (hd o hmem) h fun s' a' m' h1 h2 h3=>oz hC hK hd r (k+1) hl' h1 h2 h3
  have skip {s:St} {m:Mem} (hG:m.G=s.G) (hs:Sim C w0 M N a m s.env) (h:gw C ops.toList r (aG o.dst (.av .undef) s) K=some res):wpOps P ops Q (Oq (k+1) r.length) (a.put o.dst undef) m.w :=
   oz hC hK hd r (k+1) hl' h (by rw [hG]; cases o.dst <;> rfl) (BC hs hs.inv (Evo.refl m) (show RelSV m undef (.av .undef) from rfl) (hd o hmem))
  unfold gw at h
  split at h
  ·rename_i hg
   have hw:Region.wanted o (yielded ops a.tmps)=true:=by simp [Region.wanted,hg]
   rw [if_pos hw]
   exact .inl (go hG hs h)
  ·rename_i j want hg
   split at h
   ·simp at h
   ·rename_i d hdd
    split at h
    ·rename_i b hb
     have hy:=uI hs hdd hb
     have hw:Region.wanted o (yielded ops a.tmps)=(b == want):=by simp [Region.wanted,hg,hy]
     rw [hw]
     cases b with
     | true =>
      simp only [cond_true] at h
      cases want with
      | true=>exact .inl (go (s:=⟨(d,.av (.val .bool true)) :: s.env,s.G⟩) hG (qw hs hb) h)
      | false=>exact skip (s:=⟨(d,.av (.val .bool true)) :: s.env,s.G⟩) hG (qw hs hb) h
     | false =>
      simp only [cond_false] at h
      cases want with
      | true=>exact skip (s:=⟨(d,.av (.val .bool false)) :: s.env,s.G⟩) hG (qw hs hb) h
      | false=>exact .inl (go (s:=⟨(d,.av (.val .bool false)) :: s.env,s.G⟩) hG (qw hs hb) h)
    ·rename_i hb
     have hy:=s9 hs hdd hb
     have hw:Region.wanted o (yielded ops a.tmps)=false:=by simp [Region.wanted,hg,hy]
     rw [hw]
     exact skip hG hs h
    ·simp at h
theorem Cp {R:Type} {res:R} {K:St→Option R} (hC:CtxOK P C) {id:Nat} {ops:Array Oper} {Q:Exit→Act→World→Prop}
  (hK:∀ s' a' m',K s'=some res→m'.G=s'.G→Sim C w0 M N a' m' s'.env→Q .normal a' m'.w) (hd:∀ o∈ops.toList,∀ d,o.dst=some d→d < N)
  (h:gw C ops.toList ops.toList s K=some res) (hG:m.G=s.G) (hs:Sim C w0 M N a m s.env):(Code.region id ops false).wp P Q a m.w:=by
 refine wp_region ?_
 have:=oz hC hK hd ops.toList 0 (fun j=>by simp) h hG hs
 rw [List.range_eq_range']
 simpa using this
end
end Go.Vm

/-
 A state laid into a shape.
-/
namespace Go.Vm
section
variable {P:Program} {C:Ctx} {w0:World} {M:Own} {N:Nat} {a:Act} {m:Mem} {s:St}
def gY (m:Mem) (j:Nat):Prop:=∃ o,m.G.get j=some o∧isObj o=true
def IM (m:Mem):Src→Value→Prop
 | .nil,v=>∃ ad,v=.slice ad 0 0
 | .own j,v=>gY m j→v=m.ι j
 | .view j o n,v=>ae m v (.view j o n)
 | .nild,v=>∃ ad,v=.tuple [.slice ad 0 0].toArray
def gj (m:Mem) (R:Ren) (ρ : Nat→Value):Prop:=∀ i src,R.get i=some src→IM m src (ρ i)
def Ext (R:Ren) (ρ : Nat→Value) (R':Ren) (ρ':Nat→Value):Prop:=∀ i src,R.get i=some src→R'.get i=some src∧ρ' i=ρ i
theorem Ext.refl (R:Ren) (ρ : Nat→Value):Ext R ρ R ρ:=fun _ _ h=>⟨h,rfl⟩
theorem Ext.trans {R R' R'':Ren} {ρ ρ' ρ'':Nat→Value} (h:Ext R ρ R' ρ') (h':Ext R' ρ' R'' ρ''):Ext R ρ R'' ρ'':=fun i src hi=>by
 obtain ⟨h1,h2⟩:=h i src hi
 obtain ⟨h3,h4⟩:=h' i src h1
 exact ⟨h3,h4.trans h2⟩
def AtomR (m:Mem) (R:Ren) (ρ : Nat→Value) (u:Value):SpA→Prop
 | .own i=>u.oneCell'=true∧∃ src,R.get i=some src∧(u=ρ i∨∃ j,src=.own j∧¬ gY m j)
 | .ptr i o=>∃ j,R.get i=some (.own j)∧ae m u (.ptr j o)
 | .clo _ c=>∀ i∈c,R.get i=some (.own i)
 | .ownm i=>u.oneCell'=true∧∃ j,R.get i=some (.own j)∧(u=ρ i∨¬ gY m j)
 | .ownd i=>u.oneCell'=true∧∃ src,R.get i=some src∧((∃ us,ρ i=.tuple us∧us[0]?=some u)∨∃ j,src=.own j∧¬ gY m j)
 | _=>True
theorem AtomR.ext {R R':Ren} {ρ ρ':Nat→Value} (he:Ext R ρ R' ρ') {u:Value} {x:SpA} (h:AtomR m R ρ u x):AtomR m R' ρ' u x:=by
 cases x with
 | own i =>
  obtain ⟨h1,src,h2,h3⟩:=h
  obtain ⟨e1,e2⟩:=he i src h2
  exact ⟨h1,src,e1,h3.imp (fun h=>by rw [e2]; exact h) id⟩
 | ptr i o=>obtain ⟨j,h1,h2⟩:=h; exact ⟨j,(he i _ h1).1,h2⟩
 | clo f c=>exact fun i hi=>(he i _ (h i hi)).1
 | ownd i =>
  obtain ⟨h1,src,h2,h3⟩:=h
  obtain ⟨e1,e2⟩:=he i src h2
  exact ⟨h1,src,e1,h3.imp (fun h=>by rw [e2]; exact h) id⟩
 | ownm i =>
  obtain ⟨h1,j,h2,h3⟩:=h
  obtain ⟨e1,e2⟩:=he i _ h2
  exact ⟨h1,j,e1,h3.imp (fun h=>by rw [e2]; exact h) id⟩
 | _=>trivial
theorem lW {R R':Ren} {i:Nat} {src:Src} (h:R.add i src=some R'):(R.get i=none∧R'=(i,src) :: R)∨(∃ j,src=.own j∧R.get i=some (.own j)∧R'=R):=by
 unfold Ren.add at h
 split at h
 ·rename_i hg; simp at h; exact .inl ⟨hg,h.symm⟩
 ·rename_i s' hg
  cases hs:s'.same src with
  | false=>rw [hs] at h; simp at h
  | true =>
   rw [hs] at h
   simp at h
   unfold Src.same at hs
   split at hs
   ·rename_i i' j'
    have:=A5 hs
    subst this
    exact .inr ⟨i',rfl,hg,h.symm⟩
   ·simp at hs
theorem Ren.get_cons (i:Nat) (v:Src) (R:Ren) (j:Nat):Ren.get ((i,v) :: R) j=if i=j then some v else R.get j:=by
 simp only [Ren.get]
 cases h:A8 i j with
 | true=>simp [A5 h]
 | false=>simp [M8 h]
theorem lX {R:Ren} {ρ : Nat→Value} (hR:gj m R ρ) {i:Nat} {src:Src} {v:Value} (hn:R.get i=none) (hv:IM m src v) :
  gj m ((i,src) :: R) (fun k=>if k=i then v else ρ k)∧Ext R ρ ((i,src) :: R) (fun k=>if k=i then v else ρ k):=by
 refine ⟨fun k s' hk=>?_,fun k s' hk=>?_⟩
 ·rw [Ren.get_cons] at hk
  split at hk
  ·rename_i e; subst e; simp at hk; subst hk; simpa using hv
  ·rename_i e; simp [Ne.symm e]; exact hR k s' hk
 ·have e:i≠k:=by intro e; subst e; rw [hn] at hk; cases hk
  exact ⟨by rw [Ren.get_cons,if_neg e]; exact hk,by simp [Ne.symm e]⟩
theorem rU:∀ (c:List Nat) {R R':Ren} {ρ : Nat→Value},Ren.addCaps c R=some R'→gj m R ρ→∃ ρ',gj m R' ρ'∧Ext R ρ R' ρ'∧∀ i∈c,R'.get i=some (.own i)
 | [],R,R',ρ,h,hR=>by
  simp only [Ren.addCaps,A1] at h
  subst h
  exact ⟨ρ,hR,Ext.refl _ _,by simp⟩
 | i :: r,R,R',ρ,h,hR=>by
  simp only [Ren.addCaps] at h
  split at h
  ·rename_i R1 h1
   have one:∃ ρ1,gj m R1 ρ1∧Ext R ρ R1 ρ1∧R1.get i=some (.own i):=by
    rcases lW h1 with ⟨hn,rfl⟩ | ⟨j,hj,hg,rfl⟩
    ·obtain ⟨k1,k2⟩:=lX hR (src:=.own i) (v:=m.ι i) hn (fun _=>rfl)
     exact ⟨_,k1,k2,by rw [Ren.get_cons,if_pos rfl]⟩
    ·cases hj; exact ⟨ρ,hR,Ext.refl _ _,hg⟩
   obtain ⟨ρ1,a1,a2,a3⟩:=one
   obtain ⟨ρ2,b1,b2,b3⟩:=rU r h a1
   refine ⟨ρ2,b1,a2.trans b2,?_⟩
   intro k hk
   rcases B3.1 hk with rfl | hk
   ·exact (b2 k _ a3).1
   ·exact b3 k hk
  ·simp at h
theorem k8 {R R':Ren} {ρ : Nat→Value} {x:SpA} {b:Atom} {u:Value} (h:x.ren b R=some R') (hr:ae m u b) (hR:gj m R ρ):∃ ρ',gj m R' ρ'∧Ext R ρ R' ρ'∧AtomR m R' ρ' u x:=by
 have own {i:Nat} {src:Src} (h:R.add i src=some R') (hv:IM m src u) (h1:u.oneCell'=true):∃ ρ',gj m R' ρ'∧Ext R ρ R' ρ'∧AtomR m R' ρ' u (.own i):=by
  rcases lW h with ⟨hn,rfl⟩ | ⟨j,rfl,hg,rfl⟩
  ·obtain ⟨k1,k2⟩:=lX hR hn hv
   exact ⟨_,k1,k2,h1,src,by rw [Ren.get_cons,if_pos rfl],.inl (by simp)⟩
  ·refine ⟨ρ,hR,Ext.refl _ _,h1,.own j,hg,?_⟩
   by_cases hal:gY m j
   ·exact .inl ((hv hal).trans (hR i _ hg hal).symm)
   ·exact .inr ⟨j,rfl,hal⟩
 cases x with
 | own i =>
  cases b with
  | own j =>
   simp only [SpA.ren] at h
   obtain ⟨h1,o,h2,h3⟩:=hr
   refine own h ?_ h1
   rintro ⟨o',h4,h5⟩
   rw [h2] at h4
   simp only [A1] at h4
   subst h4
   exact h3 h5
  | nils =>
   simp only [SpA.ren] at h
   obtain ⟨ad,rfl⟩:=hr
   exact own h ⟨ad,rfl⟩ rfl
  | view j o n =>
   simp only [SpA.ren] at h
   exact own h hr hr.1
  | _=>simp [SpA.ren] at h
 | ptr i o =>
  cases b with
  | ptr j o' =>
   simp only [SpA.ren] at h
   cases ho:A8 o o' with
   | false=>rw [ho] at h; simp at h
   | true =>
    rw [ho] at h
    simp only [cond_true] at h
    have:=A5 ho
    subst this
    rcases lW h with ⟨hn,rfl⟩ | ⟨j',hj,hg,rfl⟩
    ·obtain ⟨k1,k2⟩:=lX hR (src:=.own j) (v:=m.ι j) hn (fun _=>rfl)
     exact ⟨_,k1,k2,j,by rw [Ren.get_cons,if_pos rfl],hr⟩
    ·cases hj; exact ⟨ρ,hR,Ext.refl _ _,j,hg,hr⟩
  | _=>simp [SpA.ren] at h
 | clo f c =>
  have h:Ren.addCaps c R=some R':=by cases b <;> exact h
  obtain ⟨ρ',k1,k2,k3⟩:=rU c h hR
  exact ⟨ρ',k1,k2,k3⟩
 | ownm i =>
  cases b with
  | ownm j =>
   simp only [SpA.ren] at h
   obtain ⟨h1,o,h2,h3⟩:=hr
   have key:∀ v,(gY m j→v=m.ι j)→u=v∨¬ gY m j:=by
    intro v hv
    by_cases hal:gY m j
    ·left
     obtain ⟨o',q1,q2⟩:=hal
     rw [h2] at q1
     cases q1
     cases o with
     | map _ _ _=>rw [hv ⟨_,h2,rfl⟩]; exact h3
     | dead=>simp [isObj] at q2
     | _=>exact h3.elim
    ·exact .inr hal
   rcases lW h with ⟨hn,rfl⟩ | ⟨j',hj,hg,rfl⟩
   ·obtain ⟨k1,k2⟩:=lX hR (src:=.own j) (v:=m.ι j) hn (fun _=>rfl)
    exact ⟨_,k1,k2,h1,j,by rw [Ren.get_cons,if_pos rfl],key _ (fun _=>by simp)⟩
   ·cases hj
    exact ⟨ρ,hR,Ext.refl _ _,h1,j,hg,key _ (hR i _ hg)⟩
  | _=>simp [SpA.ren] at h
 | ownd i =>
  cases b with
  | ownd j =>
   simp only [SpA.ren] at h
   obtain ⟨h1,o,h2,h3⟩:=hr
   have key:∀ v,(gY m j→v=m.ι j)→(∃ us,v=.tuple us∧us[0]?=some u)∨∃ j',Src.own j=.own j'∧¬ gY m j':=by
    intro v hv
    by_cases hal:gY m j
    ·left
     obtain ⟨o',q1,q2⟩:=hal
     rw [h2] at q1
     cases q1
     cases o with
     | deep _ _ _ _=>rw [hv ⟨_,h2,rfl⟩]; exact h3
     | dead=>simp [isObj] at q2
     | _=>exact h3.elim
    ·exact .inr ⟨j,rfl,hal⟩
   rcases lW h with ⟨hn,rfl⟩ | ⟨j',hj,hg,rfl⟩
   ·obtain ⟨k1,k2⟩:=lX hR (src:=.own j) (v:=m.ι j) hn (fun _=>rfl)
    exact ⟨_,k1,k2,h1,.own j,by rw [Ren.get_cons,if_pos rfl],key _ (fun _=>by simp)⟩
   ·cases hj
    exact ⟨ρ,hR,Ext.refl _ _,h1,.own j,hg,key _ (hR i _ hg)⟩
  | nils =>
   simp only [SpA.ren] at h
   obtain ⟨ad,rfl⟩:=hr
   rcases lW h with ⟨hn,rfl⟩ | ⟨j',hj,_,_⟩
   ·obtain ⟨k1,k2⟩:=lX hR (src:=.nild) (v:=.tuple [.slice ad 0 0].toArray) hn ⟨ad,rfl⟩
    exact ⟨_,k1,k2,rfl,.nild,by rw [Ren.get_cons,if_pos rfl],.inl ⟨_,by simp; rfl,by simp⟩⟩
   ·cases hj
  | _=>simp [SpA.ren] at h
 | u =>
  simp only [SpA.ren,A1] at h
  subst h
  exact ⟨ρ,hR,Ext.refl _ _,trivial⟩
 | undef =>
  simp only [SpA.ren,A1] at h
  subst h
  exact ⟨ρ,hR,Ext.refl _ _,trivial⟩
 | nils =>
  simp only [SpA.ren,A1] at h
  subst h
  exact ⟨ρ,hR,Ext.refl _ _,trivial⟩
 | val τ =>
  simp only [SpA.ren,A1] at h
  subst h
  exact ⟨ρ,hR,Ext.refl _ _,trivial⟩
theorem o8:∀ {l:List SpA} {bs:List Atom} {us:List Value} {R R':Ren} {ρ : Nat→Value},SpA.renL l bs R=some R'→Rel2 (ae m) us bs→gj m R ρ →
  ∃ ρ',gj m R' ρ'∧Ext R ρ R' ρ'∧Rel2 (AtomR m R' ρ') us l
 | [],[],[],R,R',ρ,h,_,hR=>by
  simp only [SpA.renL,A1] at h
  subst h
  exact ⟨ρ,hR,Ext.refl _ _,trivial⟩
 | [],_ :: _,_,_,_,_,h,_,_=>by simp [SpA.renL] at h
 | _ :: _,[],_,_,_,_,h,_,_=>by simp [SpA.renL] at h
 | _,_ :: _,[],_,_,_,_,h,_=>h.elim
 | _,[],_ :: _,_,_,_,_,h,_=>h.elim
 | x :: l,b :: bs,u :: us,R,R',ρ,h,hr,hR=>by
  simp only [SpA.renL] at h
  split at h
  ·rename_i R1 h1
   obtain ⟨ρ1,a1,a2,a3⟩:=k8 h1 hr.1 hR
   obtain ⟨ρ2,b1,b2,b3⟩:=o8 h hr.2 a1
   exact ⟨ρ2,b1,a2.trans b2,a3.ext b2,b3⟩
  ·simp at h
def SvR (m:Mem) (R:Ren) (ρ : Nat→Value) (u:Value):SpS→Prop
 | .av (.val _)=>True
 | .av x=>AtomR m R ρ u x
 | .agg l=>∃ us:List Value,u=.agg us.toArray∧(∀ v∈us,v.oneCell'=true)∧Rel2 (AtomR m R ρ) us l
 | .sub _=>True
 | .view _=>True
theorem SvR.ext {R R':Ren} {ρ ρ':Nat→Value} (he:Ext R ρ R' ρ') {u:Value} {x:SpS} (h:SvR m R ρ u x):SvR m R' ρ' u x:=by
 cases x with
 | av x =>
  cases x with
  | val _=>trivial
  | u=>trivial
  | undef=>trivial
  | nils=>trivial
  | own i=>exact AtomR.ext (x:=.own i) he h
  | ptr i o=>exact AtomR.ext (x:=.ptr i o) he h
  | clo f c=>exact AtomR.ext (m:=m) (u:=u) (x:=.clo f c) he h
  | ownd i=>exact AtomR.ext (x:=.ownd i) he h
  | ownm i=>exact AtomR.ext (x:=.ownm i) he h
 | agg l=>obtain ⟨us,h1,h2,h3⟩:=h; exact ⟨us,h1,h2,h3.mono fun _ _=>AtomR.ext he⟩
 | sub _=>trivial
 | view _=>trivial
theorem Im {R R':Ren} {ρ : Nat→Value} {x:SpS} {b:SV} {u:Value} (h:x.ren b R=some R') (hr:RelSV m u b) (hR:gj m R ρ):∃ ρ',gj m R' ρ'∧Ext R ρ R' ρ'∧SvR m R' ρ' u x:=by
 unfold SpS.ren at h
 split at h
 ·rename_i x b
  cases x with
  | val τ =>
   have:R'=R:=by
    unfold SpA.ren at h
    split at h <;> first | cases ‹SpA.val _=_› | (simp only [A1] at h; exact h.symm)
   subst this
   exact ⟨ρ,hR,Ext.refl _ _,trivial⟩
  | u =>
   have:R'=R:=by
    unfold SpA.ren at h
    split at h <;> first | cases ‹SpA.u=_› | (simp only [A1] at h; exact h.symm)
   subst this
   exact ⟨ρ,hR,Ext.refl _ _,trivial⟩
  | undef =>
   have:R'=R:=by
    unfold SpA.ren at h
    split at h <;> first | cases ‹SpA.undef=_› | (simp only [A1] at h; exact h.symm)
   subst this
   exact ⟨ρ,hR,Ext.refl _ _,trivial⟩
  | nils =>
   have:R'=R:=by
    unfold SpA.ren at h
    split at h <;> first | cases ‹SpA.nils=_› | (simp only [A1] at h; exact h.symm)
   subst this
   exact ⟨ρ,hR,Ext.refl _ _,trivial⟩
  | own i =>
   cases b with
   | val τ y=>simp [SpA.ren] at h
   | _=>obtain ⟨ρ',k1,k2,k3⟩:=k8 h ((ah (by intros; simp)).1 hr) hR; exact ⟨ρ',k1,k2,k3⟩
  | ptr i o =>
   cases b with
   | val τ y=>simp [SpA.ren] at h
   | _=>obtain ⟨ρ',k1,k2,k3⟩:=k8 h ((ah (by intros; simp)).1 hr) hR; exact ⟨ρ',k1,k2,k3⟩
  | clo f c =>
   have h:Ren.addCaps c R=some R':=by cases b <;> exact h
   obtain ⟨ρ',k1,k2,k3⟩:=rU c h hR
   exact ⟨ρ',k1,k2,k3⟩
  | ownd i =>
   cases b with
   | val τ y=>simp [SpA.ren] at h
   | _=>obtain ⟨ρ',k1,k2,k3⟩:=k8 h ((ah (by intros; simp)).1 hr) hR; exact ⟨ρ',k1,k2,k3⟩
  | ownm i =>
   cases b with
   | val τ y=>simp [SpA.ren] at h
   | _=>obtain ⟨ρ',k1,k2,k3⟩:=k8 h ((ah (by intros; simp)).1 hr) hR; exact ⟨ρ',k1,k2,k3⟩
 ·rename_i l r
  obtain ⟨us,h1,h2,h3⟩:=hr
  obtain ⟨ρ',k1,k2,k3⟩:=o8 h h3 hR
  exact ⟨ρ',k1,k2,us,h1,h2,k3⟩
 ·simp only [A1] at h; subst h; exact ⟨ρ,hR,Ext.refl _ _,trivial⟩
 ·simp only [A1] at h; subst h; exact ⟨ρ,hR,Ext.refl _ _,trivial⟩
 ·simp only [A1] at h; subst h; exact ⟨ρ,hR,Ext.refl _ _,trivial⟩
 ·simp only [A1] at h; subst h; exact ⟨ρ,hR,Ext.refl _ _,trivial⟩
 ·simp at h
theorem AW {e:Env} {t:Nat→Value} (ht:∀ i,RelSV m (t i) (e.get i)):∀ {l:List (Nat×SpS)} {R R':Ren} {ρ : Nat→Value},rN e l R=some R'→gj m R ρ →
  ∃ ρ',gj m R' ρ'∧Ext R ρ R' ρ'∧∀ p∈l,SvR m R' ρ' (t p.1) p.2
 | [],R,R',ρ,h,hR=>by simp only [rN,A1] at h; subst h; exact ⟨ρ,hR,Ext.refl _ _,by simp⟩
 | p :: l,R,R',ρ,h,hR=>by
  simp only [rN] at h
  split at h
  ·rename_i R1 h1
   obtain ⟨ρ1,a1,a2,a3⟩:=Im h1 (ht p.1) hR
   obtain ⟨ρ2,b1,b2,b3⟩:=AW ht h a1
   refine ⟨ρ2,b1,a2.trans b2,?_⟩
   intro q hq
   rcases B3.1 hq with rfl | hq
   ·exact a3.ext b2
   ·exact b3 q hq
  ·simp at h
def Kz (m:Mem) (R:Ren) (ρ : Nat→Value) (i:Nat) (sp:List SpA):Prop :=
 ∃ j b,R.get i=some (.own j)∧m.G.get j=some (.box b)∧∀ bl c el,m.ι j=.pointer (some ⟨bl,0,none⟩)→m.w.heap[bl]?=some (.cells c el (0,0))→Rel2 (AtomR m R ρ) c.toList sp
theorem lk (hi:Inv C w0 M m):∀ {l:List (Nat×SpO)} {R R':Ren} {ρ : Nat→Value},iG m.G l R=some R'→gj m R ρ →
  ∃ ρ',gj m R' ρ'∧Ext R ρ R' ρ'∧∀ p∈l,∀ sp,p.2=.box sp→Kz m R' ρ' p.1 sp
 | [],R,R',ρ,h,hR=>by simp only [iG,A1] at h; subst h; exact ⟨ρ,hR,Ext.refl _ _,by simp⟩
 | (i,.arr τ) :: l,R,R',ρ,h,hR=>by
  obtain ⟨ρ',k1,k2,k3⟩:=lk hi (l:=l) h hR
  refine ⟨ρ',k1,k2,?_⟩
  intro p hp sp he
  rcases B3.1 hp with rfl | hp
  ·cases he
  ·exact k3 p hp sp he
 | (i,.deep τ) :: l,R,R',ρ,h,hR=>by
  obtain ⟨ρ',k1,k2,k3⟩:=lk hi (l:=l) h hR
  refine ⟨ρ',k1,k2,?_⟩
  intro p hp sp he
  rcases B3.1 hp with rfl | hp
  ·cases he
  ·exact k3 p hp sp he
 | (i,.map κ v) :: l,R,R',ρ,h,hR=>by
  obtain ⟨ρ',k1,k2,k3⟩:=lk hi (l:=l) h hR
  refine ⟨ρ',k1,k2,?_⟩
  intro p hp sp he
  rcases B3.1 hp with rfl | hp
  ·cases he
  ·exact k3 p hp sp he
 | (i,.box s) :: l,R,R',ρ,h,hR=>by
  simp only [iG] at h
  split at h
  ·rename_i j hj
   split at h
   ·rename_i c hc
    split at h
    ·rename_i R1 h1
     obtain ⟨b,cc,el,q1,q2,q3,q4⟩:=hi.objs j _ hc
     obtain ⟨ρ1,a1,a2,a3⟩:=o8 h1 q4 hR
     obtain ⟨ρ2,b1,b2,b3⟩:=lk hi h a1
     refine ⟨ρ2,b1,a2.trans b2,?_⟩
     intro p hp sp he
     rcases B3.1 hp with rfl | hp
     ·cases he
      refine ⟨j,c,((a2.trans b2) i _ hj).1,hc,fun bl c' el' e1 e2=>?_⟩
      rw [q1] at e1
      simp only [Value.pointer.injEq,A1,Addr.mk.injEq,and_true] at e1
      subst e1
      rw [q2] at e2
      simp only [A1,Go.Obj.cells.injEq] at e2
      obtain ⟨rfl,_⟩:=e2
      exact a3.mono fun _ _=>AtomR.ext b2
     ·exact b3 p hp sp he
    ·simp at h
   ·simp at h
  ·simp at h
end
end Go.Vm

/-
 A state laid into a shape: the leaves.
-/
namespace Go.Vm
section
variable {P:Program} {C:Ctx} {w0:World} {M:Own} {N:Nat} {a:Act} {m:Mem} {s:St}
def FH (G:Heap) (sp:SpA) (b a':Atom):Prop:=match sp with
 | .val τ=>∃ x,a'=.val τ x∧aE G τ b=some x
 | .u=>a'=.u
 | .undef=>a'=.undef∧b=.undef
 | .nils=>a'=.nils∧b=.nils
 | .own i=>a'=.own i
 | .ptr i o=>a'=.ptr i o
 | .clo f c=>a'=.clo f c∧b=.clo f c
 | .ownd i=>a'=.ownd i
 | .ownm i=>a'=.ownm i
def tW (G:Heap):List SpA→List Atom→List Atom→Prop
 | [],_,as=>as=[]
 | x :: l,b :: bs,y :: as=>FH G x b y∧tW G l bs as
 | _,_,_=>False
theorem fY {G:Heap} {sp:SpA} {b:Atom} {r:Ty} {k:Option r.den} {y:(sp.tys r).den} (h:sp.ext G b r k=some y):k=some (sp.inj r y).2∧FH G sp b (sp.inj r y).1:=by
 cases sp with
 | val τ =>
  simp only [SpA.ext] at h
  split at h
  ·rename_i x z hx
   have:=B4 h
   subst this
   exact ⟨rfl,x,rfl,hx⟩
  ·simp at h
 | u=>exact ⟨h,rfl⟩
 | undef =>
  cases b <;> simp only [SpA.ext] at h <;> first | exact ⟨h,rfl,rfl⟩ | simp at h
 | nils =>
  cases b <;> simp only [SpA.ext] at h <;> first | exact ⟨h,rfl,rfl⟩ | simp at h
 | own i=>exact ⟨h,rfl⟩
 | ptr i o=>exact ⟨h,rfl⟩
 | ownd i=>exact ⟨h,rfl⟩
 | ownm i=>exact ⟨h,rfl⟩
 | clo f c =>
  cases b <;> simp only [SpA.ext] at h <;> try (simp at h; done)
  rename_i f' c'
  cases hc:(A8 f f' && decide (c=c')) with
  | false=>rw [hc] at h; simp at h
  | true =>
   rw [hc] at h
   simp only [A4,decide_eq_true_eq] at hc
   have:=A5 hc.1
   subst this
   obtain ⟨_,rfl⟩:=hc
   exact ⟨h,rfl,rfl⟩
theorem pi {G:Heap}:∀ {l:List SpA} {bs:List Atom} {r:Ty} {k:Option r.den} {y:(SpA.tysL l r).den},SpA.extL G l bs r k=some y→k=some (SpA.injL l r y).2∧tW G l bs (SpA.injL l r y).1
 | [],_,_,_,_,h=>⟨h,rfl⟩
 | _ :: _,[],_,_,_,h=>by simp [SpA.extL] at h
 | x :: l,b :: bs,r,k,y,h=>by
  simp only [SpA.extL] at h
  obtain ⟨h1,h2⟩:=fY h
  obtain ⟨h3,h4⟩:=pi h1
  exact ⟨h3,h2,h4⟩
def Bl (G:Heap) (sp:SpS) (b v:SV):Prop:=match sp with
 | .av (.val τ)=>∃ x,v=.av (.val τ x)∧aW G τ b=some x
 | .av .u=>v=.av .u
 | .av x=>∃ b' a',b=.av b'∧v=.av a'∧FH G x b' a'
 | .agg l=>∃ bs as,b=.agg bs∧v=.agg as∧tW G l bs as
 | .sub i=>∃ id ver j,b=.av (.sub id ver j)∧v=.av (.sub i 0 j)
 | .view i=>∃ id o n,b=.av (.view id o n)∧v=.av (.view i o n)
theorem Il {G:Heap} {sp:SpS} {b:SV} {r:Ty} {k:Option r.den} {y:(sp.tys r).den} (h:sp.ext G b r k=some y):k=some (sp.inj r y).2∧Bl G sp b (sp.inj r y).1:=by
 have atom {x:SpA} (hx:∀ τ,x≠.val τ) (hu:x≠.u) {y:((SpS.av x).tys r).den} (h:(SpS.av x).ext G b r k=some y):∃ b',b=.av b'∧x.ext G b' r k=some y:=by
  cases x with
  | val τ=>exact absurd rfl (hx τ)
  | u=>exact absurd rfl hu
  | _ =>
   cases b with
   | av b'=>exact ⟨b',rfl,h⟩
   | agg _=>simp [SpS.ext] at h
   | tup _=>simp [SpS.ext] at h
 cases sp with
 | av x =>
  cases x with
  | val τ =>
   unfold SpS.ext at h
   dsimp only at h
   split at h
   ·rename_i z q hz
    have:=B4 h
    subst this
    exact ⟨rfl,z,rfl,hz⟩
   ·simp at h
  | u =>
   have h:k=some y:=by cases b <;> exact h
   exact ⟨h,rfl⟩
  | undef=>obtain ⟨b',rfl,h⟩:=atom (by simp) (by simp) h; obtain ⟨h1,h2⟩:=fY (sp:=.undef) h; exact ⟨h1,b',_,rfl,rfl,h2⟩
  | nils=>obtain ⟨b',rfl,h⟩:=atom (by simp) (by simp) h; obtain ⟨h1,h2⟩:=fY (sp:=.nils) h; exact ⟨h1,b',_,rfl,rfl,h2⟩
  | own i=>obtain ⟨b',rfl,h⟩:=atom (by simp) (by simp) h; obtain ⟨h1,h2⟩:=fY (sp:=.own i) h; exact ⟨h1,b',_,rfl,rfl,h2⟩
  | ownd i=>obtain ⟨b',rfl,h⟩:=atom (by simp) (by simp) h; obtain ⟨h1,h2⟩:=fY (sp:=.ownd i) h; exact ⟨h1,b',_,rfl,rfl,h2⟩
  | ownm i=>obtain ⟨b',rfl,h⟩:=atom (by simp) (by simp) h; obtain ⟨h1,h2⟩:=fY (sp:=.ownm i) h; exact ⟨h1,b',_,rfl,rfl,h2⟩
  | ptr i o=>obtain ⟨b',rfl,h⟩:=atom (by simp) (by simp) h; obtain ⟨h1,h2⟩:=fY (sp:=.ptr i o) h; exact ⟨h1,b',_,rfl,rfl,h2⟩
  | clo f c=>obtain ⟨b',rfl,h⟩:=atom (by simp) (by simp) h; obtain ⟨h1,h2⟩:=fY (sp:=.clo f c) h; exact ⟨h1,b',_,rfl,rfl,h2⟩
 | agg l =>
  cases b with
  | agg bs=>obtain ⟨h1,h2⟩:=pi (l:=l) h; exact ⟨h1,bs,_,rfl,rfl,h2⟩
  | av _=>simp [SpS.ext] at h
  | tup _=>simp [SpS.ext] at h
 | sub i =>
  cases b with
  | agg _=>simp [SpS.ext] at h
  | tup _=>simp [SpS.ext] at h
  | av b =>
   cases b with
   | sub id ver j =>
    cases k with
    | none=>simp [SpS.ext] at h
    | some z =>
     simp only [SpS.ext,A1] at h
     subst h
     exact ⟨rfl,id,ver,j,rfl,by show SV.av (.sub i 0 ((j:Int).toNat))=_; rw [B8]⟩
   | _=>simp [SpS.ext] at h
 | view i =>
  cases b with
  | agg _=>simp [SpS.ext] at h
  | tup _=>simp [SpS.ext] at h
  | av b =>
   cases b with
   | view id o n =>
    cases k with
    | none=>simp [SpS.ext] at h
    | some z =>
     simp only [SpS.ext,A1] at h
     subst h
     exact ⟨rfl,id,o,n,rfl,by show SV.av (.view i ((o:Int).toNat) ((n:Int).toNat))=_; rw [B8,B8]⟩
   | _=>simp [SpS.ext] at h
theorem BB {G:Heap} {e:Env}:∀ {l:List (Nat×SpS)} {y:(iP l).den},vi G e l=some y→Rel2 (fun p q=>p.1=q.1∧Bl G p.2 (e.get p.1) q.2) l (uU l y)
 | [],_,_=>trivial
 | p :: l,y,h=>by
  simp only [vi] at h
  obtain ⟨h1,h2⟩:=Il h
  exact ⟨⟨rfl,h2⟩,BB h1⟩
def yV (G:Heap) (R:Ren) (i:Nat) (sp:SpO) (o:Obj):Prop:=match sp with
 | .arr τ=>∃ x,o=.arr τ x∧cY G τ (R.get i)=some x
 | .deep τ=>∃ x,o=.deep 0 τ x none∧cm G τ (R.get i)=some x
 | .map k v=>∃ x,o=.map k v x∧fR G k v (R.get i)=some x
 | .box l=>∃ j c as,o=.box as∧R.get i=some (.own j)∧G.get j=some (.box c)∧tW G l c as
theorem G8 {G:Heap} {R:Ren} {i:Nat} {sp:SpO} {r:Ty} {k:Option r.den} {y:(sp.tys r).den} (h:sp.ext G R i r k=some y):k=some (sp.inj r y).2∧yV G R i sp (sp.inj r y).1:=by
 cases sp with
 | arr τ =>
  unfold SpO.ext at h
  dsimp only at h
  split at h
  ·rename_i z q hz
   have:=B4 h
   subst this
   exact ⟨rfl,z,rfl,hz⟩
  ·simp at h
 | deep τ =>
  unfold SpO.ext at h
  dsimp only at h
  split at h
  ·rename_i z q hz
   have:=B4 h
   subst this
   exact ⟨rfl,z,rfl,hz⟩
  ·simp at h
 | map κ v =>
  unfold SpO.ext at h
  dsimp only at h
  split at h
  ·rename_i z q hz
   have:=B4 h
   subst this
   exact ⟨rfl,z,rfl,hz⟩
  ·simp at h
 | box l =>
  unfold SpO.ext at h
  dsimp only at h
  split at h
  ·rename_i j hj
   split at h
   ·rename_i c hc
    obtain ⟨h1,h2⟩:=pi (l:=l) h
    exact ⟨h1,j,c,_,rfl,hj,hc,h2⟩
   ·simp at h
  ·simp at h
theorem yh {G:Heap} {R:Ren}:∀ {l:List (Nat×SpO)} {r:Ty} {k:Option r.den} {y:(nh l r).den},qx G R l r k=some y→k=some (nY l r y).2∧Rel2 (fun p q=>p.1=q.1∧yV G R p.1 p.2 q.2) l (nY l r y).1
 | [],_,_,_,h=>⟨h,trivial⟩
 | p :: l,r,k,y,h=>by
  simp only [qx] at h
  obtain ⟨h1,h2⟩:=G8 h
  obtain ⟨h3,h4⟩:=yh h1
  exact ⟨h3,⟨rfl,h2⟩,h4⟩
theorem Bj {l:List (Nat×SpO)} {G:Heap} {r:Nat→SpO→Obj→Prop} (h:Rel2 (fun p q=>p.1=q.1∧r p.1 p.2 q.2) l G):∀ {i:Nat} {o:Obj},G.get i=some o→∃ sp,(i,sp)∈l∧r i sp o:=by
 induction l generalizing G with
 | nil=>cases G with
  | nil=>intro i o h; simp [Heap.get] at h
  | cons _ _=>exact h.elim
 | cons p l ih=>cases G with
  | nil=>exact h.elim
  | cons q G =>
   obtain ⟨k,v⟩:=q
   obtain ⟨⟨h1,h2⟩,h3⟩:=h
   intro i o hg
   rw [Heap.get_cons] at hg
   split at hg
   ·rename_i e
    simp only [A1] at hg
    subst hg
    subst e
    simp only at h1
    exact ⟨p.2,by simp [← h1],h1 ▸ h2⟩
   ·obtain ⟨sp,a1,a2⟩:=ih h3 hg
    exact ⟨sp,by simp [a1],a2⟩
theorem BG {l:List (Nat×SpO)} {G:Heap} {r:Nat→SpO→Obj→Prop} (h:Rel2 (fun p q=>p.1=q.1∧r p.1 p.2 q.2) l G) (hn:aK (l.map (·.1))=true):∀ {i:Nat} {sp:SpO},(i,sp)∈l→∃ o,G.get i=some o∧r i sp o:=by
 induction l generalizing G with
 | nil=>intro i sp h; simp at h
 | cons p l ih=>cases G with
  | nil=>exact h.elim
  | cons q G =>
   obtain ⟨k,v⟩:=q
   obtain ⟨⟨h1,h2⟩,h3⟩:=h
   simp only [Li] at hn
   obtain ⟨n1,n2⟩:=dE hn
   intro i sp hm
   rcases B3.1 hm with e | hm
   ·subst e
    simp only at h1 h2
    exact ⟨v,by rw [Heap.get_cons,if_pos h1.symm],h2⟩
   ·obtain ⟨o,a1,a2⟩:=ih h3 n2 hm
    refine ⟨o,?_,a2⟩
    rw [Heap.get_cons,if_neg]
    ·exact a1
    ·intro e
     simp only at h1
     rw [← h1] at e
     exact n1 (by rw [e]; exact MO.2 ⟨_,hm,rfl⟩)
theorem F9 {l:List (Nat×SpS)} {e:Env} {r:Nat→SpS→SV→Prop} (h:Rel2 (fun p q=>p.1=q.1∧r p.1 p.2 q.2) l e) (t:Nat):e.get t=.av .u∨∃ sp,(t,sp)∈l∧r t sp (e.get t):=by
 induction l generalizing e with
 | nil=>cases e with
  | nil=>exact .inl rfl
  | cons _ _=>exact h.elim
 | cons p l ih=>cases e with
  | nil=>exact h.elim
  | cons q e =>
   obtain ⟨k,v⟩:=q
   obtain ⟨⟨h1,h2⟩,h3⟩:=h
   rw [Env.get_cons]
   split
   ·rename_i ek
    subst ek
    simp only at h1
    exact .inr ⟨p.2,by simp [← h1],h1 ▸ h2⟩
   ·rcases ih h3 with h | ⟨sp,a1,a2⟩
    ·exact .inl h
    ·exact .inr ⟨sp,by simp [a1],a2⟩
theorem Rel2.mono_mem {α β : Type} {r s : α→β→Prop}:∀ {l:List α} {k:List β},(∀ a b,b∈k→r a b→s a b)→Rel2 r l k→Rel2 s l k
 | [],[],_,_=>trivial
 | [],_ :: _,_,h=>h.elim
 | _ :: _,[],_,h=>h.elim
 | _ :: _,_ :: _,hr,h=>⟨hr _ _ (by simp) h.1,Rel2.mono_mem (fun a b hb=>hr a b (by simp [hb])) h.2⟩
structure Laid (m m':Mem) (R:Ren) (ρ : Nat→Value) (objs:List (Nat×SpO)):Prop where
 w:m'.w=m.w
 F:∀ b,m.F b→m'.F b
 thru:∀ id b,id∉R.ids→Blk m id b→m'.F b
 ren:gj m R ρ
 ι : ∀ i,m'.ι i=match R.get i with | some (.own j)=>m.ι j | _=>ρ i
 has:∀ i sp,(i,sp)∈objs→∃ o,m'.G.get i=some o∧yV m.G R i sp o
theorem l9 {k:Nat} {i:Nat} {l:List (Nat×SpO)} (h:fk k i l=true):∃ sp,(i,sp)∈l∧sp.kind=k:=by
 unfold fk at h
 rw [L9] at h
 obtain ⟨p,hp,hh⟩:=h
 simp only [A4] at hh
 have:=A5 hh.1
 subst this
 exact ⟨p.2,hp,A5 hh.2⟩
variable {m':Mem} {R:Ren} {ρ : Nat→Value} {objs:List (Nat×SpO)}
theorem Laid.arr (h:Laid m m' R ρ objs) {i:Nat} (hw:fk 0 i objs=true):∃ τ x,m'.G.get i=some (.arr τ x)∧cY m.G τ (R.get i)=some x:=by
 obtain ⟨sp,h1,h2⟩:=l9 hw
 obtain ⟨o,h3,h4⟩:=h.has i sp h1
 cases sp with
 | arr τ=>obtain ⟨x,rfl,h5⟩:=h4; exact ⟨τ,x,h3,h5⟩
 | _=>simp [SpO.kind] at h2
theorem Laid.box (h:Laid m m' R ρ objs) {i:Nat} (hw:fk 1 i objs=true):∃ as j c,m'.G.get i=some (.box as)∧R.get i=some (.own j)∧m.G.get j=some (.box c):=by
 obtain ⟨sp,h1,h2⟩:=l9 hw
 obtain ⟨o,h3,h4⟩:=h.has i sp h1
 cases sp with
 | box l=>obtain ⟨j,c,as,rfl,h5,h6,_⟩:=h4; exact ⟨as,j,c,h3,h5,h6⟩
 | _=>simp [SpO.kind] at h2
theorem Laid.deep (h:Laid m m' R ρ objs) {i:Nat} (hw:fk 2 i objs=true):∃ τ x,m'.G.get i=some (.deep 0 τ x none)∧cm m.G τ (R.get i)=some x:=by
 obtain ⟨sp,h1,h2⟩:=l9 hw
 obtain ⟨o,h3,h4⟩:=h.has i sp h1
 cases sp with
 | deep τ=>obtain ⟨x,rfl,h5⟩:=h4; exact ⟨τ,x,h3,h5⟩
 | _=>simp [SpO.kind] at h2
theorem Laid.map (h:Laid m m' R ρ objs) {i:Nat} (hw:fk 3 i objs=true):∃ k v x,m'.G.get i=some (.map k v x)∧fR m.G k v (R.get i)=some x:=by
 obtain ⟨sp,h1,h2⟩:=l9 hw
 obtain ⟨o,h3,h4⟩:=h.has i sp h1
 cases sp with
 | map k v=>obtain ⟨x,rfl,h5⟩:=h4; exact ⟨k,v,x,h3,h5⟩
 | _=>simp [SpO.kind] at h2
theorem Laid.thruIds (h:Laid m m' R ρ objs) {ids:List Nat} (hn:∀ i∈ids,i∉R.ids) {b:Nat} (hb:Thru m ids b):m'.F b:=by
 rcases hb with hb | ⟨id,hid,hb⟩
 ·exact h.F b hb
 ·exact h.thru id b (hn id hid) hb
theorem iS (hi:Inv C w0 M m) (h:Laid m m' R ρ objs) {u:Value} {b a':Atom} {sp:SpA} (hl:FH m.G sp b a') (hr:ae m u b) (hA:AtomR m R ρ u sp) (hw:sp.wf objs=true) (hf:∀ i∈sp.froz b,i∉R.ids):ae m' u a':=by
 cases sp with
 | val τ =>
  obtain ⟨x,rfl,hx⟩:=hl
  refine ⟨(dn hi hx hr).mono fun bl hb=>⟨h.thruIds hf hb,by rw [h.w]⟩,?_⟩
  simpa [SpA.wf] using hw
 | u=>obtain rfl:=hl; trivial
 | undef=>obtain ⟨rfl,rfl⟩:=hl; exact hr
 | nils=>obtain ⟨rfl,rfl⟩:=hl; exact hr
 | own i =>
  obtain rfl:=hl
  obtain ⟨τ,x,h1,h2⟩:=h.arr hw
  obtain ⟨h3,src,h4,h5⟩:=hA
  refine ⟨h3,_,h1,fun _=>?_⟩
  rw [h.ι i,h4]
  rw [h4] at h2
  have hreal:=h.ren i src h4
  cases src with
  | nil =>
   rcases h5 with h5 | ⟨j,h5,_⟩
   ·exact h5
   ·cases h5
  | own j =>
   have hal:gY m j:=by
    simp only [cY] at h2
    split at h2
    ·rename_i σ l hg; exact ⟨_,hg,rfl⟩
    ·simp at h2
   rcases h5 with h5 | ⟨j',h5,h6⟩
   ·rw [h5]; exact hreal hal
   ·cases h5; exact absurd hal h6
  | view j o n =>
   rcases h5 with h5 | ⟨j',h5,_⟩
   ·exact h5
   ·cases h5
  | nild=>simp [cY] at h2
 | ownm i =>
  obtain rfl:=hl
  obtain ⟨k,v,x,h1,h2⟩:=h.map hw
  obtain ⟨h3,j,h4,h5⟩:=hA
  refine ⟨h3,_,h1,?_⟩
  show u=m'.ι i
  rw [h.ι i,h4]
  rw [h4] at h2
  have hal:gY m j:=by
   simp only [fR] at h2
   split at h2
   ·rename_i hg; exact ⟨_,hg,rfl⟩
   ·simp at h2
  rcases h5 with h5 | h5
  ·rw [h5]; exact h.ren i _ h4 hal
  ·exact absurd hal h5
 | ownd i =>
  obtain rfl:=hl
  obtain ⟨τ,x,h1,h2⟩:=h.deep hw
  obtain ⟨h3,src,h4,h5⟩:=hA
  refine ⟨h3,_,h1,?_⟩
  show ∃ us,m'.ι i=.tuple us∧us[0]?=some u
  rw [h.ι i,h4]
  rw [h4] at h2
  have hreal:=h.ren i src h4
  cases src with
  | nild =>
   rcases h5 with h5 | ⟨j,h5,_⟩
   ·exact h5
   ·cases h5
  | own j =>
   have hal:gY m j:=by
    simp only [cm] at h2
    split at h2
    ·rename_i hg; exact ⟨_,hg,rfl⟩
    ·simp at h2
   rcases h5 with h5 | ⟨j',h5,h6⟩
   ·have e : ρ i=m.ι j:=hreal hal
    simp only
    rw [← e]; exact h5
   ·cases h5; exact absurd hal h6
  | nil=>simp [cm] at h2
  | view j o n=>simp [cm] at h2
 | ptr i o =>
  obtain rfl:=hl
  obtain ⟨as,j,c,h1,h2,h3⟩:=h.box hw
  obtain ⟨j',h4,h5,o',h6,h7⟩:=hA
  rw [h2] at h4
  simp only [A1,Src.own.injEq] at h4
  subst h4
  rw [h3] at h6
  simp only [A1] at h6
  subst h6
  refine ⟨h5,_,h1,?_⟩
  rw [h.ι i,h2]
  exact h7
 | clo f c =>
  obtain ⟨rfl,rfl⟩:=hl
  obtain ⟨vs,h1,h2⟩:=hr
  refine ⟨vs,h1,Rel2.mono_mem ?_ h2⟩
  rintro v i hic ⟨o,h3,h4⟩
  have hwi:fk 1 i objs=true:=by
   simp only [SpA.wf,Lg] at hw
   exact hw i hic
  obtain ⟨as,j,c',k1,k2,k3⟩:=h.box hwi
  have hRi:=hA i hic
  rw [k2] at hRi
  simp only [A1,Src.own.injEq] at hRi
  subst hRi
  rw [k3] at h3
  simp only [A1] at h3
  subst h3
  refine ⟨_,k1,?_⟩
  rw [h.ι,k2]
  exact h4
theorem oH (hi:Inv C w0 M m) (h:Laid m m' R ρ objs):∀ {us:List Value} {bs as:List Atom} {l:List SpA},tW m.G l bs as→Rel2 (ae m) us bs→Rel2 (AtomR m R ρ) us l→(l.all fun x=>x.wf objs)=true→(∀ i∈SpA.frozL l bs,i∉R.ids)→Rel2 (ae m') us as
 | [],bs,as,[],hl,_,_,_,_=>by unfold tW at hl; subst hl; trivial
 | [],_,_,_ :: _,_,_,h,_,_=>h.elim
 | _ :: _,_,_,[],_,_,h,_,_=>h.elim
 | _ :: _,[],_,_ :: _,_,h,_,_,_=>h.elim
 | _ :: _,_ :: _,[],_ :: _,h,_,_,_,_=>h.elim
 | u :: us,b :: bs,y :: as,x :: l,hl,hr,hA,hw,hf=>by
  simp only [NP,A4] at hw
  exact ⟨iS hi h hl.1 hr.1 hA.1 hw.1 (fun i hi'=>hf i (by simp [SpA.frozL,hi'])),oH hi h hl.2 hr.2 hA.2 hw.2 (fun i hi'=>hf i (by simp [SpA.frozL,hi']))⟩
theorem CQ (hi:Inv C w0 M m) (h:Laid m m' R ρ objs) {u:Value} {b v:SV} {sp:SpS} (hl:Bl m.G sp b v) (hr:RelSV m u b) (hA:SvR m R ρ u sp) (hw:sp.wf objs=true) (hf:∀ i∈sp.froz m.G b,i∉R.ids) (hk:sp.look m.G R b=true):RelSV m' u v:=by
 have atom {x:SpA} {b' a':Atom} (hv:∀ τ,x≠.val τ) (hl:FH m.G x b' a') (hr:RelSV m u (.av b')) (hA:AtomR m R ρ u x) (hw:x.wf objs=true):RelSV m' u (.av a'):=by
  have hnv:x≠.u→∀ τ y,b'=.val τ y→∃ i,x=.own i∨x=.ownd i∨x=.ownm i∨∃ o,x=.ptr i o:=by
   intro hu τ y e
   subst e
   cases x with
   | val τ=>exact absurd rfl (hv τ)
   | u=>exact absurd rfl hu
   | undef=>obtain ⟨_,h⟩:=hl; cases h
   | nils=>obtain ⟨_,h⟩:=hl; cases h
   | own i=>exact ⟨i,.inl rfl⟩
   | ownd i=>exact ⟨i,.inr (.inl rfl)⟩
   | ownm i=>exact ⟨i,.inr (.inr (.inl rfl))⟩
   | ptr i o=>exact ⟨i,.inr (.inr (.inr ⟨o,rfl⟩))⟩
   | clo f c=>obtain ⟨_,h⟩:=hl; cases h
  refine RelSV.of_atom ?_
  have hfz:∀ b':Atom,∀ i∈x.froz b',i∉R.ids:=by
   intro b' i hi'
   cases x with
   | val τ=>exact absurd rfl (hv τ)
   | _=>simp [SpA.froz] at hi'
  by_cases hval:∃ τ y,b'=.val τ y
  ·obtain ⟨τ,y,rfl⟩:=hval
   cases x with
   | val τ=>exact absurd rfl (hv τ)
   | u=>obtain rfl:=hl; trivial
   | undef=>obtain ⟨_,h⟩:=hl; cases h
   | nils=>obtain ⟨_,h⟩:=hl; cases h
   | clo f c=>obtain ⟨_,h⟩:=hl; cases h
   | own i=>exact iS hi h (b:=.u) hl trivial hA hw (hfz _)
   | ownd i=>exact iS hi h (b:=.u) hl trivial hA hw (hfz _)
   | ownm i=>exact iS hi h (b:=.u) hl trivial hA hw (hfz _)
   | ptr i o=>exact iS hi h (b:=.u) hl trivial hA hw (hfz _)
  ·exact iS hi h hl ((ah (fun τ y e=>hval ⟨τ,y,e⟩)).1 hr) hA hw (hfz _)
 cases sp with
 | av x =>
  cases x with
  | val τ =>
   obtain ⟨x,rfl,hx⟩:=hl
   obtain ⟨cs,h1,h2⟩:=dF hi hx hr
   exact ⟨cs,h1,h2.mono fun bl hb=>⟨h.thruIds hf hb,by rw [h.w]⟩⟩
  | u=>obtain rfl:=hl; trivial
  | undef=>obtain ⟨b',a',rfl,rfl,hl⟩:=hl; exact atom (x:=.undef) (by simp) hl hr hA hw
  | nils=>obtain ⟨b',a',rfl,rfl,hl⟩:=hl; exact atom (x:=.nils) (by simp) hl hr hA hw
  | own i=>obtain ⟨b',a',rfl,rfl,hl⟩:=hl; exact atom (x:=.own i) (by simp) hl hr hA hw
  | ownd i=>obtain ⟨b',a',rfl,rfl,hl⟩:=hl; exact atom (x:=.ownd i) (by simp) hl hr hA hw
  | ownm i=>obtain ⟨b',a',rfl,rfl,hl⟩:=hl; exact atom (x:=.ownm i) (by simp) hl hr hA hw
  | ptr i o=>obtain ⟨b',a',rfl,rfl,hl⟩:=hl; exact atom (x:=.ptr i o) (by simp) hl hr hA hw
  | clo f c=>obtain ⟨b',a',rfl,rfl,hl⟩:=hl; exact atom (x:=.clo f c) (by simp) hl hr hA hw
 | agg l =>
  obtain ⟨bs,as,rfl,rfl,hl⟩:=hl
  obtain ⟨us,h1,h2,h3⟩:=hr
  obtain ⟨us',h1',h2',h3'⟩:=hA
  have:us=us':=by
   rw [h1] at h1'
   simpa using h1'
  subst this
  exact ⟨us,h1,h2,oH hi h hl h3 h3' hw hf⟩
 | sub i =>
  obtain ⟨id,ver,j,rfl,rfl⟩:=hl
  refine RelSV.of_atom ?_
  obtain ⟨h1,o,h2,h3⟩:=(ah (by intros; simp)).1 hr
  simp only [SpS.look,A4] at hk
  obtain ⟨k1,k2⟩:=hk
  have hR:R.get i=some (.own id):=by
   split at k1
   ·rename_i j' hj
    rw [hj,A5 k1]
   ·cases k1
  rw [h2] at k2
  obtain ⟨τ,x,q1,q2⟩:=h.deep (show fk 2 i objs=true from hw)
  rw [hR] at q2
  simp only [cm,h2] at q2
  split at k2
  ·rename_i ver' σ l hg
   cases hg
   have hv:=A5 k2
   subst hv
   obtain ⟨he,hx⟩:=au q2
   simp only [Ty.slice.injEq] at he
   subst he
   subst hx
   obtain ⟨_,h3⟩:=h3
   obtain ⟨r1,_,us,r2,r3⟩:=h3 rfl
   refine ⟨h1,_,q1,A7 _,fun _=>⟨r1,rfl,us,?_,r3⟩⟩
   rw [h.ι i,hR]
   exact r2
  ·cases k2
 | view i =>
  obtain ⟨id,off,n,rfl,rfl⟩:=hl
  refine RelSV.of_atom ?_
  obtain ⟨h1,o,h2,h3⟩:=(ah (by intros; simp)).1 hr
  simp only [SpS.look] at hk
  have hR:R.get i=some (.own id):=by
   split at hk
   ·rename_i j' hj
    rw [hj,A5 hk]
   ·cases hk
  obtain ⟨τ,x,q1,q2⟩:=h.arr (show fk 0 i objs=true from hw)
  rw [hR] at q2
  simp only [cY,h2] at q2
  cases o with
  | arr σ l =>
   simp only at q2
   obtain ⟨he,hx⟩:=au q2
   cases he
   subst hx
   obtain ⟨r1,r2⟩:=h3
   refine ⟨h1,_,q1,r1,?_⟩
   rw [h.ι i,hR]
   exact r2
  | _=>simp at q2
end
end Go.Vm

/-
 A state laid into a shape: the whole.
-/
namespace Go.Vm
section
variable {P:Program} {C:Ctx} {w0:World} {M:Own} {N:Nat} {a:Act} {m:Mem} {s:St}
theorem FJ {G:Heap} {e:Env} {l:List (Nat×SpS)} {p:Nat×SpS} (hp:p∈l):∀ i∈p.2.froz G (e.get p.1),i∈lT G e l:=by
 induction l with
 | nil=>cases hp
 | cons q l ih =>
  intro i hi
  simp only [lT,B1]
  rcases B3.1 hp with rfl | hp
  ·exact .inl hi
  ·exact .inr (ih hp i hi)
theorem CJ {G:Heap} {R:Ren} {l:List (Nat×SpO)} {i j:Nat} {sl:List SpA} {c:List Atom} (hp:(i,SpO.box sl)∈l) (hj:R.get i=some (.own j)) (hc:G.get j=some (.box c)):∀ k∈SpA.frozL sl c,k∈er G R l:=by
 induction l with
 | nil=>cases hp
 | cons q l ih =>
  intro k hk
  rcases B3.1 hp with rfl | hp'
  ·simp only [er,hj,hc,B1]
   exact .inl hk
  ·obtain ⟨i',sp⟩:=q
   cases sp with
   | arr τ=>exact ih hp' k hk
   | deep τ=>exact ih hp' k hk
   | map _ _=>exact ih hp' k hk
   | box s=>simp only [er,B1]; exact .inr (ih hp' k hk)
theorem Heap.key_of_get {G:Heap}:∀ {i:Nat} {o:Obj},G.get i=some o→i∈G.map (·.1):=by
 induction G with
 | nil=>intro i o h; simp [Heap.get] at h
 | cons p r ih =>
  intro i o h
  obtain ⟨k,v⟩:=p
  rw [Heap.get_cons] at h
  split at h
  ·rename_i e; simp [e]
  ·simp only [Li,B3]; exact .inr (ih h)
theorem Ren.mem_of_get {R:Ren}:∀ {i:Nat} {src:Src},R.get i=some src→(i,src)∈R:=by
 induction R with
 | nil=>intro i src h; simp [Ren.get] at h
 | cons p r ih =>
  intro i src h
  obtain ⟨k,v⟩:=p
  rw [Ren.get_cons] at h
  split at h
  ·rename_i e; simp only [A1] at h; subst h; subst e; simp
  ·simp [ih h]
theorem mM {R:Ren} {i j:Nat} {src:Src} (h:R.get i=some src) (hj:j∈src.ids):j∈R.ids:=by
 unfold Ren.ids
 rw [MT]
 exact ⟨_,Ren.mem_of_get h,hj⟩
theorem GY {R:Ren} (hn:aK R.ids=true):∀ {i i' j:Nat} {src src':Src},R.get i=some src→R.get i'=some src'→j∈src.ids→j∈src'.ids→i=i':=by
 induction R with
 | nil=>intro i i' j src src' h; simp [Ren.get] at h
 | cons p r ih =>
  intro i i' j src src' h h' hj hj'
  obtain ⟨k,v⟩:=p
  have hn':aK (Ren.ids r)=true∧∀ x∈v.ids,x∉Ren.ids r:=by
   have e:Ren.ids ((k,v) :: r)=v.ids++Ren.ids r:=rfl
   rw [e] at hn
   cases v with
   | nil=>exact ⟨hn,by simp [Src.ids]⟩
   | nild=>exact ⟨hn,by simp [Src.ids]⟩
   | own q=>obtain ⟨n1,n2⟩:=dE hn; exact ⟨n2,by intro x hx; simp [Src.ids] at hx; subst hx; exact n1⟩
   | view q _ _=>obtain ⟨n1,n2⟩:=dE hn; exact ⟨n2,by intro x hx; simp [Src.ids] at hx; subst hx; exact n1⟩
  rw [Ren.get_cons] at h h'
  split at h <;> split at h'
  ·omega
  ·simp only [A1] at h
   subst h
   exact absurd (mM h' hj') (hn'.2 j hj)
  ·simp only [A1] at h'
   subst h'
   exact absurd (mM h hj) (hn'.2 j hj')
  ·exact ih hn'.1 h h' hj hj'
theorem qg (hs:Sim C w0 M N a m s.env) (hG:m.G=s.G) {sh:Shape} {x:sh.ty.den} (hp:∀ i v,M.pin i=some v→i∈sh.pins) (h:sh.ext s=some x):∃ m',m'.w=m.w∧m'.G=(sh.inj x).G∧Sim C w0 M N a m' (sh.inj x).env:=by
 unfold Shape.ext at h
 split at h
 ·simp at h
 ·rename_i R0 hR0
  split at h
  ·simp at h
  ·rename_i R hR
   cases hc:(sh.wf && pinned R sh.pins && aK R.ids && !(R.ids.any fun i=>((lT s.G s.env sh.env)++(er s.G R sh.objs)).any fun j=>A8 i j) && (sh.objs.all fun p=>(R.get p.1).isSome) && (sh.env.all fun p=>p.2.look s.G R (s.env.get p.1))) with
   | false=>rw [hc] at h; simp at h
   | true =>
    rw [hc] at h
    simp only [cond_true] at h
    simp only [A4,Lz] at hc
    obtain ⟨⟨⟨⟨⟨hwf,hpin⟩,hnd⟩,hfz⟩,hall⟩,hlk⟩:=hc
    simp only [Shape.wf,A4] at hwf
    obtain ⟨⟨⟨wf0,wf1⟩,wf2⟩,wf3⟩:=hwf
    have hfz':∀ i,i∈lT s.G s.env sh.env++er s.G R sh.objs→i∉R.ids:=by
     intro i hi hi'
     rw [L4] at hfz
     have:=hfz i hi'
     exact this (gI.2 hi)
    obtain ⟨ρ0,b1,b2,b3⟩:=AW (m:=m) (e:=s.env) (t:=fun i=>a.tmps.getD i undef) hs.env (R:=[]) (ρ:=fun _=>undef) hR0 (by intro i src hi; simp [Ren.get] at hi)
    rw [← hG] at hR
    obtain ⟨ρ,c1,c2,c3⟩:=lk hs.inv hR b1
    obtain ⟨k,hk⟩ : ∃ k,k=(nY sh.objs (iP sh.env) x):=⟨_,rfl⟩
    obtain ⟨e1,e2⟩:=yh h
    have e3:=BB e1
    rw [← hk] at e1 e2 e3
    rw [← hG] at e1 e2 e3
    -- what is not kept is given up
    obtain ⟨others,hoth⟩ : ∃ others,others=(m.G.map (·.1)).filter fun i=>!(R.ids.any fun j=>A8 i j):=⟨_,rfl⟩
    obtain ⟨m1,d1,d2,d3,d4,d5,d6⟩:=cS others hs.inv
    have hother:∀ i,gY m i→i∉R.ids→i∈others:=by
     rintro i ⟨o,ho,_⟩ hi
     rw [hoth,Mp]
     refine ⟨Heap.key_of_get ho,?_⟩
     simp only [Lz]
     cases hb:(R.ids.any fun j=>A8 i j) with
     | false=>rfl
     | true=>exact absurd (gI.1 hb) hi
    have hnot:∀ i∈R.ids,i∉others:=by
     intro i hi hi'
     rw [hoth,Mp] at hi'
     have:=hi'.2
     rw [gI.2 hi] at this
     simp at this
    let m':Mem:=⟨m.w,m1.F,fun i=>match R.get i with | some (.own j)=>m.ι j | _=>ρ i,k.1⟩
    have hL:Laid m m' R ρ sh.objs:=by
     refine ⟨rfl,fun b hb=>d6 b (.inl hb),fun id b hid hb=>d6 b (.inr ⟨id,hother id ?_ hid,hb⟩),c1,fun i=>rfl,fun i sp hm=>?_⟩
     ·obtain ⟨o,h1,h2,_⟩:=hb; exact ⟨o,h1,h2⟩
     ·exact BG (r:=fun i sp o=>yV m.G R i sp o) e2 wf3 hm
    -- where an object's block comes from
    have hsrc:∀ i o,k.1.get i=some o→isObj o=true→∀ b,HB (m'.ι i) b→∃ src j o',R.get i=some src∧j∈src.ids∧m.G.get j=some o'∧isObj o'=true∧HB (m.ι j) b:=by
     intro i o ho hob b hb
     obtain ⟨sp,hm,hobj⟩:=Bj (r:=fun i sp o=>yV m.G R i sp o) e2 ho
     cases sp with
     | box l =>
      obtain ⟨j,c,as,rfl,h1,h2,_⟩:=hobj
      have e:m'.ι i=m.ι j:=by show (match R.get i with | some (.own j)=>m.ι j | _=>ρ i)=_; rw [h1]
      exact ⟨_,j,_,h1,by simp [Src.ids],h2,rfl,by rw [← e]; exact hb⟩
     | map κ v =>
      obtain ⟨y,rfl,h1⟩:=hobj
      cases hsr:R.get i with
      | none=>rw [hsr] at h1; simp [fR] at h1
      | some src =>
       rw [hsr] at h1
       cases src with
       | own j =>
        have e:m'.ι i=m.ι j:=by show (match R.get i with | some (.own j)=>m.ι j | _=>ρ i)=_; rw [hsr]
        simp only [fR] at h1
        split at h1
        ·rename_i hg
         exact ⟨_,j,_,rfl,by simp [Src.ids],hg,rfl,by rw [← e]; exact hb⟩
        ·simp at h1
       | _=>simp [fR] at h1
     | deep τ =>
      obtain ⟨y,rfl,h1⟩:=hobj
      cases hsr:R.get i with
      | none=>rw [hsr] at h1; simp [cm] at h1
      | some src =>
       rw [hsr] at h1
       have hreal:=c1 i src hsr
       cases src with
       | nild =>
        have e:m'.ι i=ρ i:=by show (match R.get i with | some (.own j)=>m.ι j | _=>ρ i)=_; rw [hsr]
        obtain ⟨ad,hr⟩:=hreal
        rw [e,hr] at hb
        obtain ⟨u,hu,hb⟩:=hb
        simp at hu
        subst hu
        cases ad <;> simp [HB1] at hb
       | own j =>
        have e:m'.ι i=m.ι j:=by show (match R.get i with | some (.own j)=>m.ι j | _=>ρ i)=_; rw [hsr]
        simp only [cm] at h1
        split at h1
        ·rename_i hg
         exact ⟨_,j,_,rfl,by simp [Src.ids],hg,rfl,by rw [← e]; exact hb⟩
        ·simp at h1
       | nil=>simp [cm] at h1
       | view _ _ _=>simp [cm] at h1
     | arr τ =>
      obtain ⟨y,rfl,h1⟩:=hobj
      cases hsr:R.get i with
      | none=>rw [hsr] at h1; simp [cY] at h1
      | some src =>
       rw [hsr] at h1
       have hreal:=c1 i src hsr
       cases src with
       | nil =>
        have e:m'.ι i=ρ i:=by show (match R.get i with | some (.own j)=>m.ι j | _=>ρ i)=_; rw [hsr]
        obtain ⟨ad,hr⟩:=hreal
        rw [e,hr] at hb
        cases ad <;> simp [HB,HB1] at hb
       | own j =>
        have e:m'.ι i=m.ι j:=by show (match R.get i with | some (.own j)=>m.ι j | _=>ρ i)=_; rw [hsr]
        simp only [cY] at h1
        split at h1
        ·rename_i σ l hg
         exact ⟨_,j,_,rfl,by simp [Src.ids],hg,rfl,by rw [← e]; exact hb⟩
        ·simp at h1
       | view j o n =>
        have e:m'.ι i=ρ i:=by show (match R.get i with | some (.own j)=>m.ι j | _=>ρ i)=_; rw [hsr]
        have hbase:gA ⟨[],m.G⟩ τ (.av (.view j o n))=some (y,[j]):=by
         simp only [cY] at h1
         split at h1
         ·rename_i σ l hg
          obtain ⟨he,hx⟩:=au h1
          cases he
          subst hx
          simp [gA,hg,bG]
         ·simp at h1
        obtain ⟨_,h3⟩:=kD (s:=⟨[],m.G⟩) hs.inv rfl hbase (show RelSV m (ρ i) (.av (.view j o n)) from hreal)
        rcases h3 with ⟨h3,_⟩ | ⟨id,o',h3,h4,h5,h6⟩
        ·cases h3
        ·simp only [Mx,and_true] at h3
         subst h3
         rw [e] at hb
         refine ⟨_,j,o',rfl,by simp [Src.ids],h4,h5,?_⟩
         rcases h6 with h6 | ⟨ad,n',h6⟩
         ·exact h6 b hb
         ·rw [h6] at hb; cases ad <;> simp [HB,HB1] at hb
       | nild=>simp [cY] at h1
    have hF:∀ b,m.F b→m'.F b∧m'.w.heap[b]?=m.w.heap[b]?:=fun b hb=>⟨hL.F b hb,rfl⟩
    have hinv:Inv C w0 M m':=by
     refine ⟨hs.inv.kept,?_,?_,?_,?_,fun g τ x hg=>(hs.inv.glob g τ x hg).mono hF,d4.bnd,fun i v hv=>?_⟩
     ·intro i o ho
      obtain ⟨sp,hm,hobj⟩:=Bj (r:=fun i sp o=>yV m.G R i sp o) e2 ho
      cases sp with
      | box l =>
       obtain ⟨j,c,as,rfl,h1,h2,h3⟩:=hobj
       obtain ⟨bl,cc,el,q1,q2,q3,q4⟩:=hs.inv.objs j _ h2
       obtain ⟨j',b',r1,r2,r3⟩:=c3 _ hm l rfl
       simp only at r1
       rw [h1] at r1
       simp only [A1,Src.own.injEq] at r1
       subst r1
       have hwl:(l.all fun y=>y.wf sh.objs)=true:=by
        rw [Lg] at wf2
        exact wf2 _ hm
       have e:m'.ι i=m.ι j:=by show (match R.get i with | some (.own j)=>m.ι j | _=>ρ i)=_; rw [h1]
       refine ⟨bl,cc,el,by rw [e,q1],q2,q3,oH hs.inv hL h3 q4 (r3 bl cc el q1 q2) hwl (fun z hz=>hfz' z ?_)⟩
       rw [B1]
       rw [← hG]
       exact .inr (CJ hm h1 h2 z hz)
      | map κ v =>
       obtain ⟨y,rfl,h1⟩:=hobj
       cases hsr:R.get i with
       | none=>rw [hsr] at h1; simp [fR] at h1
       | some src =>
        rw [hsr] at h1
        cases src with
        | own j =>
         have e:m'.ι i=m.ι j:=by show (match R.get i with | some (.own j)=>m.ι j | _=>ρ i)=_; rw [hsr]
         simp only [fR] at h1
         split at h1
         ·rename_i k' v' l hg
          obtain ⟨e1,e2,hx⟩:=ka h1
          subst e1; subst e2
          simp only at hx
          subst hx
          rcases hs.inv.objs j _ hg with ⟨d0,b,es,clock,d1,d2,d3⟩ | ⟨d0,b,x,pos,d1,d2,d3⟩
          ·exact .inl ⟨d0,b,es,clock,by rw [e,d1],d2,d3.mono hF⟩
          ·exact .inr ⟨d0,b,x,pos,by rw [e,d1],d2,d3⟩
         ·simp at h1
        | _=>simp [fR] at h1
      | deep τ =>
       obtain ⟨y,rfl,h1⟩:=hobj
       cases hsr:R.get i with
       | none=>rw [hsr] at h1; simp [cm] at h1
       | some src =>
        rw [hsr] at h1
        have hreal:=c1 i src hsr
        cases src with
        | nild =>
         have e:m'.ι i=ρ i:=by show (match R.get i with | some (.own j)=>m.ι j | _=>ρ i)=_; rw [hsr]
         obtain ⟨ad,hr⟩:=hreal
         simp only [cm,A1] at h1
         subst h1
         exact ⟨.slice ad 0 0,[],by rw [e,hr],rfl,⟨ad,0,rfl,by simp,by unfold maxLen; omega,fun h=>absurd rfl h⟩,by intro k hk; simp at hk,(by intro k v hk; cases hk),LP _ _⟩
        | own j =>
         have e:m'.ι i=m.ι j:=by show (match R.get i with | some (.own j)=>m.ι j | _=>ρ i)=_; rw [hsr]
         simp only [cm] at h1
         split at h1
         ·rename_i ver σ l hg
          obtain ⟨he,hx⟩:=au h1
          simp only [Ty.slice.injEq] at he
          subst he
          subst hx
          obtain ⟨u,hs',d1,d2⟩:=cg hs.inv hg
          exact ⟨u,hs',by rw [e,d1],d2.mono hF (fun _ _ _ _=>rfl)⟩
         ·simp at h1
        | nil=>simp [cm] at h1
        | view _ _ _=>simp [cm] at h1
      | arr τ =>
       obtain ⟨y,rfl,h1⟩:=hobj
       cases hsr:R.get i with
       | none=>rw [hsr] at h1; simp [cY] at h1
       | some src =>
        rw [hsr] at h1
        have hreal:=c1 i src hsr
        cases src with
        | nil =>
         have e:m'.ι i=ρ i:=by show (match R.get i with | some (.own j)=>m.ι j | _=>ρ i)=_; rw [hsr]
         obtain ⟨ad,hr⟩:=hreal
         simp only [cY,A1] at h1
         subst h1
         exact ⟨ad,0,by rw [e,hr]; rfl,by simp,by unfold maxLen; omega,fun h=>absurd rfl h⟩
        | own j =>
         have e:m'.ι i=m.ι j:=by show (match R.get i with | some (.own j)=>m.ι j | _=>ρ i)=_; rw [hsr]
         simp only [cY] at h1
         split at h1
         ·rename_i σ l hg
          obtain ⟨he,hx⟩:=au h1
          cases he
          subst hx
          obtain ⟨ad,cap,q1,q2,q3,q4⟩:=hs.inv.objs j _ hg
          refine ⟨ad,cap,by rw [e,q1],q2,q3,fun hc=>?_⟩
          obtain ⟨b,off,c,el,fz,p1,p2,p3,p4,p5⟩:=q4 hc
          exact ⟨b,off,c,el,fz,p1,p2,p3,p4,fun z hz=>(p5 z hz).mono hF⟩
         ·simp at h1
        | view j o n =>
         have e:m'.ι i=ρ i:=by show (match R.get i with | some (.own j)=>m.ι j | _=>ρ i)=_; rw [hsr]
         have hbase:gA ⟨[],m.G⟩ τ (.av (.view j o n))=some (y,[j]):=by
          simp only [cY] at h1
          split at h1
          ·rename_i σ l hg
           obtain ⟨he,hx⟩:=au h1
           cases he
           subst hx
           simp [gA,hg,bG]
          ·simp at h1
         obtain ⟨⟨ad,cap,q1,q2,q3,q4⟩,_⟩:=kD (s:=⟨[],m.G⟩) hs.inv rfl hbase (show RelSV m (ρ i) (.av (.view j o n)) from hreal)
         refine ⟨ad,cap,by rw [e,q1],q2,q3,fun hc=>?_⟩
         obtain ⟨b,off,c,el,fz,p1,p2,p3,p4,p5⟩:=q4 hc
         exact ⟨b,off,c,el,fz,p1,p2,p3,p4,fun z hz=>(p5 z hz).mono hF⟩
        | nild=>simp [cY] at h1
     ·intro i o b ho hob hb
      obtain ⟨src,j,o',h1,h2,h3,h4,h5⟩:=hsrc i o ho hob b hb
      obtain ⟨k1,k2,k3⟩:=hs.inv.own j o' b h3 h4 h5
      have hj:=hnot j (mM h1 h2)
      have:=d4.own j o' b (by rw [d3,bu others _ j hj]; exact h3) h4 (by rw [d2]; exact h5)
      exact ⟨k1,this.2.1,k3⟩
     ·intro i i' p q b hp hop hq hoq h1 h2
      obtain ⟨src,j,o1,r1,r2,r3,r4,r5⟩:=hsrc i p hp hop b h1
      obtain ⟨src',j',o2,s1,s2,s3,s4,s5⟩:=hsrc i' q hq hoq b h2
      have:=hs.inv.inj j j' o1 o2 b r3 r4 s3 s4 r5 s5
      subst this
      exact GY hnd r1 s1 r2 s2
     ·intro b hb
      have:=d4.fro b hb
      rw [d1] at this
      exact this
     ·have hip:=hp i v hv
      rw [Lg] at wf0
      have hobj:∃ o,k.1.get i=some o∧isDeep o=false∧∀ j o2,R.get i=some (.own j)→m.G.get j=some o2→isObj o2=true:=by
       have h0:=wf0 i hip
       simp only [Bool.or_eq_true] at h0
       rcases h0 with h0 | h0
       ·obtain ⟨τ,y,k1,h4⟩:=hL.arr h0
        refine ⟨_,k1,rfl,fun j o2 hj h1=>?_⟩
        rw [hj] at h4
        simp only [cY] at h4
        rw [h1] at h4
        cases o2 <;> first | rfl | simp at h4
       ·unfold fk at h0
        rw [L9] at h0
        obtain ⟨⟨i',sp⟩,hm,hq⟩:=h0
        simp only [A4] at hq
        have:=A5 hq.1
        subst this
        cases sp with
        | box l =>
         obtain ⟨o,k1,h4⟩:=BG (r:=fun i sp o=>yV m.G R i sp o) e2 wf3 hm
         obtain ⟨j,c,as,rfl,h5,h6,_⟩:=h4
         refine ⟨_,k1,rfl,fun j' o2 hj h1=>?_⟩
         rw [h5] at hj
         simp only [A1,Src.own.injEq] at hj
         subst hj
         rw [h6] at h1
         cases h1
         rfl
        | arr _=>simp [SpO.kind] at hq
        | deep _=>simp [SpO.kind] at hq
        | map _ _=>simp [SpO.kind] at hq
      obtain ⟨o9,k1,k2,k3⟩:=hobj
      refine ⟨o9,k1,fun _=>?_⟩
      unfold pinned at hpin
      rw [Lg] at hpin
      have hq:=hpin i hip
      split at hq
      ·rename_i j hj
       have:=A5 hq
       subst this
       have e:m'.ι i=m.ι i:=by show (match R.get i with | some (.own j)=>m.ι j | _=>ρ i)=_; rw [hj]
       rw [e]
       obtain ⟨o,h1,h2⟩:=hs.inv.pin i v hv
       exact ⟨(h2 (k3 i o hj h1)).1,k2⟩
      ·simp at hq
    refine ⟨m',rfl,by show k.1=_; rw [hk]; rfl,hinv,hs.defers,hs.size,fun t=>?_⟩
    have henv:(sh.inj x).env=uU sh.env k.2:=by rw [hk]; rfl
    rw [henv]
    rcases F9 (r:=fun i sp v=>Bl m.G sp (s.env.get i) v) e3 t with h0 | ⟨sp,hm,hl⟩
    ·rw [h0]; trivial
    ·have hwl:sp.wf sh.objs=true:=by
      rw [Lg] at wf1
      exact wf1 _ hm
     refine CQ hs.inv hL hl (hs.env t) ((b3 _ hm).ext c2) hwl (fun z hz=>hfz' z ?_) ?_
     ·rw [B1]
      rw [← hG]
      exact .inl (FJ hm z hz)
     ·rw [Lg] at hlk
      rw [hG]
      exact hlk _ hm
end
end Go.Vm

/-
 A body of code.
-/
namespace Go.Vm
def cw:Code→List Code
 | .seq a b=>cw a++cw b
 | .cond _ a b=>cw a++cw b
 | .block _ c=>cw c
 | .loop c=>c :: cw c
 | _=>[]
def jb (N:Nat) (ops:List Oper):Bool:=ops.all fun o=>match o.dst with | some d=>Nat.blt d N | none=>true
def ko (N:Nat):Code→Bool
 | .region _ ops _=>jb N ops.toList
 | .seq a b=>ko N a && ko N b
 | .cond _ a b=>ko N a && ko N b
 | .block _ c=>ko N c
 | .loop c=>ko N c
 | _=>true
def qo (C:Ctx) (A:Anns) (l:List Code):Prop:=∀ c∈l,∀ ann,A.get (fU c)=some ann→∀ x y,ann.fn x=some y→Rounds (round C A ann c) x y
def Eu:Ex→Exit
 | .normal=>.normal
 | .exit i=>.exit i
 | .ret=>.ret
def zu (P:Program):Prop:=∀ (C:Ctx) (w0:World) (M:Own) (N:Nat) (a:Act) (m:Mem) (s:St) (R:Type) (res:R) (K:St→Option R) (id:Nat) (lt:Bool) (ops:Array Oper) (Q:Exit→Act→World→Prop),
 CtxOK P C→Sim C w0 M N a m s.env→m.G=s.G→jb N ops.toList=true→qf C lt ops.toList s K=some res →
 (∀ s' a' m',K s'=some res→m'.G=s'.G→Sim C w0 M N a' m' s'.env→Q .normal a' m'.w)→(Code.region id ops true).wp P Q a m.w
section
variable {P:Program} {C:Ctx} {w0:World} {M:Own} {N:Nat} {A:Anns}
theorem GE {e e':Ex} (h:Ex.same e e'=true):e=e':=by
 unfold Ex.same at h
 split at h
 ·rfl
 ·rw [A5 h]
 ·rfl
 ·simp at h
theorem iK:∀ {l:List (Ex×Shape)} {e:Ex} {s:St} {y:kK l},jf l e s=some y→∃ (sh:Shape) (z:sh.ty.den),(∃ e',(e',sh)∈l)∧sh.ext s=some z∧∀ {R:Type} (K:Ex→St→Option R),lQ K l y=K e (sh.inj z)
 | [],_,_,_,h=>by simp [jf] at h
 | p :: l,e,s,y,h=>by
  simp only [jf] at h
  cases hs:Ex.same p.1 e with
  | true =>
   rw [hs] at h
   simp only [cond_true] at h
   obtain ⟨z,hz,h⟩:=B6.1 h
   simp only [A1] at h
   subst h
   exact ⟨p.2,z,⟨p.1,by simp⟩,hz,fun K=>by simp [lQ,GE hs]⟩
  | false =>
   rw [hs] at h
   simp only [cond_false] at h
   obtain ⟨z,hz,h⟩:=B6.1 h
   simp only [A1] at h
   subst h
   obtain ⟨sh,z',⟨e',h0⟩,h1,h2⟩:=iK hz
   exact ⟨sh,z',⟨e',by simp [h0]⟩,h1,fun K=>by simp only [lQ,Sum.elim_inr]; exact h2 K⟩
theorem jL {ops:Array Oper} (h:jb N ops.toList=true):∀ o∈ops.toList,∀ d,o.dst=some d→d < N:=by
 intro o ho d hd
 unfold jb at h
 rw [Lg] at h
 have:=h o ho
 rw [hd] at this
 exact Nat.le_of_ble_eq_true this
def HO (M:Own) (A:Anns):Prop:=∀ key ann,A.get key=some ann→(∀ i v,M.pin i=some v→i∈ann.head.pins)∧∀ e sh,(e,sh)∈ann.exits→∀ i v,M.pin i=some v→i∈sh.pins
theorem GM (hC:CtxOK P C) (hD:zu P) (hPin:HO M A):∀ (c:Code),qo C A (cw c)→ko N c=true→∀ {R:Type} {res:R} {K:Ex→St→Option R} {Q:Exit→Act→World→Prop} {s:St} {a:Act} {m:Mem},
  Sim C w0 M N a m s.env→m.G=s.G→dd C (qj A) c K s=some res →
  (∀ e s' a' m',K e s'=some res→m'.G=s'.G→Sim C w0 M N a' m' s'.env→Q (Eu e) a' m'.w)→c.wp P Q a m.w:=by
 intro c
 induction c with
 | skip=>intro _ _ R res K Q s a m hs hG h hQ; exact wp_skip (hQ .normal s a m h hG hs)
 | region id ops d =>
  intro _ hd R res K Q s a m hs hG h hQ
  simp only [dd] at h
  cases d with
  | false=>exact Cp hC (hQ .normal) (jL hd) h hG hs
  | true =>
   simp only [cond_true] at h
   have hf:∃ m',m'.w=m.w∧m'.G=(ve C id s).G∧Sim C w0 M N a m' (ve C id s).env:=by
    unfold ve
    cases C.frz.any fun i=>A8 i id with
    | false=>exact ⟨m,rfl,hG,hs⟩
    | true=>exact rj _ hs hG
   obtain ⟨m',e1,e2,e3⟩:=hf
   rw [← e1]
   exact hD C w0 M N a m' _ R res _ id _ ops Q hC e3 e2 hd h (hQ .normal)
 | seq x y ihx ihy =>
  intro hL hd R res K Q s a m hs hG h hQ
  simp only [ko,A4] at hd
  simp only [dd] at h
  refine wp_seq (ihx (fun c hc=>hL c (by simp [cw,hc])) hd.1 hs hG h ?_)
  intro e s' a' m' h1 h2 h3
  cases e with
  | normal=>exact ihy (fun c hc=>hL c (by simp [cw,hc])) hd.2 h3 h2 h1 hQ
  | exit i=>exact hQ (.exit i) s' a' m' h1 h2 h3
  | ret=>exact hQ .ret s' a' m' h1 h2 h3
 | cond x y z ihy ihz =>
  intro hL hd R res K Q s a m hs hG h hQ
  simp only [ko,A4] at hd
  simp only [dd] at h
  split at h
  ·rename_i b hb
   have hv:=rJ hs.inv hs.env x
   rw [hb] at hv
   refine wp_cond (rel_bool hv) ?_
   cases b with
   | true=>exact ihy (fun c hc=>hL c (by simp [cw,hc])) hd.1 hs hG h hQ
   | false=>exact ihz (fun c hc=>hL c (by simp [cw,hc])) hd.2 hs hG h hQ
  ·simp at h
 | block id x ih =>
  intro hL hd R res K Q s a m hs hG h hQ
  simp only [dd] at h
  refine wp_block (ih hL hd hs hG h ?_)
  intro e s' a' m' h1 h2 h3
  cases e with
  | normal=>exact hQ .normal s' a' m' h1 h2 h3
  | exit i =>
   simp only [Eu,Exit.inBlock]
   dsimp only at h1
   cases hi:A8 i id with
   | true =>
    rw [hi] at h1
    rw [if_pos (A5 hi)]
    exact hQ .normal s' a' m' h1 h2 h3
   | false =>
    rw [hi] at h1
    rw [if_neg (M8 hi)]
    exact hQ (.exit i) s' a' m' h1 h2 h3
  | ret=>exact hQ .ret s' a' m' h1 h2 h3
 | loop x ih =>
  intro hL hd R res K Q s a m hs hG h hQ
  simp only [dd,qj] at h
  split at h
  ·simp at h
  ·rename_i ann hann
   split at h
   ·simp at h
   ·rename_i x0 hx0
    obtain ⟨y,hy,h⟩:=B6.1 h
    have hr:=hL x (by simp [cw]) ann hann x0 y hy
    obtain ⟨pin1,pin2⟩:=hPin _ ann hann
    obtain ⟨m1,e1,e2,e3⟩:=qg hs hG pin1 hx0
    rw [← e1]
    have key:∀ {x0 y},Rounds (round C A ann x) x0 y→lQ K ann.exits y=some res→∃ n,∀ (a:Act) (m:Mem),m.G=(ann.head.inj x0).G→Sim C w0 M N a m (ann.head.inj x0).env→Code.rounds P x Q n a m.w:=by
     intro x0 y hr
     induction hr with
     | last h1 =>
      intro hg
      refine ⟨1,fun a m hG hs=>?_⟩
      show x.wp P (Exit.then (Code.rounds P x Q 0) Q) a m.w
      refine ih (fun c hc=>hL c (by simp [cw,hc])) hd hs hG h1 ?_
      intro e s' a' m' k1 k2 k3
      cases e with
      | normal=>obtain ⟨z,_,k1⟩:=B6.1 k1; simp at k1
      | exit i =>
       obtain ⟨z,hz,k1⟩:=B6.1 k1
       simp only [A1,OP] at k1
       subst k1
       obtain ⟨sh,z',⟨e',f0⟩,f1,f2⟩:=iK hz
       rw [f2] at hg
       obtain ⟨m2,g1,g2,g3⟩:=qg k3 k2 (pin2 e' sh f0) f1
       rw [← g1]
       exact hQ (.exit i) _ a' m2 hg g2 g3
      | ret =>
       obtain ⟨z,hz,k1⟩:=B6.1 k1
       simp only [A1,OP] at k1
       subst k1
       obtain ⟨sh,z',⟨e',f0⟩,f1,f2⟩:=iK hz
       rw [f2] at hg
       obtain ⟨m2,g1,g2,g3⟩:=qg k3 k2 (pin2 e' sh f0) f1
       rw [← g1]
       exact hQ .ret _ a' m2 hg g2 g3
     | more h1 _ ih2 =>
      intro hg
      obtain ⟨n,hn⟩:=ih2 hg
      refine ⟨n+1,fun a m hG hs=>?_⟩
      show x.wp P (Exit.then (Code.rounds P x Q n) Q) a m.w
      refine ih (fun c hc=>hL c (by simp [cw,hc])) hd hs hG h1 ?_
      intro e s' a' m' k1 k2 k3
      cases e with
      | normal =>
       obtain ⟨z,hz,k1⟩:=B6.1 k1
       simp only [A1,Sum.inl.injEq] at k1
       subst k1
       obtain ⟨m2,g1,g2,g3⟩:=qg k3 k2 pin1 hz
       rw [← g1]
       exact hn a' m2 g2 g3
      | exit i=>obtain ⟨z,hz,k1⟩:=B6.1 k1; simp at k1
      | ret=>obtain ⟨z,hz,k1⟩:=B6.1 k1; simp at k1
    obtain ⟨n,hn⟩:=key hr h
    exact wp_loop_rounds n (hn a m1 e2 e3)
 | exit id=>intro _ _ R res K Q s a m hs hG h hQ; exact wp_exit (hQ (.exit id) s a m h hG hs)
 | ret=>intro _ _ R res K Q s a m hs hG h hQ; exact wp_ret (hQ .ret s a m h hG hs)
 | _=>intro _ _ R res K Q s a m hs hG h hQ; simp [dd] at h
end
end Go.Vm

/-
 A function's contract, from its body.
-/
namespace Go.Vm
section
variable {P:Program} {C:Ctx} {w0:World} {M:Own} {N:Nat} {A:Anns} {a:Act} {m:Mem} {s:St}
def IL (m:Mem) (s:St):(outs:oF)→List Value→(aB ((outs.map (·.2)).map (·.2))).den→Prop
 | [],[],_=>True
 | p :: r,u :: us,x=>(∃ sv,ig s p.1 p.2.2=some sv∧RelSV m u sv∧aW s.G p.2.2 sv=some x.1)∧IL m s r us x.2
 | _,_,_=>False
def EU (P:Program) (v:ResultVar) (τ : Ty):Bool:=match v with
 | .cell _ t=>chk P τ none t
 | .tmp _=>true
def tv (P:Program) (outs:oF):Bool:=outs.all fun p=>EU P p.1 p.2.2
def ou (a:Act):ResultVar→Sem Value
 | .tmp t=>pure (a.tmps.getD t undef)
 | .cell x t=>do loadVar t (← asAddr (a.tmps.getD x undef))
theorem yJ (hs:Sim C w0 M N a m s.env) (hG:m.G=s.G) {v:ResultVar} {τ : Ty} {sv:SV} (h:ig s v τ=some sv) (hk:EU P v τ=true) :
  ∃ u,(ou a v).run P m.w=.ok u m.w∧RelSV m u sv:=by
 cases v with
 | tmp t =>
  simp only [ig,A1] at h
  subst h
  exact ⟨_,by simp [ou],hs.env t⟩
 | cell x t =>
  simp only [ig] at h
  have hx:=hs.env x
  split at h
  ·rename_i id off hq
   rw [hq] at hx
   split at h
   ·rename_i l hl
    split at h
    ·rename_i c hc
     simp only [A1] at h
     subst h
     obtain ⟨rfl,hle⟩:=mF hc
     obtain ⟨_,ob,hob,hv⟩:=(ah (a:=.ptr id off) (by intros; simp)).1 hx
     rw [hG,hl] at hob
     simp only [A1] at hob
     subst hob
     obtain ⟨b,h1,h2⟩:=hv
     obtain ⟨b',cc,el,q1,q2,q3,q4⟩:=hs.inv.objs id _ (hG ▸ hl)
     rw [h1] at q1
     simp only [Value.pointer.injEq,A1,Addr.mk.injEq,and_true] at q1
     subst q1
     have hlen:=q4.length
     rw [Array.length_toList] at hlen
     rw [List.length_drop] at hle
     have hsz:off+τ.size≤cc.size∨τ.size=0:=by omega
     have hrel:Rel2 (ae m) (seg cc off τ.size) ((l.drop off).take τ.size):=(q4.drop off).take τ.size
     have hone:∀ u∈seg cc off τ.size,u.oneCell'=true:=fun u hu=>q3 u (List.mem_of_mem_drop (List.mem_of_mem_take hu))
     have hrun:(loadVar t ⟨b,off,none⟩).run P m.w=.ok (toV τ (seg cc off τ.size)) m.w:=by
      rcases hsz with hsz | hsz
      ·exact dQ hk q2 hsz
      ·have ha : τ.isAgg=true:=by
        cases ha : τ.isAgg with
        | true=>rfl
        | false=>have:=gZ ha; omega
       have hz:seg cc off τ.size=[]:=by unfold seg; rw [hsz]; simp
       rw [hz]
       simp [loadVar,fJ hk,ha,bK hk,hsz,loadCells,loadCellsFrom,toV]
     refine ⟨toV τ (seg cc off τ.size),?_,pU hone hrel⟩
     simp [ou,h2,asAddr,hrun]
    ·simp at h
   ·simp at h
  ·simp at h
theorem pM (hs:Sim C w0 M N a m s.env) (hG:m.G=s.G):∀ {outs:oF} {x:(aB ((outs.map (·.2)).map (·.2))).den},results s outs=some x→tv P outs=true →
  ∃ us,((outs.map (·.1)).mapM (ou a)).run P m.w=.ok us m.w∧IL m s outs us x
 | [],x,_,_=>⟨[],by simp,trivial⟩
 | p :: r,x,h,hk=>by
  simp only [tv,NP,A4] at hk
  obtain ⟨hk1,hk2⟩:=hk
  unfold results at h
  split at h
  ·rename_i sv hsv
   split at h
   ·rename_i x1 hx1
    split at h
    ·rename_i x2 hx2
     have:=B4 h
     subst this
     obtain ⟨u,h1,h2⟩:=yJ (P:=P) hs hG hsv hk1
     obtain ⟨us,h3,h4⟩:=pM hs hG hx2 hk2
     refine ⟨u :: us,?_,⟨sv,hsv,h2,hx1⟩,h4⟩
     simp only [Li,List.mapM_cons,Sem.run_bind,h1,Result.andThen_ok,h3,Sem.run_pure]
    ·simp at h
   ·simp at h
  ·simp at h
theorem li {d:Bool} (hi:Inv C w0 M m) {τ : Ty} {us:List Value} {l rest rest':List Atom} {x : τ.den} (hr:Rel2 (ae m) us l) (hc:ay m.G τ l=some (x,rest)) (hk:∀ l,bE d τ l=(match l with | _ :: r=>(true,r) | []=>(false,[]))) (hτ : (∃ k,τ=.int k)∨τ=.bool∨τ=.str)
  (ho:bE d τ l=(true,rest')):∃ c us' lc,us=c.map aJ++us'∧l=lc++rest∧rest'=rest∧OwnRd m.w m.F d τ c x∧Rel2 (ae m) us' rest:=by
 rw [hk] at ho
 cases l with
 | nil=>simp at ho
 | cons at' l =>
  cases us with
  | nil=>exact hr.elim
  | cons u us =>
   simp only [Ld,true_and] at ho
   subst ho
   have key:∀ {τ : Ty},τ.flat=true→∀ y : τ.den,aE m.G τ at'=some y→Rd m.w m.F τ [u] y:=fun hf y hy=>(dn hi hy hr.1).flat hf _ _
   cases τ with
   | int k =>
    simp only [ay] at hc
    split at hc
    ·rename_i y hy
     have hc:=B4 hc
     simp only [Ld] at hc
     obtain ⟨rfl,rfl⟩:=hc
     exact ⟨[u],us,[at'],by rw [bI (key (τ:=.int k) rfl y hy)]; rfl,rfl,rfl,key (τ:=.int k) rfl y hy,hr.2⟩
    ·simp at hc
   | bool =>
    simp only [ay] at hc
    split at hc
    ·rename_i y hy
     have hc:=B4 hc
     simp only [Ld] at hc
     obtain ⟨rfl,rfl⟩:=hc
     exact ⟨[u],us,[at'],by rw [bI (key (τ:=.bool) rfl y hy)]; rfl,rfl,rfl,key (τ:=.bool) rfl y hy,hr.2⟩
    ·simp at hc
   | str =>
    simp only [ay] at hc
    split at hc
    ·rename_i y hy
     have hc:=B4 hc
     simp only [Ld] at hc
     obtain ⟨rfl,rfl⟩:=hc
     exact ⟨[u],us,[at'],by rw [bI (key (τ:=.str) rfl y hy)]; rfl,rfl,rfl,key (τ:=.str) rfl y hy,hr.2⟩
    ·simp at hc
   | _=>simp at hτ
theorem oX {d:Bool} (hi:Inv C w0 M m):∀ {τ : Ty} {us:List Value} {l rest rest':List Atom} {x : τ.den},Rel2 (ae m) us l→ay m.G τ l=some (x,rest)→bE d τ l=(true,rest') →
  ∃ c us' lc,us=c.map aJ++us'∧l=lc++rest∧rest'=rest∧OwnRd m.w m.F d τ c x∧Rel2 (ae m) us' rest ∧
   (∀ b,cP (aR τ c) b→∃ id o,id∈lc.flatMap bf∧m.G.get id=some o∧isObj o=true∧HB (m.ι id) b) ∧
   (aK (lc.flatMap bf)=true→cz (aR τ c))
 | .prod a b,us,l,rest,rest',x,hr,hc,ho=>by
  simp only [ay] at hc
  split at hc
  ·rename_i x1 r1 h1
   split at hc
   ·rename_i x2 r2 h2
    have hc:=B4 hc
    simp only [Ld] at hc
    obtain ⟨rfl,rfl⟩:=hc
    simp only [bE,Ld,A4] at ho
    obtain ⟨⟨o1,o2⟩,o3⟩:=ho
    obtain ⟨c1,us1,lc1,a1,a2,a3,a4,a5,a6,a7⟩:=oX hi (rest':=(bE d a l).2) hr h1 (by rw [← o1])
    rw [a3] at o2 o3
    obtain ⟨c2,us2,lc2,b1,b2,b3,b4,b5,b6,b7⟩:=oX hi (rest':=(bE d b r1).2) a5 h2 (by rw [← o2])
    subst a1
    subst b1
    subst a2
    subst b2
    have hh:aR (.prod a b) (c1++c2)=aR a c1++aR b c2:=by
     simp only [aR,← a4.len,MY,MZ]
    refine ⟨c1++c2,us2,lc1++lc2,by simp,by simp,by rw [← o3,b3],⟨c1,c2,rfl,a4,b4⟩,b5,?_,?_⟩
    ·rw [hh]
     rintro bl ⟨u,hu,hb⟩
     rcases B1.1 hu with hu | hu
     ·obtain ⟨id,o,k1,k2⟩:=a6 bl ⟨u,hu,hb⟩
      exact ⟨id,o,by simp only [NI,B1]; exact .inl k1,k2⟩
     ·obtain ⟨id,o,k1,k2⟩:=b6 bl ⟨u,hu,hb⟩
      exact ⟨id,o,by simp only [NI,B1]; exact .inr k1,k2⟩
    ·rw [hh,NI]
     intro hn
     obtain ⟨n1,n2,n3⟩:=aT hn
     refine Mm.2 ⟨a7 n1,b7 n2,?_⟩
     intro u hu v hv bl hb hb'
     obtain ⟨id,o,k1,k2,k3,k4⟩:=a6 bl ⟨u,hu,hb⟩
     obtain ⟨id',o',j1,j2,j3,j4⟩:=b6 bl ⟨v,hv,hb'⟩
     have:=hi.inj id id' o o' bl k2 k3 j2 j3 k4 j4
     subst this
     exact n3 id k1 j1
   ·simp at hc
  ·simp at hc
 | .unit,us,l,rest,rest',x,hr,hc,ho=>by
  simp only [ay,A1,Ld] at hc
  simp only [bE,Ld,true_and] at ho
  obtain ⟨_,rfl⟩:=hc
  subst ho
  exact ⟨[],us,[],rfl,rfl,rfl,rfl,hr,by rintro b ⟨u,hu,_⟩; simp [aR] at hu,fun _=>Mo⟩
 | .slice e,us,l,rest,rest',x,hr,hc,ho=>by
  cases l with
  | nil=>simp [ay] at hc
  | cons at' l =>
   cases us with
   | nil=>exact hr.elim
   | cons u us =>
    simp only [ay] at hc
    split at hc
    ·rename_i y hy
     have hc:=B4 hc
     simp only [Ld] at hc
     obtain ⟨rfl,rfl⟩:=hc
     simp only [bE,Ld] at ho
     obtain ⟨o1,rfl⟩:=ho
     cases hde:(d && e.isSl) with
     | false =>
      rw [hde] at o1
      have hk:SV.av at'=.av .nils∨(∃ id,SV.av at'=.av (.own id))∨∃ id o n,SV.av at'=.av (.view id o n):=by
       cases at' <;> simp [fe] at o1 ⊢
      have hnv:∀ τ x,at'≠.val τ x:=by intro τ x e; subst e; simp [fe] at o1
      have hsv:aW m.G (.slice e) (.av at')=some y:=by
       cases at' <;> simp [fe] at o1 <;> exact hy
      obtain ⟨g1,g2,g3⟩:=nT hi hsv ((ah hnv).2 hr.1) hk
      have g1:HdrW m.w m.F u e y:=g1
      have hown:kW m.w m.F d e u y:=by
       cases e with
       | slice σ =>
        cases d with
        | true=>simp [Ty.isSl] at hde
        | false=>exact g1
       | _=>exact g1
      refine ⟨[u],us,[at'],by rw [Li,bV (bq g1)]; rfl,rfl,rfl,⟨u,rfl,hown⟩,hr.2,?_,fun _=>by simp [aR,cz]⟩
      rintro b ⟨u',hu',hb⟩
      simp only [aR,LD] at hu'
      subst hu'
      obtain ⟨id,o,k1,k2,k3,k4⟩:=g2 b hb
      refine ⟨id,o,?_,k2,k3,k4⟩
      simp only [List.flatMap_cons,List.flatMap_nil,LU]
      have:bf at'=[id]:=k1
      rw [this]; simp
     | true =>
      rw [hde] at o1
      simp only [A4] at hde
      obtain ⟨rfl,hsl⟩:=hde
      cases e with
      | slice σ =>
       cases at' with
       | nils =>
        simp only [aE,A1] at hy
        subst hy
        obtain ⟨ad,rfl⟩:=hr.1
        have hnb:∀ b,¬ HB (.slice ad 0 0) b:=fun b hb=>by cases ad <;> simp [HB,HB1] at hb
        have hd:DeepW m.w m.F (.slice ad 0 0) [] σ [] none:=⟨rfl,⟨ad,0,rfl,by simp,by unfold maxLen; omega,fun h=>absurd rfl h⟩,by intro i hi; simp at hi,(by intro i v hi; cases hi),LP _ _⟩
        refine ⟨[.tuple [.slice ad 0 0].toArray],us,[.nils],rfl,rfl,rfl,⟨_,rfl,_,[],rfl,hd⟩,hr.2,?_,fun _=>by simp [aR,cz]⟩
        rintro b ⟨u',hu',hb⟩
        simp only [aR,LD] at hu'
        subst hu'
        obtain ⟨v,hv,hb⟩:=(bR hd.one).1 hb
        simp only [LD] at hv
        subst hv
        exact absurd hb (hnb b)
       | ownd id =>
        obtain ⟨_,ob,hob,hv⟩:=hr.1
        simp only [aE] at hy
        rw [hob] at hy
        cases ob with
        | deep ver τ l' hole =>
         cases hole with
         | some _=>simp at hy
         | none =>
          simp only at hy
          obtain ⟨e',hy⟩:=au hy
          simp only [Ty.slice.injEq] at e'
          subst e'; subst hy
          obtain ⟨vs,v1,v2⟩:=hv
          obtain ⟨u',hs,d1,d2⟩:=cg hi hob
          rw [d1] at v1
          simp only [Value.tuple.injEq] at v1
          subst v1
          simp only [Lv,Lt,A1] at v2
          subst v2
          refine ⟨[.tuple (u' :: hs).toArray],us,[.ownd id],by simp [aJ],rfl,rfl,⟨_,rfl,_,hs,rfl,d2⟩,hr.2,?_,fun _=>by simp [aR,cz]⟩
          rintro b ⟨u2,hu2,hb⟩
          simp only [aR,LD] at hu2
          subst hu2
          exact ⟨id,_,by simp [bf],hob,rfl,by rw [d1]; exact hb⟩
        | _=>simp at hy
       | _=>simp [fe] at o1
      | _=>simp [Ty.isSl] at hsl
    ·simp at hc
 | .int k,us,l,rest,rest',x,hr,hc,ho=>by
  obtain ⟨c,us',h1,h2,h3,h4,h5,h6⟩:=li (d:=d) hi (τ:=.int k) hr hc (by intro l; cases l <;> rfl) (by simp) ho
  exact ⟨c,us',h1,h2,h3,h4,h5,h6,by rintro b ⟨u,hu,_⟩; simp [aR] at hu,fun _=>Mo⟩
 | .bool,us,l,rest,rest',x,hr,hc,ho=>by
  obtain ⟨c,us',h1,h2,h3,h4,h5,h6⟩:=li (d:=d) hi (τ:=.bool) hr hc (by intro l; cases l <;> rfl) (by simp) ho
  exact ⟨c,us',h1,h2,h3,h4,h5,h6,by rintro b ⟨u,hu,_⟩; simp [aR] at hu,fun _=>Mo⟩
 | .str,us,l,rest,rest',x,hr,hc,ho=>by
  obtain ⟨c,us',h1,h2,h3,h4,h5,h6⟩:=li (d:=d) hi (τ:=.str) hr hc (by intro l; cases l <;> rfl) (by simp) ho
  exact ⟨c,us',h1,h2,h3,h4,h5,h6,by rintro b ⟨u,hu,_⟩; simp [aR] at hu,fun _=>Mo⟩
 | .arr _ _,_,_,_,_,_,_,_,ho=>by simp [bE] at ho
 | .ptr _,_,_,_,_,_,_,_,ho=>by simp [bE] at ho
 | .clo _ _,_,_,_,_,_,_,_,ho=>by simp [bE] at ho
end
end Go.Vm

/-
 A function's contract, from its body: the beginning.
-/
namespace Go.Vm
section
variable {P:Program} {C:Ctx} {w:World} {F:Nat→Prop}
theorem getElem?_sub {α : Type} {u : α} {us:List α} {i k:Nat} (h:k+1≤i):(u :: us)[i - k]?=us[i - (k+1)]?:=by
 have:i - k=(i - (k+1))+1:=by omega
 rw [this]; rfl
theorem nC {u:Value} {e:Ty} {l:List e.den} (h:HdrW w F u e l):u.oneCell'=true:=by
 obtain ⟨ad,cap,rfl,_⟩:=h; rfl
structure ObjT (w:World) (F:Nat→Prop) (u:Value) (o:Obj):Prop where
 rel:∀ (m:Mem) (i:Nat),m.w=w→m.F=F→m.ι i=aJ u→db m i o
 obj:isObj o=true
 deep:isDeep o=false
 hb:∀ b,HB (aJ u) b→HB u b
 one:(aJ u).oneCell'=true
theorem ObjT.arr {u:Value} {e:Ty} {l:List e.den} (h:HdrW w F u e l):ObjT w F u (.arr e l):=by
 have hs:=bV (nC h)
 refine ⟨fun m i h1 h2 h3=>?_,rfl,rfl,fun b hb=>by rwa [hs] at hb,by rw [hs]; exact nC h⟩
 show HdrW m.w m.F (m.ι i) e l
 rw [h1,h2,h3,hs]
 exact h
theorem ObjT.box {u:Value} {k:List Nat} {T:Ty} {x:T.den} (h:GR w F k T u x):ObjT w F u (.box (A6 T.size .u)):=by
 obtain ⟨b,c,el,cs,k1,k2,k3,k4,k5⟩:=h
 have hs:aJ u=.pointer (some ⟨b,0,none⟩):=by rw [k1,cV]
 have hlen:c.toList.length=T.size:=by rw [k3,Nh,k4.len]
 refine ⟨fun m i h1 h2 h3=>⟨b,c,el,by rw [h3,hs],by rw [h1]; exact k2,by rw [k3]; exact k4.one,by rw [← hlen]; exact kZ _⟩,rfl,rfl,fun bl hb=>?_,by rw [hs]; rfl⟩
 rw [hs] at hb
 rw [k1]
 exact me.2 (.inl hb)
def dp:List (Mode×Ty)→List Value→List Value
 | (.rd,_) :: r,_ :: us=>dp r us
 | (_,_) :: r,u :: us=>aJ u :: dp r us
 | _,_=>[]
theorem bi:∀ {ins:List (Mode×Ty)} {us:List Value} {x:(aB (ins.map (·.2))).den} (k:Nat),ArgsRd w F ins us x→∀ i o,(aU ins k x).get i=some o →
  k≤i∧∃ u,us[i - k]?=some u∧u∈ax ins us∧aJ u∈dp ins us∧ObjT w F u o
 | [],[],_,_,_,i,o,h=>by simp [aU,Heap.get] at h
 | [],_ :: _,_,_,h,_,_,_=>h.elim
 | _ :: _,[],_,_,h,_,_,_=>h.elim
 | (.rd,τ) :: r,u :: us,x,k,h,i,o,hg=>by
  obtain ⟨h1,v,h2,h3,h4,h5⟩:=bi (ins:=r) (us:=us) (x:=x.2) (k+1) h.2 i o hg
  exact ⟨by omega,v,by rw [getElem?_sub h1]; exact h2,h3,h4,h5⟩
 | (.upd,τ) :: r,u :: us,x,k,h,i,o,hg=>by
  cases τ with
  | slice e =>
   simp only [aU] at hg
   rw [Heap.get_cons] at hg
   split at hg
   ·rename_i e0
    subst e0
    simp only [A1] at hg
    subst hg
    exact ⟨A7 _,u,by simp,by simp [ax],by simp [dp],.arr h.1⟩
   ·obtain ⟨h1,v,h2,h3,h4,h5⟩:=bi (ins:=r) (us:=us) (x:=x.2) (k+1) h.2 i o hg
    exact ⟨by omega,v,by rw [getElem?_sub h1]; exact h2,by simp [ax,h3],by simp [dp,h4],h5⟩
  | _=>exact (h.1).elim
 | (.take,τ) :: r,u :: us,x,k,h,i,o,hg=>by
  cases τ with
  | slice e =>
   simp only [aU] at hg
   rw [Heap.get_cons] at hg
   split at hg
   ·rename_i e0
    subst e0
    simp only [A1] at hg
    subst hg
    exact ⟨A7 _,u,by simp,by simp [ax],by simp [dp],.arr h.1⟩
   ·obtain ⟨h1,v,h2,h3,h4,h5⟩:=bi (ins:=r) (us:=us) (x:=x.2) (k+1) h.2 i o hg
    exact ⟨by omega,v,by rw [getElem?_sub h1]; exact h2,by simp [ax,h3],by simp [dp,h4],h5⟩
  | _=>exact (h.1).elim
 | (.box kd,τ) :: r,u :: us,x,k,h,i,o,hg=>by
  cases τ with
  | ptr T =>
   simp only [aU] at hg
   rw [Heap.get_cons] at hg
   split at hg
   ·rename_i e0
    subst e0
    simp only [A1] at hg
    subst hg
    exact ⟨A7 _,u,by simp,by simp [ax],by simp [dp],.box h.1⟩
   ·obtain ⟨h1,v,h2,h3,h4,h5⟩:=bi (ins:=r) (us:=us) (x:=x.2) (k+1) h.2 i o hg
    exact ⟨by omega,v,by rw [getElem?_sub h1]; exact h2,by simp [ax,h3],by simp [dp,h4],h5⟩
  | _=>exact (h.1).elim
theorem ic:∀ {ins:List (Mode×Ty)} {us:List Value} {x:(aB (ins.map (·.2))).den} (k:Nat),ArgsRd w F ins us x→cz (ax ins us)→∀ i j o p b u v,(aU ins k x).get i=some o→(aU ins k x).get j=some p →
  us[i - k]?=some u→us[j - k]?=some v→HB u b→HB v b→i=j
 | [],[],_,_,_,_,i,_,o,_,_,_,_,h,_,_,_,_,_=>by simp [aU,Heap.get] at h
 | [],_ :: _,_,_,h,_,_,_,_,_,_,_,_,_,_,_,_,_,_=>h.elim
 | _ :: _,[],_,_,h,_,_,_,_,_,_,_,_,_,_,_,_,_,_=>h.elim
 | (.rd,τ) :: r,u0 :: us,x,k,h,ha,i,j,o,p,b,u,v,hi,hj,hu,hv,hb,hb'=>by
  obtain ⟨h1,_⟩:=bi (ins:=r) (us:=us) (x:=x.2) (k+1) h.2 i o hi
  obtain ⟨h2,_⟩:=bi (ins:=r) (us:=us) (x:=x.2) (k+1) h.2 j p hj
  rw [getElem?_sub h1] at hu
  rw [getElem?_sub h2] at hv
  exact ic (ins:=r) (us:=us) (x:=x.2) (k+1) h.2 ha i j o p b u v hi hj hu hv hb hb'
 | (.upd,τ) :: r,u0 :: us,x,k,h,ha,i,j,o,p,b,u,v,hi,hj,hu,hv,hb,hb'=>by
  cases τ with
  | slice e=>exact at_cons k h.2 ha i j o p b u v hi hj hu hv hb hb' (ic (ins:=r) (us:=us) (x:=x.2) (k+1) h.2 (Lr.1 (show Mq _ (u0 :: ax r us) from ha)).2)
  | _=>exact (h.1).elim
 | (.take,τ) :: r,u0 :: us,x,k,h,ha,i,j,o,p,b,u,v,hi,hj,hu,hv,hb,hb'=>by
  cases τ with
  | slice e=>exact at_cons k h.2 ha i j o p b u v hi hj hu hv hb hb' (ic (ins:=r) (us:=us) (x:=x.2) (k+1) h.2 (Lr.1 (show Mq _ (u0 :: ax r us) from ha)).2)
  | _=>exact (h.1).elim
 | (.box kd,τ) :: r,u0 :: us,x,k,h,ha,i,j,o,p,b,u,v,hi,hj,hu,hv,hb,hb'=>by
  cases τ with
  | ptr T=>exact at_cons k h.2 ha i j o p b u v hi hj hu hv hb hb' (ic (ins:=r) (us:=us) (x:=x.2) (k+1) h.2 (Lr.1 (show Mq _ (u0 :: ax r us) from ha)).2)
  | _=>exact (h.1).elim
where
 at_cons {r:List (Mode×Ty)} {us:List Value} {x:(aB (r.map (·.2))).den} {u0:Value} {o0:Obj} (k:Nat) (h:ArgsRd w F r us x) (ha:cz (u0 :: ax r us)) (i j:Nat) (o p:Obj) (b:Nat) (u v:Value)
  (hi:Heap.get ((k,o0) :: aU r (k+1) x) i=some o) (hj:Heap.get ((k,o0) :: aU r (k+1) x) j=some p) (hu:(u0 :: us)[i - k]?=some u) (hv:(u0 :: us)[j - k]?=some v) (hb:HB u b) (hb':HB v b)
  (rec:∀ i j o p b u v,(aU r (k+1) x).get i=some o→(aU r (k+1) x).get j=some p→us[i - (k+1)]?=some u→us[j - (k+1)]?=some v→HB u b→HB v b→i=j):i=j:=by
  obtain ⟨ha1,ha2⟩:=Lr.1 ha
  rw [Heap.get_cons] at hi hj
  split at hi <;> split at hj
  ·omega
  ·rename_i e0 _
   subst e0
   obtain ⟨h2,v',h3,h4,_⟩:=bi (k+1) h j p hj
   rw [getElem?_sub h2,h3] at hv
   simp only [A1] at hv
   subst hv
   simp at hu
   subst hu
   exact (ha1 _ h4 b hb hb').elim
  ·rename_i _ e0
   subst e0
   obtain ⟨h2,v',h3,h4,_⟩:=bi (k+1) h i o hi
   rw [getElem?_sub h2,h3] at hu
   simp only [A1] at hu
   subst hu
   simp at hv
   subst hv
   exact (ha1 _ h4 b hb' hb).elim
  ·obtain ⟨h1,_⟩:=bi (k+1) h i o hi
   obtain ⟨h2,_⟩:=bi (k+1) h j p hj
   rw [getElem?_sub h1] at hu
   rw [getElem?_sub h2] at hv
   exact rec i j o p b u v hi hj hu hv hb hb'
theorem lm:∀ {ins:List (Mode×Ty)} {us:List Value} {x:(aB (ins.map (·.2))).den} (k:Nat),ArgsRd w F ins us x→∀ t,(fh ins k x).get t=.av .u ∨
  ∃ u,k≤t∧us[t - k]?=some u∧((∃ τ,∃ y : τ.den,∃ cs,(fh ins k x).get t=.av (.val τ y)∧aJ u=toV τ cs∧Rd w F τ cs y)∨((fh ins k x).get t=.av (.own t)∧∃ o,(aU ins k x).get t=some o) ∨
   ((fh ins k x).get t=.av (.ptr t 0)∧∃ l,(aU ins k x).get t=some (.box l)))
 | [],[],_,_,_,t=>.inl rfl
 | [],_ :: _,_,_,h,_=>h.elim
 | _ :: _,[],_,_,h,_=>h.elim
 | (.rd,τ) :: r,u :: us,x,k,h,t=>by
  simp only [fh]
  rw [Env.get_cons]
  split
  ·rename_i e
   subst e
   obtain ⟨cs,h1,h2⟩:=h.1
   exact .inr ⟨u,A7 _,by simp,.inl ⟨τ,x.1,cs,rfl,by rw [h1,oY h2],h2⟩⟩
  ·rcases lm (ins:=r) (us:=us) (x:=x.2) (k+1) h.2 t with h0 | ⟨v,h1,h2,h3⟩
   ·exact .inl h0
   ·exact .inr ⟨v,by omega,by rw [getElem?_sub h1]; exact h2,h3⟩
 | (.upd,τ) :: r,u :: us,x,k,h,t=>by
  cases τ with
  | slice e =>
   simp only [fh,aU]
   rw [Env.get_cons,Heap.get_cons]
   split
   ·rename_i e0
    subst e0
    exact .inr ⟨u,A7 _,by simp,.inr (.inl ⟨rfl,_,rfl⟩)⟩
   ·rcases lm (ins:=r) (us:=us) (x:=x.2) (k+1) h.2 t with h0 | ⟨v,h1,h2,h3⟩
    ·exact .inl h0
    ·exact .inr ⟨v,by omega,by rw [getElem?_sub h1]; exact h2,h3⟩
  | _=>exact (h.1).elim
 | (.take,τ) :: r,u :: us,x,k,h,t=>by
  cases τ with
  | slice e =>
   simp only [fh,aU]
   rw [Env.get_cons,Heap.get_cons]
   split
   ·rename_i e0
    subst e0
    exact .inr ⟨u,A7 _,by simp,.inr (.inl ⟨rfl,_,rfl⟩)⟩
   ·rcases lm (ins:=r) (us:=us) (x:=x.2) (k+1) h.2 t with h0 | ⟨v,h1,h2,h3⟩
    ·exact .inl h0
    ·exact .inr ⟨v,by omega,by rw [getElem?_sub h1]; exact h2,h3⟩
  | _=>exact (h.1).elim
 | (.box kd,τ) :: r,u :: us,x,k,h,t=>by
  cases τ with
  | ptr T =>
   simp only [fh,aU]
   rw [Env.get_cons,Heap.get_cons]
   split
   ·rename_i e0
    subst e0
    exact .inr ⟨u,A7 _,by simp,.inr (.inr ⟨rfl,_,rfl⟩)⟩
   ·rcases lm (ins:=r) (us:=us) (x:=x.2) (k+1) h.2 t with h0 | ⟨v,h1,h2,h3⟩
    ·exact .inl h0
    ·exact .inr ⟨v,by omega,by rw [getElem?_sub h1]; exact h2,h3⟩
  | _=>exact (h.1).elim
theorem fa:∀ {ins:List (Mode×Ty)} {us:List Value} {x:(aB (ins.map (·.2))).den},ArgsRd w F ins us x→MutsRd w F ins us (jR ins x)
 | [],_,_,_=>trivial
 | (md,τ) :: r,[],_,h=>h.elim
 | (.rd,τ) :: r,u :: us,x,h=>fa (ins:=r) (us:=us) (x:=x.2) h.2
 | (.take,τ) :: r,u :: us,x,h=>fa (ins:=r) (us:=us) (x:=x.2) h.2
 | (.upd,τ) :: r,u :: us,x,h=>by
  cases τ with
  | slice e=>exact ⟨h.1,fa (ins:=r) (us:=us) (x:=x.2) h.2⟩
  | _=>exact h.1.elim
 | (.box k,τ) :: r,u :: us,x,h=>by
  cases τ with
  | ptr T=>exact ⟨h.1,fa (ins:=r) (us:=us) (x:=x.2) h.2⟩
  | _=>exact h.1.elim
theorem mut_sub:∀ {ins:List (Mode×Ty)} {us:List Value},(aX ins us).Sublist (ax ins us)
 | [],us=>by cases us <;> exact NG _
 | (md,τ) :: r,[]=>by cases md <;> exact NG _
 | (.rd,τ) :: r,u :: us=>mut_sub (ins:=r) (us:=us)
 | (.take,τ) :: r,u :: us=>(mut_sub (ins:=r) (us:=us)).cons u
 | (.upd,τ) :: r,u :: us=>(mut_sub (ins:=r) (us:=us)).cons_cons u
 | (.box k,τ) :: r,u :: us=>(mut_sub (ins:=r) (us:=us)).cons_cons u
theorem ir:∀ {ins:List (Mode×Ty)} {us:List Value} {x:(aB (ins.map (·.2))).den},ArgsRd w F ins us x→∀ {b:Nat},cP (dp ins us) b→cP (ax ins us) b
 | [],us,_,_,b,h=>by obtain ⟨u,hu,_⟩:=h; cases us <;> simp [dp] at hu
 | (md,τ) :: r,[],_,h,b,_=>h.elim
 | (.rd,_) :: r,_ :: us,x,h,b,ha=>ir (ins:=r) (us:=us) (x:=x.2) h.2 ha
 | (.take,τ) :: r,u :: us,x,h,b,ha=>by
  obtain ⟨v,hv,hb⟩:=ha
  rcases B3.1 (show v∈aJ u :: dp r us from hv) with rfl | hv
  ·refine ⟨u,by simp [ax],?_⟩
   cases τ with
   | slice e=>exact (ObjT.arr h.1).hb b hb
   | _=>exact h.1.elim
  ·obtain ⟨v',hv',hb'⟩:=ir (ins:=r) (us:=us) (x:=x.2) h.2 ⟨v,hv,hb⟩
   exact ⟨v',by simp [ax,hv'],hb'⟩
 | (.upd,τ) :: r,u :: us,x,h,b,ha=>by
  obtain ⟨v,hv,hb⟩:=ha
  rcases B3.1 (show v∈aJ u :: dp r us from hv) with rfl | hv
  ·refine ⟨u,by simp [ax],?_⟩
   cases τ with
   | slice e=>exact (ObjT.arr h.1).hb b hb
   | _=>exact h.1.elim
  ·obtain ⟨v',hv',hb'⟩:=ir (ins:=r) (us:=us) (x:=x.2) h.2 ⟨v,hv,hb⟩
   exact ⟨v',by simp [ax,hv'],hb'⟩
 | (.box k,τ) :: r,u :: us,x,h,b,ha=>by
  obtain ⟨v,hv,hb⟩:=ha
  rcases B3.1 (show v∈aJ u :: dp r us from hv) with rfl | hv
  ·refine ⟨u,by simp [ax],?_⟩
   cases τ with
   | ptr T=>exact (ObjT.box h.1).hb b hb
   | _=>exact h.1.elim
  ·obtain ⟨v',hv',hb'⟩:=ir (ins:=r) (us:=us) (x:=x.2) h.2 ⟨v,hv,hb⟩
   exact ⟨v',by simp [ax,hv'],hb'⟩
theorem zF {u:Value} (h:u.oneCell'=true) {b:Nat}:¬ HB (.tuple (eZ u).tail.toArray) b:=by
 rintro ⟨w1,hw1,_⟩
 cases u <;> simp_all [eZ,Value.oneCell']
theorem fm:∀ {ins:List (Mode×Ty)} {us:List Value} {x:(aB (ins.map (·.2))).den},ArgsRd w F ins us x→cz (ax ins us)→∀ u∈ax ins us,∀ b,HB (.tuple (eZ u).tail.toArray) b→¬ cP (dp ins us) b
 | [],us,_,_,_,u,hu,_,_=>by cases us <;> simp [ax] at hu
 | (md,τ) :: r,[],_,h,_,_,_,_,_=>h.elim
 | (.rd,_) :: r,_ :: us,x,h,hp,u,hu,b,hb=>fm (ins:=r) (us:=us) (x:=x.2) h.2 hp u hu b hb
 | (.upd,τ) :: r,u0 :: us,x,h,hp,u,hu,b,hb=>by
  cases τ with
  | slice e=>exact one_cons (nC h.1) h.2 hp u hu b hb (fm (ins:=r) (us:=us) (x:=x.2) h.2 (Lr.1 (show Mq _ (u0 :: ax r us) from hp)).2)
  | _=>exact h.1.elim
 | (.take,τ) :: r,u0 :: us,x,h,hp,u,hu,b,hb=>by
  cases τ with
  | slice e=>exact one_cons (nC h.1) h.2 hp u hu b hb (fm (ins:=r) (us:=us) (x:=x.2) h.2 (Lr.1 (show Mq _ (u0 :: ax r us) from hp)).2)
  | _=>exact h.1.elim
 | (.box k,τ) :: r,u0 :: us,x,h,hp,u,hu,b,hb=>by
  cases τ with
  | ptr T =>
   obtain ⟨hp1,hp2⟩:=Lr.1 (show Mq _ (u0 :: ax r us) from hp)
   obtain ⟨⟨bl,c,el,cs,k1,k2,k3,k4,k5⟩,h2⟩:=h
   rcases B3.1 (show u∈u0 :: ax r us from hu) with rfl | hu1
   ·rintro ⟨z,hz,hzb⟩
    rcases B3.1 (show z∈aJ u :: dp r us from hz) with rfl | hz
    ·rw [k1,cV] at hzb
     obtain ⟨w1,hw1,hw2⟩:=hb
     rw [k1] at hw1
     simp only [nV,eZ,N6,MT] at hw1
     obtain ⟨v,hv,hv2⟩:=hw1
     exact (Lr.1 k5).1 v hv b hzb (jv.2 ⟨w1,hv2,hw2⟩)
    ·obtain ⟨u2,hu2,hb2⟩:=ir h2 ⟨z,hz,hzb⟩
     exact hp1 u2 hu2 b (gQ hb) hb2
   ·rintro ⟨z,hz,hzb⟩
    rcases B3.1 (show z∈aJ u0 :: dp r us from hz) with rfl | hz
    ·rw [k1,cV] at hzb
     exact hp1 u hu1 b (by rw [k1]; exact me.2 (.inl hzb)) (gQ hb)
    ·exact fm (ins:=r) (us:=us) (x:=x.2) h2 hp2 u hu1 b hb ⟨z,hz,hzb⟩
  | _=>exact h.1.elim
where
 one_cons {r:List (Mode×Ty)} {us:List Value} {x:(aB (r.map (·.2))).den} {u0:Value} (h1:u0.oneCell'=true) (h:ArgsRd w F r us x) (hp:cz (u0 :: ax r us)) (u:Value) (hu:u∈u0 :: ax r us) (b:Nat) (hb:HB (.tuple (eZ u).tail.toArray) b)
  (rec:∀ u∈ax r us,∀ b,HB (.tuple (eZ u).tail.toArray) b→¬ cP (dp r us) b):¬ cP (aJ u0 :: dp r us) b:=by
  obtain ⟨hp1,hp2⟩:=Lr.1 hp
  rcases B3.1 hu with rfl | hu1
  ·exact absurd hb (zF h1)
  ·rintro ⟨z,hz,hzb⟩
   rcases B3.1 hz with rfl | hz
   ·rw [bV h1] at hzb
    exact hp1 u hu1 b hzb (gQ hb)
   ·exact rec u hu1 b hb ⟨z,hz,hzb⟩
theorem Dh {m:Mem} {ins:List (Mode×Ty)} {us:List Value} {x:(aB (ins.map (·.2))).den}:∀ (k:Nat),ArgsRd w F ins us x→(∀ i o,(aU ins k x).get i=some o→m.G.get i=some o)→(∀ i u,us[i]?=some u→m.ι (k+i)=aJ u)→BoxLive m ins us (vJ ins k):=by
 induction ins generalizing us with
 | nil=>intro k h _ _; cases us <;> trivial
 | cons p r ih =>
  obtain ⟨md,τ⟩:=p
  intro k h hG hι
  cases us with
  | nil=>exact h.elim
  | cons u us =>
   have hι':∀ i u,us[i]?=some u→m.ι (k+1+i)=aJ u:=fun i u hu=>by have:=hι (i+1) u (by simpa using hu); rwa [show k+(i+1)=k+1+i by omega] at this
   cases md with
   | rd=>exact ih (x:=x.2) (k+1) h.2 hG hι'
   | upd =>
    cases τ with
    | slice e =>
     refine ih (x:=x.2) (k+1) h.2 (fun i o ho=>hG i o ?_) hι'
     obtain ⟨h1,_⟩:=bi (k+1) h.2 i o ho
     show Heap.get ((k,_) :: aU r (k+1) x.2) i=_
     rw [Heap.get_cons,if_neg (by omega)]
     exact ho
    | _=>exact h.1.elim
   | take =>
    cases τ with
    | slice e =>
     refine ih (x:=x.2) (k+1) h.2 (fun i o ho=>hG i o ?_) hι'
     obtain ⟨h1,_⟩:=bi (k+1) h.2 i o ho
     show Heap.get ((k,_) :: aU r (k+1) x.2) i=_
     rw [Heap.get_cons,if_neg (by omega)]
     exact ho
    | _=>exact h.1.elim
   | box kd =>
    cases τ with
    | ptr T =>
     refine ⟨fun id o he=>?_,ih (x:=x.2) (k+1) h.2 (fun i o ho=>hG i o ?_) hι'⟩
     ·simp only [SV.av.injEq,Atom.ptr.injEq] at he
      obtain ⟨rfl,rfl⟩:=he
      exact ⟨_,hG k _ (by show Heap.get ((k,_) :: aU r (k+1) x.2) k=_; rw [Heap.get_cons,if_pos rfl]),by have:=hι 0 u rfl; simpa using this⟩
     ·obtain ⟨h1,_⟩:=bi (k+1) h.2 i o ho
      show Heap.get ((k,_) :: aU r (k+1) x.2) i=_
      rw [Heap.get_cons,if_neg (by omega)]
      exact ho
    | _=>exact h.1.elim
end
end Go.Vm

/-
 A function's contract, from its body: the end.
-/
namespace Go.Vm
section
variable {P:Program} {C:Ctx} {w0:World} {M:Own} {N:Nat} {A:Anns} {a:Act} {m:Mem} {s:St}
theorem ng:∀ {τ : Ty},τ.plain=true→∀ cs,aR τ cs=[]
 | .prod a b,h,cs=>by
  simp only [Ty.plain,A4] at h
  simp [aR,ng h.1,ng h.2]
 | .int _,_,_=>rfl
 | .bool,_,_=>rfl
 | .str,_,_=>rfl
 | .unit,_,_=>rfl
 | .slice _,h,_=>by simp [Ty.plain] at h
 | .arr _ _,_,_=>rfl
 | .ptr _,_,_=>rfl
 | .clo _ _,_,_=>rfl
theorem ol {w:World} {F F':Nat→Prop} {d:Bool}:∀ {τ : Ty} {cs:List Value} {x : τ.den},τ.plain=true→Rd w F τ cs x→OwnRd w F' d τ cs x
 | .prod a b,_,_,hf,h=>by
  simp only [Ty.plain,A4] at hf
  obtain ⟨c1,c2,h1,h2,h3⟩:=h
  exact ⟨c1,c2,h1,ol hf.1 h2,ol hf.2 h3⟩
 | .int _,_,_,_,h=>h
 | .bool,_,_,_,h=>h
 | .str,_,_,_,h=>h
 | .unit,_,_,_,h=>h
 | .slice _,_,_,hf,_=>by simp [Ty.plain] at hf
 | .arr _ _,_,_,hf,_=>by simp [Ty.plain] at hf
 | .ptr _,_,_,hf,_=>by simp [Ty.plain] at hf
 | .clo _ _,_,_,hf,_=>by simp [Ty.plain] at hf
theorem G7 {d:Bool} (hi:Inv C w0 M m) {τ : Ty} {sv:SV} {u:Value} {x : τ.den} (hr:RelSV m u sv) (hx:aW m.G τ sv=some x) (ho:By d τ sv=true) :
  ∃ cs,u=toV τ (cs.map aJ)∧OwnRd m.w m.F d τ cs x∧HdrsOf m (aR τ cs) (eH m.G sv):=by
 have cells {us:List Value} {l:List Atom} (h1:Rel2 (ae m) us l) (h2:ay m.G τ l=some (x,[])) (h3:(bE d τ l).1=true):∃ c,us=c.map aJ∧OwnRd m.w m.F d τ c x∧HdrsOf m (aR τ c) (l.flatMap bf):=by
  obtain ⟨c,us',lc,a1,a2,a3,a4,a5,a6,a7⟩:=oX hi (rest':=(bE d τ l).2) h1 h2 (by rw [← h3])
  match us',a5 with
  | [],_ =>
   rw [LU] at a1 a2
   subst a2
   exact ⟨c,a1,a4,a6,a7⟩
 cases sv with
 | tup l=>simp [aW] at hx
 | agg l =>
  obtain ⟨us,h1,h2,h3⟩:=hr
  simp only [aW] at hx
  cases ha : τ.isAgg with
  | false=>rw [ha] at hx; simp at hx
  | true =>
   rw [ha] at hx
   simp only [cond_true] at hx
   split at hx
   ·rename_i y hc
    have hx:=B4 hx
    subst hx
    obtain ⟨c,k0,k1,k2⟩:=cells h3 hc ho
    exact ⟨c,by rw [h1,k0]; simp [toV,ha],k1,k2⟩
   ·simp at hx
 | av at' =>
  cases at' with
  | val σ y =>
   obtain ⟨e,hy⟩:=au hx
   subst e
   subst hy
   obtain ⟨cs,h1,h2⟩:=hr
   have hp : σ.plain=true:=ho
   exact ⟨cs,by rw [bI h2]; exact h1,ol hp h2,by rw [ng hp]; exact HdrsOf.nil _ _⟩
  | ptr i o =>
   cases τ <;> simp only [aW] at hx <;> try (simp at hx; done)
   simp [By,bE] at ho
  | clo f c =>
   cases τ <;> simp only [aW] at hx <;> try (simp at hx; done)
   simp [By,bE] at ho
  | _ =>
   have hr':=(ah (m:=m) (v:=u) (by intros; simp)).1 hr
   simp only [aW] at hx
   cases ha : τ.isAgg with
   | true=>rw [ha] at hx; simp at hx
   | false =>
    rw [ha] at hx
    simp only [cond_false] at hx
    have hc:∀ a',aE m.G τ a'=some x→(bE d τ [a']).1=true→ay m.G τ [a']=some (x,[]):=by
     intro a' h1 h2
     cases τ <;> simp only [bE] at h2 <;> try (simp at h2; done)
     all_goals first
      | (simp only [ay,h1]; done)
      | simp [Ty.isAgg] at ha
    obtain ⟨c,k0,k1,k2⟩:=cells (us:=[u]) (l:=[_]) ⟨hr',trivial⟩ (hc _ hx ho) ho
    refine ⟨c,by rw [← k0]; exact (nk ha u).symm,k1,?_⟩
    simpa [eH,bD] using k2
theorem xZ {d:Bool} (hi:Inv C w0 M m) (hG:m.G=s.G) {m2:Mem} (hw:m2.w=m.w) (hF:∀ b,m.F b→m2.F b):∀ {outs:oF} {us:List Value} {x:(aB ((outs.map (·.2)).map (·.2))).den},IL m s outs us x→ii d s outs=true →
  (∀ b,Thru m (aV s false outs) b→m2.F b) →
  ∃ css,us=kg (outs.map (·.2)) css∧OutsRd m2.w m2.F d (outs.map (·.2)) css x∧HdrsOf m (bZ (outs.map (·.2)) css) (aV s true outs)
 | [],[],_,_,_,_=>⟨[],rfl,trivial,HdrsOf.nil _ _⟩
 | [],_ :: _,_,h,_,_=>h.elim
 | _ :: _,[],_,h,_,_=>h.elim
 | (v,b,τ) :: r,u :: us,x,h,ho,hT=>by
  obtain ⟨⟨sv,h1,h2,h3⟩,h4⟩:=h
  simp only [ii,A4] at ho
  obtain ⟨ho1,ho2⟩:=ho
  have hFF:∀ b,m.F b→m2.F b∧m2.w.heap[b]?=m.w.heap[b]?:=fun b hb=>⟨hF b hb,by rw [hw]⟩
  obtain ⟨css,k1,k2,k3⟩:=xZ hi hG hw hF h4 ho2 (fun bl hb=>hT bl (Thru.mono (fun i hi=>by simp [aV,hi]) hb))
  cases b with
  | true =>
   simp only [cond_true,h1] at ho1
   obtain ⟨cs,c1,c2,c3⟩:=G7 hi h2 (hG ▸ h3) ho1
   refine ⟨cs :: css,by simp only [Li,kg,cond_true]; rw [← c1,← k1],⟨c2.mono hFF (fun _ _ _ _=>by rw [hw]),k2⟩,?_⟩
   have e:aV s true ((v,true,τ) :: r)=eH m.G sv++aV s true r:=by simp [aV,h1,hG]
   rw [e]
   exact c3.append hi k3
  | false =>
   obtain ⟨cs,c1,c2⟩:=dF hi (hG ▸ h3) h2
   refine ⟨cs :: css,by simp only [Li,kg,cond_false]; rw [← c1,← k1],⟨c2.mono fun bl hb=>⟨hT bl (Thru.mono (fun i hi=>by simp [aV,h1]; exact .inl (hG ▸ hi)) hb),by rw [hw]⟩,k2⟩,?_⟩
   have e:aV s true ((v,false,τ) :: r)=aV s true r:=by simp [aV,h1]
   rw [e]
   simpa [bZ] using k3
end
end Go.Vm

/-
 A function's contract, from its body.
-/
namespace Go.Vm
section
variable {P:Program} {C:Ctx} {w0:World} {M:Own} {N:Nat} {A:Anns} {a:Act} {m:Mem} {s:St}
def dZ (ins:List (Mode×Ty)) (us:List Value) (i:Nat):Option Value:=match ins[i]? with
 | some (.upd,_)=>(us[i]?).map aJ
 | some (.box _,_)=>(us[i]?).map aJ
 | _=>none
def FN:Mode→Bool
 | .upd=>true
 | .box _=>true
 | _=>false
theorem DQ {ins:List (Mode×Ty)} {us:List Value} {i:Nat} {md:Mode} {τ : Ty} {u:Value} (h:ins[i]?=some (md,τ)) (hm:FN md=true) (hu:us[i]?=some u):dZ ins us i=some (aJ u):=by
 unfold dZ
 rw [h]
 cases md <;> simp_all [FN]
theorem k9 (hi:Inv C w0 M m) (hG:m.G=s.G) {m2:Mem} (hw:m2.w=m.w) (hF:∀ b,m.F b→m2.F b):∀ {ins:List (Mode×Ty)} {us:List Value} {x:(aB (ins.map (·.2))).den} {y:(aB (aY ins)).den} {w1:World} {F1:Nat→Prop} (k:Nat),ArgsRd w1 F1 ins us x→ce s ins k=some y→aK (bQ true s.G ins k)=true →
  (∀ b,Thru m (bQ false s.G ins k) b→m2.F b) →
  (∀ j u md τ,ins[j]?=some (md,τ)→FN md=true→us[j]?=some u→∀ o,m.G.get (k+j)=some o→isObj o=true→m.ι (k+j)=aJ u) →
  ∃ us',mB ins us us'∧MutsRd m2.w m2.F ins us' y∧HdrsOf m (aX ins us') (bQ true s.G ins k)
 | [],[],x,y,w1,F1,k,_,_,_,_,_=>⟨[],trivial,trivial,HdrsOf.nil _ _⟩
 | [],_ :: _,_,_,_,_,_,h,_,_,_,_=>h.elim
 | _ :: _,[],_,_,_,_,_,h,_,_,_,_=>h.elim
 | (.rd,τ) :: r,u :: us,x,y,w1,F1,k,ha,h,hn,hT,hp=>by
  obtain ⟨us',h1,h2,h3⟩:=k9 hi hG hw hF (ins:=r) (us:=us) (y:=y) (k+1) ha.2 h hn hT (fun j u md τ hj hm hu o ho hob=>by have:=hp (j+1) u md τ (by simpa using hj) hm (by simpa using hu) o (by rw [show k+(j+1)=k+1+j by omega]; exact ho) hob; rw [show k+(j+1)=k+1+j by omega] at this; exact this)
  exact ⟨u :: us',⟨rfl,h1⟩,h2,h3⟩
 | (.take,τ) :: r,u :: us,x,y,w1,F1,k,ha,h,hn,hT,hp=>by
  obtain ⟨us',h1,h2,h3⟩:=k9 hi hG hw hF (ins:=r) (us:=us) (y:=y) (k+1) ha.2 h hn hT (fun j u md τ hj hm hu o ho hob=>by have:=hp (j+1) u md τ (by simpa using hj) hm (by simpa using hu) o (by rw [show k+(j+1)=k+1+j by omega]; exact ho) hob; rw [show k+(j+1)=k+1+j by omega] at this; exact this)
  exact ⟨u :: us',⟨rfl,h1⟩,h2,h3⟩
 | (.upd,τ) :: r,u :: us,x,y,w1,F1,k,ha,h,hn,hT,hp=>by
  cases τ with
  | slice e =>
    cases hg:s.G.get k with
    | none=>simp [ce,hg] at h
    | some ob =>
   cases ob with
   | box _=>simp [ce,hg] at h
   | dead=>simp [ce,hg] at h
   | deep _ _ _ _=>simp [ce,hg] at h
   | map _ _ _=>simp [ce,hg] at h
   | arr σ l =>
   unfold ce at h
   rw [hg] at h
   dsimp only at h
   split at h
   ·rename_i x hx
    split at h
    ·rename_i z hz
     have h:=B4 h
     subst h
     obtain ⟨he,hx⟩:=au hx
     cases he
     subst hx
     have e1:bQ true s.G ((.upd,.slice e) :: r) k=[k]++bQ true s.G r (k+1):=rfl
     have e2:bQ false s.G ((.upd,.slice e) :: r) k=bQ false s.G r (k+1):=rfl
     rw [e1] at hn ⊢
     rw [e2] at hT
     obtain ⟨n1,n2,n3⟩:=aT hn
     obtain ⟨us',h1,h2,h3⟩:=k9 hi hG hw hF (ins:=r) (us:=us) (y:=z) (k+1) ha.2 hz n2 hT (fun j u md τ hj hm hu o ho hob=>by have:=hp (j+1) u md τ (by simpa using hj) hm (by simpa using hu) o (by rw [show k+(j+1)=k+1+j by omega]; exact ho) hob; rw [show k+(j+1)=k+1+j by omega] at this; exact this)
     have hι:=hp 0 u .upd _ rfl rfl rfl _ (by rw [L7,hG]; exact hg) rfl
     rw [L7,bV (nC ha.1)] at hι
     have hobj:HdrW m.w m.F u e l:=by
      have:=hi.objs k _ (hG ▸ hg)
      rw [← hι]; exact this
     refine ⟨u :: us',⟨rfl,h1⟩,⟨hobj.mono (fun b hb=>⟨hF b hb,by rw [hw]⟩) (fun _ _=>by rw [hw]),h2⟩,?_⟩
     refine HdrsOf.cons hi ⟨?_,fun _=>LP _ _⟩ h3
     rintro b ⟨u',hu',hb⟩
     simp only [LD] at hu'
     subst hu'
     exact ⟨k,_,by simp,hG ▸ hg,rfl,by rw [hι]; exact hb⟩
    ·simp at h
   ·simp at h
  | _=>simp [ce] at h
 | (.box kd,τ) :: r,u :: us,x,y,w1,F1,k,ha,h,hn,hT,hp=>by
  cases τ with
  | ptr T =>
    cases hg:s.G.get k with
    | none=>simp [ce,hg] at h
    | some ob =>
   cases ob with
   | arr _ _=>simp [ce,hg] at h
   | dead=>simp [ce,hg] at h
   | deep _ _ _ _=>simp [ce,hg] at h
   | map _ _ _=>simp [ce,hg] at h
   | box l =>
   unfold ce at h
   rw [hg] at h
   dsimp only at h
   cases ho:(jo kd 0 T l).1 with
   | false=>rw [ho] at h; simp at h
   | true =>
   rw [ho] at h
   simp only [cond_true] at h
   split at h
   ·rename_i x1 hx
    split at h
    ·rename_i z hz
     have h:=B4 h
     subst h
     have e1:bQ true s.G ((.box kd,.ptr T) :: r) k=cG true kd m.G (.av (.ptr k 0))++bQ true s.G r (k+1):=by rw [hG]; rfl
     have e2:bQ false s.G ((.box kd,.ptr T) :: r) k=cG false kd m.G (.av (.ptr k 0))++bQ false s.G r (k+1):=by rw [hG]; rfl
     rw [e1] at hn ⊢
     rw [e2] at hT
     obtain ⟨n1,n2,n3⟩:=aT hn
     obtain ⟨us',h1,h2,h3⟩:=k9 hi hG hw hF (ins:=r) (us:=us) (y:=z) (k+1) ha.2 hz n2 (fun b hb=>hT b (Thru.mono (fun i hi=>by simp [hi]) hb)) (fun j u md τ hj hm hu o ho hob=>by have:=hp (j+1) u md τ (by simpa using hj) hm (by simpa using hu) o (by rw [show k+(j+1)=k+1+j by omega]; exact ho) hob; rw [show k+(j+1)=k+1+j by omega] at this; exact this)
     have hι:=hp 0 u (.box kd) _ rfl rfl rfl _ (by rw [L7,hG]; exact hg) rfl
     rw [L7] at hι
     obtain ⟨b,c,el,q1,_⟩:=hi.objs k _ (hG ▸ hg)
     have hra:ae m (aJ u) (.ptr k 0):=⟨by rw [← hι,q1]; rfl,.box l,hG ▸ hg,b,q1,by rw [← hι,q1]⟩
     obtain ⟨t,t1,t2,t3,_⟩:=xV hi (Fr:=m2.F) hF (hG ▸ hg) hra (by rw [hG]; exact hx) (rest':=(jo kd 0 T l).2) (by rw [← ho]) (.inl rfl) n1 (fun b hb=>hT b (Thru.mono (fun i hi=>by simp [hi]) hb))
     exact ⟨t :: us',⟨t1,h1⟩,⟨by rw [hw]; exact t2,h2⟩,t3.cons hi h3⟩
    ·simp at h
   ·simp at h
  | _=>simp [ce] at h
end
end Go.Vm

/-
 A function's contract, from its body: the whole.
-/
namespace Go.Vm
section
variable {P:Program} {C:Ctx} {A:Anns}
theorem iN:∀ (outs m:List Ty) (x:(aB outs).den) (y:(aB m).den),ep outs m (kI outs m x y)=(x,y)
 | [],_,_,_=>rfl
 | _ :: r,m,x,y=>by
  show ((x.1,(ep r m (kI r m x.2 y)).1),(ep r m (kI r m x.2 y)).2)=(x,y)
  rw [iN r m]
  rfl
def vE (A:Anns) (ins:List (Mode×Ty)):Bool:=A.all fun p=>(kT ins 0).all fun i=>(p.2.head.pins.any fun j=>A8 i j) && p.2.exits.all fun e=>e.2.pins.any fun j=>A8 i j
theorem Anns.mem_of_get {A:Anns} {key:Nat} {ann:Ann} (h:A.get key=some ann):∃ k,(k,ann)∈A:=by
 induction A with
 | nil=>simp [Anns.get] at h
 | cons p r ih =>
  obtain ⟨k,v⟩:=p
  simp only [Anns.get] at h
  cases hk:A8 k key with
  | true=>rw [hk] at h; simp at h; subst h; exact ⟨k,by simp⟩
  | false=>rw [hk] at h; obtain ⟨k',hk'⟩:=ih h; exact ⟨k',by simp [hk']⟩
theorem AP:∀ {ins:List (Mode×Ty)} {us:List Value} {i:Nat} {v:Value} (k:Nat),dZ ins us i=some v→k+i∈kT ins k
 | [],us,i,v,k,h=>by simp [dZ] at h
 | (md,τ) :: r,us,0,v,k,h=>by
  cases md <;> simp [dZ] at h <;> simp [kT]
 | (md,τ) :: r,[],i+1,v,k,h=>by
  unfold dZ at h
  split at h <;> simp at h
 | (md,τ) :: r,u :: us,i+1,v,k,h=>by
  have h':dZ r us i=some v:=by
   unfold dZ at h ⊢
   simpa using h
  have:=AP (k+1) h'
  have e:k+(i+1)=k+1+i:=by omega
  cases md <;> simp only [kT] <;> rw [e] <;> simp [this]
theorem pv {w:World} {F:Nat→Prop}:∀ {ins:List (Mode×Ty)} {us:List Value} {x:(aB (ins.map (·.2))).den} {i:Nat} {v:Value} (k:Nat),ArgsRd w F ins us x→dZ ins us i=some v→∃ o,(aU ins k x).get (k+i)=some o
 | [],us,x,i,v,k,_,h=>by simp [dZ] at h
 | _ :: _,[],_,_,_,_,h,_=>h.elim
 | (md,τ) :: r,u :: us,x,0,v,k,ha,h=>by
  cases md <;> simp [dZ] at h
  ·cases τ with
   | slice e=>exact ⟨_,by simp only [aU,L7]; rw [Heap.get_cons,if_pos rfl]⟩
   | _=>exact ha.1.elim
  ·cases τ with
   | ptr e=>exact ⟨_,by simp only [aU,L7]; rw [Heap.get_cons,if_pos rfl]⟩
   | _=>exact ha.1.elim
 | (md,τ) :: r,u :: us,x,i+1,v,k,ha,h=>by
  have h':dZ r us i=some v:=by
   unfold dZ at h ⊢
   simpa using h
  obtain ⟨o,ho⟩:=pv (x:=x.2) (k+1) ha.2 h'
  have e:k+(i+1)=k+1+i:=by omega
  rw [e]
  cases md with
  | rd=>exact ⟨o,ho⟩
  | upd =>
   cases τ with
   | slice e=>refine ⟨o,?_⟩; simp only [aU]; rw [Heap.get_cons,if_neg (by omega)]; exact ho
   | _=>exact ha.1.elim
  | take =>
   cases τ with
   | slice e=>refine ⟨o,?_⟩; simp only [aU]; rw [Heap.get_cons,if_neg (by omega)]; exact ho
   | _=>exact ha.1.elim
  | box kd =>
   cases τ with
   | ptr e=>refine ⟨o,?_⟩; simp only [aU]; rw [Heap.get_cons,if_neg (by omega)]; exact ho
   | _=>exact ha.1.elim
theorem ArgsRd.len {w:World} {F:Nat→Prop}:∀ {ins:List (Mode×Ty)} {us:List Value} {x:(aB (ins.map (·.2))).den},ArgsRd w F ins us x→us.length=ins.length
 | [],[],_,_=>rfl
 | [],_ :: _,_,h=>h.elim
 | _ :: _,[],_,h=>h.elim
 | _ :: _,_ :: _,_,h=>by simp [ArgsRd.len h.2]
theorem Ee {w:World} {F:Nat→Prop} {ins:List (Mode×Ty)} {us:List Value} {x:(aB (ins.map (·.2))).den} (hp:Pre C.glob w F ins us x) (n:Nat) {G:Heap} (hfill:bH ins (vJ ins 0) (jR ins x) 0 (aU ins 0 x)=some G) :
  ∃ m,m.w=w∧m.G=G∧Sim C w ⟨cP (ax ins us),F,dZ ins us⟩ n { tmps:=(us.map aJ).toArray++Nd (n - (us.map aJ).toArray.size) undef,defers:=[] } m (fh ins 0 x):=by
 let m0:Mem:=⟨w,F,fun i=>aJ (us.getD i undef),aU ins 0 x⟩
 have hι : ∀ i u,us[i - 0]?=some u→m0.ι i=aJ u:=by intro i u h; simp at h; simp [m0,h]
 have hi0:Inv C w ⟨cP (ax ins us),F,dZ ins us⟩ m0:=by
  refine ⟨Kept.refl _ _,?_,?_,?_,hp.fro,hp.glob,fun b hb=>.inl hb,?_⟩
  ·intro i o ho
   obtain ⟨_,u,h1,_,_,h2⟩:=bi 0 hp.args i o ho
   exact h2.rel m0 i rfl rfl (hι i u h1)
  ·intro i o b ho _ hb
   obtain ⟨_,u,h1,h3,_,h2⟩:=bi 0 hp.args i o ho
   rw [hι i u h1] at hb
   have hb:=h2.hb b hb
   obtain ⟨k1,k2⟩:=hp.own u h3 b hb
   exact ⟨.inr ⟨u,h3,hb⟩,k1,k2⟩
  ·intro i j o p b ho _ hq _ h1 h2
   obtain ⟨_,u,k1,_,_,k3⟩:=bi 0 hp.args i o ho
   obtain ⟨_,v,k2,_,_,k4⟩:=bi 0 hp.args j p hq
   rw [hι i u k1] at h1
   rw [hι j v k2] at h2
   exact ic 0 hp.args hp.apart i j o p b u v ho hq k1 k2 (k3.hb b h1) (k4.hb b h2)
  ·intro i v hv
   obtain ⟨o,ho⟩:=pv 0 hp.args hv
   rw [Ln] at ho
   obtain ⟨_,u,h1,_,_,h2⟩:=bi 0 hp.args i o ho
   refine ⟨_,ho,fun _=>⟨?_,h2.deep⟩⟩
   have hv:dZ ins us i=some v:=hv
   rw [hι i u h1]
   simp only [Nv] at h1
   unfold dZ at hv
   split at hv
   ·simp [h1] at hv; exact hv
   ·simp [h1] at hv; exact hv
   ·simp at hv
 obtain ⟨m,a1,a2,a3,a4,a5⟩:=dv (m:=m0) (us:=us) hi0 hfill (fa hp.args) (Dh 0 hp.args (fun _ _ h=>h) (fun i u hu=>by rw [Ln]; exact hι i u (by simpa using hu))) (hp.apart.sublist mut_sub) (fun u hu b hb=>by
  have hu':=mut_sub.subset hu
  have hb':=gQ hb
  obtain ⟨k1,k2⟩:=hp.own u hu' b hb'
  refine ⟨.inr ⟨u,hu',hb'⟩,k1,k2,fun i o ho _ hbl=>?_⟩
  obtain ⟨_,v,h1,_,h3,_⟩:=bi 0 hp.args i o ho
  rw [hι i v h1] at hbl
  exact fm hp.args hp.apart u hu' b hb ⟨_,h3,hbl⟩)
 refine ⟨m,a1,a3,a4,rfl,by simp; omega,?_⟩
 intro t
 rcases lm 0 hp.args t with h | ⟨u,_,h1,h2⟩
 ·rw [h]; trivial
 ·have ht:((us.map aJ).toArray++Nd (n - (us.map aJ).toArray.size) undef).getD t undef=aJ u:=by
   simp only [Nv] at h1
   have:=(List.getElem?_eq_some_iff.1 h1).1
   rw [Md,Array.getElem?_append_left (by simpa using this)]
   simp [h1]
  rw [ht]
  refine gC a5 ?_
  rcases h2 with ⟨τ,y,cs,h3,h4,h5⟩ | ⟨h3,o,h5⟩ | ⟨h3,l,h5⟩
  ·rw [h3]; exact ⟨cs,h4,h5⟩
  ·rw [h3]
   obtain ⟨_,v,h6,_,_,h7⟩:=bi 0 hp.args t o h5
   rw [h1] at h6
   simp only [A1] at h6
   subst h6
   exact (ah (a:=.own t) (by intros; simp)).2 ⟨h7.one,o,h5,fun _=>(hι t u h1).symm⟩
  ·rw [h3]
   obtain ⟨_,v,h6,_,_,h7⟩:=bi 0 hp.args t _ h5
   rw [h1] at h6
   simp only [A1] at h6
   subst h6
   obtain ⟨b,c,el,q1,_⟩:=h7.rel m0 t rfl rfl (hι t u h1)
   exact (ah (a:=.ptr t 0) (by intros; simp)).2 ⟨h7.one,_,h5,b,q1,by rw [← hι t u h1,q1]⟩
end
end Go.Vm

/-
 A function's contract, from its body.
-/
namespace Go.Vm
section
variable {P:Program} {C:Ctx} {A:Anns}
theorem IY {d:Bool} {w:World} {F:Nat→Prop} {ins:List (Mode×Ty)} {us:List Value} {x:(aB (ins.map (·.2))).den} (hp:Pre C.glob w F ins us x) {N:Nat} {a:Act} {m:Mem} {s:St}
  (hs:Sim C w ⟨cP (ax ins us),F,dZ ins us⟩ N a m s.env) (hG:m.G=s.G) {outs:oF} {r:(aB ((outs.map (·.2)).map (·.2)++aY ins)).den} (h:xx ins outs s d=some r) (hk:tv P outs=true) :
  ∃ vs:List Value,((outs.map (·.1)).mapM (ou a)).run P m.w=.ok vs m.w∧∃ us' F2 css,mB ins us us'∧PostB w F ins us us' (outs.map (·.2)) r (iI vs) m.w F2 css d:=by
 unfold xx at h
 cases hc:(ii d s outs && aK (aV s true outs) && e9 (aV s true outs) (aV s false outs) && e9 (aV s true outs) (bQ true s.G ins 0) && e9 (aV s false outs) (bQ true s.G ins 0)
   && aK (bQ true s.G ins 0) && e9 (aV s true outs) (bQ false s.G ins 0) && e9 (bQ false s.G ins 0) (bQ true s.G ins 0)) with
 | false=>rw [hc] at h; simp at h
 | true =>
  rw [hc] at h
  simp only [cond_true] at h
  simp only [A4] at hc
  obtain ⟨⟨⟨⟨⟨⟨⟨c1,c2⟩,c3⟩,c4⟩,c5⟩,c6⟩,c7⟩,c8⟩:=hc
  split at h
  ·rename_i xr hxr
   split at h
   ·rename_i y hy
    have h:=B4 h
    subst h
    obtain ⟨vs,r1,r2⟩:=pM (P:=P) hs hG hxr hk
    obtain ⟨m2,a1,a2,a3,a4,a5,a6⟩:=cS (aV s false outs++bQ false s.G ins 0) hs.inv
    let m3:Mem:=⟨m2.w,fun b=>m2.F b∨F b,m2.ι,m2.G⟩
    have hF:∀ b,m.F b→m3.F b:=fun b hb=>.inl (a5.fro b hb).1
    obtain ⟨css,k1,k2,k3⟩:=xZ (m2:=m3) hs.inv hG a1 hF r2 c1 (fun b hb=>.inl (a6 b (Thru.mono (fun i hi=>by simp [hi]) hb)))
    obtain ⟨us',e0,e1,e2⟩:=k9 (m2:=m3) hs.inv hG a1 hF (ins:=ins) (us:=us) 0 hp.args hy c6 (fun b hb=>.inl (a6 b (Thru.mono (fun i hi=>by simp [hi]) hb))) (fun j u md τ hj hm hu o ho hob=>by
     rw [Ln] at ho ⊢
     obtain ⟨o',q1,q2⟩:=hs.inv.pin j (aJ u) (show dZ ins us j=some (aJ u) from DQ hj hm hu)
     rw [ho] at q1
     simp only [A1] at q1
     subst q1
     exact (q2 hob).1)
    -- every such block is an object's that lives,and that no other result is read through
    have live:∀ b,cP (bZ (outs.map (·.2)) css++aX ins us') b→∃ id o,id∉aV s false outs++bQ false s.G ins 0∧m.G.get id=some o∧isObj o=true∧HB (m.ι id) b:=by
     rintro b ⟨u,hu,hb⟩
     rcases B1.1 hu with hu | hu
     ·obtain ⟨id,o,j1,j2⟩:=k3.1 b ⟨u,hu,hb⟩
      refine ⟨id,o,fun hn=>?_,j2⟩
      rcases B1.1 hn with hn | hn
      ·exact eO c3 j1 hn
      ·exact eO c7 j1 hn
     ·obtain ⟨id,o,j1,j2⟩:=e2.1 b ⟨u,hu,hb⟩
      refine ⟨id,o,fun hn=>?_,j2⟩
      rcases B1.1 hn with hn | hn
      ·exact eO c5 hn j1
      ·exact eO c8 hn j1
    refine ⟨vs,r1,us',m3.F,css,e0,?_,?_,?_,by rw [k1],?_,?_,?_,?_⟩
    ·exact hs.inv.kept
    ·intro b hb
     exact .inr hb
    ·rintro b (hb | hb)
     ·have q1:=a4.fro b hb
      rw [a1] at q1
      exact ⟨q1,a4.bnd b hb⟩
     ·exact ⟨LA (hp.fro b hb) hs.inv.kept.size,.inl hb⟩
    ·rw [iN,← a1]; exact k2
    ·rw [iN,← a1]; exact e1
    ·refine Mm.2 ⟨k3.2 c2,e2.2 c6,?_⟩
     intro u hu v hv b hb hb'
     obtain ⟨id,o,j1,j2,j3,j4⟩:=k3.1 b ⟨u,hu,hb⟩
     obtain ⟨id',o',l1,l2,l3,l4⟩:=e2.1 b ⟨v,hv,hb'⟩
     have:=hs.inv.inj id id' o o' b j2 j3 l2 l3 j4 l4
     subst this
     exact eO c4 j1 l1
    ·intro u hu b hb
     obtain ⟨id,o,j1,j2,j3,j4⟩:=live b ⟨u,hu,hb⟩
     obtain ⟨q1,q2,q3⟩:=hs.inv.own id o b j2 j3 j4
     have:=a4.own id o b (by rw [a3,bu _ _ id j1]; exact j2) j3 (by rw [a2]; exact j4)
     refine ⟨q1,?_,q3⟩
     rintro (hb' | hb')
     ·exact this.2.1 hb'
     ·rcases q1 with q1 | ⟨v,hv,hvb⟩
      ·have:=hp.fro b hb'
       omega
      ·exact (hp.own v hv b hvb).1 hb'
   ·simp at h
  ·simp at h
end
end Go.Vm

/-
 A function's contract, from its body: the join.
-/
namespace Go.Vm
section
variable {P:Program} {C:Ctx} {A:Anns}
theorem Di {d:Bool} {f:FuncId} {fn:Func} {body:Code} {ins:List (Mode×Ty)} {outs:oF} {M:(aB (ins.map (·.2))).den→Option (aB ((outs.map (·.2)).map (·.2)++aY ins)).den}
  (hC : CtxOK P C) (hD : zu P) (hf : P.funcs[f]? = some fn) (hb : fn.body = some body) (hn : (fn.name == "runtime.NumGoroutine") = false) (hL : qo C A (cw body)) (hd : ko fn.ntmps body = true)
  (hpins:vE A ins=true) (hres:fn.results=(outs.map (·.1)).toArray) (hk:tv P outs=true) (heq:∀ x,qP C A body ins outs x d=M x) :
  Con.Holds P C.glob f ⟨ins,outs.map (·.2),M,d⟩:=by
 intro w F us x r hp hM
 have hn' : ¬ fn.name = "runtime.NumGoroutine" := by simpa using hn
 refine .inl ⟨by simp [callFunc,hf,hn',hb],?_⟩
 refine calls_of_wp hf hb ?_
 have hx:qP C A body ins outs x d=some r:=(heq x).trans hM
 unfold qP at hx
 split at hx
 case h_2=>cases hx
 rename_i G0 hG0
 obtain ⟨m0,hw0,hGm,hs⟩:=Ee hp fn.ntmps hG0
 have hPin:HO ⟨cP (ax ins us),F,dZ ins us⟩ A:=by
  intro key ann hann
  obtain ⟨k,hmem⟩:=Anns.mem_of_get hann
  unfold vE at hpins
  rw [Lg] at hpins
  have h1:=hpins _ hmem
  rw [Lg] at h1
  have h2:∀ i v,dZ ins us i=some v→i∈kT ins 0:=fun i v hv=>by have:=AP 0 hv; rwa [Ln] at this
  refine ⟨fun i v hv=>?_,fun e sh hsh i v hv=>?_⟩
  ·have:=h1 i (h2 i v hv)
   simp only [A4] at this
   exact gI.1 this.1
  ·have:=h1 i (h2 i v hv)
   simp only [A4] at this
   have h3:=this.2
   rw [Lg] at h3
   exact gI.1 (h3 _ hsh)
 have fin {s':St} {a':Act} {m':Mem} (h1:xx ins outs s' d=some r) (h2:m'.G=s'.G) (h3:Sim C w ⟨cP (ax ins us),F,dZ ins us⟩ fn.ntmps a' m' s'.env) :
   a'.defers=[]∧∃ v,(Go.results fn a'.tmps).run P m'.w=.ok v m'.w∧∃ v',Ending.returned v=.returned v'∧∃ us' F2 css,mB ins us us'∧PostB w F ins us us' (outs.map (·.2)) r v' m'.w F2 css d:=by
  obtain ⟨vs,e1,us',F2,css,e0,e2⟩:=IY (P:=P) hp h3 h2 h1 hk
  refine ⟨h3.defers,iI vs,?_,_,rfl,us',F2,css,e0,e2⟩
  have hrun:(Go.results fn a'.tmps).run P m'.w=(((outs.map (·.1)).mapM (ou a')).run P m'.w).andThen fun vs w'=>.ok (iI vs) w':=by
   have hf':Go.results fn a'.tmps=(do let vs ← fn.results.mapM (ou a'); pure (if h:vs.size=1 then vs[0] else .tuple vs)):=by
    unfold Go.results
    congr 1
   rw [hf',hres]
   simp only [Array.mapM_eq_mapM_toList,Sem.run_bind,map_eq_pure_bind,bind_assoc,pure_bind,Sem.run_pure]
   congr 1
   funext l w'
   match l with
   | []=>rfl
   | [u]=>rfl
   | _ :: _ :: _=>simp [iI]
  rw [hrun,e1]
  rfl
 subst hw0
 refine GM (s:={ env:=fh ins 0 x,G:=G0 }) hC hD hPin body hL hd hs hGm hx ?_
 intro e s' a' m' h1 h2 h3
 cases e with
 | normal=>exact fin h1 h2 h3
 | exit i=>simp at h1
 | ret=>exact fin h1 h2 h3
end
end Go.Vm

