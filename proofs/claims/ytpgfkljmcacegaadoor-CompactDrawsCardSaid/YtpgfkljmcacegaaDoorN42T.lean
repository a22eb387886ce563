/-
 The law CompactDraws on values.
-/
import Derived.Test.YtpgfkljmcacegaaDoorN42S
set_option linter.unusedVariables false
set_option linter.unusedSimpArgs false
namespace Go.Vm
open Go.Proofs
set_option maxRecDepth 100000
attribute [local irreducible] loopFix
theorem fold_all {α ε : Type} {f : Nat→Unit→α→Option (Unit⊕ε)} : ∀ {l : List α} {i : Nat},(∀ j a,l[j]?=some a→f (i+j) () a=some (.inl ()))→foldE f i () l=some (.inl ())
 | [],_,_=>rfl
 | a :: l,i,h=>by
  simp only [foldE]
  rw [show f i () a=some (.inl ()) from h 0 a rfl]
  refine fold_all (l:=l) (i:=i+1) fun j b hb=>?_
  have:=h (j+1) b (by simpa using hb)
  rwa [show i+(j+1)=i+1+j by omega] at this
theorem fold_each' {α ε : Type} {f : Nat→Unit→α→Option (Unit⊕ε)} : ∀ {l : List α} {i : Nat},foldE f i () l=some (.inl ())→∀ j a,l[j]?=some a→f (i+j) () a=some (.inl ())
 | [],_,_,j,a,h=>by simp at h
 | x :: l,i,h,j,a,ha=>by
  simp only [foldE] at h
  cases hx : f i () x with
  | none=>rw [hx] at h; cases h
  | some y =>
   rw [hx] at h
   cases y with
   | inr e=>cases h
   | inl u =>
    cases j with
    | zero =>
     simp at ha
     subst ha
     exact hx
    | succ j =>
     have:=fold_each' (l:=l) (i:=i+1) (by simpa using h) j a (by simpa using ha)
     rwa [show i+(j+1)=i+1+j by omega]
section
variable {N : Nat} {E : List Arc} {A : List (List Int)} {nx fw g : List Int} {B : List ByteArray} {o : Int} {k X Y : Nat→Int}
theorem coord_of (h : RotOK (N : Nat) E A) (hk : Dirs E.length (nxN fw) (gN g) k) {R S : Nat→Nat} (hR : ∀ v,v < N→Up (tln E) E.length k 1 (R v) v∧(∀ n,Up (tln E) E.length k 1 n v→n≤R v)∧R v < N) (hS : ∀ v,v < N→Up (tln E) E.length k 2 (S v) v∧(∀ n,Up (tln E) E.length k 2 n v→n≤S v)∧S v < N) :
  Coord E k (fun v=>(R v : Int)) (fun v=>(S v : Int)):=by
 have lt : ∀ d,d < 2 * E.length→tln E d < N:=fun d hd=>(tln_eq h hd).2
 have side : ∀ {a : Int} {T : Nat→Nat},(∀ v,v < N→Up (tln E) E.length k a (T v) v∧(∀ n,Up (tln E) E.length k a n v→n≤T v)∧T v < N)→∀ d,d < 2 * E.length→k d % 2≠a % 2→(T (tln E (oth d)) : Int)=T (tln E d):=by
  intro a T hT d hd hs
  have h1:=(hT _ (lt _ (oth_lt hd))).2.1 _ (.side (hT _ (lt d hd)).1 hd hs)
  have h2:=(hT _ (lt d hd)).2.1 _ (by
   have:=Up.side (hT _ (lt _ (oth_lt hd))).1 (oth_lt hd) (by rw [side_oth hk hd]; exact hs)
   rwa [oth_oth] at this)
  omega
 have along : ∀ {a : Int} {T : Nat→Nat},(∀ v,v < N→Up (tln E) E.length k a (T v) v∧(∀ n,Up (tln E) E.length k a n v→n≤T v)∧T v < N)→∀ d,d < 2 * E.length→k d=a→(T (tln E d) : Int)+1≤T (tln E (oth d)):=by
  intro a T hT d hd hs
  have h1:=(hT _ (lt _ (oth_lt hd))).2.1 _ (.along (hT _ (lt d hd)).1 hd hs)
  omega
 have opp : ∀ d,d < 2 * E.length→(k d=3→k (oth d)=1)∧(k d=0→k (oth d)=2):=fun d hd=>by
  have a:=hk.nn d hd
  have b:=hk.nn _ (oth_lt hd)
  have c:=hk.oth d hd
  constructor <;> intro e <;> omega
 refine ⟨fun d hd e=>⟨along hR d hd e,side hS d hd (by rw [e]; decide)⟩,fun d hd e=>?_,fun d hd e=>?_,fun d hd e=>⟨along hS d hd e,side hR d hd (by rw [e]; decide)⟩⟩
 ·have:=along hR _ (oth_lt hd) ((opp d hd).1 e)
  rw [oth_oth] at this
  exact ⟨this,side hS d hd (by rw [e]; decide)⟩
 ·have:=along hS _ (oth_lt hd) ((opp d hd).2 e)
  rw [oth_oth] at this
  exact ⟨this,side hR d hd (by rw [e]; decide)⟩
theorem draw_of (h : ShapeOK N E A g B o nx) (ff : Fol id E A fw) (hk : Dirs E.length (nxN fw) (gN g) k) (hE : 0 < E.length) (hb : ∀ k,k < 2 * E.length→(at0 B k).size=0) (hr : rectB g o (facesOf nx)=true) (hC : Coord E k X Y) :
  ∃ xl xr yt yb,DrwOK N E nx fw g k X Y (facesOf nx).length (fcn E nx o.toNat) xl xr yt yb:=by
 have p:=shape_plane h ff hE hb
 have hn:=h.folOK
 have h0:=h.out0
 obtain ⟨q,rfl⟩ : ∃ q : Nat,o=(q : Int):=⟨o.toNat,by omega⟩
 rw [Int.toNat_natCast]
 have hq : q < 2 * E.length:=by rcases h.out1 with h | h <;> omega
 have hw : ∀ (c : Nat) (f : List Int),(facesOf nx)[c]?=some f→wOf (q : Int) f=if c=fcn E nx q then -1 else 1:=by
  intro c f hf
  unfold wOf inB
  by_cases e : c=fcn E nx q
  ·obtain ⟨f',f1,f2,_⟩:=fcn_face h.rot hn hq
   rw [← e,hf] at f1
   have : f=f':=Option.some.inj f1
   subst this
   rw [if_pos e]; simp [f2]
  ·rw [if_neg e]
   have : (q : Int)∉f:=fun hm=>e (fcn_of h.rot hn hf hm).symm
   simp [this]
 have hR : ∀ (c : Nat) (f : List Int),(facesOf nx)[c]?=some f→faceR g (wOf (q : Int) f) f=true:=by
  intro c f hf
  unfold rectB at hr
  rw [List.all_eq_true] at hr
  exact hr f (List.mem_of_getElem? hf)
 have hex : ∀ c,∃ z : Int×Int×Int×Int,c < (facesOf nx).length→RectF E k X Y (fun d=>d < 2 * E.length∧fcn E nx d=c) (if c=fcn E nx q then -1 else 1) z.1 z.2.1 z.2.2.1 z.2.2.2:=by
  intro c
  by_cases hc : c < (facesOf nx).length
  ·have hf:=List.getElem?_eq_getElem hc
   obtain ⟨a,b,c',d,R⟩:=rect_face h ff p hk hC hf (w:=wOf (q : Int) (facesOf nx)[c]) (by rw [hw c _ hf]; split <;> simp) (hR c _ hf)
   rw [hw c _ hf] at R
   exact ⟨(a,b,c',d),fun _=>R⟩
  ·exact ⟨(0,0,0,0),fun h=>absurd h hc⟩
 refine ⟨fun c=>(Classical.choose (hex c)).1,fun c=>(Classical.choose (hex c)).2.1,fun c=>(Classical.choose (hex c)).2.2.1,fun c=>(Classical.choose (hex c)).2.2.2,p,hk,hC,p.fct q hq,fun c hc=>Classical.choose_spec (hex c) hc,fun d hd=>?_,hE⟩
 obtain ⟨f,f1,f2,_⟩:=fcn_face h.rot hn (oth_lt hd)
 have hv:=(faceR_val (hR _ f f1)).2 _ f2
 rw [Int.toNat_natCast,oth_oth,hw _ f f1] at hv
 constructor
 ·intro e
  rw [if_pos e] at hv
  omega
 ·intro e
  rw [if_neg e] at hv
  omega
theorem pts_get {R S : Nat→Nat} {v : Nat} (hv : v < N) : (ptsL R S N)[v]?=some (ptV (fun v=>(R v : Int)) (fun v=>(S v : Int)) v):=by
 unfold ptsL ptV
 rw [List.getElem?_map,List.getElem?_range hv]; rfl
theorem places_draw (h : ShapeOK N E A g B o nx) (ff : Fol id E A fw) (hk : Dirs E.length (nxN fw) (gN g) k) (hE : 0 < E.length) (hb : ∀ k,k < 2 * E.length→(at0 B k).size=0) (hr : rectB g o (facesOf nx)=true) {R S : Nat→Nat}
  (hR : ∀ v,v < N→Up (tln E) E.length k 1 (R v) v∧(∀ n,Up (tln E) E.length k 1 n v→n≤R v)∧R v < N) (hS : ∀ v,v < N→Up (tln E) E.length k 2 (S v) v∧(∀ n,Up (tln E) E.length k 2 n v→n≤S v)∧S v < N) : chkB (N : Int) E A k (ptsL R S N):=by
 have hC:=coord_of h.rot hk hR hS
 obtain ⟨xl,xr,yt,yb,D⟩:=draw_of h ff hk hE hb hr hC
 have hn16:=h.rot.n16
 have hlen : (ptsL R S N).length=N:=by simp [ptsL]
 have sm : ∀ v,v < N→0≤(R v : Int)∧(R v : Int)≤16384∧0≤(S v : Int)∧(S v : Int)≤16384:=fun v hv=>by
  have:=(hR v hv).2.2
  have:=(hS v hv).2.2
  omega
 have get : ∀ {v x},(ptsL R S N)[v]?=some x→v < N∧x=ptV (fun v=>(R v : Int)) (fun v=>(S v : Int)) v:=by
  intro v x hx
  have hv : v < N:=by have:=(List.getElem?_eq_some_iff.1 hx).1; omega
  rw [pts_get hv] at hx
  exact ⟨hv,(Option.some.inj hx).symm⟩
 refine ⟨fold_all fun i x hx=>?_,fold_all fun d e he=>?_,fold_all fun i x hx=>?_⟩
 ·obtain ⟨hv,rfl⟩:=get hx
  rw [Nat.zero_add]
  unfold difS
  have s:=sm i hv
  have h1 : vP (ptV (fun v=>(R v : Int)) (fun v=>(S v : Int)) i)=true:=by
   unfold vP ptV
   simp only
   rw [geI_t (by omega),leI_t (by omega),geI_t (by omega),leI_t (by omega)]
   rfl
  have h2 : ((ptsL R S N).take i).any (eqP (ptV (fun v=>(R v : Int)) (fun v=>(S v : Int)) i))=false:=by
   rw [List.any_eq_false]
   intro y hy hq
   obtain ⟨j,hj⟩:=List.mem_iff_getElem?.1 hy
   have hji : j < i:=by have:=(List.getElem?_eq_some_iff.1 hj).1; simp at this; omega
   rw [List.getElem?_take,if_pos hji] at hj
   obtain ⟨hjN,rfl⟩:=get hj
   unfold eqP ptV at hq
   simp only [Bool.and_true,Bool.and_eq_true] at hq
   have q1 : (R i : Int)=R j:=by simpa [eqI] using hq.1
   have q2 : (S i : Int)=S j:=by simpa [eqI] using hq.2
   obtain ⟨d,d1,d2⟩:=has_dart h.rot h.conn hE hv
   obtain ⟨e,e1,e2⟩:=has_dart h.rot h.conn hE hjN
   have:=D.points d1 e1 (by rw [d2,e2]; exact q1) (by rw [d2,e2]; exact q2)
   omega
  rw [h1,h2]; rfl
 ·have hd : d < 2 * E.length:=by have:=(List.getElem?_eq_some_iff.1 he).1; rwa [dirL_len] at this
  rw [dir_get hd] at he
  have:=Option.some.inj he
  subst this
  rw [Nat.zero_add]
  unfold ledS
  have pa : ∀ d,d < 2 * E.length→ptAt (ptsL R S N) (tln E d)=ptV (fun v=>(R v : Int)) (fun v=>(S v : Int)) (tln E d):=fun d hd=>by
   have:=pts_get (R:=R) (S:=S) (tln_eq h.rot hd).2
   unfold ptAt
   rw [List.getD_eq_getElem?_getD,this]; rfl
  rw [pa d hd,pa _ (oth_lt hd)]
  have hl : ldB (ptV (fun v=>(R v : Int)) (fun v=>(S v : Int)) (tln E d)) (ptV (fun v=>(R v : Int)) (fun v=>(S v : Int)) (tln E (oth d))) (k d)=true:=by
   have kn:=hk.nn d hd
   unfold ldB ptV
   simp only
   rcases (by omega : k d=0∨k d=1∨k d=2∨k d=3) with c | c | c | c
   ·have:=hC.u d hd c
    rw [eqI_t c,cond_true,eqI_t (by omega),ltI_t (by omega)]; rfl
   ·have:=hC.r d hd c
    rw [eqI_f (by omega),cond_false,eqI_t c,cond_true,eqI_t (by omega),gtI_t (by omega)]; rfl
   ·have:=hC.dn d hd c
    rw [eqI_f (by omega),cond_false,eqI_f (by omega),cond_false,eqI_t c,cond_true,eqI_t (by omega),gtI_t (by omega)]; rfl
   ·have:=hC.l d hd c
    rw [eqI_f (by omega),cond_false,eqI_f (by omega),cond_false,eqI_f (by omega),cond_false,eqI_t (by omega),ltI_t (by omega)]; rfl
  rw [hl]; rfl
 ·have hi : i < E.length:=(List.getElem?_eq_some_iff.1 hx).1
  rw [Nat.zero_add]
  unfold inS
  refine fold_all fun j y hy=>?_
  have hj : j < i:=by have:=(List.getElem?_eq_some_iff.1 hy).1; simp at this; omega
  rw [Nat.zero_add,D.no_touch h.rot sm (fun v hv=>pts_get hv) i j (by omega) hi (by omega)]; rfl
theorem up_le' {V M : Nat} {tl : Nat→Nat} {a : Int} {Z : Nat→Int} {x0 : Int} (htl : ∀ d,d < 2 * M→tl d < V) (h0 : ∀ v,v < V→x0≤Z v) (h1 : ∀ d,d < 2 * M→k d=a→Z (tl d)+1≤Z (tl (oth d))) (h2 : ∀ d,d < 2 * M→k d % 2≠a % 2→Z (tl d)≤Z (tl (oth d))) {n v : Nat} (h : Up tl M k a n v) : v < V→x0+n≤Z v:=by
 induction h with
 | base v=>intro hv; have:=h0 v hv; omega
 | @along n d _ hd hka ih=>intro _; have:=h1 d hd hka; have:=ih (htl d hd); omega
 | @side n d _ hd hks ih=>intro _; have:=h2 d hd hks; have:=ih (htl d hd); omega
theorem min_loop (Q p : List Pt) (hp : p.length≤1000000) (hv : ∀ z∈p,vP z=true) : ∀ (r i : Nat) (x y : Int),i+r=p.length→-268435456≤x→-268435456≤y→x≤268435456→y≤268435456 →
  ∃ x' y',Zd_L10 (Q,p,x,y,(i : Int),())=some (.inl (Q,p,x',y',()))∧-268435456≤x'∧x'≤x∧-268435456≤y'∧y'≤y∧∀ j z,i≤j→p[j]?=some z→x'≤z.1∧y'≤z.2.1
 | 0,i,x,y,hi,h1,h2,_,_=>by
  refine ⟨x,y,loop_done ?_,h1,Int.le_refl _,h2,Int.le_refl _,fun j z hj hz=>by have:=(List.getElem?_eq_some_iff.1 hz).1; omega⟩
  unfold Zd_B10
  simp only
  rw [ltI_f (by omega)]; rfl
 | r+1,i,x,y,hi,h1,h2,h3,h4=>by
  have hlt : i < p.length:=by omega
  have hg:=List.getElem?_eq_getElem hlt
  have hz:=hv _ (List.getElem_mem hlt)
  unfold vP geI leI at hz
  simp only [Bool.and_eq_true,decide_eq_true_eq] at hz
  have m1 : minI x (p[i]).1≤x∧minI x (p[i]).1≤(p[i]).1∧-268435456≤minI x (p[i]).1:=by unfold minI; split <;> omega
  have m2 : minI y (p[i]).2.1≤y∧minI y (p[i]).2.1≤(p[i]).2.1∧-268435456≤minI y (p[i]).2.1:=by unfold minI; split <;> omega
  obtain ⟨x',y',q1,q2,q3,q4,q5,q6⟩:=min_loop Q p hp hv r (i+1) (minI x (p[i]).1) (minI y (p[i]).2.1) (by omega) m1.2.2 m2.2.2 (by omega) (by omega)
  refine ⟨x',y',(loop_step ?_).trans q1,q2,by omega,q4,by omega,fun j z hj hzj=>?_⟩
  ·unfold Zd_B10
   simp only
   rw [ltI_t (by omega),cond_true,getI_of,hg,Option.bind_some,Option.bind_some,add1 (by omega)]
  ·by_cases e : j=i
   ·subst e
    rw [hg] at hzj
    have:=Option.some.inj hzj
    subst this
    omega
   ·exact q6 j z (by omega) hzj
theorem far_loop (Q p : List Pt) (hp : p.length≤1000000) (hQ : Q.length=p.length) (hv : ∀ z∈p,vP z=true) {x y : Int} (hx : -268435456≤x∧x≤268435456) (hy : -268435456≤y∧y≤268435456) (hall : ∀ (j : Nat) (z w : Pt),p[j]?=some z→Q[j]?=some w→w.1≤z.1 - x∧w.2.1≤z.2.1 - y) : ∀ (r i : Nat),i+r=p.length →
  Zd_L14 (Q,p,x,y,(i : Int),())=some (.inr (.inl ()))
 | 0,i,hi=>by
  refine loop_done ?_
  unfold Zd_B14
  simp only
  rw [ltI_f (by omega)]; rfl
 | r+1,i,hi=>by
  have hlt : i < p.length:=by omega
  have hg:=List.getElem?_eq_getElem hlt
  have hq:=List.getElem?_eq_getElem (l:=Q) (i:=i) (by omega)
  have hz:=hv _ (List.getElem_mem hlt)
  unfold vP geI leI at hz
  simp only [Bool.and_eq_true,decide_eq_true_eq] at hz
  have ha:=hall i _ _ hg hq
  refine (loop_step ?_).trans (far_loop Q p hp hQ hv hx hy hall r (i+1) (by omega))
  unfold Zd_B14
  simp only
  rw [ltI_t (by omega),cond_true,getI_of,hg,Option.bind_some,idxI_of (by omega),Option.bind_some,hq,Option.bind_some,subI64 (by omega) (by omega),ltI_f ha.1,cond_false,Option.bind_some,Option.bind_some,hq,Option.bind_some,subI64 (by omega) (by omega),ltI_f ha.2,cond_false,add1 (by omega)]
end
theorem compactDraws_law (N0 : Int) (E : List Arc) (A : List (List Int)) (g : List Int) (B : List ByteArray) (o : Int) (p : List Pt) (hA : ∀ l∈A,l.length≤9223372036854775807) : Zd (((N0,E,A,()),g,B,o,()),p,())=some (true,()):=by
 obtain ⟨b0,s1,s2⟩:=small42 N0 E A g B o
 unfold Zd
 simp only
 rw [s1,awake42_true,Option.bind_some]
 cases b0 with
 | false=>rfl
 | true =>
  simp only [Bool.not_true,cond_false]
  by_cases hp : p.length≤50
  ·rw [gtI_f (by omega),cond_false]
   obtain ⟨b,r1,_,ht⟩:=place_both N0 E A g B o hA
   rw [r1,Option.bind_some]
   cases b with
   | false=>rfl
   | true =>
    obtain ⟨N,rfl,hE,nx,fw,k,h,ff,hk,hbe,hrect,d1,d3,R,S,hR,hS,t1,t2⟩:=ht rfl
    have hn16:=h.rot.n16
    have hplen : (ptsL R S N).length=N:=by simp [ptsL]
    have hdraw:=places_draw h ff hk hE hbe hrect hR hS
    simp only [Bool.not_true,cond_false]
    rw [t1,Option.bind_some]
    simp only
    rw [neI_f rfl,cond_false]
    obtain ⟨c,c1,c2,c3⟩:=check_both (N : Int) E A g B o (ptsL R S N) (by omega) hA
    have hc : c=true:=(c3 k d3).2 ⟨by omega,hdraw⟩
    subst hc
    rw [c1,c2]
    simp only [Option.bind_some,Bool.not_true,cond_false]
    obtain ⟨b,e1,e2,e3⟩:=check_both (N : Int) E A g B o p (by omega) hA
    rw [e2,Option.bind_some]
    cases b with
    | false=>rfl
    | true =>
     obtain ⟨f1,f2,f3,f4⟩:=(e3 k d3).1 rfl
     have hpN : p.length=N:=by omega
     have hv:=dif_valid p p 0 f2
     have hpos:=h.pos
     simp only [Bool.not_true,cond_false]
     have g0:=List.getElem?_eq_getElem (l:=p) (i:=0) (by omega)
     have z0:=hv _ (List.getElem_mem (l:=p) (n:=0) (by omega))
     unfold vP geI leI at z0
     simp only [Bool.and_eq_true,decide_eq_true_eq] at z0
     rw [show getI p 0=some p[0] from g0,Option.bind_some,Option.bind_some]
     obtain ⟨x',y',q1,q2,q3,q4,q5,q6⟩:=min_loop (ptsL R S N) p (by omega) hv p.length 0 (p[0]).1 (p[0]).2.1 (by omega) (by omega) (by omega) (by omega) (by omega)
     rw [show Zd_L10 (ptsL R S N,p,(p[0]).1,(p[0]).2.1,0,())=_ from q1]
     simp only [Option.bind_some,Sum.elim_inl]
     -- directions of the points
     have led : ∀ d,d < 2 * E.length→ldB (ptAt p (tln E d)) (ptAt p (tln E (oth d))) (k d)=true:=by
      intro d hd
      have:=fold_each' f3 d (k d) (dir_get hd)
      rw [Nat.zero_add] at this
      unfold ledS at this
      cases hl : ldB (ptAt p (tln E d)) (ptAt p (tln E (oth d))) (k d) with
      | true=>rfl
      | false=>rw [hl] at this; cases this
     have dirs : ∀ d,d < 2 * E.length→(k d=1→(ptAt p (tln E d)).1+1≤(ptAt p (tln E (oth d))).1)∧(k d % 2≠1→(ptAt p (tln E d)).1=(ptAt p (tln E (oth d))).1)∧(k d=2→(ptAt p (tln E d)).2.1+1≤(ptAt p (tln E (oth d))).2.1)∧(k d % 2≠0→(ptAt p (tln E d)).2.1=(ptAt p (tln E (oth d))).2.1):=by
      intro d hd
      have hl:=led d hd
      have kn:=hk.nn d hd
      unfold ldB eqI ltI gtI at hl
      rcases (by omega : k d=0∨k d=1∨k d=2∨k d=3) with c | c | c | c <;> rw [c] at hl ⊢ <;> simp at hl <;> omega
     have tlt : ∀ d,d < 2 * E.length→tln E d < N:=fun d hd=>(tln_eq h.rot hd).2
     have low : ∀ v,v < N→x'≤(ptAt p v).1∧y'≤(ptAt p v).2.1:=fun v hvN=>q6 v _ (Nat.zero_le _) (ptAt_get (by omega))
     have far : ∀ v,v < N→(R v : Int)≤(ptAt p v).1 - x'∧(S v : Int)≤(ptAt p v).2.1 - y':=by
      intro v hvN
      have a1:=up_le' (Z:=fun v=>(ptAt p v).1) tlt (fun v hv=>(low v hv).1) (fun d hd e=>(dirs d hd).1 e) (fun d hd e=>by have:=(dirs d hd).2.1 (by simpa using e); exact Int.le_of_eq this) (hR v hvN).1 hvN
      have a2:=up_le' (Z:=fun v=>(ptAt p v).2.1) tlt (fun v hv=>(low v hv).2) (fun d hd e=>(dirs d hd).2.2.1 e) (fun d hd e=>by have:=(dirs d hd).2.2.2 (by simpa using e); exact Int.le_of_eq this) (hS v hvN).1 hvN
      omega
     have hf:=far_loop (ptsL R S N) p (by omega) (by omega) hv (x:=x') (y:=y') ⟨q2,by omega⟩ ⟨q4,by omega⟩ (fun j z w hz hw=>by
      have hjN : j < N:=by have:=(List.getElem?_eq_some_iff.1 hz).1; omega
      rw [pts_get hjN] at hw
      have:=Option.some.inj hw
      subst this
      have hpz : ptAt p j=z:=by
       have:=ptAt_get (P:=p) (v:=j) (by omega)
       rw [hz] at this
       exact (Option.some.inj this).symm
      have:=far j hjN
      rw [hpz] at this
      unfold ptV
      exact this) p.length 0 (by omega)
     rw [show Zd_L14 (ptsL R S N,p,x',y',0,())=_ from hf]
     rfl
  ·rw [gtI_t (by omega)]; rfl
theorem compactDraws_plain (x : (tupTy (Zd_c.ins.map (·.2))).den) (h : WfIns Zd_c.ins x) : Zd x=some (true,()):=by
 obtain ⟨⟨⟨N,E,A,u1⟩,g,B,o,u2⟩,p,u3⟩:=x
 exact compactDraws_law N E A g B o p (wf_lists h.1.1)
end Go.Vm
