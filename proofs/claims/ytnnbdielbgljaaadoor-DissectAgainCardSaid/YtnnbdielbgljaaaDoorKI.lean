/-
 Directions and chains, and what keeps them.
-/
import Derived.Test.YtnnbdielbgljaaaDoorKH
set_option linter.unusedVariables false
set_option linter.unusedSimpArgs false
/-
 Directions of the darts of a plain shape: they exist, and an extension keeps them.
-/
namespace Go.Vm
open Go.Proofs
set_option maxRecDepth 100000
attribute [local irreducible] ab
structure Lab (E : List Arc) (nx g : List Int) (k : Nat→Int) : Prop where
 opp : ∀ d,d < 2 * E.length→(4 : Int)∣k (oth d) - k d - 2
 nxt : ∀ d y : Nat,d < 2 * E.length→nx[d]?=some (y : Int)→(4 : Int)∣k y - k d+tn g (d : Int)
theorem eT {g : List Int} {d : Nat} : tn g (d : Int)=2 - gN g (oth d):=by unfold tn; rw [Int.toNat_natCast]
section
variable {N : Nat} {E : List Arc} {A : List (List Int)} {nx nx' : List Int} {ps : List (List Int)} {g : List Int} {o : Nat} {k : Nat→Int}
theorem Lab.path (h : Lab E nx g k) (hN : iv nx (2 * E.length)) : ∀ {f : List Int} {x z : Nat},dd nx (x : Int) f (z : Int)→(∀ a∈f,∃ j : Nat,a=(j : Int)∧j < 2 * E.length)→(4 : Int)∣k z - k x+tsm g f
 | [],x,z,hp,_=>by
  have : (x : Int)=z:=hp
  have : x=z:=by omega
  subst this
  rw [b8]
  omega
 | a :: f,x,z,hp,hf=>by
  obtain ⟨rfl,y,hy,hp'⟩:=hp
  obtain ⟨j,e,hj⟩:=hf (x : Int) (by simp)
  have : j=x:=by omega
  subst this
  rw [Int.toNat_natCast] at hy
  obtain ⟨y',hy',e'⟩:=hN.2 j hj
  rw [hy] at e'
  have:=Option.some.inj e'
  subst this
  have h1:=h.nxt j y' hj hy
  have h2:=Lab.path h hN hp' (fun b hb=>hf b (by simp [hb]))
  rw [bd]
  omega
theorem Sys.nxOK (h : Sys N E A nx ps) : iv nx (2 * E.length):=by
 have:=Fol.nxOK h.rot h.fol
 rwa [h.fol.len] at this
theorem rr (hN : iv nx (2 * E.length)) : ∀ {f : List Int} {x : Nat} {z : Int},dd nx (x : Int) f z→x < 2 * E.length→∀ a∈f,∃ j : Nat,a=(j : Int)∧j < 2 * E.length
 | [],_,_,_,_,a,h=>by cases h
 | b :: f,x,z,hp,hx,a,h=>by
  obtain ⟨rfl,y,hy,hp'⟩:=hp
  rw [Int.toNat_natCast] at hy
  obtain ⟨y',hy',e'⟩:=hN.2 x hx
  rw [hy] at e'
  have:=Option.some.inj e'
  subst this
  rcases List.mem_cons.1 h with rfl | h
  ·exact ⟨x,rfl,hx⟩
  ·exact rr hN hp' hy' a h
def nm (k : Nat→Int) (e m d : Nat) : Int:=if d=2 * m then k (2 * e) else if d=2 * m+1 then k (2 * e+1) else k d
theorem dE {e m d : Nat} (hd : d < 2 * m) : nm k e m d=k d:=by
 unfold nm
 rw [if_neg (by omega),if_neg (by omega)]
theorem oh {e m : Nat} : nm k e m (2 * m)=k (2 * e):=by unfold nm; rw [if_pos rfl]
theorem nO {e m : Nat} : nm k e m (2 * m+1)=k (2 * e+1):=by unfold nm; rw [if_neg (by omega),if_pos rfl]
theorem w7 {e m z : Nat} (hz : z < 2 * m) : ∃ y : Nat,du ((2 * e+1 : Nat) : Int) ((2 * m+1 : Nat) : Int) (z : Int)=(y : Int)∧nm k e m y=k z:=by
 unfold du
 by_cases c : z=2 * e+1
 ·rw [if_pos (by omega)]
  exact ⟨_,rfl,by rw [nO,c]⟩
 ·rw [if_neg (by omega)]
  exact ⟨_,rfl,dE hz⟩
theorem Lab.split {e x y : Nat} (h : Lab E nx g k) (hN : iv nx (2 * E.length)) (hn : Fol oth E A nx) (hgl : g.length=2 * E.length) (hs : SplitOK N E A e x y) (hn' : Fol oth (bq E N e x y) (eI A e E.length y) nx') : Lab (bq E N e x y) nx' (bh g e) (nm k e E.length):=by
 have he:=hs.he
 have hlen : (bq E N e x y).length=E.length+1:=cD
 obtain ⟨n0,n1,n2,n3⟩:=hs.next hn hn'
 have o1:=h.opp (2 * e) (by omega)
 rw [dg] at o1
 constructor
 ·intro d hd
  rw [hlen] at hd
  rcases Nat.lt_or_ge d (2 * E.length) with c | c
  ·rw [dE c,dE (ay c)]
   exact h.opp d c
  ·by_cases c2 : d=2 * E.length
   ·subst c2
    rw [dg,oh,nO]; exact o1
   ·have : d=2 * E.length+1:=by omega
    subst this
    rw [dw,oh,nO]; omega
 ·intro d z hd hz
  rw [hlen] at hd
  rw [eT]
  by_cases c1 : d=2 * e
  ·subst c1
   rw [n0] at hz
   have : z=2 * E.length:=by have:=Option.some.inj hz; omega
   subst this
   rw [dg,bR hgl he (by omega),if_pos rfl,oh,dE (by omega)]
   omega
  ·by_cases c2 : d=2 * E.length+1
   ·subst c2
    rw [n1] at hz
    have : z=2 * e+1:=by have:=Option.some.inj hz; omega
    subst this
    rw [dw,ku hgl,nO,dE (by omega)]
    omega
   ·by_cases c3 : d=2 * E.length
    ·subst c3
     obtain ⟨w,hw,e'⟩:=hN.2 (2 * e) (by omega)
     obtain ⟨v,v1,v2⟩:=w7 (k:=k) (e:=e) hw
     rw [n2 _ e',v1] at hz
     have : v=z:=by have:=Option.some.inj hz; omega
     subst this
     have:=h.nxt (2 * e) w (by omega) e'
     rw [eT,dg] at this
     rw [v2,dg,jX hgl,oh]
     exact this
    ·have hdl : d < 2 * E.length:=by omega
     obtain ⟨w,hw,e'⟩:=hN.2 d hdl
     obtain ⟨v,v1,v2⟩:=w7 (k:=k) (e:=e) hw
     rw [n3 d hdl c1 _ e',v1] at hz
     have : v=z:=by have:=Option.some.inj hz; omega
     subst this
     have:=h.nxt d w hdl e'
     rw [eT] at this
     have hne : oth d≠2 * e+1:=fun e'=>c1 (bZ (by rw [e',dg]))
     rw [v2,bR hgl he (ay hdl),if_neg hne,dE hdl]
     exact this
def wu (k : Nat→Int) (m : Nat) (κ : Int) (d : Nat) : Int:=if d=2 * m then κ else if d=2 * m+1 then κ+2 else k d
theorem eK {m d : Nat} {κ : Int} (hd : d < 2 * m) : wu k m κ d=k d:=by
 unfold wu
 rw [if_neg (by omega),if_neg (by omega)]
theorem qP {m : Nat} {κ : Int} : wu k m κ (2 * m)=κ:=by unfold wu; rw [if_pos rfl]
theorem uz {m : Nat} {κ : Int} : wu k m κ (2 * m+1)=κ+2:=by unfold wu; rw [if_neg (by omega),if_pos rfl]
theorem Lab.edge {d f a' b' u v : Nat} {α1 α2 β1 β2 κ : Int} (h : Lab E nx g k) (hinj : Inj nx) (hgl : g.length=2 * E.length) (hN : NextOK E nx nx' d f) (ha : a' < 2 * E.length) (hb : b' < 2 * E.length) (hab : a'≠b') (hna : nx[a']?=some (d : Int)) (hnb : nx[b']?=some (f : Int))
  (hα : gN g (oth a')=α1+α2) (hβ : gN g (oth b')=β1+β2) (hκ1 : (4 : Int)∣κ - k (oth a') - α1) (hκ2 : (4 : Int)∣κ+2 - k (oth b') - β1) (hO : iv nx (2 * E.length)) : Lab (E++[((u : Int),(v : Int),())]) nx' (ey g a' b' α1 α2 β1 β2) (wu k E.length κ):=by
 have hlen : (E++[((u : Int),(v : Int),())]).length=E.length+1:=by simp
 have oa:=h.opp a' ha
 have ob:=h.opp b' hb
 have old:=fun {k : Nat} (hk : k < 2 * E.length)=>rN (g:=g) (α1:=α1) (α2:=α2) (β1:=β1) (β2:=β2) hgl ha hb hk
 have q1:=h.nxt a' d ha hna
 have q2:=h.nxt b' f hb hnb
 have nat : ∀ {x y : Nat},x < 2 * E.length→nx[x]?=some (y : Int)→y < 2 * E.length:=fun {x y} hx hy=>by
  obtain ⟨z,hz,e⟩:=hO.2 x hx
  rw [hy] at e
  have:=Option.some.inj e
  omega
 have hdl:=nat ha hna
 have hfl:=nat hb hnb
 rw [eT,hα] at q1
 rw [eT,hβ] at q2
 constructor
 ·intro x hx
  rw [hlen] at hx
  rcases Nat.lt_or_ge x (2 * E.length) with c | c
  ·rw [eK c,eK (ay c)]
   exact h.opp x c
  ·by_cases c2 : x=2 * E.length
   ·subst c2
    rw [dg,qP,uz]; omega
   ·have : x=2 * E.length+1:=by omega
    subst this
    rw [dw,qP,uz]; omega
 ·intro x z hx hz
  rw [hlen] at hx
  rw [eT]
  by_cases c1 : x=2 * E.length
  ·subst c1
   rw [hN.a] at hz
   have : f=z:=by have:=Option.some.inj hz; omega
   subst this
   rw [dg,uW hgl,qP]
   have hf : f < 2 * E.length:=hfl
   rw [eK hf]
   omega
  ·by_cases c2 : x=2 * E.length+1
   ·subst c2
    rw [hN.b] at hz
    have : d=z:=by have:=Option.some.inj hz; omega
    subst this
    rw [dw,uy hgl,uz,eK hdl]
    omega
   ·have hxl : x < 2 * E.length:=by omega
    by_cases c3 : x=a'
    ·subst c3
     rw [(hN.old x hxl).1 hna] at hz
     have : z=2 * E.length:=by have:=Option.some.inj hz; omega
     subst this
     have hne : oth x≠oth b':=fun e=>hab (bZ e)
     rw [qP,eK hxl,old (ay hxl),if_neg hne,if_pos rfl]
     omega
    ·by_cases c4 : x=b'
     ·subst c4
      rw [(hN.old x hxl).2.1 hnb] at hz
      have : z=2 * E.length+1:=by have:=Option.some.inj hz; omega
      subst this
      rw [uz,eK hxl,old (ay hxl),if_pos rfl]
      omega
     ·have h1 : nx[x]?≠some (d : Int):=fun e=>c3 (hinj _ _ _ e hna)
      have h2 : nx[x]?≠some (f : Int):=fun e=>c4 (hinj _ _ _ e hnb)
      rw [(hN.old x hxl).2.2 h1 h2] at hz
      have hzl:=nat hxl hz
      have:=h.nxt x z hxl hz
      rw [eT] at this
      rw [eK hxl,eK hzl,old (ay hxl),if_neg (fun e=>c4 (bZ e)),if_neg (fun e=>c3 (bZ e))]
      exact this
def exK (k : Nat→Int) (e m a' : Nat) : Nat→Int:=wu (nm k e m) (m+1) (nm k e m a')
theorem ExtF.lab {next to e fr bk on a' x y u d : Nat} (h : ExtF N E A g o nx next to e fr bk on a' x y u d) (hk : Lab E nx g k) (h' : Sys (N+1) (exE N E e x y u) (exA N E A e y u next on) nx' (aa nx')) :
  Lab (exE N E e x y u) nx' (exG g d e fr a') (exK k e E.length a')∧(4 : Int)∣exK k e E.length a' (2 * (E.length+1)) - k d:=by
 have hs:=h.sys
 have hgl:=h.met.glen
 have hd:=h.d2
 have hto:=h.to2
 have hx:=h.ext
 have hee:=hx.he
 have he : e < E.length:=by omega
 have hod:=ay hd
 have hw:=h.w
 have hN:=hs.nxOK
 obtain ⟨_,hnl,_⟩:=fg hs.rot hs.fol h.nd
 -- the vertex on the edge
 obtain ⟨nx1,h1⟩:=hs.split h.sp
 have hlen : (bq E N e x y).length=E.length+1:=cD
 have hGl : (bh g e).length=2 * (E.length+1):=by unfold bh; simp [hgl]; omega
 have k1:=hk.split hN hs.fol hgl h.sp h1.fol
 obtain ⟨n0,n1,n2,n3⟩:=h.sp.next hs.fol h1.fol
 have hrep : du ((2 * e+1 : Nat) : Int) ((2 * E.length+1 : Nat) : Int) (next : Int)=((mvN e E.length next : Nat) : Int):=by
  unfold du mvN
  by_cases c : next=2 * e+1
  ·rw [if_pos (by omega),if_pos c]
  ·rw [if_neg (by omega),if_neg c]
 have hna : nx1[a']?=some ((mvN e E.length next : Nat) : Int):=by
  rw [hx.ha,← hrep]
  by_cases c : d=2 * e
  ·rw [if_pos c]; exact n2 _ (by rw [← c]; exact h.nd)
  ·rw [if_neg c]; exact n3 d hd c _ h.nd
 have hnb : nx1[fr]?=some ((on : Nat) : Int):=by
  rw [hx.hf,hx.ho]
  by_cases c : to % 2=0
  ·rw [if_pos c,if_pos c]; exact n0
  ·rw [if_neg c,if_neg c]; exact n1
 have ha'l : a' < 2 * (bq E N e x y).length:=by rw [hlen,hx.ha]; split <;> omega
 have hfl : fr < 2 * (bq E N e x y).length:=by rw [hlen,hx.hf]; split <;> omega
 have ga : gN (bh g e) (oth a')=gN g (oth d):=by
  rw [h.oa]
  unfold mvN
  by_cases c : oth d=2 * e+1
  ·rw [if_pos c,jX hgl,c]
  ·rw [if_neg c,bR hgl he hod,if_neg c]
 have gb : gN (bh g e) (oth fr)=2:=by
  rw [h.ofr,hx.hb]
  split
  ·rw [bR hgl he (by omega),if_pos rfl]
  ·exact ku hgl
 have hab : a'≠fr:=fun e'=>by rw [e',gb] at ga; omega
 have ka : nm k e E.length a'=k d:=by
  rw [hx.ha]
  by_cases c : d=2 * e
  ·rw [if_pos c,oh,c]
  ·rw [if_neg c,dE hd]
 have kf : nm k e E.length fr=k to:=by
  rw [hx.hf]
  by_cases c : to % 2=0
  ·rw [if_pos c,dE (by omega)]; congr 1; omega
  ·rw [if_neg c,nO]; congr 1; omega
 -- the way from d to the dart that is met
 have key : (4 : Int)∣k to - k d+1:=by
  obtain ⟨p,p1,p2⟩:=h.way
  have hel : ∀ a∈(next : Int) :: p,∃ j : Nat,a=(j : Int)∧j < 2 * E.length:=rr hN p1 hnl
  have q1:=hk.path hN p1 hel
  have q2:=hk.nxt d next hd h.nd
  rw [eT] at q2
  rw [p2] at q1
  omega
 have o1:=k1.opp a' ha'l
 have o2:=k1.opp fr hfl
 have hfol : Fol oth (bq E N e x y++[((u : Int),((N : Nat) : Int),())]) (eY (eI A e E.length y) u N (bq E N e x y).length (mvN e E.length next) on) nx':=by
  rw [hlen]
  exact h'.fol
 have hNx:=h.eo.next h1.fol hfol
 have:=k1.edge (u:=u) (v:=N) (α1:=2) (α2:=gN g (oth d) - 2) (β1:=1) (β2:=1) (κ:=nm k e E.length a') (iK h1.rot h1.fol) (by rw [hGl,hlen]) hNx ha'l hfl hab hna hnb (by rw [ga]; omega) (by rw [gb]; rfl) (by omega) (by rw [kf] at o2; rw [ka]; omega) h1.nxOK
 rw [hlen] at this
 refine ⟨this,?_⟩
 unfold exK
 rw [qP,ka]
 omega
theorem Sys.shape {B : List ByteArray} (h : Sys N E A nx ps) (hm : Met E A g o ps) (hB : B=emB E) : ShapeOK N E A g B (o : Int) nx∧Zbq ((((N : Int),E,A,()),g,B,(o : Int),()),())=some (0,())∧Zt ((((N : Int),E,A,()),g,B,(o : Int),()),())=some (0,()):=by
 subst hB
 obtain ⟨v1,v2⟩:=h.valids hm
 rcases gO (N : Int) E A g (emB E) (o : Int) h.rot.lists with ⟨h1,_⟩ | ⟨N',nx',_,_,e,h1,h2,h3,_⟩
 ·unfold emB at h1
  rw [v1] at h1
  simp at h1
 ·have : N'=N:=by omega
  subst this
  have:=jb h.rot h.fol h1.folOK
  subst this
  exact ⟨h1,h2,h3⟩
theorem CM {fw : List Int} (h : RotOK (N : Nat) E A) (hn : Fol oth E A nx) (ff : Fol id E A fw) (hk : Dirs E.length (nxN fw) (gN g) k) : Lab E nx g k:=by
 refine ⟨hk.oth,fun d y hd hy=>?_⟩
 obtain ⟨z,_,z1,z2⟩:=bM h hn ff hd
 rw [hy] at z1
 have : y=z:=by have:=Option.some.inj z1; omega
 subst this
 have q:=(fh (jK h hn ff) (ay hd)).1
 rw [z2] at q
 have : y=nxN fw (oth d):=by have:=Option.some.inj q; omega
 have h1:=hk.fw (oth d) (ay hd)
 rw [← this] at h1
 have h2:=hk.oth d hd
 rw [eT]
 omega
theorem wY {fw : List Int} (h : RotOK (N : Nat) E A) (hn : Fol oth E A nx) (ff : Fol id E A fw) (hk : Lab E nx g k) : Dirs E.length (nxN fw) (gN g) (fun d=>(k d - k 0) % 4):=by
 refine ⟨fun d hd=>by omega,fun d hd=>?_,fun d hd=>?_⟩
 ·obtain ⟨z,_,z1,z2⟩:=bM h hn ff (ay hd)
  rw [bt] at z2
  have q:=(fh (jK h hn ff) hd).1
  rw [z2] at q
  have : z=nxN fw d:=by have:=Option.some.inj q; omega
  have h1:=hk.nxt (oth d) z (ay hd) z1
  have h2:=hk.opp d hd
  rw [eT,bt] at h1
  rw [← this]
  omega
 ·have h2:=hk.opp d hd
  omega
theorem Sys.lab (h : Sys N E A nx ps) (hm : Met E A g o ps) : ∃ k,Lab E nx g k:=by
 obtain ⟨hs,_⟩:=h.shape hm rfl
 obtain ⟨fw,_,ff⟩:=bE h.rot ()
 obtain ⟨k,hk,_⟩:=yj hs ff h.ne (fun j _=>vk E j)
 exact ⟨k,CM h.rot h.fol ff hk⟩
end
end Go.Vm

/-
 Chains of darts in one direction: a rectangle and extensions keep them.
-/
namespace Go.Vm
open Go.Proofs
set_option maxRecDepth 100000
attribute [local irreducible] ab
def ChP (E : List Arc) (n0 : Nat) : Int→List Int→Int→Prop
 | _,[],_=>False
 | a,d :: c,b=>tl E d.toNat=a∧((c=[]∧hd E d.toNat=b)∨((n0 : Int)≤hd E d.toNat∧ChP E n0 (hd E d.toNat) c b))
theorem ChP.app {E : List Arc} {n0 : Nat} {v b : Int} {c' : List Int} (hv : (n0 : Int)≤v) (h' : ChP E n0 v c' b) : ∀ {c : List Int} {a : Int},ChP E n0 a c v→ChP E n0 a (c++c') b
 | [],a,h=>h.elim
 | d :: c,a,h=>by
  obtain ⟨h1,h2⟩:=h
  refine ⟨h1,.inr ?_⟩
  rcases h2 with ⟨rfl,h2⟩ | ⟨h2,h3⟩
  ·rw [h2]; exact ⟨hv,h'⟩
  ·exact ⟨h2,ChP.app hv h' h3⟩
theorem ChP.map {E E' : List Arc} {n0 : Nat} {f : Int→List Int} : ∀ {c : List Int} {a b : Int},ChP E n0 a c b→(∀ d∈c,ChP E' n0 (tl E d.toNat) (f d) (hd E d.toNat))→ChP E' n0 a (c.flatMap f) b
 | [],a,b,h,_=>h.elim
 | d :: c,a,b,h,hf=>by
  obtain ⟨rfl,h2⟩:=h
  have h0:=hf d (by simp)
  rw [List.flatMap_cons]
  rcases h2 with ⟨rfl,h2⟩ | ⟨h2,h3⟩
  ·rw [← h2]; simpa using h0
  ·exact ChP.app h2 (h3.map fun x hx=>hf x (by simp [hx])) h0
theorem ChP.congr {E E' : List Arc} {n0 : Nat} : ∀ {c : List Int} {a b : Int},ChP E n0 a c b→(∀ d∈c,tl E' d.toNat=tl E d.toNat∧hd E' d.toNat=hd E d.toNat)→ChP E' n0 a c b
 | [],a,b,h,_=>h.elim
 | d :: c,a,b,h,hf=>by
  obtain ⟨h1,h2⟩:=h
  obtain ⟨e1,e2⟩:=hf d (by simp)
  unfold ChP
  rw [e1,e2]
  refine ⟨h1,?_⟩
  rcases h2 with h2 | ⟨h2,h3⟩
  ·exact .inl h2
  ·exact .inr ⟨h2,h3.congr fun x hx=>hf x (by simp [hx])⟩
structure Chn (E : List Arc) (n0 : Nat) (k : Nat→Int) (κ a b : Int) (c : List Int) : Prop where
 path : ChP E n0 a c b
 elem : ∀ x∈c,∃ j : Nat,x=(j : Int)∧j < 2 * E.length∧(4 : Int)∣k j - κ
 nodup : c.Nodup
section
variable {N : Nat} {E : List Arc} {A : List (List Int)} {nx nx' : List Int} {ps : List (List Int)} {g : List Int} {o : Nat} {k : Nat→Int} {n0 : Nat} {κ va vb : Int} {c : List Int}
theorem Chn.split {e x y : Nat} (h : Chn E n0 k κ va vb c) (hs : SplitOK N E A e x y) (hn : n0≤N) : Chn (bq E N e x y) n0 (nm k e E.length) κ va vb (c.flatMap (sig e E.length)):=by
 have he:=hs.he
 have hlen : (bq E N e x y).length=E.length+1:=cD
 obtain ⟨t0,t1,t2,t3,t4⟩:=hs.tails
 have hel : ∀ d∈c,∃ j : Nat,d=(j : Int)∧j < 2 * E.length:=fun d hd=>by
  obtain ⟨j,e1,e2,_⟩:=h.elem d hd; exact ⟨j,e1,e2⟩
 obtain ⟨c1,c2,c3⟩:=ls he hel
 refine ⟨h.path.map fun d hd=>?_,fun z hz=>?_,?_⟩
 ·obtain ⟨j,rfl,hj⟩:=hel d hd
  rw [Int.toNat_natCast]
  have htl0:=hs.tl0
  have htl1:=hs.tl1
  by_cases q1 : j=2 * e
  ·subst q1
   unfold sig
   rw [if_pos rfl]
   refine ⟨by rw [Int.toNat_natCast,t0,htl0],.inr ?_⟩
   rw [Int.toNat_natCast]
   have e1 : Vm.hd (bq E N e x y) (2 * e)=(N : Int):=by unfold Vm.hd; rw [dg,t1]
   rw [e1]
   refine ⟨by omega,by rw [Int.toNat_natCast,t2],.inl ⟨rfl,?_⟩⟩
   unfold Vm.hd
   rw [Int.toNat_natCast,dg,t3,dg,htl1]
  ·by_cases q2 : j=2 * e+1
   ·subst q2
    unfold sig
    rw [if_neg (by omega),if_pos rfl]
    refine ⟨by rw [Int.toNat_natCast,t3,htl1],.inr ?_⟩
    rw [Int.toNat_natCast]
    have e1 : Vm.hd (bq E N e x y) (2 * E.length+1)=(N : Int):=by unfold Vm.hd; rw [dw,t2]
    rw [e1]
    refine ⟨by omega,by rw [Int.toNat_natCast,t1],.inl ⟨rfl,?_⟩⟩
    unfold Vm.hd
    rw [Int.toNat_natCast,dw,t0,htl0]
   ·unfold sig
    rw [if_neg (by omega),if_neg (by omega)]
    refine ⟨by rw [Int.toNat_natCast,t4 j hj q2],.inl ⟨rfl,?_⟩⟩
    unfold Vm.hd
    rw [Int.toNat_natCast,t4 _ (ay hj) (fun e'=>q1 (bZ (by rw [e',dg])))]
 ·obtain ⟨d,hd,hzd⟩:=List.mem_flatMap.1 hz
  obtain ⟨j,rfl,hj,hk⟩:=h.elem d hd
  rw [hlen]
  unfold sig at hzd
  split at hzd
  ·rename_i q
   have : j=2 * e:=by omega
   subst this
   simp only [List.mem_cons,List.not_mem_nil,or_false] at hzd
   rcases hzd with rfl | rfl
   ·exact ⟨2 * e,rfl,by omega,by rw [dE (by omega)]; exact hk⟩
   ·exact ⟨2 * E.length,rfl,by omega,by rw [oh]; exact hk⟩
  ·split at hzd
   ·rename_i q
    have : j=2 * e+1:=by omega
    subst this
    simp only [List.mem_cons,List.not_mem_nil,or_false] at hzd
    rcases hzd with rfl | rfl
    ·exact ⟨2 * E.length+1,rfl,by omega,by rw [nO]; exact hk⟩
    ·exact ⟨2 * e+1,rfl,by omega,by rw [dE (by omega)]; exact hk⟩
   ·rw [List.mem_singleton] at hzd
    exact ⟨j,hzd,by omega,by rw [dE hj]; exact hk⟩
 ·have hone:=List.nodup_iff_count.1 h.nodup
  rw [List.nodup_iff_count]
  intro z
  by_cases hz : z∈c.flatMap (sig e E.length)
  ·obtain ⟨j,rfl,hj⟩:=ny he hel z hz
   rcases Nat.lt_or_ge j (2 * E.length) with q | q
   ·rw [c1 j q]; exact hone _
   ·by_cases c4 : j=2 * E.length
    ·subst c4; rw [c2]; exact hone _
    ·have : j=2 * E.length+1:=by omega
     subst this; rw [c3]; exact hone _
  ·rw [List.count_eq_zero.2 hz]; omega
theorem Chn.more {F : List Arc} {k' : Nat→Int} (h : Chn E n0 k κ va vb c) (hk : ∀ j,j < 2 * E.length→k' j=k j) : Chn (E++F) n0 k' κ va vb c:=by
 refine ⟨h.path.congr fun d hd=>?_,fun z hz=>?_,h.nodup⟩
 ·obtain ⟨j,rfl,hj,_⟩:=h.elem d hd
  rw [Int.toNat_natCast]
  unfold Vm.hd
  exact ⟨iw hj,iw (ay hj)⟩
 ·obtain ⟨j,rfl,hj,hk'⟩:=h.elem z hz
  exact ⟨j,rfl,by rw [List.length_append]; omega,by rw [hk j hj]; exact hk'⟩
def IK (N0 : Nat) (E0 : List Arc) (nx0 g0 : List Int) (N : Nat) (E : List Arc) (A : List (List Int)) (g : List Int) (_ : Nat) : Prop :=
 N0≤N∧∃ k k0 : Nat→Int,(∀ nx,Fol oth E A nx→Lab E nx g k)∧Lab E0 nx0 g0 k0∧∀ d,d < 2 * E0.length→∃ c,Chn E N0 k (k0 d) (tl E0 d) (hd E0 d) c
theorem IK.kept (N0 : Nat) (E0 : List Arc) (nx0 g0 : List Int) : zM (IK N0 E0 nx0 g0):=by
 intro N E A g o nx next to e fr bk on a' x y u d nx' hF hs' _ ⟨hn,k,k0,h1,h2,h3⟩
 have hL:=hF.lab (h1 nx hF.sys.fol) hs'
 refine ⟨by omega,exK k e E.length a',k0,fun mx hm=>?_,h2,fun z hz=>?_⟩
 ·rw [jb hs'.rot hs'.fol hm]
  exact hL.1
 ·obtain ⟨c,hc⟩:=h3 z hz
  have:=hc.split hF.sp hn
  have hlen : (bq E N e x y).length=E.length+1:=cD
  exact ⟨_,this.more fun j hj=>by unfold exK; rw [eK (by rw [hlen] at hj; exact hj)]⟩
theorem Cf {f : List Int} (h : Cyc nx f) (h' : Cyc nx' f) {x : Int} (hx : x∈f) : nx'[x.toNat]?=nx[x.toNat]?:=by
 obtain ⟨i,hi,rfl⟩:=List.getElem_of_mem hx
 rw [h.2 i hi,h'.2 i hi]
theorem DU (h : Sys N E A nx (aa nx)) {d f u : Nat} (hnd : nx[d]?=some (f : Int)) (hdl : d < 2 * E.length) (hu : tl E f=(u : Int)) (hn : N+5≤16384) (hM : E.length+6≤32768) (hn' : Fol oth (iT E N u) (mn A u E.length f) nx') :
  (∀ z,z < 2 * E.length→z≠d→nx'[z]?=nx[z]?)∧dd nx' (d : Int) [(d : Int),((2 * E.length : Nat) : Int),((2 * E.length+2 : Nat) : Int),((2 * E.length+4 : Nat) : Int),((2 * E.length+6 : Nat) : Int),((2 * E.length+8 : Nat) : Int),((2 * E.length+10 : Nat) : Int),((2 * E.length+1 : Nat) : Int)] (f : Int):=by
 obtain ⟨F,hF,hdF⟩:=List.mem_flatten.1 (h.fs.cover d hdl)
 obtain ⟨a,b,hab⟩:=List.append_of_mem hF
 obtain ⟨p,q,hpq⟩:=List.append_of_mem hdF
 have hpq' : F=(p++[(d : Int)])++q:=by rw [hpq]; simp
 have h1 : Sys N E A nx (a++((q++p)++[(d : Int)]) :: b):=by
  have:=h
  rw [hab,hpq'] at this
  have:=this.rotate
  rwa [← List.append_assoc] at this
 generalize hL : q++p=L at h1
 have hmem : (L++[(d : Int)])∈a++(L++[(d : Int)]) :: b:=by simp
 have hcL:=h1.cyc _ hmem
 obtain ⟨s,hfs⟩ : ∃ s,L++[(d : Int)]=(f : Int) :: s:=by
  cases L with
  | nil =>
   have:=hcL.2 0 (by simp)
   simp at this
   rw [hnd] at this
   have:=Option.some.inj this
   exact ⟨[],by rw [this]; rfl⟩
  | cons z t =>
   have:=gX hcL
   rw [Int.toNat_natCast,hnd] at this
   have:=Option.some.inj this
   exact ⟨t++[(d : Int)],by rw [this]; rfl⟩
 rw [hfs] at h1
 obtain ⟨mx,h2⟩:=h1.enclose hu hn hM
 have:=jb h2.rot h2.fol hn'
 subst this
 obtain ⟨m,hm⟩ : ∃ m,m=E.length:=⟨_,rfl⟩
 rw [← hm] at h2 ⊢
 have c2:=h2.cyc (((2 * m+1 : Nat) : Int) :: ((f : Int) :: s)++[((2 * m : Nat) : Int),((2 * m+2 : Nat) : Int),((2 * m+4 : Nat) : Int),((2 * m+6 : Nat) : Int),((2 * m+8 : Nat) : Int),((2 * m+10 : Nat) : Int)]) (by unfold yi; simp)
 have c3:=c2
 rw [← hfs] at c2
 have e0 : nx'[d]?=some ((2 * m : Nat) : Int):=by
  have:=cJ (p:=((2 * m+1 : Nat) : Int) :: L) (z:=(d : Int)) (y:=((2 * m : Nat) : Int)) (q:=[((2 * m+2 : Nat) : Int),((2 * m+4 : Nat) : Int),((2 * m+6 : Nat) : Int),((2 * m+8 : Nat) : Int),((2 * m+10 : Nat) : Int)]) (nx:=nx') (by simpa using c2)
  simpa using this
 have e1 : nx'[2 * m]?=some ((2 * m+2 : Nat) : Int):=by
  have:=cJ (p:=((2 * m+1 : Nat) : Int) :: (L++[(d : Int)])) (z:=((2 * m : Nat) : Int)) (y:=((2 * m+2 : Nat) : Int)) (q:=[((2 * m+4 : Nat) : Int),((2 * m+6 : Nat) : Int),((2 * m+8 : Nat) : Int),((2 * m+10 : Nat) : Int)]) (nx:=nx') (by simpa using c2)
  rwa [Int.toNat_natCast] at this
 have e2 : nx'[2 * m+2]?=some ((2 * m+4 : Nat) : Int):=by
  have:=cJ (p:=((2 * m+1 : Nat) : Int) :: (L++[(d : Int),((2 * m : Nat) : Int)])) (z:=((2 * m+2 : Nat) : Int)) (y:=((2 * m+4 : Nat) : Int)) (q:=[((2 * m+6 : Nat) : Int),((2 * m+8 : Nat) : Int),((2 * m+10 : Nat) : Int)]) (nx:=nx') (by simpa using c2)
  rwa [Int.toNat_natCast] at this
 have e3 : nx'[2 * m+4]?=some ((2 * m+6 : Nat) : Int):=by
  have:=cJ (p:=((2 * m+1 : Nat) : Int) :: (L++[(d : Int),((2 * m : Nat) : Int),((2 * m+2 : Nat) : Int)])) (z:=((2 * m+4 : Nat) : Int)) (y:=((2 * m+6 : Nat) : Int)) (q:=[((2 * m+8 : Nat) : Int),((2 * m+10 : Nat) : Int)]) (nx:=nx') (by simpa using c2)
  rwa [Int.toNat_natCast] at this
 have e4 : nx'[2 * m+6]?=some ((2 * m+8 : Nat) : Int):=by
  have:=cJ (p:=((2 * m+1 : Nat) : Int) :: (L++[(d : Int),((2 * m : Nat) : Int),((2 * m+2 : Nat) : Int),((2 * m+4 : Nat) : Int)])) (z:=((2 * m+6 : Nat) : Int)) (y:=((2 * m+8 : Nat) : Int)) (q:=[((2 * m+10 : Nat) : Int)]) (nx:=nx') (by simpa using c2)
  rwa [Int.toNat_natCast] at this
 have e5 : nx'[2 * m+8]?=some ((2 * m+10 : Nat) : Int):=by
  have:=cJ (p:=((2 * m+1 : Nat) : Int) :: (L++[(d : Int),((2 * m : Nat) : Int),((2 * m+2 : Nat) : Int),((2 * m+4 : Nat) : Int),((2 * m+6 : Nat) : Int)])) (z:=((2 * m+8 : Nat) : Int)) (y:=((2 * m+10 : Nat) : Int)) (q:=[]) (nx:=nx') (by simpa using c2)
  rwa [Int.toNat_natCast] at this
 have e6 : nx'[2 * m+10]?=some ((2 * m+1 : Nat) : Int):=by
  have:=gX (x:=((2 * m+1 : Nat) : Int)) (s:=L++[(d : Int),((2 * m : Nat) : Int),((2 * m+2 : Nat) : Int),((2 * m+4 : Nat) : Int),((2 * m+6 : Nat) : Int),((2 * m+8 : Nat) : Int)]) (z:=((2 * m+10 : Nat) : Int)) (nx:=nx') (by simpa using c2)
  rwa [Int.toNat_natCast] at this
 have e7 : nx'[2 * m+1]?=some (f : Int):=by
  have:=cJ (p:=[]) (z:=((2 * m+1 : Nat) : Int)) (y:=(f : Int)) (q:=s++[((2 * m : Nat) : Int),((2 * m+2 : Nat) : Int),((2 * m+4 : Nat) : Int),((2 * m+6 : Nat) : Int),((2 * m+8 : Nat) : Int),((2 * m+10 : Nat) : Int)]) (nx:=nx') (by simpa using c3)
  rwa [Int.toNat_natCast] at this
 refine ⟨fun z hz hzd=>?_,?_⟩
 ·obtain ⟨G,hG,hzG⟩:=List.mem_flatten.1 (h1.fs.cover z (by omega))
  have other : G∈a++b→nx'[z]?=nx[z]?:=fun hG=>by
   have q1:=h1.cyc G (by rcases List.mem_append.1 hG with hG | hG <;> simp [hG])
   have q2:=h2.cyc G (by unfold yi; simp only [List.mem_cons]; exact .inr (.inr hG))
   have:=Cf q1 q2 hzG
   simpa using this
  rcases List.mem_append.1 hG with hG | hG
  ·exact other (by simp [hG])
  ·rcases List.mem_cons.1 hG with rfl | hG
   ·rw [← hfs] at hzG
    rcases List.mem_append.1 hzG with hzL | hzL
    ·obtain ⟨l1,l2,hl⟩:=List.append_of_mem hzL
     rw [hl] at c2 hcL
     cases l2 with
     | nil =>
      have q1:=cJ (p:=l1) (z:=(z : Int)) (y:=(d : Int)) (q:=[]) (nx:=nx) (by simpa using hcL)
      have q2:=cJ (p:=((2 * m+1 : Nat) : Int) :: l1) (z:=(z : Int)) (y:=(d : Int)) (q:=[((2 * m : Nat) : Int),((2 * m+2 : Nat) : Int),((2 * m+4 : Nat) : Int),((2 * m+6 : Nat) : Int),((2 * m+8 : Nat) : Int),((2 * m+10 : Nat) : Int)]) (nx:=nx') (by simpa using c2)
      rw [Int.toNat_natCast] at q1 q2
      rw [q1,q2]
     | cons w l2 =>
      have q1:=cJ (p:=l1) (z:=(z : Int)) (y:=w) (q:=l2++[(d : Int)]) (nx:=nx) (by simpa using hcL)
      have q2:=cJ (p:=((2 * m+1 : Nat) : Int) :: l1) (z:=(z : Int)) (y:=w) (q:=l2++[(d : Int),((2 * m : Nat) : Int),((2 * m+2 : Nat) : Int),((2 * m+4 : Nat) : Int),((2 * m+6 : Nat) : Int),((2 * m+8 : Nat) : Int),((2 * m+10 : Nat) : Int)]) (nx:=nx') (by simpa using c2)
      rw [Int.toNat_natCast] at q1 q2
      rw [q1,q2]
    ·rw [List.mem_singleton] at hzL
     omega
   ·exact other (by simp [hG])
 ·exact ⟨rfl,_,by rw [Int.toNat_natCast]; exact e0,rfl,_,by rw [Int.toNat_natCast]; exact e1,rfl,_,by rw [Int.toNat_natCast]; exact e2,rfl,_,by rw [Int.toNat_natCast]; exact e3,rfl,_,by rw [Int.toNat_natCast]; exact e4,rfl,_,by rw [Int.toNat_natCast]; exact e5,rfl,_,by rw [Int.toNat_natCast]; exact e6,rfl,_,by rw [Int.toNat_natCast]; exact e7,rfl⟩
theorem IK.enc (h : Sys N E A nx (aa nx)) (hm : Met E A g o (aa nx)) (hn : N+5≤16384) (hM : E.length+6≤32768) : Gk (IK N E nx g) N E A g nx:=by
 intro d f u nx' hd hnd hf hu huN hw hs' hm'
 obtain ⟨k,hk⟩:=hs'.lab hm'
 obtain ⟨q1,q2⟩:=DU h hnd hd hu hn hM hs'.fol
 have hgl:=hm.glen
 have hlen : (iT E N u).length=E.length+6:=by unfold iT; simp
 have hEe : ∃ F,iT E N u=E++F:=⟨_,rfl⟩
 have hod:=ay hd
 refine ⟨by omega,k,k,fun mx hmx=>?_,⟨fun z hz=>?_,fun z y hz hy=>?_⟩,fun z hz=>⟨[(z : Int)],?_,?_,by simp⟩⟩
 ·rw [jb hs'.rot hs'.fol hmx]
  exact hk
 ·exact hk.opp z (by rw [hlen]; omega)
 ·by_cases c : z=d
  ·subst c
   rw [hnd] at hy
   have : f=y:=by have:=Option.some.inj hy; omega
   subst this
   have hp:=hk.path hs'.nxOK q2 (rr hs'.nxOK q2 (by rw [hlen]; omega))
   have n:=fun (j : Nat)=>wv (g:=g) (d:=z) (j:=j) hgl
   have oe : ∀ j,oth (2 * E.length+2 * j)=2 * E.length+2 * j+1:=fun j=>by rw [show 2 * E.length+2 * j=2 * (E.length+j) by omega,dg]
   have x0 : oth (2 * E.length)=2 * E.length+1:=oe 0
   have x1 : oth (2 * E.length+1)=2 * E.length:=dw _
   have x2 : oth (2 * E.length+2)=2 * E.length+3:=oe 1
   have x4 : oth (2 * E.length+4)=2 * E.length+5:=oe 2
   have x6 : oth (2 * E.length+6)=2 * E.length+7:=oe 3
   have x8 : oth (2 * E.length+8)=2 * E.length+9:=oe 4
   have x10 : oth (2 * E.length+10)=2 * E.length+11:=oe 5
   have v0 : gN (bQ g z) (2 * E.length)=gN g (oth z) - 2:=n 0
   have v1 : gN (bQ g z) (2 * E.length+1)=1:=n 1
   have v3 : gN (bQ g z) (2 * E.length+3)=1:=n 3
   have v5 : gN (bQ g z) (2 * E.length+5)=1:=n 5
   have v7 : gN (bQ g z) (2 * E.length+7)=1:=n 7
   have v9 : gN (bQ g z) (2 * E.length+9)=1:=n 9
   have v11 : gN (bQ g z) (2 * E.length+11)=1:=n 11
   simp only [bd,b8,eT,x0,x1,x2,x4,x6,x8,x10,v0,v1,v3,v5,v7,v9,v11] at hp
   rw [sr hgl hd hod,if_pos rfl] at hp
   rw [eT]
   omega
  ·have:=hk.nxt z y (by rw [hlen]; omega) (by rw [q1 z hz c]; exact hy)
   rw [eT,sr hgl hd (ay hz),if_neg (fun e=>c (bZ e))] at this
   rw [eT]
   exact this
 ·obtain ⟨F,hF⟩:=hEe
  rw [hF]
  refine ⟨by rw [Int.toNat_natCast,iw hz],.inl ⟨rfl,?_⟩⟩
  unfold Vm.hd
  rw [Int.toNat_natCast,iw (ay hz)]
 ·intro x hx
  rw [List.mem_singleton] at hx
  exact ⟨z,hx,by rw [hlen]; omega,by omega⟩
end
end Go.Vm

