/-
 Directions.
-/
import Derived.Test.YtnnbdielbgljaaaDoorKH
set_option linter.unusedVariables false
set_option linter.unusedSimpArgs false
/-
 Directions of the darts of a plain shape: they exist, and an extension keeps them.
-/
namespace Go.Vm
open Go.Proofs
set_option maxRecDepth 100000
attribute [local irreducible] aa
structure Lab (E : List Arc) (nx g : List Int) (k : Nat→Int) : Prop where
 opp : ∀ d,d < 2 * E.length→(4 : Int)∣k (oth d) - k d - 2
 nxt : ∀ d y : Nat,d < 2 * E.length→nx[d]?=some (y : Int)→(4 : Int)∣k y - k d+tn g (d : Int)
theorem gx {g : List Int} {d : Nat} : tn g (d : Int)=2 - gN g (oth d):=by unfold tn; rw [Int.toNat_natCast]
section
variable {N : Nat} {E : List Arc} {A : List (List Int)} {nx nx' : List Int} {ps : List (List Int)} {g : List Int} {o : Nat} {k : Nat→Int}
theorem Lab.path (h : Lab E nx g k) (hN : jj nx (2 * E.length)) : ∀ {f : List Int} {x z : Nat},dm nx (x : Int) f (z : Int)→(∀ a∈f,∃ j : Nat,a=(j : Int)∧j < 2 * E.length)→(4 : Int)∣k z - k x+tsm g f
 | [],x,z,hp,_=>by
  have : (x : Int)=z:=hp
  have : x=z:=by omega
  subst this
  rw [dV]
  omega
 | a :: f,x,z,hp,hf=>by
  obtain ⟨rfl,y,hy,hp'⟩:=hp
  obtain ⟨j,e,hj⟩:=hf (x : Int) (by simp)
  have : j=x:=by omega
  subst this
  rw [Int.toNat_natCast] at hy
  obtain ⟨y',hy',e'⟩:=hN.2 j hj
  rw [hy] at e'
  have:=Option.some.inj e'
  subst this
  have h1:=h.nxt j y' hj hy
  have h2:=Lab.path h hN hp' (fun b hb=>hf b (by simp [hb]))
  rw [bP]
  omega
theorem Sys.nxOK (h : Sys N E A nx ps) : jj nx (2 * E.length):=by
 have:=Fol.nxOK h.rot h.fol
 rwa [h.fol.len] at this
def rs (k : Nat→Int) (e m d : Nat) : Int:=if d=2 * m then k (2 * e) else if d=2 * m+1 then k (2 * e+1) else k d
theorem iv {e m d : Nat} (hd : d < 2 * m) : rs k e m d=k d:=by
 unfold rs
 rw [if_neg (by omega),if_neg (by omega)]
theorem uM {e m : Nat} : rs k e m (2 * m)=k (2 * e):=by unfold rs; rw [if_pos rfl]
theorem tT {e m : Nat} : rs k e m (2 * m+1)=k (2 * e+1):=by unfold rs; rw [if_neg (by omega),if_pos rfl]
theorem vy {e m z : Nat} (hz : z < 2 * m) : ∃ y : Nat,eN ((2 * e+1 : Nat) : Int) ((2 * m+1 : Nat) : Int) (z : Int)=(y : Int)∧rs k e m y=k z:=by
 unfold eN
 by_cases c : z=2 * e+1
 ·rw [if_pos (by omega)]
  exact ⟨_,rfl,by rw [tT,c]⟩
 ·rw [if_neg (by omega)]
  exact ⟨_,rfl,iv hz⟩
theorem Lab.split {e x y : Nat} (h : Lab E nx g k) (hN : jj nx (2 * E.length)) (hn : Fol oth E A nx) (hgl : g.length=2 * E.length) (hs : SplitOK N E A e x y) (hn' : Fol oth (cB E N e x y) (jk A e E.length y) nx') : Lab (cB E N e x y) nx' (nC g e) (rs k e E.length):=by
 have he:=hs.he
 have hlen : (cB E N e x y).length=E.length+1:=ew
 obtain ⟨n0,n1,n2,n3⟩:=hs.next hn hn'
 have o1:=h.opp (2 * e) (by omega)
 rw [cK] at o1
 constructor
 ·intro d hd
  rw [hlen] at hd
  rcases Nat.lt_or_ge d (2 * E.length) with c | c
  ·rw [iv c,iv (bd c)]
   exact h.opp d c
  ·by_cases c2 : d=2 * E.length
   ·subst c2
    rw [cK,uM,tT]; exact o1
   ·have : d=2 * E.length+1:=by omega
    subst this
    rw [cJ,uM,tT]; omega
 ·intro d z hd hz
  rw [hlen] at hd
  rw [gx]
  by_cases c1 : d=2 * e
  ·subst c1
   rw [n0] at hz
   have : z=2 * E.length:=by have:=Option.some.inj hz; omega
   subst this
   rw [cK,cY hgl he (by omega),if_pos rfl,uM,iv (by omega)]
   omega
  ·by_cases c2 : d=2 * E.length+1
   ·subst c2
    rw [n1] at hz
    have : z=2 * e+1:=by have:=Option.some.inj hz; omega
    subst this
    rw [cJ,qD hgl,tT,iv (by omega)]
    omega
   ·by_cases c3 : d=2 * E.length
    ·subst c3
     obtain ⟨w,hw,e'⟩:=hN.2 (2 * e) (by omega)
     obtain ⟨v,v1,v2⟩:=vy (k:=k) (e:=e) hw
     rw [n2 _ e',v1] at hz
     have : v=z:=by have:=Option.some.inj hz; omega
     subst this
     have:=h.nxt (2 * e) w (by omega) e'
     rw [gx,cK] at this
     rw [v2,cK,pQ hgl,uM]
     exact this
    ·have hdl : d < 2 * E.length:=by omega
     obtain ⟨w,hw,e'⟩:=hN.2 d hdl
     obtain ⟨v,v1,v2⟩:=vy (k:=k) (e:=e) hw
     rw [n3 d hdl c1 _ e',v1] at hz
     have : v=z:=by have:=Option.some.inj hz; omega
     subst this
     have:=h.nxt d w hdl e'
     rw [gx] at this
     have hne : oth d≠2 * e+1:=fun e'=>c1 (ed (by rw [e',cK]))
     rw [v2,cY hgl he (bd hdl),if_neg hne,iv hdl]
     exact this
def vD (k : Nat→Int) (m : Nat) (κ : Int) (d : Nat) : Int:=if d=2 * m then κ else if d=2 * m+1 then κ+2 else k d
theorem fi {m d : Nat} {κ : Int} (hd : d < 2 * m) : vD k m κ d=k d:=by
 unfold vD
 rw [if_neg (by omega),if_neg (by omega)]
theorem tR {m : Nat} {κ : Int} : vD k m κ (2 * m)=κ:=by unfold vD; rw [if_pos rfl]
theorem ub {m : Nat} {κ : Int} : vD k m κ (2 * m+1)=κ+2:=by unfold vD; rw [if_neg (by omega),if_pos rfl]
theorem Lab.edge {d f a' b' u v : Nat} {α1 α2 β1 β2 κ : Int} (h : Lab E nx g k) (hinj : Inj nx) (hgl : g.length=2 * E.length) (hN : NextOK E nx nx' d f) (ha : a' < 2 * E.length) (hb : b' < 2 * E.length) (hab : a'≠b') (hna : nx[a']?=some (d : Int)) (hnb : nx[b']?=some (f : Int))
  (hα : gN g (oth a')=α1+α2) (hβ : gN g (oth b')=β1+β2) (hκ1 : (4 : Int)∣κ - k (oth a') - α1) (hκ2 : (4 : Int)∣κ+2 - k (oth b') - β1) (hO : jj nx (2 * E.length)) : Lab (E++[((u : Int),(v : Int),())]) nx' (kL g a' b' α1 α2 β1 β2) (vD k E.length κ):=by
 have hlen : (E++[((u : Int),(v : Int),())]).length=E.length+1:=by simp
 have oa:=h.opp a' ha
 have ob:=h.opp b' hb
 have old:=fun {k : Nat} (hk : k < 2 * E.length)=>wk (g:=g) (α1:=α1) (α2:=α2) (β1:=β1) (β2:=β2) hgl ha hb hk
 have q1:=h.nxt a' d ha hna
 have q2:=h.nxt b' f hb hnb
 have nat : ∀ {x y : Nat},x < 2 * E.length→nx[x]?=some (y : Int)→y < 2 * E.length:=fun {x y} hx hy=>by
  obtain ⟨z,hz,e⟩:=hO.2 x hx
  rw [hy] at e
  have:=Option.some.inj e
  omega
 have hdl:=nat ha hna
 have hfl:=nat hb hnb
 rw [gx,hα] at q1
 rw [gx,hβ] at q2
 constructor
 ·intro x hx
  rw [hlen] at hx
  rcases Nat.lt_or_ge x (2 * E.length) with c | c
  ·rw [fi c,fi (bd c)]
   exact h.opp x c
  ·by_cases c2 : x=2 * E.length
   ·subst c2
    rw [cK,tR,ub]; omega
   ·have : x=2 * E.length+1:=by omega
    subst this
    rw [cJ,tR,ub]; omega
 ·intro x z hx hz
  rw [hlen] at hx
  rw [gx]
  by_cases c1 : x=2 * E.length
  ·subst c1
   rw [hN.a] at hz
   have : f=z:=by have:=Option.some.inj hz; omega
   subst this
   rw [cK,s9 hgl,tR]
   have hf : f < 2 * E.length:=hfl
   rw [fi hf]
   omega
  ·by_cases c2 : x=2 * E.length+1
   ·subst c2
    rw [hN.b] at hz
    have : d=z:=by have:=Option.some.inj hz; omega
    subst this
    rw [cJ,s7 hgl,ub,fi hdl]
    omega
   ·have hxl : x < 2 * E.length:=by omega
    by_cases c3 : x=a'
    ·subst c3
     rw [(hN.old x hxl).1 hna] at hz
     have : z=2 * E.length:=by have:=Option.some.inj hz; omega
     subst this
     have hne : oth x≠oth b':=fun e=>hab (ed e)
     rw [tR,fi hxl,old (bd hxl),if_neg hne,if_pos rfl]
     omega
    ·by_cases c4 : x=b'
     ·subst c4
      rw [(hN.old x hxl).2.1 hnb] at hz
      have : z=2 * E.length+1:=by have:=Option.some.inj hz; omega
      subst this
      rw [ub,fi hxl,old (bd hxl),if_pos rfl]
      omega
     ·have h1 : nx[x]?≠some (d : Int):=fun e=>c3 (hinj _ _ _ e hna)
      have h2 : nx[x]?≠some (f : Int):=fun e=>c4 (hinj _ _ _ e hnb)
      rw [(hN.old x hxl).2.2 h1 h2] at hz
      have hzl:=nat hxl hz
      have:=h.nxt x z hxl hz
      rw [gx] at this
      rw [fi hxl,fi hzl,old (bd hxl),if_neg (fun e=>c4 (ed e)),if_neg (fun e=>c3 (ed e))]
      exact this
def exK (k : Nat→Int) (e m a' : Nat) : Nat→Int:=vD (rs k e m) (m+1) (rs k e m a')
theorem Sys.shape {B : List ByteArray} (h : Sys N E A nx ps) (hm : Met E A g o ps) (hB : B=emB E) : ShapeOK N E A g B (o : Int) nx∧Zbu ((((N : Int),E,A,()),g,B,(o : Int),()),())=some (0,())∧Zac ((((N : Int),E,A,()),g,B,(o : Int),()),())=some (0,()):=by
 subst hB
 obtain ⟨v1,v2⟩:=h.valids hm
 rcases pB (N : Int) E A g (emB E) (o : Int) h.rot.lists with ⟨h1,_⟩ | ⟨N',nx',_,_,e,h1,h2,h3,_⟩
 ·unfold emB at h1
  rw [v1] at h1
  simp at h1
 ·have : N'=N:=by omega
  subst this
  have:=va h.rot h.fol h1.folOK
  subst this
  exact ⟨h1,h2,h3⟩
end
end Go.Vm

