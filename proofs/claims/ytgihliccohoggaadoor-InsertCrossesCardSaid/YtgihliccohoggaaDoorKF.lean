/-
 A path across the edges of a route; the law on values.
-/
import Derived.Test.YtgihliccohoggaaDoorKE
import Derived.Test.YtgihliccohoggaaDoorKD
set_option linter.unusedVariables false
set_option linter.unusedSimpArgs false
namespace Go.Vm
open Go.Proofs
set_option maxRecDepth 100000
attribute [local irreducible] loopFix
def wayW (N0 s u v j : Nat) : Nat:=if j=0 then u else if j≤s then N0+j - 1 else v
def ThreeL (A : List (List Int)) (B : Nat) (lam : Nat→Nat) (w p c c' : Nat) : Prop :=
 ∃ a b : Nat,(A[w]?=some [(p : Int),(a : Int),(b : Int)]∨A[w]?=some [(b : Int),(p : Int),(a : Int)])∧a < B∧b < B∧lam a=c∧lam b=c'∧lam p=c
def FourL (A : List (List Int)) (B w p q : Nat) : Prop :=
 ∃ a b : Nat,(A[w]?=some [(p : Int),(a : Int),(q : Int),(b : Int)]∨A[w]?=some [(q : Int),(b : Int),(p : Int),(a : Int)])∧a < B∧b < B
section
variable {N : Nat} {E : List Arc} {A : List (List Int)} {d f u v : Nat} {lam : Nat→Nat}
theorem EdgeOK.keep (h : EdgeOK N E A d f u v) {w : Nat} (h1 : w≠u) (h2 : w≠v) : (insA A u v E.length d f)[w]?=A[w]?:=by
 have hal:=h.al
 rw [insA_get h.ne (by rw [hal]; exact h.un) (by rw [hal]; exact h.vn),if_neg h2,if_neg h1]
theorem EdgeOK.two (h : EdgeOK N E A d f u v) {w c c' B a b : Nat} (h1 : w≠u) (h2 : w≠v) (hB : B≤2 * E.length) (hl : TwoL A B lam w c c') : TwoL (insA A u v E.length d f) B (lamX lam E.length a b) w c c':=by
 obtain ⟨p,q,q1,q2,q3,q4⟩:=hl
 exact ⟨p,q,by rw [h.keep h1 h2]; exact q1,q2,q3,by rw [lamX_old (by omega),lamX_old (by omega)]; exact q4⟩
theorem EdgeOK.four (h : EdgeOK N E A d f u v) {w p q B : Nat} (h1 : w≠u) (h2 : w≠v) (hl : FourL A B w p q) : FourL (insA A u v E.length d f) B w p q:=by
 obtain ⟨a,b,q1,q2⟩:=hl
 exact ⟨a,b,by rw [h.keep h1 h2]; exact q1,q2⟩
theorem EdgeOK.tails (h : EdgeOK N E A d f u v) {k : Nat} (hk : k < 2 * (E.length+1)) : (k < 2 * E.length∧tl (E++[((u : Int),(v : Int),())]) k=tl E k)∨(k=2 * E.length∧tl (E++[((u : Int),(v : Int),())]) k=(u : Int))∨(k=2 * E.length+1∧tl (E++[((u : Int),(v : Int),())]) k=(v : Int)):=by
 by_cases c : k < 2 * E.length
 ·exact .inl ⟨c,tl_old c⟩
 ·by_cases c1 : k=2 * E.length
  ·subst c1; exact .inr (.inl ⟨rfl,tl_new0⟩)
  ·have : k=2 * E.length+1:=by omega
   subst this; exact .inr (.inr ⟨rfl,tl_new1⟩)
theorem EdgeOK.allL (h : EdgeOK N E A d f u v) {w a b : Nat} (h1 : w≠u) (h2 : w≠v) {P : Nat→Prop} (hl : AllL E lam w P) : AllL (E++[((u : Int),(v : Int),())]) (lamX lam E.length a b) w P:=by
 intro k hk ht
 rcases h.tails (k:=k) (by simpa using hk) with ⟨c,e⟩ | ⟨c,e⟩ | ⟨c,e⟩
 ·rw [lamX_old c]; exact hl k c (by rw [← e]; exact ht)
 ·rw [e] at ht; omega
 ·rw [e] at ht; omega
theorem EdgeOK.hasL (h : EdgeOK N E A d f u v) {w c a b : Nat} (hl : HasL E lam w c) : HasL (E++[((u : Int),(v : Int),())]) (lamX lam E.length a b) w c:=by
 obtain ⟨k,k1,k2,k3⟩:=hl
 exact ⟨k,by simp; omega,by rw [tl_old k1]; exact k2,by rw [lamX_old k1]; exact k3⟩
structure JnI (N0 M0 : Nat) (D F : Nat→Nat) (s u v : Nat) (g : Int) (t : Nat) (E : List Arc) (A : List (List Int)) (lam : Nat→Nat) : Prop where
 rot : RotOK ((N0+s : Nat) : Nat) E A
 len : E.length=M0+s+t
 lab : ∀ nx,Fol oth E A nx→LabS (2 * E.length) nx lam fun c=>D c+t≤s
 fu : t=0→AllL E lam u (fun c=>s≤D c)∧HasL E lam u (F 0)
 tv : t≤s→AllL E lam v (fun c=>D c=0)∧HasL E lam v (F s)
 todo : ∀ j,t≤j→j < s→TwoL A (2 * (M0+s)) lam (N0+j) (F j) (F (j+1))
 now : 1≤t→t≤s→ThreeL A (2 * (M0+s)) lam (N0+t - 1) (2 * (M0+s+t - 1)+1) (F (t - 1)) (F t)
 gen : ∀ nx,Fol oth E A nx→genZ (N0+s) E A (facesOf nx).length=g
 done : ∀ j,j+1 < t→FourL A (2 * (M0+s)) (N0+j) (2 * (M0+s+j)+1) (2 * (M0+s+j+1))
 arcs : ∀ j,j < t→E[M0+s+j]?=some ((wayW N0 s u v j : Int),(wayW N0 s u v (j+1) : Int),())
variable {N0 M0 s t : Nat} {D F : Nat→Nat} {g : Int}
theorem wayW_lt (hu : u < N0) (hv : v < N0) (j : Nat) : wayW N0 s u v j < N0+s:=by
 unfold wayW; split
 ·omega
 ·split <;> omega
theorem JnI.ends (h : JnI N0 M0 D F s u v g t E A lam) (ht : t≤s) (hD : ∀ i,i≤s→D (F i)=s - i) {nx : List Int} (hn : Fol oth E A nx) {d f : Nat} (hd : d < 2 * E.length) (hf : f < 2 * E.length) (td : tl E d=wayW N0 s u v t) (tf : tl E f=wayW N0 s u v (t+1)) (hs : SameF nx (2 * E.length) d f) :
  lam f=lam d∧D (lam d)+t=s∧(1≤t∨t < s→lam d=F t):=by
 have hDt:=hD t ht
 have at_ : ∀ {w : Nat} {l : List Int},A[w]?=some l→∀ {k : Nat},k < 2 * E.length→tl E k=w→(k : Int)∈l:=by
  intro w l g k hk e
  exact h.rot.around hk e g
 have fl : (t < s→lam f=F t∨lam f=F (t+1))∧(t=s→D (lam f)=0):=by
  constructor
  ·intro c
   obtain ⟨a,b,g,_,_,ab⟩:=h.todo t (Nat.le_refl _) c
   have e : wayW N0 s u v (t+1)=N0+t:=by unfold wayW; rw [if_neg (by omega),if_pos (by omega)]; omega
   rw [e] at tf
   have:=at_ g hf tf
   simp only [List.mem_cons,List.not_mem_nil,or_false] at this
   rcases this with c1 | c1
   ·have : f=a:=by omega
    subst this
    rcases ab with ⟨q,_⟩ | ⟨q,_⟩ <;> simp [q]
   ·have : f=b:=by omega
    subst this
    rcases ab with ⟨_,q⟩ | ⟨_,q⟩ <;> simp [q]
  ·intro c
   subst c
   have e : wayW N0 t u v (t+1)=v:=by unfold wayW; rw [if_neg (by omega),if_neg (by omega)]
   rw [e] at tf
   exact (h.tv (Nat.le_refl _)).1 f hf tf
 have live : D (lam f)+t≤s:=by
  rcases Nat.lt_or_ge t s with c | c
  ·rcases fl.1 c with e | e
   ·rw [e]; omega
   ·rw [e,hD (t+1) (by omega)]; omega
  ·have:=fl.2 (by omega); omega
 have same : lam d=lam f:=(h.lab nx hn).of hs (.inr live)
 have dl : (t=0→s≤D (lam d))∧(1≤t→lam d=F (t - 1)∨lam d=F t):=by
  constructor
  ·intro c
   subst c
   have e : wayW N0 s u v 0=u:=by unfold wayW; rw [if_pos rfl]
   rw [e] at td
   exact (h.fu rfl).1 d hd td
  ·intro c
   obtain ⟨a,b,g,_,_,q1,q2,q3⟩:=h.now c ht
   have e : wayW N0 s u v t=N0+t - 1:=by unfold wayW; rw [if_neg (by omega),if_pos ht]
   rw [e] at td
   rcases g with g | g
   ·have:=at_ g hd td
    simp only [List.mem_cons,List.not_mem_nil,or_false] at this
    rcases this with c1 | c1 | c1
    ·have : d=2 * (M0+s+t - 1)+1:=by omega
     rw [this]; exact .inl q3
    ·have : d=a:=by omega
     rw [this]; exact .inl q1
    ·have : d=b:=by omega
     rw [this]; exact .inr q2
   ·have:=at_ g hd td
    simp only [List.mem_cons,List.not_mem_nil,or_false] at this
    rcases this with c1 | c1 | c1
    ·have : d=b:=by omega
     rw [this]; exact .inr q2
    ·have : d=2 * (M0+s+t - 1)+1:=by omega
     rw [this]; exact .inl q3
    ·have : d=a:=by omega
     rw [this]; exact .inl q1
 have hval : D (lam d)+t=s:=by
  rw [← same] at live fl
  rcases Nat.eq_zero_or_pos t with c | c
  ·have:=dl.1 c; omega
  ·rcases dl.2 c with e | e
   ·rw [e,hD (t - 1) (by omega)] at live; omega
   ·rw [e]; omega
 refine ⟨same.symm,hval,fun hc=>?_⟩
 by_cases c : 1≤t
 ·rcases dl.2 c with e | e
  ·rw [e,hD (t - 1) (by omega)] at hval; omega
  ·exact e
 ·have c : t < s:=hc.elim (fun h=>absurd h c) id
  rcases fl.1 c with e | e
  ·rw [same,e]
  ·rw [same,e,hD (t+1) (by omega)] at hval; omega
theorem JnI.exist (h : JnI N0 M0 D F s u v g t E A lam) (ht : t≤s) (hD : ∀ i,i≤s→D (F i)=s - i) {nx : List Int} (hn : Fol oth E A nx) : ∃ k j,k < 2 * E.length∧tl E k=wayW N0 s u v t∧j < 2 * E.length∧tl E j=wayW N0 s u v (t+1)∧SameF nx (2 * E.length) k j:=by
 have hDt:=hD t ht
 have dart : ∀ {w : Nat} {l : List Int},A[w]?=some l→∀ {k : Nat},(k : Int)∈l→k < 2 * E.length∧tl E k=w:=by
  intro w l g k hk
  obtain ⟨k',e1,e2,e3⟩:=h.rot.dart w l g _ hk
  have : k=k':=by omega
  subst this
  exact ⟨e2,e3⟩
 have h1 : HasL E lam (wayW N0 s u v t) (F t):=by
  by_cases c : t=0
  ·subst c
   have e : wayW N0 s u v 0=u:=by unfold wayW; rw [if_pos rfl]
   rw [e]; exact (h.fu rfl).2
  ·obtain ⟨a,b,g,_,_,q1,q2,q3⟩:=h.now (by omega) ht
   have e : wayW N0 s u v t=N0+t - 1:=by unfold wayW; rw [if_neg c,if_pos ht]
   rw [e]
   rcases g with g | g
   ·obtain ⟨r1,r2⟩:=dart (k:=b) g (by simp)
    exact ⟨b,r1,r2,q2⟩
   ·obtain ⟨r1,r2⟩:=dart (k:=b) g (by simp)
    exact ⟨b,r1,r2,q2⟩
 have h2 : HasL E lam (wayW N0 s u v (t+1)) (F t):=by
  rcases Nat.lt_or_ge t s with c | c
  ·have e : wayW N0 s u v (t+1)=N0+t:=by unfold wayW; rw [if_neg (by omega),if_pos (by omega)]; omega
   rw [e]
   obtain ⟨a,b,g,_,_,ab⟩:=h.todo t (Nat.le_refl _) c
   rcases ab with ⟨q,_⟩ | ⟨_,q⟩
   ·obtain ⟨r1,r2⟩:=dart (k:=a) g (by simp)
    exact ⟨a,r1,r2,q⟩
   ·obtain ⟨r1,r2⟩:=dart (k:=b) g (by simp)
    exact ⟨b,r1,r2,q⟩
  ·have : t=s:=by omega
   subst this
   have e : wayW N0 t u v (t+1)=v:=by unfold wayW; rw [if_neg (by omega),if_neg (by omega)]
   rw [e]; exact (h.tv (Nat.le_refl _)).2
 obtain ⟨k,k1,k2,k3⟩:=h1
 obtain ⟨j,j1,j2,j3⟩:=h2
 exact ⟨k,j,k1,k2,j1,j2,(h.lab nx hn).same k j k1 j1 (by rw [k3,j3]) (by rw [k3]; omega)⟩
theorem JnI.next (h : JnI N0 M0 D F s u v g t E A lam) (ht : t≤s) (hD : ∀ i,i≤s→D (F i)=s - i) (hu : u < N0) (hv : v < N0) (huv : u≠v) {nx : List Int} (hn : Fol oth E A nx) {d f : Nat} (hs : SameF nx (2 * E.length) d f) (he : EdgeOK (N0+s) E A d f (wayW N0 s u v t) (wayW N0 s u v (t+1))) :
  JnI N0 M0 D F s u v g (t+1) (E++[((wayW N0 s u v t : Int),(wayW N0 s u v (t+1) : Int),())]) (insA A (wayW N0 s u v t) (wayW N0 s u v (t+1)) E.length d f) (lamX lam E.length (lam d) (lam d)):=by
 obtain ⟨e1,e2,e3⟩:=h.ends ht hD hn he.d2 he.f2 he.tu he.tv hs
 have hlen:=h.len
 have hal:=he.al
 have hd2:=he.d2
 have hf2:=he.f2
 have wt : ∀ j,1≤j→j≤s→wayW N0 s u v j=N0+j - 1:=fun j h1 h2=>by unfold wayW; rw [if_neg (by omega),if_pos h2]
 have w0 : wayW N0 s u v 0=u:=by unfold wayW; rw [if_pos rfl]
 have ws : wayW N0 s u v (s+1)=v:=by unfold wayW; rw [if_neg (by omega),if_neg (by omega)]
 have wne : ∀ i j,i≤s+1→j≤s+1→i≠j→wayW N0 s u v i≠wayW N0 s u v j:=by
  intro i j hi hj hij
  unfold wayW
  split <;> split <;> (try split) <;> (try split) <;> omega
 refine ⟨he.rot',by simp; omega,fun nx' hn'=>?_,fun c=>by omega,fun c=>?_,fun j h1 h2=>?_,fun h1 h2=>?_,fun nx' hn'=>?_,fun j hj=>?_,fun j hj=>?_⟩
 ·have : (E++[((wayW N0 s u v t : Int),(wayW N0 s u v (t+1) : Int),())]).length=E.length+1:=by simp
  rw [this]
  exact he.label hn hn' (h.lab nx hn) e1 (fun c hc=>by omega) (by omega)
 ·have n1 : v≠wayW N0 s u v t:=by
   have:=wne (s+1) t (by omega) (by omega) (by omega)
   rw [ws] at this; exact this
  have n2 : v≠wayW N0 s u v (t+1):=by
   have:=wne (s+1) (t+1) (by omega) (by omega) (by omega)
   rw [ws] at this; exact this
  obtain ⟨q1,q2⟩:=h.tv (by omega)
  exact ⟨he.allL n1 n2 q1,he.hasL q2⟩
 ·have ej:=wt (j+1) (by omega) (by omega)
  have n1:=wne (j+1) t (by omega) (by omega) (by omega)
  have n2:=wne (j+1) (t+1) (by omega) (by omega) (by omega)
  rw [ej] at n1 n2
  exact he.two (w:=N0+j) n1 n2 (by omega) (h.todo j (by omega) h2)
 ·-- the vertex that the edge comes to
  have hts : t < s:=by omega
  obtain ⟨a,b,g,a1,b1,ab⟩:=h.todo t (Nat.le_refl _) hts
  have ew:=wt (t+1) (by omega) (by omega)
  have ew2 : wayW N0 s u v (t+1)=N0+t:=by omega
  have hlam:=e3 (.inr hts)
  have hFne : F t≠F (t+1):=fun e=>by
   have q1:=hD t ht
   have q2:=hD (t+1) (by omega)
   rw [e] at q1
   omega
  have hfin : (f : Int)∈[(a : Int),(b : Int)]:=h.rot.around hf2 (by rw [he.tv,ew2]) g
  have gi:=insA_get (m:=E.length) (d:=(d : Int)) (f:=(f : Int)) he.ne (by rw [hal]; exact he.un) (by rw [hal]; exact he.vn) (N0+t)
  rw [if_pos ew2.symm] at gi
  have hs : subL A (wayW N0 s u v (t+1))=[(a : Int),(b : Int)]:=by
   rw [ew2,subL_eq (by rw [hal]; omega)]
   rw [List.getElem?_eq_getElem (by rw [hal]; omega)] at g
   exact Option.some.inj g
  rw [hs] at gi
  have hab : (a : Int)≠(b : Int):=by
   have:=h.rot.list_nodup (List.mem_of_getElem? g)
   simpa using this
  have ep : 2 * (M0+s+(t+1) - 1)+1=2 * E.length+1:=by omega
  have en : N0+(t+1) - 1=N0+t:=by omega
  rw [ep,en,show t+1 - 1=t by omega]
  simp only [List.mem_cons,List.not_mem_nil,or_false] at hfin
  rcases ab with ⟨q1,q2⟩ | ⟨q1,q2⟩
  ·have hfa : f=a:=by
    rcases hfin with c | c
    ·omega
    ·have : f=b:=by omega
     subst this
     rw [e1,hlam] at q2
     exact absurd q2 hFne
   subst hfa
   have:=bef_split ((2 * E.length+1 : Nat) : Int) (f : Int) [] [(b : Int)] (by simp) (by simpa using hab)
   rw [List.nil_append,List.nil_append] at this
   rw [this] at gi
   exact ⟨f,b,.inl gi,a1,b1,by rw [lamX_old hf2]; exact q1,by rw [lamX_old (by omega)]; exact q2,by rw [lamX_1]; exact hlam⟩
  ·have hfb : f=b:=by
    rcases hfin with c | c
    ·have : f=a:=by omega
     subst this
     rw [e1,hlam] at q1
     exact absurd q1 hFne
    ·omega
   subst hfb
   have:=bef_split ((2 * E.length+1 : Nat) : Int) (f : Int) [(a : Int)] [] (by simpa using Ne.symm hab) (by simp)
   simp only [List.cons_append,List.nil_append] at this
   rw [this] at gi
   exact ⟨f,a,.inr gi,b1,a1,by rw [lamX_old hf2]; exact q2,by rw [lamX_old (by omega)]; exact q1,by rw [lamX_1]; exact hlam⟩
 ·rw [← h.gen nx hn]
  exact he.genus hn hn'
 ·by_cases c : j+1=t
  ·-- the vertex that the edge goes from
   obtain ⟨a,b,g,a1,b1,q1,q2,q3⟩:=h.now (by omega) ht
   have ew:=wt t (by omega) ht
   have ew2 : wayW N0 s u v t=N0+j:=by omega
   have hlam:=e3 (.inl (by omega))
   have hFne : F (t - 1)≠F t:=fun e=>by have q1:=hD (t - 1) (by omega); have q2:=hD t ht; rw [e] at q1; omega
   have ej : N0+t - 1=N0+j:=by omega
   rw [ej] at g
   have hgl : N0+j < A.length:=by rw [hal]; omega
   have hs : some (subL A (wayW N0 s u v t))=A[N0+j]?:=by rw [ew2,subL_eq hgl,List.getElem?_eq_getElem hgl]
   have gi:=insA_get (m:=E.length) (d:=(d : Int)) (f:=(f : Int)) he.ne (by rw [hal]; exact he.un) (by rw [hal]; exact he.vn) (N0+j)
   rw [if_neg (by rw [← ew2]; exact he.ne),if_pos ew2.symm] at gi
   obtain ⟨p,hp⟩ : ∃ p,p=2 * (M0+s+t - 1)+1:=⟨_,rfl⟩
   have ep : 2 * (M0+s+j)+1=p:=by omega
   have eq : 2 * (M0+s+j+1)=2 * E.length:=by omega
   rw [← hp] at g q3
   rw [ep,eq]
   have nd:=h.rot.list_nodup (l:=subL A (wayW N0 s u v t)) (by rw [ew2,subL_eq hgl]; exact List.getElem_mem hgl)
   have hdin : (d : Int)∈subL A (wayW N0 s u v t):=he.mu
   rcases g with g | g
   ·rw [g] at hs
    have hs:=Option.some.inj hs
    rw [hs] at gi nd hdin
    have hdb : d=b:=by
     simp only [List.mem_cons,List.not_mem_nil,or_false] at hdin
     rcases hdin with c | c | c
     ·have : d=p:=by omega
      rw [this,q3] at hlam; exact absurd hlam hFne
     ·have : d=a:=by omega
      rw [this,q1] at hlam; exact absurd hlam hFne
     ·omega
    subst hdb
    have hn : (d : Int)∉[(p : Int),(a : Int)]:=by
     simp only [List.nodup_cons,List.mem_cons,List.not_mem_nil,or_false,not_or] at nd ⊢
     exact ⟨Ne.symm nd.1.2,Ne.symm nd.2.1⟩
    have:=bef_split ((2 * E.length : Nat) : Int) (d : Int) [(p : Int),(a : Int)] [] hn (by simp)
    simp only [List.cons_append,List.nil_append] at this
    rw [this] at gi
    exact ⟨a,d,.inl gi,a1,b1⟩
   ·rw [g] at hs
    have hs:=Option.some.inj hs
    rw [hs] at gi nd hdin
    have hdb : d=b:=by
     simp only [List.mem_cons,List.not_mem_nil,or_false] at hdin
     rcases hdin with c | c | c
     ·omega
     ·have : d=p:=by omega
      rw [this,q3] at hlam; exact absurd hlam hFne
     ·have : d=a:=by omega
      rw [this,q1] at hlam; exact absurd hlam hFne
    subst hdb
    have hn : (d : Int)∉[(p : Int),(a : Int)]:=by
     simp only [List.nodup_cons,List.mem_cons,List.not_mem_nil,or_false,not_or] at nd ⊢
     exact nd.1
    have:=bef_split ((2 * E.length : Nat) : Int) (d : Int) [] [(p : Int),(a : Int)] (by simp) hn
    simp only [List.nil_append] at this
    rw [this] at gi
    exact ⟨a,d,.inr gi,a1,b1⟩
  ·have ej:=wt (j+1) (by omega) (by omega)
   have n1:=wne (j+1) t (by omega) (by omega) c
   have n2:=wne (j+1) (t+1) (by omega) (by omega) (by omega)
   rw [ej] at n1 n2
   exact he.four (w:=N0+j) n1 n2 (h.done j (by omega))
 ·by_cases c : j=t
  ·subst c
   rw [← hlen,List.getElem?_append_right (Nat.le_refl _),Nat.sub_self]; rfl
  ·rw [List.getElem?_append_left (by omega)]
   exact h.arcs j (by omega)
end
end Go.Vm

namespace Go.Vm
open Go.Proofs
set_option maxRecDepth 100000
attribute [local irreducible] loopFix
theorem LabS.mono {L : Nat} {nx : List Int} {lam : Nat→Nat} {Lv Lv' : Nat→Prop} (h : LabS L nx lam Lv) (sub : ∀ c,Lv' c→Lv c) : LabS L nx lam Lv' where
 step:=fun k y hy hl=>h.step k y hy (hl.imp (sub _) (sub _))
 same:=fun a b ha hb hab hl=>h.same a b ha hb hab (sub _ hl)
section
variable {N0 M0 s u v : Nat} {fc D F : Nat→Nat} {g : Int}
theorem split_loops (hM : M0≤100) (hs : s≤300) (hu : u < N0) (hv : v < N0) (hN : N0≤16384) (l : List Int) (hl : l.length=s) (hF : ∀ i,i < s→∃ k,k < 2 * M0∧l[i]?=some ((k / 2 : Nat) : Int)∧fc k=F i∧fc (oth k)=F (i+1)) :
  ∀ (c i : Nat) (E : List Arc) (A : List (List Int)) (lam : Nat→Nat) (way : List Int),i+c=s→SpI N0 M0 fc D F s u v g i E A lam→way.length=i+1→(∀ j,j≤i→way[j]?=some (wayW N0 s u v j : Int)) →
  (∃ e,e≠0∧Zbr_L9 (0,l,((N0+i : Nat) : Int),E,A,way,(v : Int),((l.length : Nat) : Int),(i : Int),())=some (.inl (0,0,e,())) ∧
   Zal_L9 (0,l,way,((N0+i : Nat) : Int),E,A,(v : Int),(i : Int),())=some (.inl (0,0,e,()))) ∨
  ∃ E' A' lam' way',SpI N0 M0 fc D F s u v g s E' A' lam'∧way'.length=s+1∧(∀ j,j≤s→way'[j]?=some (wayW N0 s u v j : Int)) ∧
   Zbr_L9 (0,l,((N0+i : Nat) : Int),E,A,way,(v : Int),((l.length : Nat) : Int),(i : Int),())=some (.inr (.inl (0,l,((N0+s : Nat) : Int),E',A',way',(v : Int),()))) ∧
   Zal_L9 (0,l,way,((N0+i : Nat) : Int),E,A,(v : Int),(i : Int),())=some (.inr (.inl (0,l,way',((N0+s : Nat) : Int),E',A',(v : Int),())))
 | 0,i,E,A,lam,way,hi,h,wl,hw=>by
  have : i=s:=by omega
  subst this
  refine .inr ⟨E,A,lam,way,h,wl,hw,loop_done ?_,loop_done ?_⟩
  ·unfold Zbr_B9
   simp only
   rw [ltI_f (by omega)]; rfl
  ·unfold Zal_B9
   simp only
   rw [ltI_f (by omega)]; rfl
 | c+1,i,E,A,lam,way,hi,h,wl,hw=>by
  obtain ⟨k,k1,k2,k3,k4⟩:=hF i (by omega)
  have hil : i < l.length:=by omega
  have happ : app way [((N0+i : Nat) : Int)]=some (way++[((N0+i : Nat) : Int)]):=app_of (by simp; omega)
  rcases split33 ((N0+i : Nat) : Int) E A ((k / 2 : Nat) : Int) h.rot.lists with ⟨e,he,s1,s2⟩ | ⟨n',e',x,y,en,ee,hok,s1,s2⟩
  ·refine .inl ⟨e,he,loop_done ?_,loop_done ?_⟩
   ·unfold Zbr_B9
    simp only
    rw [ltI_t (by omega),cond_true,idxI_of hil,Option.bind_some,k2,Option.bind_some,happ,Option.bind_some,s1,Option.bind_some]
    simp only
    rw [neI_t he]; rfl
   ·unfold Zal_B9
    simp only
    rw [ltI_t (by omega),cond_true,happ,Option.bind_some,idxI_of hil,Option.bind_some,k2,Option.bind_some,s2,Option.bind_some]
    simp only
    rw [neI_t he]; rfl
  ·have en2 : n'=N0+i:=by omega
   have ee2 : e'=k / 2:=by omega
   subst en2; subst ee2
   have hnext:=h.split (by omega) k1 hok k3 k4 hu hv
   have hwi : wayW N0 s u v (i+1)=N0+i:=by unfold wayW; rw [if_neg (by omega),if_pos (by omega)]; omega
   have st1 : Zbr_B9 (0,l,((N0+i : Nat) : Int),E,A,way,(v : Int),((l.length : Nat) : Int),(i : Int),())=some (.inl (0,l,((N0+(i+1) : Nat) : Int),splE E (N0+i) (k / 2) x y,splA A (k / 2) E.length y,way++[((N0+i : Nat) : Int)],(v : Int),((l.length : Nat) : Int),((i+1 : Nat) : Int),())):=by
    unfold Zbr_B9
    simp only
    rw [ltI_t (by omega),cond_true,idxI_of hil,Option.bind_some,k2,Option.bind_some,happ,Option.bind_some,s1,Option.bind_some]
    simp only
    rw [neI_f rfl,cond_false,add1 (by omega)]; rfl
   have st2 : Zal_B9 (0,l,way,((N0+i : Nat) : Int),E,A,(v : Int),(i : Int),())=some (.inl (0,l,way++[((N0+i : Nat) : Int)],((N0+(i+1) : Nat) : Int),splE E (N0+i) (k / 2) x y,splA A (k / 2) E.length y,(v : Int),((i+1 : Nat) : Int),())):=by
    unfold Zal_B9
    simp only
    rw [ltI_t (by omega),cond_true,happ,Option.bind_some,idxI_of hil,Option.bind_some,k2,Option.bind_some,s2,Option.bind_some]
    simp only
    rw [neI_f rfl,cond_false,add1 (by omega)]; rfl
   have q1 : Zbr_L9 _=Zbr_L9 _:=loop_step st1
   have q2 : Zal_L9 _=Zal_L9 _:=loop_step st2
   rw [q1,q2]
   refine split_loops hM hs hu hv hN l hl hF c (i+1) _ _ _ _ (by omega) hnext (by simp; omega) ?_
   intro j hj
   by_cases c : j≤i
   ·rw [List.getElem?_append_left (by omega)]; exact hw j c
   ·have : j=i+1:=by omega
    subst this
    rw [List.getElem?_append_right (by omega),wl,Nat.sub_self,hwi]; rfl
theorem join_loops (hM : M0≤100) (hs : s≤300) (hu : u < N0) (hv : v < N0) (huv : u≠v) (l way : List Int) (hD : ∀ i,i≤s→D (F i)=s - i) (wl : way.length=s+2) (hw : ∀ j,j≤s+1→way[j]?=some (wayW N0 s u v j : Int)) :
  ∀ (c t : Nat) (E : List Arc) (A : List (List Int)) (lam : Nat→Nat) (add : List Int),t+c=s+1→JnI N0 M0 D F s u v g t E A lam→add.length=t→(∀ j,j < t→add[j]?=some ((2 * (M0+s+j) : Nat) : Int)) →
  (∃ e,e≠0∧Zbr_L19 (0,l,((N0+s : Nat) : Int),E,A,way,add,((t+1 : Nat) : Int),())=some (.inl (0,0,e,())) ∧
   Zal_L19 (0,l,way,((N0+s : Nat) : Int),E,A,add,((t+1 : Nat) : Int),())=some (.inl (0,0,e,()))) ∨
  ∃ E' A' lam' add',JnI N0 M0 D F s u v g (s+1) E' A' lam'∧add'.length=s+1∧(∀ j,j < s+1→add'[j]?=some ((2 * (M0+s+j) : Nat) : Int)) ∧
   Zbr_L19 (0,l,((N0+s : Nat) : Int),E,A,way,add,((t+1 : Nat) : Int),())=some (.inr (.inl (0,l,((N0+s : Nat) : Int),E',A',add',()))) ∧
   Zal_L19 (0,l,way,((N0+s : Nat) : Int),E,A,add,((t+1 : Nat) : Int),())=some (.inr (.inl (0,l,((N0+s : Nat) : Int),E',A',add',())))
 | 0,t,E,A,lam,add,ht,h,al,ha=>by
  have : t=s+1:=by omega
  subst this
  refine .inr ⟨E,A,lam,add,h,al,ha,loop_done ?_,loop_done ?_⟩
  ·unfold Zbr_B19
   simp only
   rw [ltI_f (by omega)]; rfl
  ·unfold Zal_B19
   simp only
   rw [ltI_f (by omega)]; rfl
 | c+1,t,E,A,lam,add,ht,h,al,ha=>by
  have hlen:=h.len
  have hts : t≤s:=by omega
  obtain ⟨fs,hfs,r1,r2,nx,hn,rfl,hnx⟩:=faces32 h.rot (h.rot.validB) h.rot.lists
  obtain ⟨d,f,d1,d2,f1,f2,hsame,hp,hj⟩:=join_both h.rot hn (by omega) (wayW_lt (s:=s) hu hv t) (wayW_lt (s:=s) hu hv (t+1)) (h.exist hts hD hn)
  have e2 : mulI .i64 2 (E.length : Nat)=((2 * E.length : Nat) : Int):=by rw [mulI64 (by omega) (by omega)]; omega
  have e3 : subI .i64 ((t+1 : Nat) : Int) 1=(t : Int):=by rw [subI64 (by omega) (by omega)]; omega
  have happ : app add [((2 * E.length : Nat) : Int)]=some (add++[((2 * E.length : Nat) : Int)]):=app_of (by simp; omega)
  have w1:=hw t (by omega)
  have w2:=hw (t+1) (by omega)
  rcases edge33 ((N0+s : Nat) : Int) E A (d : Int) (f : Int) h.rot.lists with ⟨e,he,s1,s2⟩ | ⟨n',d',f',u',v',en,ed,ef,hok,s1,s2⟩
  ·refine .inl ⟨e,he,loop_done ?_,loop_done ?_⟩
   ·unfold Zbr_B19
    simp only
    rw [ltI_t (by omega),cond_true,e2,happ,Option.bind_some,e3,idxI_of (by omega),Option.bind_some,w1,Option.bind_some,idxI_of (by omega),Option.bind_some,w2,Option.bind_some,hj,s1]
    simp only [Option.bind_some]
    rw [neI_t he]; rfl
   ·unfold Zal_B19
    simp only
    rw [ltI_t (by omega),cond_true,e3,idxI_of (by omega),Option.bind_some,w1,Option.bind_some,idxI_of (by omega),Option.bind_some,w2,Option.bind_some,hp,Option.bind_some,e2,happ,Option.bind_some]
    simp only
    rw [s2,Option.bind_some]
    simp only
    rw [neI_t he]; rfl
  ·have en2 : n'=N0+s:=by omega
   have ed2 : d'=d:=by omega
   have ef2 : f'=f:=by omega
   subst en2; subst ed2; subst ef2
   have eu : u'=wayW N0 s u v t:=by have:=hok.tu; omega
   have ev : v'=wayW N0 s u v (t+1):=by have:=hok.tv; omega
   subst eu; subst ev
   have hnext:=h.next hts hD hu hv huv hn hsame hok
   have st1 : Zbr_B19 (0,l,((N0+s : Nat) : Int),E,A,way,add,((t+1 : Nat) : Int),())=some (.inl (0,l,((N0+s : Nat) : Int),E++[((wayW N0 s u v t : Int),(wayW N0 s u v (t+1) : Int),())],insA A (wayW N0 s u v t) (wayW N0 s u v (t+1)) E.length d' f',way,add++[((2 * E.length : Nat) : Int)],((t+1+1 : Nat) : Int),())):=by
    unfold Zbr_B19
    simp only
    rw [ltI_t (by omega),cond_true,e2,happ,Option.bind_some,e3,idxI_of (by omega),Option.bind_some,w1,Option.bind_some,idxI_of (by omega),Option.bind_some,w2,Option.bind_some,hj,s1]
    simp only [Option.bind_some]
    rw [neI_f rfl,cond_false,add1 (by omega)]
   have st2 : Zal_B19 (0,l,way,((N0+s : Nat) : Int),E,A,add,((t+1 : Nat) : Int),())=some (.inl (0,l,way,((N0+s : Nat) : Int),E++[((wayW N0 s u v t : Int),(wayW N0 s u v (t+1) : Int),())],insA A (wayW N0 s u v t) (wayW N0 s u v (t+1)) E.length d' f',add++[((2 * E.length : Nat) : Int)],((t+1+1 : Nat) : Int),())):=by
    unfold Zal_B19
    simp only
    rw [ltI_t (by omega),cond_true,e3,idxI_of (by omega),Option.bind_some,w1,Option.bind_some,idxI_of (by omega),Option.bind_some,w2,Option.bind_some,hp,Option.bind_some,e2,happ,Option.bind_some]
    simp only
    rw [s2,Option.bind_some]
    simp only
    rw [neI_f rfl,cond_false,add1 (by omega)]
   have q1 : Zbr_L19 _=Zbr_L19 _:=loop_step st1
   have q2 : Zal_L19 _=Zal_L19 _:=loop_step st2
   rw [q1,q2]
   refine join_loops hM hs hu hv huv l way hD wl hw c (t+1) _ _ _ _ (by omega) hnext (by simp; omega) ?_
   intro j hj
   by_cases c : j < t
   ·rw [List.getElem?_append_left (by omega)]; exact ha j c
   ·have : j=t:=by omega
    subst this
    rw [List.getElem?_append_right (by omega),al,Nat.sub_self,hlen]; rfl
end
end Go.Vm

namespace Go.Vm
open Go.Proofs
set_option maxRecDepth 100000
attribute [local irreducible] loopFix
theorem reach_nil {u v : Nat} (h : Reach [] u v) : u=v:=by
 induction h with
 | refl=>rfl
 | step _ h _ _=>simp at h
section
variable {N : Nat} {E : List Arc} {A : List (List Int)} {nx m : List Int} {n : Nat}
theorem Pla.spI (p : Pla N E A nx m n) {u v s : Nat} {lu lv l : List Int} {D : Nat→Nat} (hu : A[u]?=some lu) (hv : A[v]?=some lv) (huN : u < N) (hvN : v < N) (huv : u≠v) (r : RouteOf E m n lu lv D s l) :
  ∃ F : Nat→Nat,(∀ i,i≤s→D (F i)=s - i)∧(∀ i,i < s→∃ k,k < 2 * E.length∧l[i]?=some ((k / 2 : Nat) : Int)∧fcM m k=F i∧fcM m (oth k)=F (i+1)) ∧
   SpI N E.length (fcM m) D F s u v (genZ N E A (facesOf nx).length) 0 E A (fcM m):=by
 obtain ⟨r1,r2,r3,r4⟩:=r
 obtain ⟨f0,f01,f02,f03⟩:=r2
 obtain ⟨F,F0,hD,hF⟩:=r4.faces ⟨f0,f01,f03⟩
 have hE : E≠[]:=by
  intro e
  have h1:=p.conn u huN
  have h2:=p.conn v hvN
  rw [e] at h1 h2
  exact huv ((reach_nil h1).symm.trans (reach_nil h2))
 have hlu:=List.mem_of_getElem? hu
 have hlv:=List.mem_of_getElem? hv
 have gu:=p.goals hlu
 have gv:=p.goals hlv
 have tail : ∀ {w : Nat} {l : List Int},A[w]?=some l→∀ {k : Nat},(k : Int)∈l→k < 2 * E.length∧tl E k=w:=by
  intro w l g k hk
  obtain ⟨k',e1,e2,e3⟩:=p.rot.dart w l g _ hk
  have : k=k':=by omega
  subst this
  exact ⟨e2,e3⟩
 have has : ∀ {w c : Nat} {l : List Int},A[w]?=some l→((c : Int)∈aroundL m l)→HasL E (fcM m) w c:=by
  intro w c l g hc
  rcases (p.goals (List.mem_of_getElem? g) _).1 hc with ⟨e,_⟩ | ⟨k,k1,k2,k3⟩
  ·exact absurd e hE
  ·exact ⟨k,k3,(tail g k1).2,by omega⟩
 have inn : ∀ {w : Nat} {l : List Int},A[w]?=some l→∀ k,k < 2 * E.length→tl E k=(w : Int)→((fcM m k : Nat) : Int)∈aroundL m l:=by
  intro w l g k hk ht
  exact (p.goals (List.mem_of_getElem? g) _).2 (.inr ⟨k,p.rot.around hk ht g,rfl,hk⟩)
 have hFn : ∀ i,i≤s→F i < n:=by
  intro i hi
  cases i with
  | zero =>
   obtain ⟨q,e,hq⟩:=p.goals_nat hlu _ F0
   omega
  | succ i =>
   obtain ⟨k,k1,_,_,k4⟩:=hF i (by omega)
   rw [← k4]
   exact p.fc.lt _ (oth_lt k1)
 refine ⟨F,hD,hF,⟨p.rot,rfl,fun nx' hn'=>?_,fun _ _=>rfl,fun k hk ht=>r3 _ (inn hu k hk ht),has hu F0,fun k hk ht=>?_,?_,fun nx' hn'=>?_,fun j hj=>by omega⟩⟩
 ·have e:=fol_uniq p.rot p.fol hn'
  subst e
  refine ⟨fun k y hy _=>p.next (next_tail p.rot p.fol hy).1 hy,fun a b ha hb hab _=>?_⟩
  obtain ⟨x,y,x1,y1,xy⟩:=sameF_marks p.rot p.fol ha hb
  refine xy.1 ?_
  rw [← p.m,(p.mark ha).1] at x1
  rw [← p.m,(p.mark hb).1] at y1
  have q1:=Option.some.inj x1
  have q2:=Option.some.inj y1
  omega
 ·have hin:=inn hv k hk ht
  exact (r1 _ (p.fc.lt k hk)).uniq ⟨hin,fun t ht=>by omega⟩
 ·have h1:=(r1 _ (hFn s (Nat.le_refl _))).1
  rw [hD s (Nat.le_refl _),Nat.sub_self] at h1
  exact has hv h1
 ·have e:=fol_uniq p.rot p.fol hn'
  subst e; rfl
end
theorem path33 (N : Int) (E : List Arc) (A : List (List Int)) (u v : Int) (hE : E.length≤100) (hl : ∀ l∈A,l.length≤100) :
  (∃ e,e≠0∧Zbr ((N,E,A,()),u,v,())=some ((0,[],[],()),[],0,e,())∧Zal ((N,E,A,()),u,v,())=some ((0,[],[],()),[],0,e,())) ∨
  ∃ (N0 a b s n : Nat) (nx m l : List Int) (D F : Nat→Nat) (E' : List Arc) (A' : List (List Int)) (lam : Nat→Nat) (add lu lv : List Int),N=(N0 : Int)∧u=(a : Int)∧v=(b : Int)∧a < N0∧b < N0∧a≠b∧Pla N0 E A nx m n∧A[a]?=some lu∧A[b]?=some lv∧RouteOf E m n lu lv D s l∧l.length=s∧s≤300 ∧
   Zbt ((N,E,A,()),())=some (0,())∧Zbu ((N,E,A,()),u,v,())=some (l,0,())∧Zac ((N,E,A,()),u,v,())=some (l,0,()) ∧
   JnI N0 E.length D F s a b (genZ N0 E A (facesOf nx).length) (s+1) E' A' lam∧add.length=s+1∧(∀ j,j < s+1→add[j]?=some ((2 * (E.length+s+j) : Nat) : Int)) ∧
   Zbr ((N,E,A,()),u,v,())=some ((((N0+s : Nat) : Int),E',A',()),add,(s : Int),0,())∧Zal ((N,E,A,()),u,v,())=some ((((N0+s : Nat) : Int),E',A',()),add,(s : Int),0,()):=by
 have bad : ∀ l e,e≠0→Zbu ((N,E,A,()),u,v,())=some (l,e,())→Zac ((N,E,A,()),u,v,())=some (l,e,()) →
   Zbr ((N,E,A,()),u,v,())=some ((0,[],[],()),[],0,e,())∧Zal ((N,E,A,()),u,v,())=some ((0,[],[],()),[],0,e,()):=by
  intro l e he r1 r2
  unfold Zbr Zal
  simp only
  rw [r1,r2,Option.bind_some,Option.bind_some]
  simp only
  rw [neI_t he]
  exact ⟨rfl,rfl⟩
 by_cases huv : u=v
 ·obtain ⟨l,e,r1,r2,_⟩:=routes32 N E A u v hE hl
  by_cases he : e=0
  ·subst he
   refine .inl ⟨8,by decide,?_,?_⟩
   ·unfold Zbr
    simp only
    rw [r1,Option.bind_some]
    simp only
    rw [neI_f rfl,cond_false,eqI_t huv]; rfl
   ·unfold Zal
    simp only
    rw [r2,Option.bind_some]
    simp only
    rw [neI_f rfl,cond_false,eqI_t huv]; rfl
  ·exact .inl ⟨e,he,bad l e he r1 r2⟩
 rcases cases32 N E A hE hl with ⟨e,he,c1,b1⟩ | ⟨k,nx,m,n,rfl,hvv,hk0,p,c1,k1,hm,_,b1⟩
 ·refine .inl ⟨e,he,bad [] e he ?_ ?_⟩
  ·unfold Zbu
   simp only
   rw [c1,Option.bind_some]
   simp only
   rw [neI_t he]; rfl
  ·unfold Zac
   simp only
   rw [b1,Option.bind_some]
   simp only
   rw [neI_t he]; rfl
 ·by_cases hr : 0≤u∧u < k∧0≤v∧v < k
  ·obtain ⟨h1,h2,h3,h4⟩:=hr
   obtain ⟨a,rfl⟩ : ∃ i : Nat,u=(i : Int):=⟨u.toNat,by omega⟩
   obtain ⟨b,rfl⟩ : ∃ i : Nat,v=(i : Int):=⟨v.toNat,by omega⟩
   obtain ⟨lu,u1,u2⟩:=p.get (v:=a) (by omega)
   obtain ⟨lv,v1,v2⟩:=p.get (v:=b) (by omega)
   obtain ⟨D,s,l,r1,r2⟩:=p.route c1 k1 u1 v1 (by omega) (hl _ u2) (hl _ v2)
   have r3:=p.rroute hm b1 u1 v1 (by omega) (hl _ u2) (hl _ v2) r1
   have hls:=r1.2.2.2.len
   have hs : s≤300:=by
    obtain ⟨f,_,f2,f3⟩:=r1.2.1
    have:=(r1.1 f f2).lt (p.goal_lt v2) (fun f g=>by rintro ⟨k,hk,rfl,_⟩; exact p.fc.lt k hk)
    have:=p.small
    omega
   have ha : a < k:=by omega
   have hb : b < k:=by omega
   have hab : a≠b:=by omega
   obtain ⟨F,hD,hF,hsp⟩:=p.spI u1 v1 ha hb hab r1
   have hk16:=p.rot.n16
   have w0 : ∀ j,j≤0→[(a : Int)][j]?=some (wayW k s a b j : Int):=by
    intro j hj
    have : j=0:=by omega
    subst this
    unfold wayW; rw [if_pos rfl]; rfl
   rcases split_loops hE hs ha hb hk16 l hls hF s 0 E A (fcM m) [(a : Int)] (by omega) hsp rfl w0 with ⟨e,he,q1,q2⟩ | ⟨E1,A1,lam1,way,h1,wl,ww,q1,q2⟩
   ·refine .inl ⟨e,he,?_,?_⟩
    ·unfold Zbr
     simp only
     rw [r2,Option.bind_some]
     simp only
     rw [neI_f rfl,cond_false,eqI_f huv,cond_false]
     have q1 : Zbr_L9 (0,l,(k : Int),E,A,[(a : Int)],(b : Int),((l.length : Nat) : Int),0,())=some (.inl (0,0,e,())):=q1
     rw [q1]; rfl
    ·unfold Zal
     simp only
     rw [r3,Option.bind_some]
     simp only
     rw [neI_f rfl,cond_false,eqI_f huv,cond_false]
     have q2 : Zal_L9 (0,l,[(a : Int)],(k : Int),E,A,(b : Int),0,())=some (.inl (0,0,e,())):=q2
     rw [q2]; rfl
   ·have happ : app way [(b : Int)]=some (way++[(b : Int)]):=app_of (by simp; omega)
    have hl1:=h1.len
    have hj : JnI k E.length D F s a b (genZ k E A (facesOf nx).length) 0 E1 A1 lam1:=⟨h1.rot,hl1,fun mx hn=>(h1.lab mx hn).mono fun _ _=>trivial,fun _=>⟨h1.uD,h1.u0⟩,fun _=>⟨h1.vD,h1.vs⟩,fun j _ hj=>h1.two j hj,fun h=>by omega,h1.gen,fun j hj=>by omega,fun j hj=>by omega⟩
    have ww2 : ∀ j,j≤s+1→(way++[(b : Int)])[j]?=some (wayW k s a b j : Int):=by
     intro j hj
     by_cases c : j≤s
     ·rw [List.getElem?_append_left (by omega)]; exact ww j c
     ·have : j=s+1:=by omega
      subst this
      rw [List.getElem?_append_right (by omega),wl,Nat.sub_self]
      unfold wayW; rw [if_neg (by omega),if_neg (by omega)]; rfl
    rcases join_loops hE hs ha hb hab l (way++[(b : Int)]) hD (by simp; omega) ww2 (s+1) 0 E1 A1 lam1 [] (by omega) hj rfl (fun j hj=>by omega) with ⟨e,he,z1,z2⟩ | ⟨E2,A2,lam2,add,h2,al,aa,z1,z2⟩
    ·refine .inl ⟨e,he,?_,?_⟩
     ·unfold Zbr
      simp only
      rw [r2,Option.bind_some]
      simp only
      rw [neI_f rfl,cond_false,eqI_f huv,cond_false]
      have q1 : Zbr_L9 (0,l,(k : Int),E,A,[(a : Int)],(b : Int),((l.length : Nat) : Int),0,())=_:=q1
      rw [q1]
      simp only [Option.bind_some,Sum.elim_inr,Sum.elim_inl]
      rw [happ,Option.bind_some]
      have z1 : Zbr_L19 (0,l,((k+s : Nat) : Int),E1,A1,way++[(b : Int)],[],1,())=_:=z1
      rw [z1]; rfl
     ·unfold Zal
      simp only
      rw [r3,Option.bind_some]
      simp only
      rw [neI_f rfl,cond_false,eqI_f huv,cond_false]
      have q2 : Zal_L9 (0,l,[(a : Int)],(k : Int),E,A,(b : Int),0,())=_:=q2
      rw [q2]
      simp only [Option.bind_some,Sum.elim_inr,Sum.elim_inl]
      rw [happ,Option.bind_some]
      have z2 : Zal_L19 (0,l,way++[(b : Int)],((k+s : Nat) : Int),E1,A1,[],1,())=_:=z2
      rw [z2]; rfl
    ·refine .inr ⟨k,a,b,s,n,nx,m,l,D,F,E2,A2,lam2,add,lu,lv,rfl,rfl,rfl,ha,hb,hab,p,u1,v1,r1,hls,hs,c1,r2,r3,h2,al,aa,?_,?_⟩
     ·unfold Zbr
      simp only
      rw [r2,Option.bind_some]
      simp only
      rw [neI_f rfl,cond_false,eqI_f huv,cond_false]
      have q1 : Zbr_L9 (0,l,(k : Int),E,A,[(a : Int)],(b : Int),((l.length : Nat) : Int),0,())=_:=q1
      rw [q1]
      simp only [Option.bind_some,Sum.elim_inr,Sum.elim_inl]
      rw [happ,Option.bind_some]
      have z1 : Zbr_L19 (0,l,((k+s : Nat) : Int),E1,A1,way++[(b : Int)],[],1,())=_:=z1
      rw [z1]
      simp only [Option.bind_some,Sum.elim_inr,Sum.elim_inl]
      rw [hls]
     ·unfold Zal
      simp only
      rw [r3,Option.bind_some]
      simp only
      rw [neI_f rfl,cond_false,eqI_f huv,cond_false]
      have q2 : Zal_L9 (0,l,[(a : Int)],(k : Int),E,A,(b : Int),0,())=_:=q2
      rw [q2]
      simp only [Option.bind_some,Sum.elim_inr,Sum.elim_inl]
      rw [happ,Option.bind_some]
      have z2 : Zal_L19 (0,l,way++[(b : Int)],((k+s : Nat) : Int),E1,A1,[],1,())=_:=z2
      rw [z2]
      simp only [Option.bind_some,Sum.elim_inr,Sum.elim_inl]
      rw [hls]
  ·have key : ∃ e,e≠0∧Zbu (((k : Int),E,A,()),u,v,())=some ([],e,())∧Zac (((k : Int),E,A,()),u,v,())=some ([],e,()):=by
    unfold Zbu Zac
    simp only
    rw [c1,b1,Option.bind_some,Option.bind_some]
    simp only
    rw [neI_f rfl,cond_false,cond_false]
    by_cases h1 : u < 0
    ·rw [ltI_t h1]; exact ⟨3,by decide,rfl,rfl⟩
    ·rw [ltI_f (by omega),cond_false,cond_false]
     by_cases h2 : (k : Int)≤u
     ·rw [geI_t h2]; exact ⟨3,by decide,rfl,rfl⟩
     ·rw [geI_f (by omega),cond_false,cond_false]
      by_cases h3 : v < 0
      ·rw [ltI_t h3]; exact ⟨3,by decide,rfl,rfl⟩
      ·rw [ltI_f (by omega),cond_false,cond_false]
       by_cases h4 : (k : Int)≤v
       ·rw [geI_t h4]; exact ⟨3,by decide,rfl,rfl⟩
       ·exact absurd ⟨by omega,by omega,by omega,by omega⟩ hr
   obtain ⟨e,he,e1,e2⟩:=key
   exact .inl ⟨e,he,bad [] e he e1 e2⟩
end Go.Vm

namespace Go.Vm
open Go.Proofs
set_option maxRecDepth 100000
theorem awake33_true : Zz ()=some (true,()):=by kernel_rfl
attribute [local irreducible] loopFix
theorem small33 (N : Int) (E : List Arc) (A : List (List Int)) (n m : Int) : ∃ b,Zad ((N,E,A,()),n,m,())=some (b,())∧(b=true→N≤n∧(E.length : Int)≤m∧A.length≤50):=by
 unfold Zad
 dsimp only
 by_cases h1 : N≤n
 ·rw [leI_t h1,cond_true]
  by_cases h2 : (E.length : Int)≤m
  ·rw [leI_t h2,cond_true]
   refine ⟨_,rfl,fun h=>⟨h1,h2,?_⟩⟩
   simp [leI] at h; omega
  ·have : leI (E.length : Nat) m=false:=by simp [leI]; omega
   rw [this]; exact ⟨false,rfl,by simp⟩
 ·have : leI N n=false:=by simp [leI]; omega
  rw [this]; exact ⟨false,rfl,by simp⟩
end Go.Vm

namespace Go.Vm
open Go.Proofs
set_option maxRecDepth 100000
attribute [local irreducible] loopFix
theorem path_long (N : Int) (E : List Arc) (A : List (List Int)) (u v : Int) (hE : E.length≤50) (hl : ∀ l∈A,l.length≤9223372036854775807) (h : ¬ ∀ l∈A,l.length≤100) :
  ∃ e,e≠0∧Zbr ((N,E,A,()),u,v,())=some ((0,[],[],()),[],0,e,())∧Zal ((N,E,A,()),u,v,())=some ((0,[],[],()),[],0,e,()):=by
 obtain ⟨e,c1,c2,c3⟩:=check32 N E A hl
 by_cases he : e=0
 ·obtain ⟨n,rfl,h1,_⟩:=c3 he
  exact absurd (fun l hl=>by have:=h1.list_len hl; omega) h
 ·refine ⟨e,he,?_,?_⟩
  ·unfold Zbr Zbu
   simp only
   rw [c1,Option.bind_some]
   simp only
   rw [neI_t he]
   simp only [cond_true,Option.bind_some]
   rw [neI_t he]; rfl
  ·unfold Zal Zac Zai
   simp only
   rw [c2,Option.bind_some]
   simp only
   rw [neI_t he]
   simp only [cond_true,Option.bind_some]
   rw [neI_t he]
   simp only [cond_true,Option.bind_some]
   rw [neI_t he]; rfl
end Go.Vm

namespace Go.Vm
open Go.Proofs
set_option maxRecDepth 100000
attribute [local irreducible] loopFix
theorem has33 (l : List Int) (x : Int) (hl : l.length≤1000000) : Zax (l,x,())=some (decide (x∈l),()):=by
 have key : ∀ (c i : Nat),i+c=l.length→Zax_L2 (l,x,(i : Int),())=if x∈l.drop i then some (.inl (true,())) else some (.inr (.inl ())):=by
  intro c
  induction c with
  | zero =>
   intro i hi
   rw [List.drop_eq_nil_of_le (by omega),if_neg (by simp)]
   refine loop_done ?_
   unfold Zax_B2
   simp only
   rw [ltI_f (by omega)]; rfl
  | succ c ih =>
   intro i hi
   have hil : i < l.length:=by omega
   have hg:=List.getElem?_eq_getElem hil
   rw [List.drop_eq_getElem_cons hil]
   by_cases e : l[i]=x
   ·rw [if_pos (by simp [e])]
    refine loop_done ?_
    unfold Zax_B2
    simp only
    rw [ltI_t (by omega),cond_true,getI_of,hg,Option.bind_some,eqI_t e]; rfl
   ·have st : Zax_B2 (l,x,(i : Int),())=some (.inl (l,x,((i+1 : Nat) : Int),())):=by
     unfold Zax_B2
     simp only
     rw [ltI_t (by omega),cond_true,getI_of,hg,Option.bind_some,eqI_f e,add1 (by omega)]; rfl
    have q : Zax_L2 (l,x,(i : Int),())=Zax_L2 (l,x,((i+1 : Nat) : Int),()):=loop_step st
    have hm : (x∈l[i] :: l.drop (i+1))↔x∈l.drop (i+1):=by
     rw [List.mem_cons]; exact ⟨fun h=>h.resolve_left (Ne.symm e),.inr⟩
    rw [q,ih (i+1) (by omega)]
    simp only [hm]
 unfold Zax
 simp only
 rw [show (0 : Int)=((0 : Nat) : Int) from rfl,key l.length 0 (by omega),List.drop_zero]
 by_cases h : x∈l
 ·rw [if_pos h,decide_eq_true h]; rfl
 ·rw [if_neg h,decide_eq_false h]; rfl
def onE (add : List Int) (y : Nat) : Bool:=decide ((y : Int)∈add) || decide (((oth y : Nat) : Int)∈add)
theorem cross_step (add l : List Int) (ha : add.length≤1000000) {c d y z : Nat} (hc : c≤1000) (hd : d < 4) (hy : l[d]?=some (y : Int)) (hz : l[(d+2) % 4]?=some (z : Int)) (by' : y≤1000000) (bz : z≤1000000) (e : onE add y=onE add z) :
  Zo_B6 (add,l,(c : Int),(d : Int),())=some (.inl (add,l,((if onE add y=true then c+1 else c : Nat) : Int),((d+1 : Nat) : Int),())):=by
 have hr : remI (addI .i64 (d : Int) 2) 4=(((d+2) % 4 : Nat) : Int):=by
  match d,hd with
  | 0,_=>rfl
  | 1,_=>rfl
  | 2,_=>rfl
  | 3,_=>rfl
 unfold Zo_B6
 simp only
 rw [ltI_t (by omega),cond_true,getI_of,hy,Option.bind_some,has33 _ _ ha,Option.bind_some,hr,getI_of,hz]
 simp only [Option.bind_some]
 rw [xor1 (by omega),xor1 (by omega),has33 _ _ ha,has33 _ _ ha,has33 _ _ ha]
 simp only [Option.bind_some]
 rw [add1 (by omega),add1 (by omega)]
 unfold onE at e ⊢
 revert e
 cases decide ((y : Int)∈add) <;> cases decide (((oth y : Nat) : Int)∈add) <;> cases decide ((z : Int)∈add) <;> cases decide (((oth z : Nat) : Int)∈add) <;> intro e <;> first | rfl | cases e
theorem crossed_ok (N : Int) (E : List Arc) (A : List (List Int)) (add : List Int) (ha : add.length≤1000000) {w p q B : Nat} (h : FourL A B w p q) (hp : onE add p=true) (hq : onE add q=true) (ho : ∀ a,a < B→onE add a=false) (hB : B≤1000000) (hp1 : p≤1000000) (hq1 : q≤1000000) :
  Zo ((N,E,A,()),(w : Int),add,())=some (true,()):=by
 obtain ⟨a,b,g,a1,b1⟩:=h
 have run : ∀ (x0 x1 x2 x3 : Nat),A[w]?=some [(x0 : Int),(x1 : Int),(x2 : Int),(x3 : Int)]→onE add x0=true→onE add x2=true→onE add x1=false→onE add x3=false→x0≤1000000→x1≤1000000→x2≤1000000→x3≤1000000 →
   Zo ((N,E,A,()),(w : Int),add,())=some (true,()):=by
  intro x0 x1 x2 x3 g h0 h2 h1 h3 b0 b1 b2 b3
  have s0:=cross_step add [(x0 : Int),(x1 : Int),(x2 : Int),(x3 : Int)] ha (c:=0) (d:=0) (y:=x0) (z:=x2) (by omega) (by omega) rfl rfl b0 b2 (by rw [h0,h2])
  have s1:=cross_step add [(x0 : Int),(x1 : Int),(x2 : Int),(x3 : Int)] ha (c:=1) (d:=1) (y:=x1) (z:=x3) (by omega) (by omega) rfl rfl b1 b3 (by rw [h1,h3])
  have s2:=cross_step add [(x0 : Int),(x1 : Int),(x2 : Int),(x3 : Int)] ha (c:=1) (d:=2) (y:=x2) (z:=x0) (by omega) (by omega) rfl rfl b2 b0 (by rw [h0,h2])
  have s3:=cross_step add [(x0 : Int),(x1 : Int),(x2 : Int),(x3 : Int)] ha (c:=2) (d:=3) (y:=x3) (z:=x1) (by omega) (by omega) rfl rfl b3 b1 (by rw [h1,h3])
  rw [h0,if_pos rfl] at s0
  rw [h1,if_neg (by decide)] at s1
  rw [h2,if_pos rfl] at s2
  rw [h3,if_neg (by decide)] at s3
  have s4 : Zo_B6 (add,[(x0 : Int),(x1 : Int),(x2 : Int),(x3 : Int)],((2 : Nat) : Int),((4 : Nat) : Int),())=some (.inr (.inr (.inl (((2 : Nat) : Int),())))):=by
   unfold Zo_B6
   simp only
   rw [ltI_f (by omega)]; rfl
  have hL : Zo_L6 (add,[(x0 : Int),(x1 : Int),(x2 : Int),(x3 : Int)],((0 : Nat) : Int),((0 : Nat) : Int),())=some (.inr (.inl (((2 : Nat) : Int),()))) :=
   (loop_step s0).trans ((loop_step s1).trans ((loop_step s2).trans ((loop_step s3).trans (loop_done s4))))
  unfold Zo
  simp only
  rw [getI_of,g,Option.bind_some,neI_f (show (([(x0 : Int),(x1 : Int),(x2 : Int),(x3 : Int)].length : Nat) : Int)=4 from rfl),cond_false]
  have hL : Zo_L6 (add,[(x0 : Int),(x1 : Int),(x2 : Int),(x3 : Int)],0,0,())=some (.inr (.inl (((2 : Nat) : Int),()))):=hL
  rw [hL]; rfl
 rcases g with g | g
 ·exact run p a q b g hp hq (ho a a1) (ho b b1) hp1 (by omega) hq1 (by omega)
 ·exact run q b p a g hq hp (ho b b1) (ho a a1) hq1 (by omega) hp1 (by omega)
theorem check_genus {N : Nat} {E : List Arc} {A : List (List Int)} {nx : List Int} (h : RotOK (N : Nat) E A) (hn : Fol oth E A nx) (hc : Zbt (((N : Int),E,A,()),())=some (0,())) : genZ N E A (facesOf nx).length=0:=by
 apply Classical.byContradiction
 intro hg
 unfold Zbt at hc
 simp only at hc
 rw [valid_eq ((N : Int),E,A,()) h.lists,h.validB,Option.bind_some] at hc
 simp only [Bool.not_true,cond_false] at hc
 rw [(genus_val h hn).1,Option.bind_some] at hc
 simp only at hc
 rw [neI_t hg,cond_true] at hc
 cases hc
theorem cross_loop {N0 M0 s u v : Nat} {D F : Nat→Nat} {g : Int} {E' : List Arc} {A' : List (List Int)} {lam : Nat→Nat} {add : List Int} (h : JnI N0 M0 D F s u v g (s+1) E' A' lam) (hM : M0≤100) (hs : s≤300) (hN : N0≤16384) (al : add.length=s+1) (aa : ∀ j,j < s+1→add[j]?=some ((2 * (M0+s+j) : Nat) : Int)) (E : List Arc) (A : List (List Int)) :
  ∀ (c l : Nat),l+c=s+1→Zh_L11 ((N0 : Int),E,A,((N0+s : Nat) : Int),E',A',(v : Int),add,(s : Int),(wayW N0 s u v l : Int),(l : Int),())=some (.inr (.inl ((v : Int),(wayW N0 s u v (s+1) : Int),())))
 | 0,l,hl=>by
  have : l=s+1:=by omega
  subst this
  refine loop_done ?_
  unfold Zh_B11
  simp only
  rw [ltI_f (by omega)]; rfl
 | c+1,l,hl=>by
  refine Eq.trans ?_ (cross_loop h hM hs hN al aa E A c (l+1) (by omega))
  have hlen:=h.len
  have ga:=aa l (by omega)
  have arc:=h.arcs l (by omega)
  have hk : 2 * (M0+s+l) < 2 * E'.length:=by omega
  have t0:=rTail_eq h.rot h.rot.validB h.rot.lists hk
  have t1:=rTail_eq (k:=2 * (M0+s+l)+1) h.rot h.rot.validB h.rot.lists (by omega)
  have e0 : tl E' (2 * (M0+s+l))=(wayW N0 s u v l : Int):=by
   unfold tl
   rw [show 2 * (M0+s+l) / 2=M0+s+l by omega,arc]
   simp only
   rw [if_pos (by omega)]
  have e1 : tl E' (2 * (M0+s+l)+1)=(wayW N0 s u v (l+1) : Int):=by
   unfold tl
   rw [show (2 * (M0+s+l)+1) / 2=M0+s+l by omega,arc]
   simp only
   rw [if_neg (by omega)]
  rw [e0] at t0
  rw [e1] at t1
  refine loop_step ?_
  unfold Zh_B11
  simp only
  rw [ltI_t (by omega),cond_true,getI_of,ga]
  simp only [Option.bind_some]
  rw [t0,Option.bind_some]
  simp only
  rw [neI_f rfl,cond_false,xor1 (by omega),oth2,t1,Option.bind_some]
  simp only
  by_cases c1 : l < s
  ·have hw : wayW N0 s u v (l+1)=N0+l:=by unfold wayW; rw [if_neg (by omega),if_pos (by omega)]; omega
   have inA : ∀ j,j < s+1→((2 * (M0+s+j) : Nat) : Int)∈add:=fun j hj=>List.mem_of_getElem? (aa j hj)
   have hp : onE add (2 * (M0+s+l)+1)=true:=by
    unfold onE
    rw [oth21,decide_eq_true (inA l (by omega)),Bool.or_true]
   have hq : onE add (2 * (M0+s+l+1))=true:=by
    have h1:=inA (l+1) (by omega)
    rw [show 2 * (M0+s+(l+1))=2 * (M0+s+l+1) by omega] at h1
    unfold onE
    rw [decide_eq_true h1,Bool.true_or]
   have ho : ∀ a,a < 2 * (M0+s)→onE add a=false:=by
    intro a ha
    have small : ∀ x : Nat,x < 2 * (M0+s)→¬ (x : Int)∈add:=by
     intro x hx hm
     obtain ⟨i,hi,e⟩:=List.getElem_of_mem hm
     have:=aa i (by omega)
     rw [List.getElem?_eq_getElem hi,e] at this
     have:=Option.some.inj this
     omega
    unfold onE
    rw [decide_eq_false (small a ha),decide_eq_false (small _ (oth_lt ha))]; rfl
   have hcr:=crossed_ok ((N0+s : Nat) : Int) E' A' add (by omega) (h.done l (by omega)) hp hq ho (by omega) (by omega) (by omega)
   rw [ltI_t (by omega),cond_true,neI_f (by rw [addI64 (by omega) (by omega)]; omega),cond_false,hw,hcr,Option.bind_some]
   simp only [Bool.not_true,cond_false]
   rw [add1 (by omega)]
  ·rw [ltI_f (by omega),cond_false,add1 (by omega)]
theorem insertCrosses_law (N : Int) (E : List Arc) (A : List (List Int)) (u v : Int) (hl : ∀ l∈A,l.length≤9223372036854775807) : Zh ((N,E,A,()),u,v,())=some (true,()):=by
 unfold Zh
 simp only
 rw [awake33_true]
 obtain ⟨b,f1,f2⟩:=small33 N E A 12 20
 rw [f1,Option.bind_some]
 cases b with
 | false=>rfl
 | true =>
  obtain ⟨g1,g2,_⟩:=f2 rfl
  have hE : E.length≤20:=by omega
  simp only [Bool.not_true,cond_false]
  by_cases hl2 : ∀ l∈A,l.length≤100
  ·rcases path33 N E A u v (by omega) hl2 with ⟨e,he,h1,h2⟩ | ⟨N0,a,b,s,n,nx,m,l,D,F,E',A',lam,add,lu,lv,rfl,rfl,rfl,_,_,_,p,_,_,_,hls,hs,hc,_,hr,hj,al,aa,h1,h2⟩
   ·rw [h1,Option.bind_some]
    simp only
    rw [neI_t he]; rfl
   ·rw [h1,Option.bind_some]
    simp only
    have hdist : Zk (((N0 : Int),E,A,()),(a : Int),(b : Int),())=some ((s : Int),0,()):=by
     unfold Zk
     simp only
     rw [hr,Option.bind_some]
     simp only
     rw [hls]
    have hlen:=hj.len
    have h16:=p.rot.n16
    rw [neI_f rfl,cond_false,hdist,Option.bind_some]
    simp only
    rw [neI_f rfl,cond_false,add1 (by omega),neI_f (by omega),cond_false,neI_f (by rw [addI64 (by omega) (by omega)]; omega),cond_false,rvalid_eq (((N0+s : Nat) : Int),E',A',()) hj.rot.lists,Option.bind_some,hj.rot.validB]
    simp only [Bool.not_true,cond_false]
    obtain ⟨fs,hfs,r1,r2,mx,hm,rfl,hmx⟩:=faces32 hj.rot (hj.rot.validB) hj.rot.lists
    rw [(genus_val hj.rot hm).2,Option.bind_some]
    simp only
    rw [hj.gen mx hm,check_genus p.rot p.fol hc,neI_f rfl,cond_false]
    have w0 : wayW N0 s a b 0=a:=by unfold wayW; rw [if_pos rfl]
    have hL:=cross_loop hj (by omega) hs h16 al aa E A (s+1) 0 (by omega)
    rw [w0] at hL
    have hL : Zh_L11 ((N0 : Int),E,A,((N0+s : Nat) : Int),E',A',(b : Int),add,(s : Int),(a : Int),0,())=_:=hL
    have ws : wayW N0 s a b (s+1)=b:=by unfold wayW; rw [if_neg (by omega),if_neg (by omega)]
    rw [hL,ws]
    simp only [Option.bind_some,Sum.elim_inr,Sum.elim_inl]
    rw [eqI_t rfl]; rfl
  ·obtain ⟨e,he,h1,h2⟩:=path_long N E A u v (by omega) hl hl2
   rw [h1,Option.bind_some]
   simp only
   rw [neI_t he]; rfl
theorem insertCrosses_plain (x : (tupTy (Zh_c.ins.map (·.2))).den) (h : WfIns Zh_c.ins x) : Zh x=some (true,()):=by
 obtain ⟨⟨N,E,A,u1⟩,d,f,u2⟩:=x
 have hA : ∀ l∈A,l.length≤9223372036854775807:=by
  intro l hl
  have h1 : Wf (.slice (.slice (.int .i64))) A:=h.1.2.2.1
  exact (h1.2 l hl).1
 exact insertCrosses_law N E A d f hA
end Go.Vm

