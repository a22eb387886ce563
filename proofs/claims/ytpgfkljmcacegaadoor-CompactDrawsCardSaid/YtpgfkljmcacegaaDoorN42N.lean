/-
 A set of faces of a connected plane system: its vertices, edges and faces in number; where angles and directions are given, no set without the outer face is closed upwards.
-/
import Derived.Test.YtpgfkljmcacegaaDoorN42B
set_option linter.unusedVariables false
set_option linter.unusedSimpArgs false
namespace Go.Vm
set_option maxRecDepth 100000
def bi (b : Bool) : Int:=cond b 1 0
theorem bi_t {b : Bool} (h : b=true) : bi b=1:=by rw [h]; rfl
theorem bi_f {b : Bool} (h : b=false) : bi b=0:=by rw [h]; rfl
theorem bi_nn (b : Bool) : 0≤bi b:=by cases b <;> decide
theorem bi_le (b : Bool) : bi b≤1:=by cases b <;> decide
theorem sum_fibre {n F : Nat} {fc : Nat→Nat} (hF : ∀ d,d < n→fc d < F) (s : Nat→Int) (h : Nat→Int) : sumTo n (fun d=>s (fc d) * h d)=sumTo F (fun f=>s f * sumTo n (fun d=>if fc d=f then h d else 0)):=by
 rw [sumTo_congr (n:=F) (g:=fun f=>sumTo n (fun d=>if fc d=f then s f * h d else 0)) (fun f _=>by
  rw [← sumTo_mul]
  exact sumTo_congr fun d _=>by split <;> simp)]
 rw [← sumTo_comm (fun d f=>if fc d=f then s f * h d else 0) F n]
 refine sumTo_congr fun d hd=>?_
 rw [sumTo_one (hF d hd) (fun i _ hne=>by rw [if_neg (Ne.symm hne)])]
 simp
theorem sumTo_nn {f : Nat→Int} {n : Nat} (h : ∀ i,i < n→0≤f i) : 0≤sumTo n f:=by
 have:=sumTo_le (f:=fun _=>0) (g:=f) h
 rwa [sumTo_zero (fun _ _=>rfl)] at this
theorem sumTo_all0 {f : Nat→Int} : ∀ {n : Nat},(∀ i,i < n→0≤f i)→sumTo n f=0→∀ i,i < n→f i=0
 | 0,_,_,i,hi=>by omega
 | n+1,h,hs,i,hi=>by
  rw [sumTo_succ] at hs
  have h1:=sumTo_nn (f:=f) (n:=n) (fun i hi=>h i (by omega))
  have h2:=h n (by omega)
  by_cases e : i=n
  ·subst e; omega
  ·exact sumTo_all0 (n:=n) (fun i hi=>h i (by omega)) (by omega) i (by omega)
theorem sumTo_ge {f : Nat→Int} {n k : Nat} (h : ∀ i,i < n→0≤f i) (hk : k < n) : f k≤sumTo n f:=by
 have:=sumTo_le (f:=fun i=>if i=k then f k else 0) (g:=f) (n:=n) (fun i hi=>by
  by_cases e : i=k
  ·subst e; simp
  ·rw [if_neg e]; exact h i hi)
 rwa [sumTo_one hk (fun i _ hne=>by rw [if_neg hne]),if_pos rfl] at this
theorem sumTo_split (f : Nat→Int) (m : Nat) : ∀ k,sumTo (m+k) f=sumTo m f+sumTo k (fun i=>f (m+i))
 | 0=>by simp [sumTo]
 | k+1=>by
  rw [show m+(k+1)=(m+k)+1 by omega,sumTo_succ,sumTo_split f m k,sumTo_succ]
  omega
structure Plane (V F M : Nat) (tl fc fw : Nat→Nat) : Prop where
 tlt : ∀ d,d < 2 * M→tl d < V
 fct : ∀ d,d < 2 * M→fc d < F
 fwt : ∀ d,d < 2 * M→fw d < 2 * M
 inj : ∀ a b,a < 2 * M→b < 2 * M→fw a=fw b→a=b
 tlf : ∀ d,d < 2 * M→tl (fw d)=tl d
 fcf : ∀ d,d < 2 * M→fc (fw d)=fc (oth d)
 cV : ∀ L : Nat→Nat,(∀ d,d < 2 * M→L (tl d)=L (tl (oth d)))→∀ x,x < V→L x=L 0
 cF : ∀ L : Nat→Nat,(∀ d,d < 2 * M→L (fc d)=L (fc (oth d)))→∀ x,x < F→L x=L 0
 around : ∀ P : Nat→Prop,(∀ d,d < 2 * M→P d→P (fw d))→∀ a b,a < 2 * M→b < 2 * M→tl a=tl b→P a→P b
 pos : 0 < V
 posF : 0 < F
 euler : V+F=M+2
theorem oth_lt2 {d M : Nat} (h : d < 2 * M) : oth d < 2 * M:=by
 unfold oth
 split <;> omega
theorem oth_two (d : Nat) : oth (oth d)=d:=by
 unfold oth
 split <;> split <;> omega
theorem both_ends {M : Nat} (L p : Nat→Nat) (h : ∀ i,i < M→L (p (2 * i))=L (p (2 * i+1))) : ∀ d,d < 2 * M→L (p d)=L (p (oth d)):=by
 intro d hd
 rcases Nat.mod_two_eq_zero_or_one d with e | e
 ·have : d=2 * (d / 2):=by omega
  rw [this,oth_ev]; exact h _ (by omega)
 ·have : d=2 * (d / 2)+1:=by omega
  rw [this,oth_od]; exact (h _ (by omega)).symm
section
variable {V F M : Nat} {tl fc fw : Nat→Nat}
theorem Plane.H1 (p : Plane V F M tl fc fw) (y g : Nat→Int) : sumTo M (fun i=>(y (fc (2 * i)) - y (fc (2 * i+1))) * (g (tl (2 * i+1)) - g (tl (2 * i))))=0 :=
 plane_H1 (nx:=fun d=>fw (oth d)) (fun d hd=>p.fwt _ (oth_lt2 hd)) (fun a b ha hb e=>by
  have:=p.inj _ _ (oth_lt2 ha) (oth_lt2 hb) e
  rw [← oth_two a,this,oth_two]) (fun d hd=>by rw [p.fcf _ (oth_lt2 hd),oth_two]) (fun d hd=>p.tlf _ (oth_lt2 hd)) y g
theorem filter_two {α : Type} (q : α→Bool) : ∀ l : List α,(l.filter q).length+(l.filter fun x=>!q x).length=l.length
 | []=>rfl
 | a :: l=>by
  have:=filter_two q l
  rw [List.filter_cons,List.filter_cons]
  cases q a <;> simp <;> omega
theorem dart_two {M d : Nat} (hd : d < 2 * M) : ∃ i,i < M∧((d=2 * i∧oth d=2 * i+1)∨(d=2 * i+1∧oth d=2 * i)):=by
 refine ⟨d / 2,by omega,?_⟩
 unfold oth
 split <;> omega
theorem order (eS : Nat→Bool) (M : Nat) : ∃ (π : Nat→Nat) (m : Nat),m≤M∧(∀ i,i < M→π i < M)∧(∀ a b,a < M→b < M→π a=π b→a=b)∧(∀ i,i < m→eS (π i)=true)∧(∀ i,m≤i→i < M→eS (π i)=false) ∧
  sumTo M (fun i=>bi (eS i))=m:=by
 let LS:=(List.range M).filter eS
 let LO:=(List.range M).filter fun i=>!eS i
 have hlen : LS.length+LO.length=M:=by
  have:=filter_two eS (List.range M)
  rwa [List.length_range] at this
 have hnd : (LS++LO).Nodup:=by
  rw [List.nodup_append]
  refine ⟨List.nodup_range.filter _,List.nodup_range.filter _,?_⟩
  intro a ha b hb hab
  subst hab
  have h1:=(List.mem_filter.1 ha).2
  have h2:=(List.mem_filter.1 hb).2
  rw [h1] at h2; cases h2
 have hl : (LS++LO).length=M:=by rw [List.length_append]; exact hlen
 have get : ∀ i (hi : i < M),(LS++LO).getD i 0=(LS++LO)[i]'(by omega):=fun i hi=>by
  rw [List.getD_eq_getElem?_getD,List.getElem?_eq_getElem (by omega)]; rfl
 have hsum : ∀ n,sumTo n (fun i=>bi (eS i))=(((List.range n).filter eS).length : Nat):=by
  intro n
  induction n with
  | zero=>rfl
  | succ n ih =>
   rw [sumTo_succ,ih,List.range_succ,List.filter_append,List.length_append]
   cases h : eS n <;> simp [h,bi]
 refine ⟨fun i=>(LS++LO).getD i 0,LS.length,by omega,?_,?_,?_,?_,hsum M⟩
 ·intro i hi
  simp only
  rw [get i hi]
  have:=List.getElem_mem (l:=LS++LO) (n:=i) (by omega)
  rcases List.mem_append.1 this with h | h
  ·exact List.mem_range.1 (List.mem_filter.1 h).1
  ·exact List.mem_range.1 (List.mem_filter.1 h).1
 ·intro a b ha hb e
  simp only at e
  rw [get a ha,get b hb] at e
  rcases Nat.lt_trichotomy a b with c | c | c
  ·exact absurd e (List.pairwise_iff_getElem.1 hnd _ _ (by omega) (by omega) c)
  ·exact c
  ·exact absurd e.symm (List.pairwise_iff_getElem.1 hnd _ _ (by omega) (by omega) c)
 ·intro i hi
  simp only
  rw [get i (by omega),List.getElem_append_left hi]
  exact (List.mem_filter.1 (List.getElem_mem hi)).2
 ·intro i h1 h2
  simp only
  rw [get i h2,List.getElem_append_right h1]
  have:=(List.mem_filter.1 (List.getElem_mem (l:=LO) (n:=i - LS.length) (by omega))).2
  simpa using this
theorem perm_onto {M : Nat} {π : Nat→Nat} (h1 : ∀ i,i < M→π i < M) (h2 : ∀ a b,a < M→b < M→π a=π b→a=b) {i : Nat} (hi : i < M) : ∃ j,j < M∧π j=i:=by
 apply Classical.byContradiction
 intro hn
 have e:=sumTo_perm h1 h2 (fun x=>if x=i then (1 : Int) else 0)
 rw [sumTo_zero (fun j hj=>by
  rw [if_neg]
  intro h; exact hn ⟨j,hj,h⟩),sumTo_one hi (fun j _ hne=>by rw [if_neg hne]),if_pos rfl] at e
 omega
theorem Plane.region (p : Plane V F M tl fc fw) (S : Nat→Bool) (vS : Nat→Bool) (o : Nat) (ho : S o=false) (hv : ∀ d,d < 2 * M→S (fc d)=true→vS (tl d)=true) (hv0 : ∃ v,v < V∧vS v=true)
  (hC : ∀ L : Nat→Nat,(∀ d,d < 2 * M→S (fc d)=false→S (fc (oth d))=false→L (fc d)=L (fc (oth d)))→∀ x,x < F→S x=false→L x=L o) :
  sumTo M (fun i=>bi (S (fc (2 * i)) || S (fc (2 * i+1))))+1≤sumTo V (fun v=>bi (vS v))+sumTo F (fun f=>bi (S f)):=by
 obtain ⟨π,m,hm,π1,π2,π3,π4,π5⟩:=order (fun i=>S (fc (2 * i)) || S (fc (2 * i+1))) M
 rw [π5]
 let t:=fun i=>tl (2 * π i)
 let h:=fun i=>tl (2 * π i+1)
 let l:=fun i=>fc (2 * π i)
 let r:=fun i=>fc (2 * π i+1)
 have ht : ∀ i,i < M→t i < V:=fun i hi=>p.tlt _ (by have:=π1 i hi; omega)
 have hh : ∀ i,i < M→h i < V:=fun i hi=>p.tlt _ (by have:=π1 i hi; omega)
 have hl : ∀ i,i < M→l i < F:=fun i hi=>p.fct _ (by have:=π1 i hi; omega)
 have hr : ∀ i,i < M→r i < F:=fun i hi=>p.fct _ (by have:=π1 i hi; omega)
 have cV : ∀ L : Nat→Nat,(∀ i,i < M→L (t i)=L (h i))→∀ x,x < V→L x=L 0:=fun L hL=>p.cV L (both_ends L tl fun i hi=>by
  obtain ⟨j,hj,rfl⟩:=perm_onto π1 π2 hi; exact hL j hj)
 have cF : ∀ L : Nat→Nat,(∀ i,i < M→L (l i)=L (r i))→∀ x,x < F→L x=L 0:=fun L hL=>p.cF L (both_ends L fc fun i hi=>by
  obtain ⟨j,hj,rfl⟩:=perm_onto π1 π2 hi; exact hL j hj)
 have key:=tree_cotree ht hh hl hr (fun y g=>by
  have:=p.H1 y g
  rw [← sumTo_perm π1 π2] at this
  exact this) cV cF p.pos p.posF p.euler
 -- every edge of the set joins vertices or faces
 have e1 : (m : Int)≤sumTo m (fun i=>if upto t h i (t i)=upto t h i (h i) then (0 : Int) else 1)+sumTo m (fun i=>if downto l r M (M - 1 - i) (l i)=downto l r M (M - 1 - i) (r i) then 0 else 1):=by
  rw [← sumTo_add,← sumTo_ones m]
  refine sumTo_le fun i hi=>?_
  by_cases c : upto t h i (t i)=upto t h i (h i)
  ·rw [if_pos c,if_neg (key i (by omega) c)]; omega
  ·rw [if_neg c]; split <;> omega
 -- vertices
 have e2:=upto_fix ht hh m hm
 have e3 : (V : Int) - sumTo V (fun v=>bi (vS v))+1≤fixN V (upto t h m):=by
  have ends : ∀ i,i < m→vS (t i)=true∧vS (h i)=true:=by
   intro i hi
   have hM:=π1 i (by omega)
   have:=π3 i hi
   simp only [Bool.or_eq_true] at this
   have c1 : ∀ d,d < 2 * M→S (fc d)=true→vS (tl d)=true∧vS (tl (oth d))=true:=fun d hd hs=>by
    refine ⟨hv d hd hs,?_⟩
    have q:=hv (fw (oth d)) (p.fwt _ (oth_lt2 hd)) (by rw [p.fcf _ (oth_lt2 hd),oth_two]; exact hs)
    rwa [p.tlf _ (oth_lt2 hd)] at q
   rcases this with q | q
   ·have:=c1 (2 * π i) (by omega) q
    rwa [oth_ev] at this
   ·have:=c1 (2 * π i+1) (by omega) q
    rw [oth_od] at this
    exact ⟨this.2,this.1⟩
  have inv : ∀ k,k≤m→(∀ x,vS x=false→upto t h k x=x)∧∀ x,vS x=true→vS (upto t h k x)=true:=by
   intro k
   induction k with
   | zero=>intro _; exact ⟨fun _ _=>rfl,fun _ h=>h⟩
   | succ k ih =>
    intro hk
    obtain ⟨i1,i2⟩:=ih (by omega)
    obtain ⟨n1,n2⟩:=ends k (by omega)
    constructor
    ·intro x hx
     show mrg (upto t h k) (t k) (h k) x=x
     unfold mrg
     rw [if_neg,i1 x hx]
     rw [i1 x hx]
     intro e
     have:=i2 _ n2
     rw [← e,hx] at this; cases this
    ·intro x hx
     show vS (mrg (upto t h k) (t k) (h k) x)=true
     unfold mrg
     split
     ·exact i2 _ n1
     ·exact i2 _ hx
  obtain ⟨i1,i2⟩:=inv m (Nat.le_refl _)
  obtain ⟨v,hvV,hvS⟩:=hv0
  have hc:=upto_cls (n:=V) ht hh m hm
  have hz1:=hc.lt v hvV
  have hz2:=hc.idem v hvV
  have hz3:=i2 v hvS
  unfold fixN
  have : (V : Int) - sumTo V (fun v=>bi (vS v))+1=sumTo V (fun x=>1 - bi (vS x)+(if x=upto t h m v then 1 else 0)):=by
   have hz : sumTo V (fun x=>if x=upto t h m v then (1 : Int) else 0)=1:=by
    rw [sumTo_one hz1 (fun i _ hne=>by rw [if_neg hne]),if_pos rfl]
   rw [sumTo_add,sumTo_sub,sumTo_ones,hz]
  rw [this]
  refine sumTo_le fun x hx=>?_
  cases hxS : vS x with
  | false =>
   rw [i1 x hxS,if_pos rfl,if_neg (fun e=>by rw [← e,hxS] at hz3; cases hz3)]
   decide
  | true =>
   by_cases e : x=upto t h m v
   ·rw [if_pos e,if_pos (by rw [e]; exact hz2)]; decide
   ·rw [if_neg e]; split <;> decide
 -- faces
 have e4:=downto_fix hl hr M (Nat.le_refl _)
 rw [fix_one (downto_cls hl hr M (Nat.le_refl _)) p.posF (cF _ (fun i hi=>downto_edge M i (Nat.le_refl _) (by omega) hi))] at e4
 have e5:=downto_fix (n:=F) hl hr (M - m) (by omega)
 have e6 : fixN F (downto l r M (M - m))≤sumTo F (fun f=>bi (S f))+1:=by
  have hsame : ∀ x,x < F→S x=false→downto l r M (M - m) x=downto l r M (M - m) o:=hC _ (fun d hd s1 s2=>by
   obtain ⟨i,hi,hdi⟩:=dart_two hd
   obtain ⟨j,hj,ej⟩:=perm_onto π1 π2 hi
   have hjm : m≤j:=by
    apply Nat.le_of_not_lt
    intro hlt
    have:=π3 j hlt
    rw [ej] at this
    rcases hdi with ⟨e1,e2⟩ | ⟨e1,e2⟩
    ·rw [e1] at s1; rw [e2] at s2; rw [s1,s2] at this; cases this
    ·rw [e1] at s1; rw [e2] at s2; rw [s1,s2] at this; cases this
   have:=downto_edge (p:=l) (q:=r) (M - m) j (by omega) (by omega) hj
   simp only [l,r,ej] at this
   rcases hdi with ⟨e1,e2⟩ | ⟨e1,e2⟩
   ·rw [e2,e1]; exact this
   ·rw [e2,e1]; exact this.symm)
  unfold fixN
  have hone : sumTo F (fun x=>if x=downto l r M (M - m) o then (1 : Int) else 0)≤1:=by
   by_cases c : downto l r M (M - m) o < F
   ·rw [sumTo_one c (fun i _ hne=>by rw [if_neg hne]),if_pos rfl]; omega
   ·rw [sumTo_zero (fun i hi=>by rw [if_neg (by omega)])]; omega
  have : sumTo F (fun x=>if downto l r M (M - m) x=x then (1 : Int) else 0)≤sumTo F (fun x=>bi (S x)+(if x=downto l r M (M - m) o then 1 else 0)):=sumTo_le fun x hx=>by
   cases hs : S x with
   | true=>rw [bi_t rfl]; split <;> split <;> decide
   | false =>
    rw [hsame x hx hs]
    by_cases e : x=downto l r M (M - m) o
    ·rw [if_pos e,if_pos e.symm]; decide
    ·rw [if_neg e,if_neg (Ne.symm e)]; decide
  rw [sumTo_add] at this
  omega
 have e7 : sumTo M (fun i=>if downto l r M i (l (M - 1 - i))=downto l r M i (r (M - 1 - i)) then (0 : Int) else 1)=sumTo (M - m) (fun i=>if downto l r M i (l (M - 1 - i))=downto l r M i (r (M - 1 - i)) then (0 : Int) else 1) +
   sumTo m (fun i=>if downto l r M (M - 1 - i) (l i)=downto l r M (M - 1 - i) (r i) then 0 else 1):=by
  have hs:=sumTo_split (fun i=>if downto l r M i (l (M - 1 - i))=downto l r M i (r (M - 1 - i)) then (0 : Int) else 1) (M - m) m
  rw [show M - m+m=M by omega] at hs
  rw [hs,← sumTo_rev _ m]
  congr 1
  refine sumTo_congr fun i hi=>?_
  rw [show M - m+(m - 1 - i)=M - 1 - i by omega,show M - 1 - (M - 1 - i)=i by omega]
 omega
structure Angl (V F M : Nat) (tl fc fw : Nat→Nat) (g : Nat→Int) (o : Nat) : Prop where
 ge : ∀ d,d < 2 * M→1≤g d
 vert : ∀ v,v < V→sumTo (2 * M) (fun d=>if tl d=v then g d else 0)=4
 out : o < F
 face : ∀ f,f < F→f≠o→sumTo (2 * M) (fun d=>if fc d=f then 2 - g (oth d) else 0)=4
structure Dirs (M : Nat) (fw : Nat→Nat) (g : Nat→Int) (k : Nat→Int) : Prop where
 nn : ∀ d,d < 2 * M→0≤k d∧k d < 4
 fw : ∀ d,d < 2 * M→(4 : Int)∣k (fw d) - k d - g d
 oth : ∀ d,d < 2 * M→(4 : Int)∣k (oth d) - k d - 2
variable {g k : Nat→Int} {o : Nat}
theorem Plane.no_top1 (p : Plane V F M tl fc fw) (ha : Angl V F M tl fc fw g o) (hk : Dirs M fw g k) (S : Nat→Bool) (ho : S o=false) (htop : ∀ d,d < 2 * M→k d=2→S (fc (oth d))=true→S (fc d)=true)
  (hC : ∀ L : Nat→Nat,(∀ d,d < 2 * M→S (fc d)=false→S (fc (oth d))=false→L (fc d)=L (fc (oth d)))→∀ x,x < F→S x=false→L x=L o) : ∀ d,d < 2 * M→S (fc d)=false:=by
 intro d0 hd0
 cases hs0 : S (fc d0) with
 | false=>rfl
 | true =>
 exfalso
 -- the number of turns around
 obtain ⟨w,hw⟩ : ∃ w : Nat→Int,∀ d,d < 2 * M→g d=k (fw d) - k d+4 * w d:=by
  refine ⟨fun d=>(k d+g d - k (fw d)) / 4,fun d hd=>?_⟩
  have:=hk.fw d hd
  simp only
  omega
 have hw0 : ∀ d,d < 2 * M→0≤w d∧(w d=0→k d≤2):=by
  intro d hd
  have h1:=hw d hd
  have h2:=ha.ge d hd
  have h3:=hk.nn d hd
  have h4:=hk.nn _ (p.fwt d hd)
  omega
 have permF : ∀ f : Nat→Int,sumTo (2 * M) (fun d=>f (fw d))=sumTo (2 * M) f:=sumTo_perm p.fwt p.inj
 have permO : ∀ f : Nat→Int,sumTo (2 * M) (fun d=>f (oth d))=sumTo (2 * M) f:=sumTo_perm (fun d hd=>oth_lt2 hd) (fun a b _ _ e=>by rw [← oth_two a,e,oth_two])
 have hw1 : ∀ v,v < V→sumTo (2 * M) (fun d=>if tl d=v then w d else 0)=1:=by
  intro v hv
  have h1:=ha.vert v hv
  rw [sumTo_congr (g:=fun d=>(if tl (fw d)=v then k (fw d) else 0) - (if tl d=v then k d else 0)+4 * (if tl d=v then w d else 0)) (fun d hd=>by
   rw [p.tlf d hd,hw d hd]
   split <;> simp),sumTo_add,sumTo_sub,permF (fun d=>if tl d=v then k d else 0),sumTo_mul] at h1
  omega
 -- what is counted
 let pp : Nat→Int:=fun d=>if k d < 2∧S (fc (oth d))=true∧S (fc d)=false then 1 else 0
 have pp0 : ∀ d,0≤pp d:=fun d=>by
  show 0≤(if _ then (1 : Int) else 0)
  split <;> omega
 -- vertices
 obtain ⟨vS,hvS⟩ : ∃ vS : Nat→Bool,∀ v,vS v=true↔∃ d,d < 2 * M∧tl d=v∧S (fc d)=true:=by
  refine ⟨fun v=>@decide (∃ d,d < 2 * M∧tl d=v∧S (fc d)=true) (Classical.propDecidable _),fun v=>?_⟩
  simp
 have hreg:=p.region S vS o ho (fun d hd hs=>(hvS _).2 ⟨d,hd,rfl,hs⟩) ⟨tl d0,p.tlt _ hd0,(hvS _).2 ⟨d0,hd0,rfl,hs0⟩⟩ hC
 -- every vertex of the set
 have hvert : sumTo V (fun v=>bi (vS v))≤sumTo (2 * M) pp+sumTo (2 * M) (fun d=>bi (S (fc (oth d))) * w d):=by
  rw [← sumTo_add]
  have e1 : sumTo (2 * M) (fun d=>pp d+bi (S (fc (oth d))) * w d)=sumTo (2 * M) (fun d=>(fun _=>(1 : Int)) (tl d) * (pp d+bi (S (fc (oth d))) * w d)):=sumTo_congr fun d _=>by simp
  rw [e1,sum_fibre p.tlt (fun _=>1)]
  refine sumTo_le fun v hv=>?_
  rw [Int.one_mul]
  have nn : ∀ d,d < 2 * M→0≤(if tl d=v then pp d+bi (S (fc (oth d))) * w d else 0):=by
   intro d hd
   split
   ·have h1:=pp0 d
    have h2:=(hw0 d hd).1
    have h3 : 0≤bi (S (fc (oth d))) * w d:=Int.mul_nonneg (bi_nn _) h2
    omega
   ·omega
  have hsn:=sumTo_nn nn
  cases hvs : vS v with
  | false=>rw [bi_f rfl]; exact hsn
  | true =>
   rw [bi_t rfl]
   apply Int.not_lt.1
   intro hlt
   have h0 : sumTo (2 * M) (fun d=>if tl d=v then pp d+bi (S (fc (oth d))) * w d else 0)=0:=by omega
   have hall:=sumTo_all0 nn h0
   have hz : ∀ d,d < 2 * M→tl d=v→pp d=0∧bi (S (fc (oth d))) * w d=0:=by
    intro d hd e
    have:=hall d hd
    rw [if_pos e] at this
    have h1:=pp0 d
    have h3 : 0≤bi (S (fc (oth d))) * w d:=Int.mul_nonneg (bi_nn _) (hw0 d hd).1
    omega
   -- a dart with a turn
   obtain ⟨d1,hd1,e1,w1⟩ : ∃ d1,d1 < 2 * M∧tl d1=v∧w d1≠0:=by
    apply Classical.byContradiction
    intro hn
    have h1:=hw1 v hv
    rw [sumTo_zero (fun d hd=>by
     split
     ·rename_i e
      apply Classical.byContradiction
      intro hne
      exact hn ⟨d,hd,e,hne⟩
     ·rfl)] at h1
    omega
   have turned : ∀ d,d < 2 * M→tl d=v→w d≠0→S (fc (fw d))=false:=by
    intro d hd e hne
    have:=(hz d hd e).2
    rw [p.fcf d hd]
    cases hs : S (fc (oth d)) with
    | false=>rfl
    | true=>rw [hs,bi_t rfl] at this; omega
   obtain ⟨d2,hd2,e2,s2⟩:=(hvS v).1 hvs
   have hP : ∀ d,d < 2 * M→(tl d=v→S (fc d)=false)→(tl (fw d)=v→S (fc (fw d))=false):=by
    intro d hd hi e
    rw [p.tlf d hd] at e
    have hi:=hi e
    by_cases hwd : w d=0
    ·have hk2:=(hw0 d hd).2 hwd
     have hz1:=(hz d hd e).1
     rw [p.fcf d hd]
     cases hs : S (fc (oth d)) with
     | false=>rfl
     | true =>
      by_cases k2 : k d=2
      ·rw [htop d hd k2 hs] at hi; cases hi
      ·have : pp d=1:=if_pos ⟨by omega,hs,hi⟩
       omega
    ·exact turned d hd e hwd
   have:=p.around (fun d=>tl d=v→S (fc d)=false) hP (fw d1) d2 (p.fwt _ hd1) hd2 (by rw [p.tlf _ hd1,e1,e2]) (fun _=>turned d1 hd1 e1 w1) e2
   rw [s2] at this; cases this
 -- angles,by faces
 have a1 : sumTo (2 * M) (fun d=>bi (S (fc d)) * (2 - g (oth d)))=4 * sumTo F (fun f=>bi (S f)):=by
  rw [sum_fibre p.fct (fun f=>bi (S f)) (fun d=>2 - g (oth d)),← sumTo_mul]
  refine sumTo_congr fun f hf=>?_
  by_cases e : f=o
  ·rw [e,ho]; simp [bi]
  ·rw [ha.face f hf e]; omega
 have a2 : sumTo (2 * M) (fun d=>bi (S (fc d)) * (2 - g (oth d)))=sumTo (2 * M) (fun d=>2 * bi (S (fc d))) - sumTo (2 * M) (fun d=>bi (S (fc (oth d))) * g d):=by
  rw [← permO (fun d=>bi (S (fc (oth d))) * g d),← sumTo_sub]
  refine sumTo_congr fun d _=>?_
  rw [oth_two,Int.mul_sub]
  omega
 -- angles,by directions
 have a3 : sumTo (2 * M) (fun d=>bi (S (fc (oth d))) * g d)=sumTo (2 * M) (fun d=>(bi (S (fc d)) - bi (S (fc (oth d)))) * k d)+4 * sumTo (2 * M) (fun d=>bi (S (fc (oth d))) * w d):=by
  rw [← sumTo_mul]
  have h1 : sumTo (2 * M) (fun d=>bi (S (fc (oth d))) * g d)=sumTo (2 * M) (fun d=>bi (S (fc (fw d))) * k (fw d)) - sumTo (2 * M) (fun d=>bi (S (fc (oth d))) * k d)+sumTo (2 * M) (fun d=>4 * (bi (S (fc (oth d))) * w d)):=by
   rw [← sumTo_sub,← sumTo_add]
   refine sumTo_congr fun d hd=>?_
   rw [p.fcf d hd,hw d hd,Int.mul_add,Int.mul_sub]
   congr 1
   rw [← Int.mul_assoc,← Int.mul_assoc,Int.mul_comm _ 4]
  rw [h1,permF (fun d=>bi (S (fc d)) * k d),← sumTo_sub]
  congr 1
  exact sumTo_congr fun d _=>(Int.sub_mul _ _ _).symm
 -- edge by edge
 have a4 : sumTo (2 * M) (fun d=>2 * bi (S (fc d)) - (bi (S (fc d)) - bi (S (fc (oth d)))) * k d)=4 * sumTo M (fun i=>bi (S (fc (2 * i)) || S (fc (2 * i+1)))) - 4 * sumTo (2 * M) pp:=by
  rw [sumTo_darts,sumTo_darts pp,← sumTo_mul,← sumTo_mul,← sumTo_sub]
  refine sumTo_congr fun i hi=>?_
  have k0:=hk.nn (2 * i) (by omega)
  have k1:=hk.nn (2 * i+1) (by omega)
  have ko:=hk.oth (2 * i) (by omega)
  rw [oth_ev] at ko
  simp only [pp,oth_ev,oth_od]
  cases s1 : S (fc (2 * i)) <;> cases s2 : S (fc (2 * i+1)) <;> simp [bi] <;> (try split) <;> (try split) <;> omega
 have a5 : sumTo (2 * M) (fun d=>2 * bi (S (fc d)) - (bi (S (fc d)) - bi (S (fc (oth d)))) * k d)=sumTo (2 * M) (fun d=>2 * bi (S (fc d))) - sumTo (2 * M) (fun d=>(bi (S (fc d)) - bi (S (fc (oth d)))) * k d):=sumTo_sub _ _ _
 omega
theorem upto_same {p q : Nat→Nat} {L : Nat→Nat} {M : Nat} (hL : ∀ i,i < M→L (p i)=L (q i)) : ∀ k,k≤M→∀ x,L (upto p q k x)=L x
 | 0,_,_=>rfl
 | k+1,hk,x=>by
  have ih:=upto_same hL k (by omega)
  show L (mrg (upto p q k) (p k) (q k) x)=L x
  unfold mrg
  split
  ·rename_i e
   rw [ih,hL k (by omega),← ih (q k),← e,ih]
  ·exact ih x
theorem Plane.no_top (p : Plane V F M tl fc fw) (ha : Angl V F M tl fc fw g o) (hk : Dirs M fw g k) (S : Nat→Bool) (ho : S o=false) (htop : ∀ d,d < 2 * M→k d=2→S (fc (oth d))=true→S (fc d)=true) : ∀ d,d < 2 * M→S (fc d)=false:=by
 let act : Nat→Bool:=fun i=>!S (fc (2 * i)) && !S (fc (2 * i+1))
 let P : Nat→Nat:=fun i=>cond (act i) (fc (2 * i)) 0
 let Q : Nat→Nat:=fun i=>cond (act i) (fc (2 * i+1)) 0
 let L:=upto P Q M
 have edge : ∀ d,d < 2 * M→S (fc d)=false→S (fc (oth d))=false→L (fc d)=L (fc (oth d)):=by
  intro d hd s1 s2
  obtain ⟨i,hi,hdi⟩:=dart_two hd
  have h1:=upto_edge (p:=P) (q:=Q) M i hi
  rcases hdi with ⟨e1,e2⟩ | ⟨e1,e2⟩
  ·rw [e1] at s1; rw [e2] at s2
   have ht : act i=true:=by simp only [act]; rw [s1,s2]; rfl
   simp only [P,Q,ht,cond_true] at h1
   rw [e2,e1]
   exact h1
  ·rw [e1] at s1; rw [e2] at s2
   have ht : act i=true:=by simp only [act]; rw [s1,s2]; rfl
   simp only [P,Q,ht,cond_true] at h1
   rw [e2,e1]
   exact h1.symm
 have same : ∀ K : Nat→Nat,(∀ d,d < 2 * M→S (fc d)=false→S (fc (oth d))=false→K (fc d)=K (fc (oth d)))→∀ x y,L x=L y→K x=K y:=by
  intro K hK x y e
  have hi : ∀ i,i < M→K (P i)=K (Q i):=by
   intro i hi
   simp only [P,Q]
   cases hact : act i with
   | false=>rfl
   | true =>
    simp only [act,Bool.and_eq_true,Bool.not_eq_true'] at hact
    have:=hK (2 * i) (by omega) hact.1
    rw [oth_ev] at this
    exact this hact.2
  have h1:=upto_same hi M (Nat.le_refl _) x
  have h2:=upto_same hi M (Nat.le_refl _) y
  have e : upto P Q M x=upto P Q M y:=e
  rw [← h1,← h2,e]
 have clear : ∀ x,L x=L o→S x=false:=by
  intro x e
  have:=same (fun x=>cond (S x) 1 0) (fun d hd s1 s2=>by simp only [s1,s2]) x o e
  simp only [ho,cond_false] at this
  cases h : S x with
  | false=>rfl
  | true=>rw [h] at this; cases this
 let S2 : Nat→Bool:=fun x=>!decide (L x=L o)
 have S2f : ∀ x,S2 x=false↔L x=L o:=fun x=>by simp [S2]
 have res:=p.no_top1 ha hk S2 ((S2f o).2 rfl) ?_ ?_
 ·intro d hd
  exact clear _ ((S2f _).1 (res d hd))
 ·intro d hd k2 h1
  cases h2 : S2 (fc d) with
  | true=>rfl
  | false =>
   exfalso
   have c1:=clear _ ((S2f _).1 h2)
   cases c2 : S (fc (oth d)) with
   | false =>
    have:=edge d hd c1 c2
    have : S2 (fc (oth d))=false:=(S2f _).2 (by rw [← this]; exact (S2f _).1 h2)
    rw [h1] at this; cases this
   | true =>
    have:=htop d hd k2 c2
    rw [c1] at this; cases this
 ·intro K hK x hx hxs
  have:=same (fun x=>cond (S2 x) 0 (K x+1)) (fun d hd s1 s2=>by
   have e:=edge d hd s1 s2
   cases h : S2 (fc d) with
   | true =>
    have : S2 (fc (oth d))=true:=by
     cases h' : S2 (fc (oth d)) with
     | true=>rfl
     | false =>
      have:=(S2f _).1 h'
      have : S2 (fc d)=false:=(S2f _).2 (by rw [e]; exact this)
      rw [h] at this; cases this
    rw [this]; rfl
   | false =>
    have h' : S2 (fc (oth d))=false:=(S2f _).2 (by rw [← e]; exact (S2f _).1 h)
    rw [h',cond_false,cond_false,hK d hd h h']) x o ((S2f _).1 hxs)
  simp only [hxs,(S2f o).2 rfl,cond_false] at this
  omega
theorem max_at (φ : Nat→Int) : ∀ n,0 < n→∃ m,m < n∧∀ x,x < n→φ x≤φ m
 | 1,_=>⟨0,by omega,fun x hx=>by rw [show x=0 by omega]; exact Int.le_refl _⟩
 | n+2,_=>by
  obtain ⟨m,hm,h⟩:=max_at φ (n+1) (by omega)
  by_cases c : φ m≤φ (n+1)
  ·refine ⟨n+1,by omega,fun x hx=>?_⟩
   by_cases e : x=n+1
   ·rw [e]; exact Int.le_refl _
   ·exact Int.le_trans (h x (by omega)) c
  ·refine ⟨m,by omega,fun x hx=>?_⟩
   by_cases e : x=n+1
   ·rw [e]; omega
   ·exact h x (by omega)
theorem Plane.no_flow (p : Plane V F M tl fc fw) (ha : Angl V F M tl fc fw g o) (hk : Dirs M fw g k) (u : Nat→Int) (hu : ∀ v,v < V→sumTo (2 * M) (fun d=>if tl d=v then u d else 0)=sumTo (2 * M) (fun d=>if tl (oth d)=v then u d else 0))
  (h3 : ∀ d,d < 2 * M→k d=3→u d=0) (h1 : ∀ d,d < 2 * M→k d=1→0≤u d) : ∀ d,d < 2 * M→k d=1→u d=0:=by
 have permO : ∀ f : Nat→Int,sumTo (2 * M) (fun d=>f (oth d))=sumTo (2 * M) f:=sumTo_perm (fun d hd=>oth_lt2 hd) (fun a b _ _ e=>by rw [← oth_two a,e,oth_two])
 obtain ⟨φ,hφ⟩:=plane_potential (M:=M) (V:=F) (F:=V) (tl:=fc) (fc:=tl) (nx:=fw) (δ:=fun d=>u d - u (oth d)) 0 p.fct p.tlt p.fwt p.inj p.tlf p.fcf
  (fun i _=>by
   have : (u (2 * i) - u (oth (2 * i)))+(u (2 * i+1) - u (oth (2 * i+1)))=0:=by rw [oth_ev,oth_od]; omega
   rw [this]; exact Int.dvd_refl 0)
  (fun v hv=>by
   have : sumTo (2 * M) (fun d=>if tl d=v then u d - u (oth d) else 0)=0:=by
    have e1 : sumTo (2 * M) (fun d=>if tl d=v then u d - u (oth d) else 0)=sumTo (2 * M) (fun d=>if tl d=v then u d else 0) - sumTo (2 * M) (fun d=>if tl d=v then u (oth d) else 0):=by
     rw [← sumTo_sub]
     exact sumTo_congr fun d _=>by split <;> simp
    have e2 : sumTo (2 * M) (fun d=>if tl d=v then u (oth d) else 0)=sumTo (2 * M) (fun d=>if tl (oth d)=v then u d else 0):=by
     rw [← permO (fun d=>if tl (oth d)=v then u d else 0)]
     exact sumTo_congr fun d _=>by rw [oth_two]
    rw [e1,e2,hu v hv]; omega
   rw [this]; exact Int.dvd_refl 0) p.cF p.cV p.posF p.pos (by have:=p.euler; omega)
 have step : ∀ d,d < 2 * M→φ (fc (oth d)) - φ (fc d)=u d - u (oth d):=fun d hd=>by
  have:=Int.zero_dvd.1 (hφ d hd)
  omega
 have opp : ∀ d,d < 2 * M→(k d=1→k (oth d)=3)∧(k d=3→k (oth d)=1):=fun d hd=>by
  have h0:=hk.oth d hd
  have h1:=hk.nn d hd
  have h2:=hk.nn _ (oth_lt2 hd)
  constructor <;> intro e <;> omega
 have up : ∀ d,d < 2 * M→k d=1→φ (fc d)≤φ (fc (oth d)):=fun d hd e=>by
  have a:=step d hd
  have b:=h3 _ (oth_lt2 hd) ((opp d hd).1 e)
  have c:=h1 d hd e
  omega
 by_cases hM : 0 < 2 * M
 ·obtain ⟨m,hm,hmax⟩:=max_at φ F p.posF
  obtain ⟨n,hn,hmin⟩:=max_at (fun f=>- φ f) F p.posF
  have dart : ∀ f,f < F→∃ d,d < 2 * M∧fc d=f:=by
   intro f hf
   apply Classical.byContradiction
   intro hno
   have:=p.cF (fun x=>if x=f then 1 else 0) (fun d hd=>by
    rw [if_neg (fun e=>hno ⟨d,hd,e⟩),if_neg (fun e=>hno ⟨_,oth_lt2 hd,e⟩)])
   have a:=this f hf
   have b:=this (fc 0) (p.fct 0 hM)
   simp only [if_true] at a
   rw [← a,if_neg (fun e=>hno ⟨0,hM,e⟩)] at b
   omega
  have top : φ o=φ m:=by
   apply Classical.byContradiction
   intro hne
   obtain ⟨d,hd,e⟩:=dart m hm
   have:=p.no_top ha (k:=fun d=>(k d+3) % 4) ⟨fun d hd=>by omega,fun d hd=>by have:=hk.fw d hd; omega,fun d hd=>by have:=hk.oth d hd; omega⟩ (fun f=>decide (φ f=φ m)) (by simpa using hne) (fun d hd e1 e2=>by
    simp only [decide_eq_true_eq] at e2 ⊢
    have k3 : k d=3:=by have:=hk.nn d hd; omega
    have a:=up _ (oth_lt2 hd) ((opp d hd).2 k3)
    rw [oth_two] at a
    have b:=hmax (fc d) (p.fct d hd)
    omega) d hd
   rw [e] at this
   simp at this
  have bot : φ o=φ n:=by
   apply Classical.byContradiction
   intro hne
   obtain ⟨d,hd,e⟩:=dart n hn
   have:=p.no_top ha (k:=fun d=>(k d+1) % 4) ⟨fun d hd=>by omega,fun d hd=>by have:=hk.fw d hd; omega,fun d hd=>by have:=hk.oth d hd; omega⟩ (fun f=>decide (φ f=φ n)) (by simpa using hne) (fun d hd e1 e2=>by
    simp only [decide_eq_true_eq] at e2 ⊢
    have k1 : k d=1:=by have:=hk.nn d hd; omega
    have a:=up d hd k1
    have b:=hmin (fc d) (p.fct d hd)
    omega) d hd
   rw [e] at this
   simp at this
  intro d hd e
  have a:=step d hd
  have b:=h3 _ (oth_lt2 hd) ((opp d hd).1 e)
  have c1:=hmax _ (p.fct d hd)
  have c2:=hmin _ (p.fct d hd)
  have c3:=hmax _ (p.fct _ (oth_lt2 hd))
  have c4:=hmin _ (p.fct _ (oth_lt2 hd))
  omega
 ·intro d hd; omega
def Walk (tl : Nat→Nat) (M : Nat) : Nat→List Nat→Nat→Prop
 | a,[],b=>a=b
 | a,d :: ds,b=>d < 2 * M∧tl d=a∧Walk tl M (tl (oth d)) ds b
def cnt (ds : List Nat) (d : Nat) : Int:=((ds.count d : Nat) : Int)
theorem walk_flow {v : Nat} : ∀ {ds : List Nat} {a b : Nat},Walk tl M a ds b →
  sumTo (2 * M) (fun d=>if tl d=v then cnt ds d else 0)+(if b=v then 1 else 0)=sumTo (2 * M) (fun d=>if tl (oth d)=v then cnt ds d else 0)+(if a=v then 1 else 0)
 | [],a,b,h=>by
  have h : a=b:=h
  subst h
  rw [sumTo_zero (fun d _=>by simp [cnt]),sumTo_zero (fun d _=>by simp [cnt])]
 | d :: ds,a,b,⟨h1,h2,h3⟩=>by
  have ih:=walk_flow (v:=v) h3
  have key : ∀ q : Nat→Nat,sumTo (2 * M) (fun x=>if q x=v then cnt (d :: ds) x else 0)=sumTo (2 * M) (fun x=>if q x=v then cnt ds x else 0)+(if q d=v then 1 else 0):=by
   intro q
   have : sumTo (2 * M) (fun x=>if x=d then (if q d=v then (1 : Int) else 0) else 0)=if q d=v then 1 else 0:=by
    rw [sumTo_one h1 (fun i _ hne=>by rw [if_neg hne]),if_pos rfl]
   rw [← this,← sumTo_add]
   refine sumTo_congr fun x _=>?_
   unfold cnt
   rw [List.count_cons]
   by_cases e : x=d
   ·subst e
    simp only [beq_self_eq_true,if_true]
    split <;> simp
   ·have hb : (d == x)=false:=by simpa using (Ne.symm e)
    rw [hb,if_neg e]
    simp
  rw [key tl,key (fun x=>tl (oth x)),h2]
  omega
theorem Plane.no_cycle (p : Plane V F M tl fc fw) (ha : Angl V F M tl fc fw g o) (hk : Dirs M fw g k) {a : Nat} {ds : List Nat} (hw : Walk tl M a ds a) (h3 : ∀ d∈ds,k d≠3) : ∀ d∈ds,k d≠1:=by
 intro d hd e
 have lt : ∀ {ds : List Nat} {a b : Nat},Walk tl M a ds b→∀ d∈ds,d < 2 * M:=by
  intro ds
  induction ds with
  | nil=>intro a b _ d hd; simp at hd
  | cons x ds ih =>
   intro a b h d hd
   rcases List.mem_cons.1 hd with rfl | hd
   ·exact h.1
   ·exact ih h.2.2 d hd
 have:=p.no_flow ha hk (cnt ds) (fun v _=>by have:=walk_flow (v:=v) hw; omega) (fun x hx e=>by
  unfold cnt
  rw [List.count_eq_zero.2 (fun hm=>h3 x hm e)]; rfl) (fun x _ _=>by unfold cnt; omega) d (lt hw d hd) e
 have h2:=List.count_pos_iff.2 hd
 unfold cnt at this
 omega
end
end Go.Vm
