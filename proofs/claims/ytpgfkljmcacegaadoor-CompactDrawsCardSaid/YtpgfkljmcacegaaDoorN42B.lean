/-
 Sums over darts: what the faces and the vertices of a plane system give.
-/
import Derived.Test.YtpgfkljmcacegaaDoorN42A
set_option linter.unusedVariables false
set_option linter.unusedSimpArgs false
namespace Go.Vm
set_option maxRecDepth 100000
theorem sumTo_comm (f : Nat→Nat→Int) (m : Nat) : ∀ n,sumTo n (fun i=>sumTo m (fun j=>f i j))=sumTo m (fun j=>sumTo n (fun i=>f i j))
 | 0=>(sumTo_zero (n:=m) (fun _ _=>rfl)).symm
 | n+1=>by
  simp only [sumTo_succ]
  rw [sumTo_comm f m n,← sumTo_add]
theorem sumTo_mul (c : Int) (f : Nat→Int) : ∀ n,sumTo n (fun i=>c * f i)=c * sumTo n f
 | 0=>by simp [sumTo]
 | n+1=>by simp only [sumTo_succ]; rw [sumTo_mul c f n,Int.mul_add]
theorem sumTo_ones : ∀ m : Nat,sumTo m (fun _=>(1 : Int))=m
 | 0=>rfl
 | m+1=>by simp only [sumTo_succ]; rw [sumTo_ones m]; simp
theorem sumTo_div (q : Int) {f : Nat→Int} : ∀ {n : Nat},(∀ i,i < n→q∣f i)→q∣sumTo n f
 | 0,_=>Int.dvd_zero q
 | n+1,h=>by
  simp only [sumTo_succ]
  exact Int.dvd_add (sumTo_div q (fun i hi=>h i (by omega))) (h n (by omega))
theorem sumTo_full {c : Nat→Int} {n : Nat} (h1 : ∀ x,x < n→c x≤1) (h2 : sumTo n c=n) {x : Nat} (hx : x < n) : c x=1:=by
 have e : sumTo n c≤sumTo n (fun i=>if i=x then c x else 1):=sumTo_le fun i hi=>by
  by_cases e : i=x
  ·simp [e]
  ·simp only [e,if_false]; exact h1 i hi
 have e2 : sumTo n (fun i=>(1 : Int) - (if i=x then c x else 1))=1 - c x:=by
  rw [sumTo_one hx (fun i _ hne=>by simp [hne])]; simp
 rw [sumTo_sub,sumTo_ones] at e2
 have:=h1 x hx
 omega
theorem sumTo_perm {π : Nat→Nat} {n : Nat} (hlt : ∀ d,d < n→π d < n) (hinj : ∀ a b,a < n→b < n→π a=π b→a=b) (f : Nat→Int) : sumTo n (fun d=>f (π d))=sumTo n f:=by
 have hc1 : ∀ x,x < n→sumTo n (fun d=>if π d=x then (1 : Int) else 0)≤1:=by
  intro x _
  by_cases h : ∃ d,d < n∧π d=x
  ·obtain ⟨d,hd,e⟩:=h
   rw [sumTo_one hd (fun i hi hne=>by
    rw [if_neg]
    intro e'
    exact hne (hinj i d hi hd (by rw [e',e])))]
   split <;> omega
  ·rw [sumTo_zero (fun i hi=>by
    rw [if_neg]
    intro e'
    exact h ⟨i,hi,e'⟩)]
   omega
 have hc2 : sumTo n (fun x=>sumTo n (fun d=>if π d=x then (1 : Int) else 0))=n:=by
  rw [← sumTo_comm (fun d x=>if π d=x then (1 : Int) else 0) n n]
  rw [sumTo_congr (g:=fun _=>(1 : Int)) (fun d hd=>by
   rw [sumTo_one (hlt d hd) (fun i _ hne=>by rw [if_neg (Ne.symm hne)])]; simp)]
  exact sumTo_ones n
 have e1 : sumTo n (fun d=>f (π d))=sumTo n (fun d=>sumTo n (fun x=>if π d=x then f x else 0)):=sumTo_congr fun d hd=>by
  rw [sumTo_one (hlt d hd) (fun i _ hne=>by rw [if_neg (Ne.symm hne)])]; simp
 rw [e1,sumTo_comm (fun d x=>if π d=x then f x else 0) n n]
 refine sumTo_congr fun x hx=>?_
 have h:=sumTo_full hc1 hc2 hx
 rw [sumTo_congr (g:=fun d=>f x * (if π d=x then (1 : Int) else 0)) (fun d _=>by split <;> simp),sumTo_mul,h,Int.mul_one]
theorem sumTo_darts (h : Nat→Int) : ∀ M,sumTo (2 * M) h=sumTo M (fun i=>h (2 * i)+h (2 * i+1))
 | 0=>rfl
 | M+1=>by
  have : 2 * (M+1)=2 * M+1+1:=by omega
  rw [this]
  simp only [sumTo_succ]
  rw [sumTo_darts h M]
  omega
theorem oth_ev (i : Nat) : oth (2 * i)=2 * i+1:=by unfold oth; rw [if_pos (by omega)]
theorem oth_od (i : Nat) : oth (2 * i+1)=2 * i:=by unfold oth; rw [if_neg (by omega)]; rfl
section
variable {V F M : Nat} {nx tl fc : Nat→Nat} {δ : Nat→Int}
theorem plane_H1 (hlt : ∀ d,d < 2 * M→nx d < 2 * M) (hinj : ∀ a b,a < 2 * M→b < 2 * M→nx a=nx b→a=b) (hfc : ∀ d,d < 2 * M→fc (nx d)=fc d) (htl : ∀ d,d < 2 * M→tl (nx d)=tl (oth d)) (y g : Nat→Int) :
  sumTo M (fun i=>(y (fc (2 * i)) - y (fc (2 * i+1))) * (g (tl (2 * i+1)) - g (tl (2 * i))))=0:=by
 have e1 : sumTo (2 * M) (fun d=>y (fc d) * g (tl (oth d)) - y (fc d) * g (tl d))=0:=by
  rw [sumTo_sub,sumTo_congr (g:=fun d=>(fun x=>y (fc x) * g (tl x)) (nx d)) (fun d hd=>by simp only [hfc d hd,htl d hd]),sumTo_perm hlt hinj (fun x=>y (fc x) * g (tl x))]
  omega
 rw [sumTo_darts] at e1
 rw [← e1]
 refine sumTo_congr fun i _=>?_
 simp only [oth_ev,oth_od]
 rw [Int.sub_mul,Int.mul_sub,Int.mul_sub]
 omega
theorem plane_H2 (q : Int) (hF : ∀ d,d < 2 * M→fc d < F) (hanti : ∀ i,i < M→q∣δ (2 * i)+δ (2 * i+1)) (hface : ∀ f,f < F→q∣sumTo (2 * M) (fun d=>if fc d=f then δ d else 0)) (y : Nat→Int) :
  q∣sumTo M (fun i=>(y (fc (2 * i)) - y (fc (2 * i+1))) * δ (2 * i)):=by
 have e1 : sumTo (2 * M) (fun d=>y (fc d) * δ d)=sumTo F (fun f=>y f * sumTo (2 * M) (fun d=>if fc d=f then δ d else 0)):=by
  rw [sumTo_congr (n:=F) (g:=fun f=>sumTo (2 * M) (fun d=>if fc d=f then y f * δ d else 0)) (fun f _=>by
   rw [← sumTo_mul]
   exact sumTo_congr fun d _=>by split <;> simp)]
  rw [← sumTo_comm (fun d f=>if fc d=f then y f * δ d else 0) F (2 * M)]
  refine sumTo_congr fun d hd=>?_
  rw [sumTo_one (hF d hd) (fun i _ hne=>by rw [if_neg (Ne.symm hne)])]
  simp
 have e2 : q∣sumTo (2 * M) (fun d=>y (fc d) * δ d):=by
  rw [e1]
  exact sumTo_div q fun f hf=>Int.dvd_mul_of_dvd_right (hface f hf)
 have e3 : sumTo (2 * M) (fun d=>y (fc d) * δ d)=sumTo M (fun i=>(y (fc (2 * i)) - y (fc (2 * i+1))) * δ (2 * i))+sumTo M (fun i=>y (fc (2 * i+1)) * (δ (2 * i)+δ (2 * i+1))):=by
  rw [sumTo_darts,← sumTo_add]
  refine sumTo_congr fun i _=>?_
  rw [Int.sub_mul,Int.mul_add]
  omega
 have e4 : q∣sumTo M (fun i=>y (fc (2 * i+1)) * (δ (2 * i)+δ (2 * i+1))):=sumTo_div q fun i hi=>Int.dvd_mul_of_dvd_right (hanti i hi)
 rw [e3] at e2
 have:=Int.dvd_sub e2 e4
 rw [show sumTo M (fun i=>(y (fc (2 * i)) - y (fc (2 * i+1))) * δ (2 * i))+sumTo M (fun i=>y (fc (2 * i+1)) * (δ (2 * i)+δ (2 * i+1))) - sumTo M (fun i=>y (fc (2 * i+1)) * (δ (2 * i)+δ (2 * i+1)))=sumTo M (fun i=>(y (fc (2 * i)) - y (fc (2 * i+1))) * δ (2 * i)) by omega] at this
 exact this
theorem plane_potential (q : Int) (ht : ∀ d,d < 2 * M→tl d < V) (hF : ∀ d,d < 2 * M→fc d < F) (hlt : ∀ d,d < 2 * M→nx d < 2 * M) (hinj : ∀ a b,a < 2 * M→b < 2 * M→nx a=nx b→a=b) (hfc : ∀ d,d < 2 * M→fc (nx d)=fc d) (htl : ∀ d,d < 2 * M→tl (nx d)=tl (oth d))
  (hanti : ∀ i,i < M→q∣δ (2 * i)+δ (2 * i+1)) (hface : ∀ f,f < F→q∣sumTo (2 * M) (fun d=>if fc d=f then δ d else 0))
  (cV : ∀ L : Nat→Nat,(∀ d,d < 2 * M→L (tl d)=L (tl (oth d)))→∀ x,x < V→L x=L 0) (cF : ∀ L : Nat→Nat,(∀ d,d < 2 * M→L (fc d)=L (fc (oth d)))→∀ x,x < F→L x=L 0)
  (hV : 0 < V) (hF0 : 0 < F) (hE : V+F=M+2) : ∃ φ : Nat→Int,∀ d,d < 2 * M→q∣φ (tl (oth d)) - φ (tl d) - δ d:=by
 have both : ∀ (L : Nat→Nat) (p : Nat→Nat),(∀ i,i < M→L (p (2 * i))=L (p (2 * i+1)))→∀ d,d < 2 * M→L (p d)=L (p (oth d)):=by
  intro L p h d hd
  rcases Nat.mod_two_eq_zero_or_one d with e | e
  ·have : d=2 * (d / 2):=by omega
   rw [this,oth_ev]
   exact h _ (by omega)
  ·have : d=2 * (d / 2)+1:=by omega
   rw [this,oth_od]
   exact (h _ (by omega)).symm
 obtain ⟨φ,hφ⟩:=potential (V:=V) (F:=F) (M:=M) (t:=fun i=>tl (2 * i)) (h:=fun i=>tl (2 * i+1)) (l:=fun i=>fc (2 * i)) (r:=fun i=>fc (2 * i+1)) (δ:=fun i=>δ (2 * i))
  (fun i hi=>ht _ (by omega)) (fun i hi=>ht _ (by omega)) (fun i hi=>hF _ (by omega)) (fun i hi=>hF _ (by omega)) (fun y g=>plane_H1 hlt hinj hfc htl y g) q (fun y=>plane_H2 q hF hanti hface y)
  (fun L h=>cV L (both L tl h)) (fun L h=>cF L (both L fc h)) hV hF0 hE
 refine ⟨φ,fun d hd=>?_⟩
 rcases Nat.mod_two_eq_zero_or_one d with e | e
 ·have : d=2 * (d / 2):=by omega
  rw [this,oth_ev]
  exact hφ _ (by omega)
 ·have : d=2 * (d / 2)+1:=by omega
  have h1:=hφ (d / 2) (by omega)
  have h2:=hanti (d / 2) (by omega)
  rw [this,oth_od]
  have h3:=Int.dvd_sub (Int.dvd_zero q) (Int.dvd_add h1 h2)
  have e4 : φ (tl (2 * (d / 2))) - φ (tl (2 * (d / 2)+1)) - δ (2 * (d / 2)+1)=0 - (φ (tl (2 * (d / 2)+1)) - φ (tl (2 * (d / 2))) - δ (2 * (d / 2))+(δ (2 * (d / 2))+δ (2 * (d / 2)+1))):=by omega
  rw [e4]
  exact h3
end
end Go.Vm
