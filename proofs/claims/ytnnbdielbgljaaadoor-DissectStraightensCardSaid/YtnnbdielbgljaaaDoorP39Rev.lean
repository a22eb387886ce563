/-
 Bends, reversed.
-/
import Derived.Test.YtnnbdielbgljaaaDoorD41
import Derived.Test.YtnnbdielbgljaaaDoorVmD
import Derived.Test.YtnnbdielbgljaaaDoorVmD
import Derived.KernelRfl
set_option linter.unusedVariables false
set_option linter.unusedSimpArgs false
namespace Go.Vm
open Go.Proofs
set_option maxRecDepth 100000
def sw (c : Int) : Int:=if c=76 then 82 else if c=82 then 76 else c
theorem sw_sw (c : Int) : sw (sw c)=c:=by unfold sw; split <;> (try split) <;> (try split) <;> omega
theorem sw_range {c : Int} (h : 0≤c∧c < 256) : 0≤sw c∧sw c < 256:=by unfold sw; split <;> (try split) <;> omega
theorem swapped_eq (c : Int) : ∃ b,Zbg (c,())=some (sw c,(b,())):=by
 unfold Zbg sw
 by_cases h1 : c=76
 ·exact ⟨true,by simp [eqI,h1]⟩
 ·by_cases h2 : c=82
  ·exact ⟨true,by simp [eqI,h2]⟩
  ·exact ⟨false,by dsimp only; rw [eqI_f h1,eqI_f h2,if_neg h1,if_neg h2]; rfl⟩
theorem exchange_eq (c : Int) : Zg (c,())=some (sw c,()):=by
 unfold Zg sw
 by_cases h1 : c=76
 ·simp [eqI,h1]
 ·by_cases h2 : c=82
  ·simp [eqI,h2]
  ·dsimp only; rw [eqI_f h1,eqI_f h2,if_neg h1,if_neg h2]; rfl
theorem swap_loop : ∀ (q p : List Int),(p++q).length≤68719476736→Zbd_L4 (p++q,(((p++q).length : Nat),((p.length : Nat),())))=some (.inl (p++q.map sw,()))
 | [],p,h=>by
  refine loop_done ?_
  simp only [Zbd_B4]
  rw [ltI_f (by simp)]
  simp
 | c :: q,p,h=>by
  have h' : p.length+q.length+1≤68719476736:=by simp at h; omega
  have hs : Zbd_B4 (p++c :: q,(((p++c :: q).length : Nat),((p.length : Nat),())))=some (.inl ((p++[sw c])++q,((((p++[sw c])++q).length : Nat),(((p++[sw c]).length : Nat),())))):=by
   simp only [Zbd_B4]
   obtain ⟨b,hb⟩:=swapped_eq c
   rw [ltI_t (by simp; omega),cond_true,idxI_of (by simp),Option.bind_some]
   have g : (p++c :: q)[p.length]?=some c:=by simp
   rw [g,Option.bind_some,hb,Option.bind_some,Option.bind_some]
   simp only [g,Option.bind_some]
   rw [add1 (by omega)]
   simp
  show loopFix _ _=_
  rw [loop_step hs]
  have:=swap_loop q (p++[sw c]) (by simp; omega)
  rw [show loopFix Zbd_B4=Zbd_L4 from rfl,this]
  simp
theorem reverse_eq (s : ByteArray) (h : s.size≤68719476736) : Zbd (s,())=some (ofBytes ((bytesOf s).reverse.map sw),()):=by
 have hl:=bytesOf_length s
 have e1 : Zi (bytesOf s,())=some ((bytesOf s).reverse,()):=by
  unfold Zi
  have:=rev_all (bytesOf s) (by omega)
  rw [show Zi_L1 ((bytesOf s,()).1,(0,((subI .i64 ((bytesOf s,()).1.length : Nat) 1),())))=some (.inl ((bytesOf s).reverse,())) from this]
  rfl
 unfold Zbd
 simp only [e1,Option.bind_some]
 have:=swap_loop (bytesOf s).reverse [] (by simp; omega)
 simp only [List.nil_append,List.length_nil] at this
 rw [show ((0 : Nat) : Int)=0 from rfl] at this
 rw [this]
 rfl
theorem refrev_loop (s : ByteArray) (hs : s.size≤68719476736) : ∀ (k : Nat) (acc : List Int),k≤s.size→acc.length+k≤s.size →
  Zl_L3 (acc,(s,((k : Int) - 1,())))=some (.inl (acc++((bytesOf s).take k).reverse.map sw,()))
 | 0,acc,_,_=>by
  refine loop_done ?_
  simp only [Zl_B3]
  rw [geI_f (by omega)]
  simp
 | k+1,acc,hk,ha=>by
  have hl:=bytesOf_length s
  obtain ⟨c,hc⟩ : ∃ c,s.data.toList[k]?=some c:=⟨_,List.getElem?_eq_getElem (by rw [Array.length_toList]; exact hk)⟩
  have hb:=byte_at s k
  rw [hc] at hb
  have hst : Zl_B3 (acc,(s,(((k+1 : Nat) : Int) - 1,())))=some (.inl (acc++[sw c.toNat],(s,((k : Int) - 1,())))):=by
   simp only [Zl_B3]
   rw [show (((k+1 : Nat) : Int) - 1)=(k : Int) by omega,geI_t (by omega),cond_true,getI_of,hc,Option.bind_some,exchange_eq,Option.bind_some,app_of (by simp; omega),Option.bind_some,sub1 (by omega)]
  show loopFix _ _=_
  rw [loop_step hst]
  have:=refrev_loop s hs k (acc++[sw c.toNat]) (by omega) (by simp; omega)
  rw [show loopFix Zl_B3=Zl_L3 from rfl,this]
  have ht : (bytesOf s).take (k+1)=(bytesOf s).take k++[(c.toNat : Int)]:=by
   rw [List.take_add_one,← hb]; rfl
  rw [ht]
  simp
theorem refreverse_eq (s : ByteArray) (h : s.size≤68719476736) : Zl (s,())=some (ofBytes ((bytesOf s).reverse.map sw),()):=by
 unfold Zl
 dsimp only
 have:=refrev_loop s h s.size [] (Nat.le_refl _) (by simp)
 rw [sub1 (by omega),this]
 have hl:=bytesOf_length s
 simp only [List.nil_append,Option.bind_some,Sum.elim_inl]
 rw [List.take_of_length_le (by omega)]
end Go.Vm
