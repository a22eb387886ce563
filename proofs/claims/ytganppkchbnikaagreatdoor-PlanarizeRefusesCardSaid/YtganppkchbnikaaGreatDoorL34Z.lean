/-
 PlanarizeRefuses: Run gives the first error and nothing else.
-/
import Derived.Test.YtganppkchbnikaaGreatDoorL34Y
import Derived.Test.YtganppkchbnikaaGreatDoorD90
import Derived.Test.YtganppkchbnikaaGreatDoorVmE
open Option renaming bind_some->dg
set_option linter.unusedVariables false
set_option linter.unusedSimpArgs false
namespace Go.Vm
set_option maxRecDepth 100000
theorem jA(x:Q6×Unit):Zo x=some (true,()):=by
 obtain⟨⟨N,E,u⟩,v⟩:=x;cases u;cases v
 have haw:Zar ()=some (true,()):=by show cond (fo _ () Gz) (some GC) none=some (true,());rfl
 obtain⟨c,h1,h2⟩:=vq N E;unfold Zo;simp only[h1,dg];by_cases hc:c=0
 ·rw[cW hc,UA,haw];rfl
 rw[bN hc,UB,h2 hc];simp only[dg,cW (rfl:c=c),UA,haw];rfl
theorem l8(x:Q6×Unit)(_:tM Zo_c.ins x):Zo x=some (true,()):=jA x
end Go.Vm
