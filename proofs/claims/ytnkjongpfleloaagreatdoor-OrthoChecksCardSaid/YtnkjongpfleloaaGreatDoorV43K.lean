/-
 OrthoChecks: the law.
-/
import Derived.Test.YtnkjongpfleloaaGreatDoorV43J
import Derived.Test.YtnkjongpfleloaaGreatDoorVmE
set_option linter.unusedVariables false
set_option linter.unusedSimpArgs false
namespace Go.Vm
theorem KK:Zan ()=some (true,()):=by kernel_rfl
theorem rA(x:Q23)(_:vi Zn_c.ins x):Zn x=some (true,()):=nO x KK
end Go.Vm
