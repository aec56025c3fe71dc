/-
  TransferNames, reckoned by the kernel. No statement of the program is claimed here.
-/
import Derived.Test.YtkhadodoabjdoaaGreatDoorRfGlob
namespace Go.Rf
theorem names_true : R.flat (evFun (E0 100000) 100 6 [] (layF gl 0 .e) gl.length) = some (.bool true) := by kernel_rfl
end Go.Rf
