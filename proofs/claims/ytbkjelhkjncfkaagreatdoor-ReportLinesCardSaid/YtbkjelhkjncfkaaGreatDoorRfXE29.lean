/-
  Closed facts of the card of ReportLines: the main function's text, and that no value goes by a type's name. No statement of the program is claimed here.
-/
import Derived.Test.YtbkjelhkjncfkaaGreatDoorCards
import Derived.KernelRfl
namespace Go.Proofs.YtbkjelhkjncfkaaGreatDoor
set_option maxRecDepth 100000
theorem lines_main : Tryz.pinned.checked.prog.mainIs = some (true, "2db5d7a4621f6f234d6d0022c550bc12eb993dd7982503796d682ebc2477bfc1".toList) := by kernel_rfl
theorem lines_goes : false = Rows.reportLinesRow.goesBy Tryz.pinned.checked.prog := by kernel_rfl
end Go.Proofs.YtbkjelhkjncfkaaGreatDoor
