/-
  Closed facts of the card of ReportLines. No statement of the program is claimed here.
-/
import Derived.Test.YtbkjelhkjncfkaaGreatDoorCards
import Derived.KernelRfl
namespace Go.Proofs.YtbkjelhkjncfkaaGreatDoor
set_option maxRecDepth 100000
theorem lines_wf : Rows.reportLinesRow.wfByText (OpenSpec.ofChange Rows.reportLinesSpec) = true := by kernel_rfl
theorem lines_looks : false = Tryz.pinned.checked.prog.looks [] := by kernel_rfl
theorem lines_stand22 : Tryz.pinned.checked.prog.wantsStandIn 22 = false := by kernel_rfl
theorem lines_stand26 : Tryz.pinned.checked.prog.wantsStandIn 26 = false := by kernel_rfl
theorem lines_stand27 : Tryz.pinned.checked.prog.wantsStandIn 27 = false := by kernel_rfl
end Go.Proofs.YtbkjelhkjncfkaaGreatDoor
