/-
  Closed facts of the row of ReportLines. No statement of the program is claimed here.
-/
import Derived.Test.YtbkjelhkjncfkaaGreatDoorCards
import Derived.JoinedOf
import Derived.JoinedCond
import Derived.KernelRfl
namespace Go.Proofs.YtbkjelhkjncfkaaGreatDoor
set_option maxRecDepth 100000
theorem lines_f1 : Tryz.prog.inPlace 3 = ["slices.overlaps[lamplighter/api.Link]"] := by kernel_rfl
theorem lines_f2 : Tryz.prog.unfollowed 3 = true := by kernel_rfl
theorem lines_f3 : Tryz.prog.recurses 3 = true := by kernel_rfl
theorem lines_f4 : Tryz.prog.varsNamed 3 = ["lamplighter/image.checks", "lamplighter/code.kinds", "lamplighter/word.signs", "math/bits.deBruijn32tab", "internal/strconv.uint64pow10", "math/bits.deBruijn64tab"] := by kernel_rfl
theorem lines_facts : joinedFacts Tryz.prog 3 Tryz.f3 (OpenSpec.ofChange Rows.reportLinesSpec).bare Rows.reportLinesRow = true := by
  unfold joinedFacts
  rw [lines_f1, lines_f2, lines_f3, lines_f4]
  kernel_rfl
theorem lines_func : Tryz.prog.funcNamed "lamplighter/lamplighterlaw29.ReportLines" = some 3 := by kernel_rfl
theorem lines_inst : Tryz.f3.isInstance Tryz.prog Rows.reportLinesRow.origin Rows.reportLinesRow.targs := of_decide_eq_true (by kernel_rfl)
theorem lines_wrap : Tryz.f3.isWrapper Tryz.prog Rows.reportLinesRow.wrapper Rows.reportLinesRow.mainSum := by
  unfold Func.isWrapper; first | (rw [if_pos (by decide +kernel)]; kernel_rfl) | (rw [if_neg (by decide +kernel)]; exact ⟨rfl, rfl⟩)
end Go.Proofs.YtbkjelhkjncfkaaGreatDoor
