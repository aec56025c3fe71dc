/-
  Closed facts of the row of TransferNames. No statement of the program is claimed here.
-/
import Derived.Test.YtkhadodoabjdoaaGreatDoorCards
import Derived.JoinedOf
import Derived.JoinedCond
import Derived.KernelRfl
namespace Go.Proofs.YtkhadodoabjdoaaGreatDoor
set_option maxRecDepth 100000
theorem names_f1 : Tryz.prog.inPlace 6 = [] := by kernel_rfl
theorem names_f2 : Tryz.prog.unfollowed 6 = true := by kernel_rfl
theorem names_f3 : Tryz.prog.recurses 6 = true := by kernel_rfl
theorem names_f4 : Tryz.prog.varsNamed 6 = ["lamplighter/image.checks", "lamplighter/code.kinds", "lamplighter/word.signs", "math/bits.deBruijn32tab"] := by kernel_rfl
theorem names_facts : joinedFacts Tryz.prog 6 Tryz.f6 (OpenSpec.ofChange Rows.transferNamesSpec).bare Rows.transferNamesRow = true := by
  unfold joinedFacts
  rw [names_f1, names_f2, names_f3, names_f4]
  kernel_rfl
theorem names_func : Tryz.prog.funcNamed "lamplighter/lamplighterlaw24.TransferNames" = some 6 := by kernel_rfl
theorem names_inst : Tryz.f6.isInstance Tryz.prog Rows.transferNamesRow.origin Rows.transferNamesRow.targs := of_decide_eq_true (by kernel_rfl)
theorem names_wrap : Tryz.f6.isWrapper Tryz.prog Rows.transferNamesRow.wrapper Rows.transferNamesRow.mainSum := by
  unfold Func.isWrapper; first | (rw [if_pos (by decide +kernel)]; kernel_rfl) | (rw [if_neg (by decide +kernel)]; exact ⟨rfl, rfl⟩)
end Go.Proofs.YtkhadodoabjdoaaGreatDoor
