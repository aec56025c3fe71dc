/-
  'lamplighterlaw24.TransferNames': the examples of the chapter have the results that it states: the closed law answers true (the tied card). No condition beyond what the row lists (four package-level variables hold what the program's text lays).
-/
import Derived.Test.YtkhadodoabjdoaaGreatDoorRfXN
namespace Go.Proofs.YtkhadodoabjdoaaGreatDoor
open Go.Rf
set_option maxRecDepth 100000
theorem names_plain (f : FuncId) (fn : Func) (hf : Tryz.pinned.checked.prog.funcNamed "lamplighter/lamplighterlaw24.TransferNames" = some f) (hfn : Tryz.pinned.checked.prog.funcs[f]? = some fn) :
    false = Tryz.pinned.checked.prog.looks [] ∧ ∀ (j : Nat) t, fn.params[j]? = some t → Tryz.pinned.checked.prog.wantsStandIn t = false := by
  obtain rfl : f = 6 := Option.some.inj (names_func.symm.trans hf) |>.symm
  obtain rfl : fn = Tryz.f6 := (Option.some.inj (Tryz.func6.symm.trans hfn)).symm
  refine ⟨by kernel_rfl, fun j t ht => ?_⟩
  have hp6 : Tryz.f6.params = #[] := by kernel_rfl
  rw [hp6] at ht
  simp at ht

/-- THE CARD. -/
theorem names_card : Rows.TransferNamesCardSaid :=
  Claim7.holds_tied_plain_at .later [] _ _ _ _ names_said (fun _ h => by cases h) (by kernel_rfl) (fun _ h => by cases h) transferNames_row_tie rfl ⟨rfl, rfl⟩ (by kernel_rfl) rfl names_plain (by kernel_rfl)
end Go.Proofs.YtkhadodoabjdoaaGreatDoor
#print axioms Go.Proofs.YtkhadodoabjdoaaGreatDoor.names_card
