/-
  'lamplighterlaw29.ReportLines': for any vectors, verdict and lines the law returns true; the arguments read as they did (the tied card). No condition beyond what the row lists (six package-level variables hold what the program's text lays).
-/
import Derived.Test.YtbkjelhkjncfkaaGreatDoorRfXN29
import Derived.Test.YtbkjelhkjncfkaaGreatDoorRfXD29
import Derived.Test.YtbkjelhkjncfkaaGreatDoorRfXE29
namespace Go.Proofs.YtbkjelhkjncfkaaGreatDoor
open Go.Rf
set_option maxRecDepth 100000
theorem lines_plain (f : FuncId) (fn : Func) (hf : Tryz.pinned.checked.prog.funcNamed "lamplighter/lamplighterlaw29.ReportLines" = some f) (hfn : Tryz.pinned.checked.prog.funcs[f]? = some fn) :
    false = Tryz.pinned.checked.prog.looks [] ∧ ∀ (j : Nat) t, fn.params[j]? = some t → Tryz.pinned.checked.prog.wantsStandIn t = false := by
  obtain rfl : f = 3 := Option.some.inj (lines_func.symm.trans hf) |>.symm
  obtain rfl : fn = Tryz.f3 := (Option.some.inj (Tryz.func3.symm.trans hfn)).symm
  refine ⟨lines_looks, fun j t ht => ?_⟩
  rw [params3] at ht
  obtain rfl | rfl | rfl : t = 22 ∨ t = 26 ∨ t = 27 := by
    match j, ht with
    | 0, ht => exact .inl (Option.some.inj ht).symm
    | 1, ht => exact .inr (.inl (Option.some.inj ht).symm)
    | 2, ht => exact .inr (.inr (Option.some.inj ht).symm)
    | j + 3, ht => simp at ht
  · exact lines_stand22
  · exact lines_stand26
  · exact lines_stand27

/-- THE CARD. -/
theorem lines_card : Rows.ReportLinesCardSaid :=
  Claim7.holds_tied_plain_at .later [] _ _ _ _ lines_said (fun _ h => by cases h) lines_wf (fun _ h => by cases h) reportLines_row_tie rfl ⟨rfl, rfl⟩ lines_main rfl lines_plain lines_goes
end Go.Proofs.YtbkjelhkjncfkaaGreatDoor
#print axioms Go.Proofs.YtbkjelhkjncfkaaGreatDoor.lines_card
