/-
  lives(), the closed part of the law: true. No statement of the program is claimed here.
-/
import Derived.Test.YtbkjelhkjncfkaaGreatDoorRfN29p7
namespace Go.Rf
set_option maxRecDepth 100000
theorem lives_true : R.flat (evFunT E1 (tabCall t55) 100 4 [] (layF gl 0 .e) gl.length) = some (.bool true) := by kernel_rfl
theorem lives_calls {rl : List (Nat × (Nat × Nat))} {W : World} (hI : HR (fun b => rl[b]?) (layF gl 0 .e) gl.length W) (hgl : ∀ g b, E1.glob g = some b → ∃ n, rl[b]? = some (g, (0, n))) :
    Calls P1 4 #[] W fun e W' => e = .returned (.bool true) ∧ WF (fun _ => False) W W' :=
  closed_good (evFunT_good envOk (tab_good t55_ok) 100) (by decide) lives_true hI hgl
end Go.Rf
