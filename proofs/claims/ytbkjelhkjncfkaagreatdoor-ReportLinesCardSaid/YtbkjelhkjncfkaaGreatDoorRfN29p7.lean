/-
  Calls that were reckoned once, each checked by the kernel. Printed by wip/tools/mkent.py. No statement of the program is claimed here.
-/
import Derived.Test.YtbkjelhkjncfkaaGreatDoorRfN29p6
namespace Go.Rf
set_option maxRecDepth 100000
def e53 : Ent := ⟨18, [(.agg [(.sl 42186 0 6 6 true), (.sl 42187 0 1 1 true), .nilSl, (.int .i64 (.ofNat 0)), (.sl 42188 0 1 1 true), (.sl 42189 0 1 1 true), (.int .i64 (.ofNat 9)), .nilSl]), (.agg [(.sl 46862 0 1 2 false), .nilSl, (.sl 51280 0 0 0 true), .nilSl, .nilSl, (.int .i64 (.ofNat 2))])], [(1, g1), (2, g2), (5, g5), (6, g6), (42186, cc14), (42187, cc1), (42189, cc15), (46862, cc24), (48437, cc18), (48447, cc18), (48457, cc21), (48459, cc18), (48469, cc22), (48471, cc18), (48481, cc23), (48483, cc18), (48492, cc3), (48494, cc23), (48496, cc25), (48502, cc5), (51280, cc3)], 67053, (.tup [(.sl 84143 0 1 6 false), (.int .i64 (.ofNat 0))]), 17091, [(17090, [(.int .i64 (.ofNat 1)), (.int .i64 (.ofNat 0)), (.int .i64 (.ofNat 3)), (.int .i64 (.ofNat 0)), (.int .i64 (.ofNat 0)), (.int .i64 (.ofNat 0))])]⟩
theorem k53 : EntOk P1 E1 e53 := entOk_of (evFunT_good envOk (tab_good t53_ok) 100) glob_lt (by kernel_rfl)
noncomputable def t54 : T (List Ent) := tabAdd t53 e53
theorem t54_ok : TabOk P1 E1 t54 := tab_add t53_ok k53
def cc26 : List V := [(.int .u32 (.ofNat 0))]
def e54 : Ent := ⟨8, [(.agg [(.sl 42186 0 6 6 true), (.sl 42187 0 1 1 true), .nilSl, (.int .i64 (.ofNat 0)), (.sl 42188 0 1 1 true), (.sl 42189 0 1 1 true), (.int .i64 (.ofNat 9)), .nilSl])], [(1, g1), (2, g2), (5, g5), (6, g6), (42186, cc14), (42187, cc1), (42188, cc26), (42189, cc15)], 42190, (.agg [(.int .i64 (.ofNat 2)), (.int .i64 (.ofNat 4)), (.sl 84143 0 1 6 false), (.int .i64 (.ofNat 0))]), 41955, [(41953, [(.int .i64 (.ofNat 1)), (.int .i64 (.ofNat 0)), (.int .i64 (.ofNat 3)), (.int .i64 (.ofNat 0)), (.int .i64 (.ofNat 0)), (.int .i64 (.ofNat 0))])]⟩
theorem k54 : EntOk P1 E1 e54 := entOk_of (evFunT_good envOk (tab_good t54_ok) 100) glob_lt (by kernel_rfl)
noncomputable def t55 : T (List Ent) := tabAdd t54 e54
theorem t55_ok : TabOk P1 E1 t55 := tab_add t54_ok k54
end Go.Rf
