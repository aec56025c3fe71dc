/-
  Calls that were reckoned once, each checked by the kernel. Printed by wip/tools/mkent.py. No statement of the program is claimed here.
-/
import Derived.Test.YtbkjelhkjncfkaaGreatDoorRfN29p2
namespace Go.Rf
set_option maxRecDepth 100000
def e25 : Ent := ⟨18, [(.agg [(.sl 8 0 6 6 true), (.sl 9 0 1 1 true), .nilSl, (.int .i64 (.ofNat 0)), (.sl 10 0 1 1 true), .nilSl, (.int .i64 (.ofNat 9)), .nilSl]), (.agg [(.sl 4724 0 1 2 false), .nilSl, (.sl 9183 0 0 0 true), .nilSl, .nilSl, (.int .i64 (.ofNat 2))])], [(1, g1), (2, g2), (5, g5), (6, g6), (8, cc0), (9, cc1), (4724, cc11), (6299, cc6), (6309, cc6), (6319, cc6), (6321, cc6), (6331, cc9), (6333, cc6), (6343, cc10), (6345, cc6), (6354, cc3), (6356, cc10), (6358, cc12), (6364, cc5), (9183, cc3)], 24997, (.tup [.nilSl, (.int .i64 (.ofNat 0))]), 17168, []⟩
theorem k25 : EntOk P1 E1 e25 := entOk_of (evFunT_good envOk (tab_good t25_ok) 100) glob_lt (by kernel_rfl)
noncomputable def t26 : T (List Ent) := tabAdd t25 e25
theorem t26_ok : TabOk P1 E1 t26 := tab_add t25_ok k25
def cc13 : List V := [(.int .u32 (.ofNat 44))]
def e26 : Ent := ⟨8, [(.agg [(.sl 8 0 6 6 true), (.sl 9 0 1 1 true), .nilSl, (.int .i64 (.ofNat 0)), (.sl 10 0 1 1 true), .nilSl, (.int .i64 (.ofNat 9)), .nilSl])], [(1, g1), (2, g2), (5, g5), (6, g6), (8, cc0), (9, cc1), (10, cc13)], 11, (.agg [(.int .i64 (.ofNat 1)), (.int .i64 (.ofNat 4)), .nilSl, (.int .i64 (.ofNat 0))]), 42157, []⟩
theorem k26 : EntOk P1 E1 e26 := entOk_of (evFunT_good envOk (tab_good t26_ok) 100) glob_lt (by kernel_rfl)
noncomputable def t27 : T (List Ent) := tabAdd t26 e26
theorem t27_ok : TabOk P1 E1 t27 := tab_add t26_ok k26
def cc14 : List V := [(.int .i64 (.ofNat 22)), (.int .i64 (.ofNat 0)), (.int .i64 (.ofNat 0)), (.int .i64 (.ofNat 0)), (.int .i64 (.ofNat 2)), (.int .i64 (.ofNat 1)), (.int .i64 (.ofNat 0)), (.int .i64 (.ofNat 0)), (.int .i64 (.ofNat 10)), (.int .i64 (.ofNat 0)), (.int .i64 (.ofNat 0)), (.int .i64 (.ofNat 0)), (.int .i64 (.ofNat 12)), (.int .i64 (.ofNat 4)), (.int .i64 (.ofNat 0)), (.int .i64 (.ofNat 0)), (.int .i64 (.ofNat 5)), (.int .i64 (.ofNat 0)), (.int .i64 (.ofNat 8)), (.int .i64 (.ofNat 0)), (.int .i64 (.ofNat 1)), (.int .i64 (.ofNat 0)), (.int .i64 (.ofNat 0)), (.int .i64 (.ofNat 0))]
def e27 : Ent := ⟨61, [(.agg [(.sl 42186 0 6 6 true), (.sl 42187 0 1 1 true), .nilSl, (.int .i64 (.ofNat 0)), (.sl 42188 0 1 1 true), (.sl 42189 0 1 1 true), (.int .i64 (.ofNat 9)), .nilSl])], [(1, g1), (2, g2), (5, g5), (6, g6), (42186, cc14), (42187, cc1)], 42199, (.int .i64 (.ofNat 0)), 50, []⟩
theorem k27 : EntOk P1 E1 e27 := entOk_of (evFunT_good envOk (tab_good t27_ok) 100) glob_lt (by kernel_rfl)
noncomputable def t28 : T (List Ent) := tabAdd t27 e27
theorem t28_ok : TabOk P1 E1 t28 := tab_add t27_ok k27
def e28 : Ent := ⟨141, [(.agg [(.sl 42186 0 6 6 true), (.sl 42187 0 1 1 true), .nilSl, (.int .i64 (.ofNat 0)), (.sl 42188 0 1 1 true), (.sl 42189 0 1 1 true), (.int .i64 (.ofNat 9)), .nilSl]), (.int .i64 (.ofNat 0))], [(2, g2), (6, g6), (42186, cc14)], 42369, (.sl 42374 0 1 1 false), 6, [(5, [(.int .i64 (.ofNat 1))])]⟩
theorem k28 : EntOk P1 E1 e28 := entOk_of (evFunT_good envOk (tab_good t28_ok) 100) glob_lt (by kernel_rfl)
noncomputable def t29 : T (List Ent) := tabAdd t28 e28
theorem t29_ok : TabOk P1 E1 t29 := tab_add t28_ok k28
def e29 : Ent := ⟨141, [(.agg [(.sl 42186 0 6 6 true), (.sl 42187 0 1 1 true), .nilSl, (.int .i64 (.ofNat 0)), (.sl 42188 0 1 1 true), (.sl 42189 0 1 1 true), (.int .i64 (.ofNat 9)), .nilSl]), (.int .i64 (.ofNat 1))], [(2, g2), (6, g6), (42186, cc14)], 42379, (.sl 42384 0 1 1 false), 6, [(5, [(.int .i64 (.ofNat 2))])]⟩
theorem k29 : EntOk P1 E1 e29 := entOk_of (evFunT_good envOk (tab_good t29_ok) 100) glob_lt (by kernel_rfl)
noncomputable def t30 : T (List Ent) := tabAdd t29 e29
theorem t30_ok : TabOk P1 E1 t30 := tab_add t29_ok k29
def e30 : Ent := ⟨141, [(.agg [(.sl 42186 0 6 6 true), (.sl 42187 0 1 1 true), .nilSl, (.int .i64 (.ofNat 0)), (.sl 42188 0 1 1 true), (.sl 42189 0 1 1 true), (.int .i64 (.ofNat 9)), .nilSl]), (.int .i64 (.ofNat 2))], [(2, g2), (6, g6), (42186, cc14)], 42389, (.sl 42394 0 1 1 false), 6, [(5, [(.int .i64 (.ofNat 3))])]⟩
theorem k30 : EntOk P1 E1 e30 := entOk_of (evFunT_good envOk (tab_good t30_ok) 100) glob_lt (by kernel_rfl)
noncomputable def t31 : T (List Ent) := tabAdd t30 e30
theorem t31_ok : TabOk P1 E1 t31 := tab_add t30_ok k30
def e31 : Ent := ⟨141, [(.agg [(.sl 42186 0 6 6 true), (.sl 42187 0 1 1 true), .nilSl, (.int .i64 (.ofNat 0)), (.sl 42188 0 1 1 true), (.sl 42189 0 1 1 true), (.int .i64 (.ofNat 9)), .nilSl]), (.int .i64 (.ofNat 3))], [(2, g2), (5, g5), (6, g6), (42186, cc14)], 42399, (.sl 42404 0 1 1 false), 6, [(5, [(.int .i64 (.ofNat 4))])]⟩
theorem k31 : EntOk P1 E1 e31 := entOk_of (evFunT_good envOk (tab_good t31_ok) 100) glob_lt (by kernel_rfl)
noncomputable def t32 : T (List Ent) := tabAdd t31 e31
theorem t32_ok : TabOk P1 E1 t32 := tab_add t31_ok k31
def e32 : Ent := ⟨141, [(.agg [(.sl 42186 0 6 6 true), (.sl 42187 0 1 1 true), .nilSl, (.int .i64 (.ofNat 0)), (.sl 42188 0 1 1 true), (.sl 42189 0 1 1 true), (.int .i64 (.ofNat 9)), .nilSl]), (.int .i64 (.ofNat 4))], [(2, g2), (6, g6), (42186, cc14)], 42409, (.sl 42414 0 1 1 false), 6, [(5, [(.int .i64 (.ofNat 5))])]⟩
theorem k32 : EntOk P1 E1 e32 := entOk_of (evFunT_good envOk (tab_good t32_ok) 100) glob_lt (by kernel_rfl)
noncomputable def t33 : T (List Ent) := tabAdd t32 e32
theorem t33_ok : TabOk P1 E1 t33 := tab_add t32_ok k32
def e33 : Ent := ⟨141, [(.agg [(.sl 42186 0 6 6 true), (.sl 42187 0 1 1 true), .nilSl, (.int .i64 (.ofNat 0)), (.sl 42188 0 1 1 true), (.sl 42189 0 1 1 true), (.int .i64 (.ofNat 9)), .nilSl]), (.int .i64 (.ofNat 5))], [(2, g2), (6, g6), (42186, cc14)], 42419, .nilSl, 4, []⟩
theorem k33 : EntOk P1 E1 e33 := entOk_of (evFunT_good envOk (tab_good t33_ok) 100) glob_lt (by kernel_rfl)
noncomputable def t34 : T (List Ent) := tabAdd t33 e33
theorem t34_ok : TabOk P1 E1 t34 := tab_add t33_ok k33
end Go.Rf
