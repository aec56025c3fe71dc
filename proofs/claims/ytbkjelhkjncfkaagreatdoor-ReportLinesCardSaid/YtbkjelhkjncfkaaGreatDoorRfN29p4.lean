/-
  Calls that were reckoned once, each checked by the kernel. Printed by wip/tools/mkent.py. No statement of the program is claimed here.
-/
import Derived.Test.YtbkjelhkjncfkaaGreatDoorRfN29p3
namespace Go.Rf
set_option maxRecDepth 100000
def e34 : Ent := ⟨139, [(.agg [(.sl 42186 0 6 6 true), (.sl 42187 0 1 1 true), .nilSl, (.int .i64 (.ofNat 0)), (.sl 42188 0 1 1 true), (.sl 42189 0 1 1 true), (.int .i64 (.ofNat 9)), .nilSl]), (.int .i64 (.ofNat 0))], [(1, g1), (2, g2), (5, g5), (6, g6), (42186, cc14), (42187, cc1)], 42312, (.tup [(.sl 42437 0 6 1 false), .nilSl]), 126, [(125, [(.int .i64 (.ofNat 5)), (.int .i64 (.ofNat 4)), (.int .i64 (.ofNat 3)), (.int .i64 (.ofNat 2)), (.int .i64 (.ofNat 1)), (.int .i64 (.ofNat 0))])]⟩
theorem k34 : EntOk P1 E1 e34 := entOk_of (evFunT_good envOk (tab_good t34_ok) 100) glob_lt (by kernel_rfl)
noncomputable def t35 : T (List Ent) := tabAdd t34 e34
theorem t35_ok : TabOk P1 E1 t35 := tab_add t34_ok k34
def e35 : Ent := ⟨72, [(.agg [(.sl 42186 0 6 6 true), (.sl 42187 0 1 1 true), .nilSl, (.int .i64 (.ofNat 0)), (.sl 42188 0 1 1 true), (.sl 42189 0 1 1 true), (.int .i64 (.ofNat 9)), .nilSl]), (.int .i64 (.ofNat 0))], [(1, g1), (2, g2), (5, g5), (6, g6), (42186, cc14), (42187, cc1)], 42443, (.tup [(.int .i64 (.ofNat 0)), (.bool true)]), 51, []⟩
theorem k35 : EntOk P1 E1 e35 := entOk_of (evFunT_good envOk (tab_good t35_ok) 100) glob_lt (by kernel_rfl)
noncomputable def t36 : T (List Ent) := tabAdd t35 e35
theorem t36_ok : TabOk P1 E1 t36 := tab_add t35_ok k35
def e36 : Ent := ⟨72, [(.agg [(.sl 42186 0 6 6 true), (.sl 42187 0 1 1 true), .nilSl, (.int .i64 (.ofNat 0)), (.sl 42188 0 1 1 true), (.sl 42189 0 1 1 true), (.int .i64 (.ofNat 9)), .nilSl]), (.int .i64 (.ofNat 1))], [(1, g1), (2, g2), (5, g5), (6, g6), (42186, cc14), (42187, cc1)], 42505, (.tup [(.int .i64 (.ofNat 0)), (.bool true)]), 51, []⟩
theorem k36 : EntOk P1 E1 e36 := entOk_of (evFunT_good envOk (tab_good t36_ok) 100) glob_lt (by kernel_rfl)
noncomputable def t37 : T (List Ent) := tabAdd t36 e36
theorem t37_ok : TabOk P1 E1 t37 := tab_add t36_ok k36
def e37 : Ent := ⟨72, [(.agg [(.sl 42186 0 6 6 true), (.sl 42187 0 1 1 true), .nilSl, (.int .i64 (.ofNat 0)), (.sl 42188 0 1 1 true), (.sl 42189 0 1 1 true), (.int .i64 (.ofNat 9)), .nilSl]), (.int .i64 (.ofNat 2))], [(1, g1), (2, g2), (5, g5), (6, g6), (42186, cc14), (42187, cc1)], 42567, (.tup [(.int .i64 (.ofNat 0)), (.bool true)]), 51, []⟩
theorem k37 : EntOk P1 E1 e37 := entOk_of (evFunT_good envOk (tab_good t37_ok) 100) glob_lt (by kernel_rfl)
noncomputable def t38 : T (List Ent) := tabAdd t37 e37
theorem t38_ok : TabOk P1 E1 t38 := tab_add t37_ok k37
def e38 : Ent := ⟨72, [(.agg [(.sl 42186 0 6 6 true), (.sl 42187 0 1 1 true), .nilSl, (.int .i64 (.ofNat 0)), (.sl 42188 0 1 1 true), (.sl 42189 0 1 1 true), (.int .i64 (.ofNat 9)), .nilSl]), (.int .i64 (.ofNat 3))], [(1, g1), (2, g2), (5, g5), (6, g6), (42186, cc14), (42187, cc1)], 42629, (.tup [(.int .i64 (.ofNat 0)), (.bool true)]), 51, []⟩
theorem k38 : EntOk P1 E1 e38 := entOk_of (evFunT_good envOk (tab_good t38_ok) 100) glob_lt (by kernel_rfl)
noncomputable def t39 : T (List Ent) := tabAdd t38 e38
theorem t39_ok : TabOk P1 E1 t39 := tab_add t38_ok k38
def e39 : Ent := ⟨72, [(.agg [(.sl 42186 0 6 6 true), (.sl 42187 0 1 1 true), .nilSl, (.int .i64 (.ofNat 0)), (.sl 42188 0 1 1 true), (.sl 42189 0 1 1 true), (.int .i64 (.ofNat 9)), .nilSl]), (.int .i64 (.ofNat 4))], [(1, g1), (2, g2), (5, g5), (6, g6), (42186, cc14), (42187, cc1)], 42691, (.tup [(.int .i64 (.ofNat 0)), (.bool true)]), 51, []⟩
theorem k39 : EntOk P1 E1 e39 := entOk_of (evFunT_good envOk (tab_good t39_ok) 100) glob_lt (by kernel_rfl)
noncomputable def t40 : T (List Ent) := tabAdd t39 e39
theorem t40_ok : TabOk P1 E1 t40 := tab_add t39_ok k39
def e40 : Ent := ⟨72, [(.agg [(.sl 42186 0 6 6 true), (.sl 42187 0 1 1 true), .nilSl, (.int .i64 (.ofNat 0)), (.sl 42188 0 1 1 true), (.sl 42189 0 1 1 true), (.int .i64 (.ofNat 9)), .nilSl]), (.int .i64 (.ofNat 5))], [(1, g1), (2, g2), (5, g5), (6, g6), (42186, cc14), (42187, cc1)], 42753, (.tup [(.int .i64 (.ofNat 0)), (.bool true)]), 51, []⟩
theorem k40 : EntOk P1 E1 e40 := entOk_of (evFunT_good envOk (tab_good t40_ok) 100) glob_lt (by kernel_rfl)
noncomputable def t41 : T (List Ent) := tabAdd t40 e40
theorem t41_ok : TabOk P1 E1 t41 := tab_add t40_ok k40
def e41 : Ent := ⟨62, [(.agg [(.sl 42186 0 6 6 true), (.sl 42187 0 1 1 true), .nilSl, (.int .i64 (.ofNat 0)), (.sl 42188 0 1 1 true), (.sl 42189 0 1 1 true), (.int .i64 (.ofNat 9)), .nilSl])], [(1, g1), (2, g2), (5, g5), (6, g6), (42186, cc14), (42187, cc1)], 42249, (.tup [(.agg [(.sl 42252 0 6 6 true), (.sl 42253 0 1 1 true)]), (.int .i64 (.negSucc 0))]), 611, [(3, [(.int .i64 (.ofNat 0)), (.int .i64 (.ofNat 0)), (.int .i64 (.ofNat 1)), (.int .i64 (.ofNat 2)), (.int .i64 (.ofNat 1)), (.int .i64 (.ofNat 0))]), (4, [(.int .i64 (.ofNat 2))])]⟩
theorem k41 : EntOk P1 E1 e41 := entOk_of (evFunT_good envOk (tab_good t41_ok) 100) glob_lt (by kernel_rfl)
noncomputable def t42 : T (List Ent) := tabAdd t41 e41
theorem t42_ok : TabOk P1 E1 t42 := tab_add t41_ok k41
def e42 : Ent := ⟨192, [(.agg [(.int .u32 (.ofNat 0)), (.int .u32 (.ofNat 0)), (.int .u32 (.ofNat 4294967295)), (.int .u32 (.ofNat 0))])], [], 44507, (.tup [(.agg [(.int .u32 (.ofNat 0)), (.int .u32 (.ofNat 0)), (.int .u32 (.ofNat 4294967295)), (.int .u32 (.ofNat 0))]), (.bool true)]), 20, []⟩
theorem k42 : EntOk P1 E1 e42 := entOk_of (evFunT_good envOk (tab_good t42_ok) 100) glob_lt (by kernel_rfl)
noncomputable def t43 : T (List Ent) := tabAdd t42 e42
theorem t43_ok : TabOk P1 E1 t43 := tab_add t42_ok k42
def e43 : Ent := ⟨146, [(.agg [(.int .u32 (.ofNat 0)), (.int .u32 (.ofNat 0)), (.int .u32 (.ofNat 4294967295)), (.int .u32 (.ofNat 0))])], [], 44506, (.int .i64 (.ofNat 0)), 22, []⟩
theorem k43 : EntOk P1 E1 e43 := entOk_of (evFunT_good envOk (tab_good t43_ok) 100) glob_lt (by kernel_rfl)
noncomputable def t44 : T (List Ent) := tabAdd t43 e43
theorem t44_ok : TabOk P1 E1 t44 := tab_add t43_ok k43
def e44 : Ent := ⟨192, [(.agg [(.int .u32 (.ofNat 0)), (.int .u32 (.ofNat 4294967295)), (.int .u32 (.ofNat 0)), (.int .u32 (.ofNat 0))])], [], 45890, (.tup [(.agg [(.int .u32 (.ofNat 0)), (.int .u32 (.ofNat 4294967295)), (.int .u32 (.ofNat 0)), (.int .u32 (.ofNat 0))]), (.bool true)]), 20, []⟩
theorem k44 : EntOk P1 E1 e44 := entOk_of (evFunT_good envOk (tab_good t44_ok) 100) glob_lt (by kernel_rfl)
noncomputable def t45 : T (List Ent) := tabAdd t44 e44
theorem t45_ok : TabOk P1 E1 t45 := tab_add t44_ok k44
def e45 : Ent := ⟨146, [(.agg [(.int .u32 (.ofNat 0)), (.int .u32 (.ofNat 4294967295)), (.int .u32 (.ofNat 0)), (.int .u32 (.ofNat 0))])], [], 45889, (.int .i64 (.ofNat 0)), 22, []⟩
theorem k45 : EntOk P1 E1 e45 := entOk_of (evFunT_good envOk (tab_good t45_ok) 100) glob_lt (by kernel_rfl)
noncomputable def t46 : T (List Ent) := tabAdd t45 e45
theorem t46_ok : TabOk P1 E1 t46 := tab_add t45_ok k45
def e46 : Ent := ⟨192, [(.agg [(.int .u32 (.ofNat 0)), (.int .u32 (.ofNat 1)), (.int .u32 (.ofNat 0)), (.int .u32 (.ofNat 0))])], [], 46180, (.tup [(.agg [(.int .u32 (.ofNat 0)), (.int .u32 (.ofNat 1)), (.int .u32 (.ofNat 4294967294)), (.int .u32 (.ofNat 0))]), (.bool true)]), 31, []⟩
theorem k46 : EntOk P1 E1 e46 := entOk_of (evFunT_good envOk (tab_good t46_ok) 100) glob_lt (by kernel_rfl)
noncomputable def t47 : T (List Ent) := tabAdd t46 e46
theorem t47_ok : TabOk P1 E1 t47 := tab_add t46_ok k46
def e47 : Ent := ⟨192, [(.agg [(.int .u32 (.ofNat 0)), (.int .u32 (.ofNat 1)), (.int .u32 (.ofNat 4294967294)), (.int .u32 (.ofNat 0))])], [], 46310, (.tup [(.agg [(.int .u32 (.ofNat 0)), (.int .u32 (.ofNat 1)), (.int .u32 (.ofNat 4294967294)), (.int .u32 (.ofNat 0))]), (.bool true)]), 20, []⟩
theorem k47 : EntOk P1 E1 e47 := entOk_of (evFunT_good envOk (tab_good t47_ok) 100) glob_lt (by kernel_rfl)
noncomputable def t48 : T (List Ent) := tabAdd t47 e47
theorem t48_ok : TabOk P1 E1 t48 := tab_add t47_ok k47
def e48 : Ent := ⟨146, [(.agg [(.int .u32 (.ofNat 0)), (.int .u32 (.ofNat 1)), (.int .u32 (.ofNat 4294967294)), (.int .u32 (.ofNat 0))])], [], 46309, (.int .i64 (.ofNat 0)), 22, []⟩
theorem k48 : EntOk P1 E1 e48 := entOk_of (evFunT_good envOk (tab_good t48_ok) 100) glob_lt (by kernel_rfl)
noncomputable def t49 : T (List Ent) := tabAdd t48 e48
theorem t49_ok : TabOk P1 E1 t49 := tab_add t48_ok k48
def cc15 : List V := [(.bool true), (.bool false)]
def cc16 : List V := [(.sl 43598 0 6 6 true), (.sl 43599 0 1 1 true)]
def cc17 : List V := [(.bool true), .nilSl, .nilSl, (.sl 43658 0 1 4 false), (.int .u32 (.ofNat 0)), (.int .u32 (.ofNat 0)), (.int .i64 (.ofNat 0)), (.int .i64 (.ofNat 0)), (.int .u64 (.ofNat 0)), (.int .u64 (.ofNat 0)), (.bool false), .nilSl, .nilSl, .nilSl, (.int .u32 (.ofNat 0)), (.int .u32 (.ofNat 0)), (.int .i64 (.ofNat 0)), (.int .i64 (.ofNat 0)), (.int .u64 (.ofNat 0)), (.int .u64 (.ofNat 0)), (.bool false), .nilSl, .nilSl, .nilSl, (.int .u32 (.ofNat 0)), (.int .u32 (.ofNat 0)), (.int .i64 (.ofNat 0)), (.int .i64 (.ofNat 0)), (.int .u64 (.ofNat 0)), (.int .u64 (.ofNat 0)), (.bool false), .nilSl, .nilSl, .nilSl, (.int .u32 (.ofNat 0)), (.int .u32 (.ofNat 0)), (.int .i64 (.ofNat 0)), (.int .i64 (.ofNat 0)), (.int .u64 (.ofNat 0)), (.int .u64 (.ofNat 0)), (.bool false), .nilSl, .nilSl, .nilSl, (.int .u32 (.ofNat 0)), (.int .u32 (.ofNat 0)), (.int .i64 (.ofNat 0)), (.int .i64 (.ofNat 0)), (.int .u64 (.ofNat 0)), (.int .u64 (.ofNat 0)), (.bool false), .nilSl, .nilSl, .nilSl, (.int .u32 (.ofNat 0)), (.int .u32 (.ofNat 0)), (.int .i64 (.ofNat 0)), (.int .i64 (.ofNat 0)), (.int .u64 (.ofNat 0)), (.int .u64 (.ofNat 0))]
def cc18 : List V := [(.int .u32 (.ofNat 0)), (.int .u32 (.ofNat 0)), (.int .u32 (.ofNat 4294967295)), (.int .u32 (.ofNat 0))]
def e49 : Ent := ⟨38, [(.agg [(.sl 42186 0 6 6 true), (.sl 42187 0 1 1 true), .nilSl, (.int .i64 (.ofNat 0)), (.sl 42188 0 1 1 true), (.sl 42189 0 1 1 true), (.int .i64 (.ofNat 9)), .nilSl]), (.agg [(.sl 42863 0 1 1 true), (.sl 42917 0 0 0 true), (.sl 42918 0 0 0 true), (.sl 42919 0 0 0 true), (.sl 42920 0 0 0 true), (.int .i64 (.ofNat 0))]), (.bool false)], [(1, g1), (2, g2), (5, g5), (6, g6), (42186, cc14), (42187, cc1), (42189, cc15), (42863, cc16), (42918, cc3), (43598, cc17), (43599, cc5), (43658, cc18)], 43666, (.tup [(.agg [(.sl 43719 0 1 2 false), .nilSl, (.sl 44807 0 0 0 true), .nilSl, .nilSl, (.int .i64 (.ofNat 1))]), (.bool true)]), 3124, [(53, [(.sl 44859 0 6 10 false), (.sl 44865 0 1 14 false)]), (1141, []), (1151, [(.int .u32 (.ofNat 0)), (.int .u32 (.ofNat 0)), (.int .u32 (.ofNat 4294967295)), (.int .u32 (.ofNat 0))]), (1193, [(.bool true), .nilSl, .nilSl, (.sl 44817 0 1 4 false), (.int .u32 (.ofNat 0)), (.int .u32 (.ofNat 0)), (.int .i64 (.ofNat 0)), (.int .i64 (.ofNat 0)), (.int .u64 (.ofNat 0)), (.int .u64 (.ofNat 0)), (.bool true), .nilSl, .nilSl, (.sl 45285 0 1 4 false), (.int .u32 (.ofNat 0)), (.int .u32 (.ofNat 0)), (.int .i64 (.ofNat 0)), (.int .i64 (.ofNat 0)), (.int .u64 (.ofNat 0)), (.int .u64 (.ofNat 0)), (.bool true), (.sl 45521 0 1 4 false), .nilSl, (.sl 45523 0 1 4 false), (.int .u32 (.ofNat 0)), (.int .u32 (.ofNat 0)), (.int .i64 (.ofNat 0)), (.int .i64 (.ofNat 0)), (.int .u64 (.ofNat 0)), (.int .u64 (.ofNat 0)), (.bool true), (.sl 45788 0 2 4 false), .nilSl, (.sl 45790 0 1 4 false), (.int .u32 (.ofNat 0)), (.int .u32 (.ofNat 0)), (.int .i64 (.ofNat 0)), (.int .i64 (.ofNat 0)), (.int .u64 (.ofNat 0)), (.int .u64 (.ofNat 0)), (.bool true), (.sl 46231 0 1 4 false), .nilSl, (.sl 46233 0 1 4 false), (.int .u32 (.ofNat 0)), (.int .u32 (.ofNat 0)), (.int .i64 (.ofNat 0)), (.int .i64 (.ofNat 0)), (.int .u64 (.ofNat 0)), (.int .u64 (.ofNat 0)), (.bool true), (.sl 46571 0 0 0 true), .nilSl, (.sl 46573 0 1 4 false), (.int .u32 (.ofNat 0)), (.int .u32 (.ofNat 0)), (.int .i64 (.ofNat 0)), (.int .i64 (.ofNat 0)), (.int .u64 (.ofNat 0)), (.int .u64 (.ofNat 0))]), (1199, [(.bool false), (.int .u32 (.ofNat 0)), (.int .u32 (.ofNat 0)), (.int .u32 (.ofNat 0)), (.int .u32 (.ofNat 0)), .nilSl, .nilSl, .nilSl, (.int .u32 (.ofNat 0)), (.int .u32 (.ofNat 0)), (.int .i64 (.ofNat 0)), (.int .i64 (.ofNat 0)), (.int .u64 (.ofNat 0)), (.int .u64 (.ofNat 0))]), (1619, [(.int .u32 (.ofNat 0)), (.int .u32 (.ofNat 0)), (.int .u32 (.ofNat 4294967295)), (.int .u32 (.ofNat 0))]), (1855, [(.int .u32 (.ofNat 1)), (.int .u32 (.ofNat 1)), (.int .u32 (.ofNat 4294967295)), (.int .u32 (.ofNat 1))]), (1857, [(.int .u32 (.ofNat 0)), (.int .u32 (.ofNat 0)), (.int .u32 (.ofNat 4294967295)), (.int .u32 (.ofNat 0))]), (2122, [(.int .u32 (.ofNat 1)), (.int .u32 (.ofNat 1)), (.int .u32 (.ofNat 4294967295)), (.int .u32 (.ofNat 1)), (.int .u32 (.ofNat 0)), (.int .u32 (.ofNat 4294967295)), (.int .u32 (.ofNat 0)), (.int .u32 (.ofNat 0))]), (2124, [(.int .u32 (.ofNat 0)), (.int .u32 (.ofNat 0)), (.int .u32 (.ofNat 4294967295)), (.int .u32 (.ofNat 0))]), (2565, [(.int .u32 (.ofNat 0)), (.int .u32 (.ofNat 1)), (.int .u32 (.ofNat 4294967294)), (.int .u32 (.ofNat 0))]), (2567, [(.int .u32 (.ofNat 0)), (.int .u32 (.ofNat 0)), (.int .u32 (.ofNat 4294967295)), (.int .u32 (.ofNat 0))]), (2905, []), (2907, [(.int .u32 (.ofNat 0)), (.int .u32 (.ofNat 1)), (.int .u32 (.ofNat 4294967294)), (.int .u32 (.ofNat 0))])]⟩
theorem k49 : EntOk P1 E1 e49 := entOk_of (evFunT_good envOk (tab_good t49_ok) 100) glob_lt (by kernel_rfl)
noncomputable def t50 : T (List Ent) := tabAdd t49 e49
theorem t50_ok : TabOk P1 E1 t50 := tab_add t49_ok k49
end Go.Rf
