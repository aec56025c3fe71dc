/-
  What the row lists, as the evaluator's blocks; the table of powers. No statement of the program is claimed here.
-/
import Derived.Test.YtbkjelhkjncfkaaGreatDoorRfGlob
import Derived.Test.YtbkjelhkjncfkaaGreatDoorCards
import Derived.LaidSub
import Derived.Lib.LaidTab
import Derived.Lib.AppendIntMem
namespace Go.Proofs.YtbkjelhkjncfkaaGreatDoor
open Go.Rf
set_option maxRecDepth 100000

/-- The functions of 'image.checks'. -/
def tab : List (List UInt8 × FuncId) :=
  [([40, 108, 97, 109, 112, 108, 105, 103, 104, 116, 101, 114, 47, 105, 109, 97, 103, 101, 46, 108, 111, 111, 107, 41, 46, 115, 105, 122, 101, 115], 353),
   ([40, 108, 97, 109, 112, 108, 105, 103, 104, 116, 101, 114, 47, 105, 109, 97, 103, 101, 46, 108, 111, 111, 107, 41, 46, 102, 117, 110, 99, 115], 354),
   ([40, 108, 97, 109, 112, 108, 105, 103, 104, 116, 101, 114, 47, 105, 109, 97, 103, 101, 46, 108, 111, 111, 107, 41, 46, 118, 101, 99, 115], 355),
   ([40, 108, 97, 109, 112, 108, 105, 103, 104, 116, 101, 114, 47, 105, 109, 97, 103, 101, 46, 108, 111, 111, 107, 41, 46, 99, 111, 100, 101, 115], 356),
   ([40, 108, 97, 109, 112, 108, 105, 103, 104, 116, 101, 114, 47, 105, 109, 97, 103, 101, 46, 108, 111, 111, 107, 41, 46, 97, 116, 111, 109, 115], 357),
   ([40, 108, 97, 109, 112, 108, 105, 103, 104, 116, 101, 114, 47, 105, 109, 97, 103, 101, 46, 108, 111, 111, 107, 41, 46, 99, 105, 114, 99, 108, 101, 115], 358)]
theorem tab_ok : ∀ x ∈ tab, x.1 ≠ [] ∧ ((List.range Tryz.prog.funcs.size).filter fun f => (Tryz.prog.funcs[f]?).any (·.name.toUTF8.data.toList == x.1)) = [x.2] := by
  intro x hx
  have h : (tab.all fun x => !x.1.isEmpty && (((List.range Tryz.prog.funcs.size).filter fun f => (Tryz.prog.funcs[f]?).any (·.name.toUTF8.data.toList == x.1)) == [x.2])) = true := by kernel_rfl
  have := List.all_eq_true.1 h x hx
  simp only [Bool.and_eq_true, beq_iff_eq, Bool.not_eq_true', List.isEmpty_eq_false_iff] at this
  exact this

def lst5 : List (String × DataW Unit) := [("lamplighter/word.signs", Rows.laid_lamplighter_word_signs), ("math/bits.deBruijn32tab", Rows.laid_math_bits_deBruijn32tab), ("math/bits.deBruijn64tab", Rows.laid_math_bits_deBruijn64tab), ("internal/strconv.uint64pow10", Rows.laid_internal_strconv_uint64pow10), ("lamplighter/code.kinds", Rows.laid_lamplighter_code_kinds)]
def lst : List (String × DataW Unit) := [("lamplighter/word.signs", Rows.laid_lamplighter_word_signs), ("math/bits.deBruijn32tab", Rows.laid_math_bits_deBruijn32tab), ("math/bits.deBruijn64tab", Rows.laid_math_bits_deBruijn64tab), ("internal/strconv.uint64pow10", Rows.laid_internal_strconv_uint64pow10), ("lamplighter/code.kinds", Rows.laid_lamplighter_code_kinds), ("lamplighter/image.checks", Rows.laid_lamplighter_image_checks)]
theorem lst_filter : (lst.filter fun x => x.2.handleName?.isNone) = lst5 := by rfl

/-- THE MEMORY, where what is listed is laid. -/
theorem laid_hr {W : World} (h : laidMetH Tryz.prog lst W) :
    (∃ rl : List (Nat × (Nat × Nat)), HR (fun b => rl[b]?) (layF gl 0 .e) gl.length W ∧ ∀ g b, E1.glob g = some b → ∃ n, rl[b]? = some (g, (0, n))) ∧ Lib.TabIs Tryz.prog W "internal/strconv.uint64pow10" .u64 Lib.pow10Tab := by
  have hf : funcsAt Tryz.prog W "lamplighter/image.checks" _ := h.funcs (.tail _ (.tail _ (.tail _ (.tail _ (.tail _ (.head _))))))
  have h3 := (laidMetH_iff.1 h).1
  rw [lst_filter] at h3
  obtain ⟨ps, hv, _⟩ := h3
  have v5 : VarIs Tryz.prog W "lamplighter/word.signs" Rows.laid_lamplighter_word_signs := varIs_of hv _ _ (.head _)
  have v3 : VarIs Tryz.prog W "math/bits.deBruijn32tab" Rows.laid_math_bits_deBruijn32tab := varIs_of hv _ _ (.tail _ (.head _))
  have v4 : VarIs Tryz.prog W "math/bits.deBruijn64tab" Rows.laid_math_bits_deBruijn64tab := varIs_of hv _ _ (.tail _ (.tail _ (.head _)))
  have v0 : VarIs Tryz.prog W "internal/strconv.uint64pow10" Rows.laid_internal_strconv_uint64pow10 := varIs_of hv _ _ (.tail _ (.tail _ (.tail _ (.head _))))
  have v2 : VarIs Tryz.prog W "lamplighter/code.kinds" (.slice _ []) := varIs_of hv _ _ (.tail _ (.tail _ (.tail _ (.tail _ (.head _)))))
  have b5 := fun ρ => var_BR (g := 5) (t := 388) v5 (by kernel_rfl) (by kernel_rfl) (k := 4) (by kernel_rfl) (vs := g5) (by kernel_rfl) ρ
  have b3 := fun ρ => var_BR (g := 3) (t := 310) v3 (by kernel_rfl) (by kernel_rfl) (k := 4) (by kernel_rfl) (vs := g3) (by kernel_rfl) ρ
  have b4 := fun ρ => var_BR (g := 4) (t := 311) v4 (by kernel_rfl) (by kernel_rfl) (k := 4) (by kernel_rfl) (vs := g4) (by kernel_rfl) ρ
  have b0 := fun ρ => var_BR (g := 0) (t := 203) v0 (by kernel_rfl) (by kernel_rfl) (k := 4) (by kernel_rfl) (vs := g0) (by kernel_rfl) ρ
  have b1 := fun ρ => funcs_BR (g := 1) (t := 206) hf (by kernel_rfl) (by kernel_rfl) (k := 4) (by kernel_rfl) tab_ok (vs := g1) (by kernel_rfl) ρ
  obtain ⟨b, n, k1, k2⟩ := slice_BR (g := 2) (t := 264) (e := 263) v2 (by kernel_rfl) (by kernel_rfl) (by kernel_rfl) (Nat.lt_of_lt_of_eq (by decide : 0 < 6) (by kernel_rfl)) (by simp) (k := 4) (by kernel_rfl) (vs := g6) (by kernel_rfl)
  refine ⟨⟨[(0, (0, g0.length)), (1, (0, g1.length)), (2, (0, 1)), (3, (0, g3.length)), (4, (0, g4.length)), (5, (0, g5.length)), (b, n)], hr_lay rfl fun i cs hi => ?_, fun g b hg => ?_⟩, ?_⟩
  · match i, hi with
    | 0, hi => cases hi; exact ⟨_, rfl, b0 _⟩
    | 1, hi => cases hi; exact ⟨_, rfl, b1 _⟩
    | 2, hi => cases hi; exact ⟨_, rfl, k2 _ 6 rfl⟩
    | 3, hi => cases hi; exact ⟨_, rfl, b3 _⟩
    | 4, hi => cases hi; exact ⟨_, rfl, b4 _⟩
    | 5, hi => cases hi; exact ⟨_, rfl, b5 _⟩
    | 6, hi => cases hi; exact ⟨_, rfl, k1 _⟩
    | i + 7, hi => simp [gl] at hi
  · have hg' : (bif Nat.blt g 6 then some g else none) = some b := hg
    match g, hg' with
    | 0, hg' => cases hg'; exact ⟨_, rfl⟩
    | 1, hg' => cases hg'; exact ⟨_, rfl⟩
    | 2, hg' => cases hg'; exact ⟨_, rfl⟩
    | 3, hg' => cases hg'; exact ⟨_, rfl⟩
    | 4, hg' => cases hg'; exact ⟨_, rfl⟩
    | 5, hg' => cases hg'; exact ⟨_, rfl⟩
    | g + 6, hg' =>
      have hb : Nat.blt (g + 6) 6 = false := by rw [← Bool.not_eq_true, Nat.blt_eq]; omega
      rw [hb] at hg'
      cases hg'
  · obtain ⟨g', t', cs, fuel, p, h1, h2, h3, h4⟩ := v0
    obtain rfl := Option.some.inj ((show (Tryz.prog.globals[0]?).map (·.type) = some 203 by kernel_rfl).symm.trans (by rw [Option.some.inj ((show Tryz.prog.globalNamed "internal/strconv.uint64pow10" = some 0 by kernel_rfl).symm.trans h1)]; exact h2))
    have e0 : (Rows.laid_internal_strconv_uint64pow10 : DataW Unit) = Lib.tabData .u64 Lib.pow10Tab := by kernel_rfl
    rw [e0] at h4
    have hc := Lib.cells_of_tab (e := 95) (n := 20) (k := .u64) (zs := Lib.pow10Tab) Tryz.underlying203 (by kernel_rfl) (by kernel_rfl) (by kernel_rfl) h4
    unfold Lib.TabIs
    rw [h3, ← hc]
end Go.Proofs.YtbkjelhkjncfkaaGreatDoor
