/-
  What the rows list, as the evaluator's blocks. No statement of the program is claimed here.
-/
import Derived.Test.YtkhadodoabjdoaaGreatDoorRfGlob
import Derived.Test.YtkhadodoabjdoaaGreatDoorCards
import Derived.LaidSub
namespace Go.Proofs.YtkhadodoabjdoaaGreatDoor
open Go.Rf
set_option maxRecDepth 100000

/-- The functions of 'image.checks'. -/
def tab : List (List UInt8 × FuncId) :=
  [([40, 108, 97, 109, 112, 108, 105, 103, 104, 116, 101, 114, 47, 105, 109, 97, 103, 101, 46, 108, 111, 111, 107, 41, 46, 115, 105, 122, 101, 115], 350),
   ([40, 108, 97, 109, 112, 108, 105, 103, 104, 116, 101, 114, 47, 105, 109, 97, 103, 101, 46, 108, 111, 111, 107, 41, 46, 102, 117, 110, 99, 115], 351),
   ([40, 108, 97, 109, 112, 108, 105, 103, 104, 116, 101, 114, 47, 105, 109, 97, 103, 101, 46, 108, 111, 111, 107, 41, 46, 118, 101, 99, 115], 352),
   ([40, 108, 97, 109, 112, 108, 105, 103, 104, 116, 101, 114, 47, 105, 109, 97, 103, 101, 46, 108, 111, 111, 107, 41, 46, 99, 111, 100, 101, 115], 353),
   ([40, 108, 97, 109, 112, 108, 105, 103, 104, 116, 101, 114, 47, 105, 109, 97, 103, 101, 46, 108, 111, 111, 107, 41, 46, 97, 116, 111, 109, 115], 354),
   ([40, 108, 97, 109, 112, 108, 105, 103, 104, 116, 101, 114, 47, 105, 109, 97, 103, 101, 46, 108, 111, 111, 107, 41, 46, 99, 105, 114, 99, 108, 101, 115], 355)]
theorem tab_ok : ∀ x ∈ tab, x.1 ≠ [] ∧ ((List.range Tryz.prog.funcs.size).filter fun f => (Tryz.prog.funcs[f]?).any (·.name.toUTF8.data.toList == x.1)) = [x.2] := by
  intro x hx
  have h : (tab.all fun x => !x.1.isEmpty && (((List.range Tryz.prog.funcs.size).filter fun f => (Tryz.prog.funcs[f]?).any (·.name.toUTF8.data.toList == x.1)) == [x.2])) = true := by kernel_rfl
  have := List.all_eq_true.1 h x hx
  simp only [Bool.and_eq_true, beq_iff_eq, Bool.not_eq_true', List.isEmpty_eq_false_iff] at this
  exact this

def lst : List (String × DataW Unit) := [("lamplighter/word.signs", Rows.laid_lamplighter_word_signs), ("math/bits.deBruijn32tab", Rows.laid_math_bits_deBruijn32tab), ("lamplighter/code.kinds", Rows.laid_lamplighter_code_kinds), ("lamplighter/image.checks", Rows.laid_lamplighter_image_checks)]
def lst3 : List (String × DataW Unit) := [("lamplighter/word.signs", Rows.laid_lamplighter_word_signs), ("math/bits.deBruijn32tab", Rows.laid_math_bits_deBruijn32tab), ("lamplighter/code.kinds", Rows.laid_lamplighter_code_kinds)]
theorem lst_filter : (lst.filter fun x => x.2.handleName?.isNone) = lst3 := by rfl

/-- THE MEMORY, where what is listed is laid. -/
theorem laid_hr {W : World} (h : laidMetH Tryz.prog lst W) : ∃ rl : List (Nat × (Nat × Nat)), HR (fun b => rl[b]?) (layF gl 0 .e) gl.length W ∧ ∀ g b, (E0 100000).glob g = some b → ∃ n, rl[b]? = some (g, (0, n)) := by
  have hf : funcsAt Tryz.prog W "lamplighter/image.checks" _ := h.funcs (.tail _ (.tail _ (.tail _ (.head _))))
  have h3 := (laidMetH_iff.1 h).1
  rw [lst_filter] at h3
  obtain ⟨ps, hv, _⟩ := h3
  have v2 : VarIs Tryz.prog W "lamplighter/word.signs" Rows.laid_lamplighter_word_signs := varIs_of hv _ _ (.head _)
  have v3 : VarIs Tryz.prog W "math/bits.deBruijn32tab" Rows.laid_math_bits_deBruijn32tab := varIs_of hv _ _ (.tail _ (.head _))
  have v0 : VarIs Tryz.prog W "lamplighter/code.kinds" (.slice _ []) := varIs_of hv _ _ (.tail _ (.tail _ (.head _)))
  have b2 := fun ρ => var_BR (g := 2) (t := 291) v2 (by kernel_rfl) (by kernel_rfl) (k := 4) (by kernel_rfl) (vs := g2) (by kernel_rfl) ρ
  have b3 := fun ρ => var_BR (g := 3) (t := 311) v3 (by kernel_rfl) (by kernel_rfl) (k := 4) (by kernel_rfl) (vs := g3) (by kernel_rfl) ρ
  have b1 := fun ρ => funcs_BR (g := 1) (t := 212) hf (by kernel_rfl) (by kernel_rfl) (k := 4) (by kernel_rfl) tab_ok (vs := g1) (by kernel_rfl) ρ
  obtain ⟨b, n, k1, k2⟩ := slice_BR (g := 0) (t := 174) (e := 173) v0 (by kernel_rfl) (by kernel_rfl) (by kernel_rfl) (Nat.lt_of_lt_of_eq (by decide : 0 < 6) (by kernel_rfl)) (by simp) (k := 4) (by kernel_rfl) (vs := g4) (by kernel_rfl)
  refine ⟨[(0, (0, 1)), (1, (0, g1.length)), (2, (0, g2.length)), (3, (0, g3.length)), (b, n)], hr_lay rfl fun i cs hi => ?_, fun g b hg => ?_⟩
  · match i, hi with
    | 0, hi => cases hi; exact ⟨_, rfl, k2 _ 4 rfl⟩
    | 1, hi => cases hi; exact ⟨_, rfl, b1 _⟩
    | 2, hi => cases hi; exact ⟨_, rfl, b2 _⟩
    | 3, hi => cases hi; exact ⟨_, rfl, b3 _⟩
    | 4, hi => cases hi; exact ⟨_, rfl, k1 _⟩
    | i + 5, hi => simp [gl] at hi
  · have hg' : (bif Nat.blt g 4 then some g else none) = some b := hg
    match g, hg' with
    | 0, hg' => cases hg'; exact ⟨_, rfl⟩
    | 1, hg' => cases hg'; exact ⟨_, rfl⟩
    | 2, hg' => cases hg'; exact ⟨_, rfl⟩
    | 3, hg' => cases hg'; exact ⟨_, rfl⟩
    | g + 4, hg' =>
      have hb : Nat.blt (g + 4) 4 = false := by rw [← Bool.not_eq_true, Nat.blt_eq]; omega
      rw [hb] at hg'
      cases hg'
end Go.Proofs.YtkhadodoabjdoaaGreatDoor
