/-
  The law's arguments, opened to rows of whole numbers. No statement of the program is claimed here.
-/
import Derived.Test.YtbkjelhkjncfkaaGreatDoorRfS3
import Derived.Deep.Slices
import Derived.Deep.Fields
import Derived.Lib.SmallJoins
import Derived.OpenShut
namespace Go.Proofs.YtbkjelhkjncfkaaGreatDoor
open Go.RowKit Go.ChangeShapes
set_option maxRecDepth 100000
section
variable {H : Type} {enc : TypeId × Value → H} {P : Program} {w : World} {base : Nat} {spare : Nat → Bool} {held : Bool}

/-- A row of structs whose fields are 64 bit numbers, one cell each. -/
theorem rows_open {t e k fuel : Nat} {fs : Array Field} {cs : List Value} {x : DataW H × List MemPlace} (ht : P.underlying t = some (.slice e)) (he : P.underlying e = some (.struct fs)) (hC : P.cellsOf e = k) (hk : 0 < k)
    (hint : ∀ j, j < k → ∃ f : Field, fs[j]? = some f ∧ f.offset = j ∧ P.underlying f.type = some (.int .i64) ∧ P.cellsOf f.type = 1) (h : DataW.trod enc P w base spare held fuel t cs = some x) :
    ∃ a n c, cs = [.slice a n c] ∧ IntRow k w a n := by
  rcases Go.Deep.open_slice ht h with ⟨hcs, _⟩ | ⟨a, len, cap, m, n, D, Pl, hcs, hb, hl, hm, hmm, hx, hi⟩
  · exact ⟨none, 0, 0, hcs, .inl rfl⟩
  · refine ⟨some a, len, cap, hcs, .inr ⟨a, rfl, fun i hik => ?_⟩⟩
    have hq : i / k < len := Nat.div_lt_of_lt_mul (by rw [Nat.mul_comm]; exact hik)
    have hqm : i / k < m := by
      rw [hmm]
      split
      · omega
      · exact hq
    have hr : i % k < k := Nat.mod_lt _ hk
    obtain ⟨cs', hc, ht'⟩ := hi (i / k) hqm
    rw [hC] at hc
    obtain ⟨xs, n', _, _, hcl, hlen, hf⟩ := DataW.trod_struct he ht'
    obtain ⟨f, hf1, hf2, hf3, hf4⟩ := hint (i % k) hr
    have h1 := hf (i % k) f hf1
    rw [hf2, hf4] at h1
    obtain ⟨_, hcl', hat⟩ := World.cells?_some hc
    have hcell := hat (i % k) hr
    have hlt : i % k < fs.size := (Array.getElem?_eq_some_iff.1 hf1).1
    have hone : (cs'.drop (i % k)).take 1 = [cs'[i % k]'(by omega)] := by
      rw [List.drop_eq_getElem_cons (by omega)]
      rfl
    rw [hone, List.getElem?_eq_getElem (by omega)] at h1
    obtain ⟨x0, e0, _, wf⟩ := DataW.trod_int hf3 h1
    refine ⟨x0, ?_, bounds_i64 wf⟩
    have e1 : (a.add (i / k * k)).add (i % k) = a.add i := by
      rw [Go.Deep.add_add, Nat.div_add_mod']
    rw [← e1, hcell, List.getElem?_eq_getElem (by omega)]
    exact congrArg some (List.cons.inj e0).1

theorem ints_open {t e fuel : Nat} {cs : List Value} {x : DataW H × List MemPlace} (ht : P.underlying t = some (.slice e)) (he : P.underlying e = some (.int .i64)) (hC : P.cellsOf e = 1) (h : DataW.trod enc P w base spare held fuel t cs = some x) :
    ∃ a n c, cs = [.slice a n c] ∧ IntRow 1 w a n := by
  rcases Go.Deep.open_slice1 ht hC h with ⟨hcs, _⟩ | ⟨a, len, cap, m, n, V, D, Pl, hcs, hb, hl, hm, hmm, hx, hi⟩
  · exact ⟨none, 0, 0, hcs, .inl rfl⟩
  · refine ⟨some a, len, cap, hcs, .inr ⟨a, rfl, fun i hik => ?_⟩⟩
    have hqm : i < m := by
      rw [hmm]
      split
      · omega
      · omega
    obtain ⟨h1, h2⟩ := hi i hqm
    obtain ⟨x0, e0, _, wf⟩ := DataW.trod_int he h2
    exact ⟨x0, h1.trans (congrArg some (List.cons.inj e0).1), bounds_i64 wf⟩
end
end Go.Proofs.YtbkjelhkjncfkaaGreatDoor
