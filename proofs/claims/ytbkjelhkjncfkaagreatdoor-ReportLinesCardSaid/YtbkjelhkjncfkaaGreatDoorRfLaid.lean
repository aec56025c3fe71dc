/-
  From a row's laid data to the evaluator's cells. No statement of the program is claimed here.
-/
import Derived.Test.YtbkjelhkjncfkaaGreatDoorRfU
import Derived.Lib.LaidTab
import Derived.LaidMore
namespace Go.Rf

/-! ### A datum without pointers, as cells ('hd': what a held value stands for) -/
mutual
def dataV {H : Type} (hd : H → Option V) : DataW H → Option (List V)
  | .lit (.int k n) => some [.int k n]
  | .lit (.string s) => some [.str ⟨s.toArray⟩]
  | .lit (.bool b) => some [.bool b]
  | .agg ps => dataVs hd ps
  | .held x => match hd x with | some v => some [v] | none => none
  | _ => none
def dataVs {H : Type} (hd : H → Option V) : List (DataW H) → Option (List V)
  | [] => some []
  | d :: r => match dataV hd d, dataVs hd r with
    | some a, some b => some (a ++ b)
    | _, _ => none
end

def fieldsAt (P : Program) : Nat → List Field → Nat → Bool
  | o, [], n => o == n
  | o, f :: fs, n => f.offset == o && fieldsAt P (o + P.cellsOf f.type) fs n
/-- A type whose values are just their cells. -/
def flatT (P : Program) : Nat → TypeId → Bool
  | 0, _ => false
  | k + 1, t => match P.underlying t with
    | some .bool | some (.int _) | some .string | some (.func ..) => true
    | some (.struct fs) => fs.toList.all (fun f => flatT P k f.type) && fieldsAt P 0 fs.toList (P.cellsOf t)
    | some (.array n e) => flatT P k e && P.cellsOf t == n * P.cellsOf e
    | _ => false

theorem bytes_of_list (s : ByteArray) : (⟨s.data.toList.toArray⟩ : ByteArray) = s := by
  cases s; simp

section
variable {H : Type} {enc : TypeId × Value → H} {P : Program} {w : World} {base : Nat} {sp : Nat → Bool} {held : Bool} {hd : H → Option V} {ρ : Rho}

theorem dataVs_cons {d : DataW H} {r : List (DataW H)} {vs : List V} (h : dataVs hd (d :: r) = some vs) : ∃ a b, dataV hd d = some a ∧ dataVs hd r = some b ∧ vs = a ++ b := by
  unfold dataVs at h
  cases h1 : dataV hd d with
  | none => simp [h1] at h
  | some a =>
    cases h2 : dataVs hd r with
    | none => simp [h1, h2] at h
    | some b =>
      simp only [h1, h2, Option.some.injEq] at h
      exact ⟨a, b, rfl, rfl, h.symm⟩

theorem rl_chunks {m : Nat} {cs : List Value} : ∀ (ds : List (DataW H)) (off : Nat) (vs : List V), (∀ i d a, ds[i]? = some d → dataV hd d = some a → RL ρ a ((cs.drop (off + i * m)).take m)) →
    dataVs hd ds = some vs → cs.length = off + ds.length * m → RL ρ vs (cs.drop off)
  | [], off, vs, _, h, hl => by
    unfold dataVs at h
    cases h
    rw [List.drop_eq_nil_of_le (by simp at hl; omega)]
    exact .nil
  | d :: r, off, vs, hi, h, hl => by
    obtain ⟨a, b, h1, h2, rfl⟩ := dataVs_cons h
    have ha := hi 0 d a rfl h1
    rw [Nat.zero_mul, Nat.add_zero] at ha
    have hb := rl_chunks r (off + m) b (fun i d' a' hd' ha' => by
      have := hi (i + 1) d' a' (by simpa using hd') ha'
      rwa [show off + (i + 1) * m = off + m + i * m by rw [Nat.add_mul]; omega] at this) h2 (by rw [hl, List.length_cons, Nat.add_mul]; omega)
    have e : cs.drop off = (cs.drop off).take m ++ cs.drop (off + m) := by
      rw [← List.drop_drop, List.take_append_drop]
    rw [e]
    exact ha.append hb

theorem rl_fields {cs : List Value} : ∀ (fs : List Field) (xs : List (DataW H)) (off : Nat) (vs : List V), fieldsAt P off fs cs.length = true → xs.length = fs.length →
    (∀ (i : Nat) f d a, fs[i]? = some f → xs[i]? = some d → dataV hd d = some a → RL ρ a ((cs.drop f.offset).take (P.cellsOf f.type))) →
    dataVs hd xs = some vs → RL ρ vs (cs.drop off)
  | [], xs, off, vs, hf, hl, _, h => by
    obtain rfl : xs = [] := by simpa using hl
    unfold dataVs at h
    cases h
    unfold fieldsAt at hf
    rw [List.drop_eq_nil_of_le (by simp at hf; omega)]
    exact .nil
  | f :: fs, [], off, vs, hf, hl, _, h => by simp at hl
  | f :: fs, d :: xs, off, vs, hf, hl, hi, h => by
    obtain ⟨a, b, h1, h2, rfl⟩ := dataVs_cons h
    unfold fieldsAt at hf
    simp only [Bool.and_eq_true, beq_iff_eq] at hf
    have ha := hi 0 f d a rfl rfl h1
    rw [hf.1] at ha
    have hb := rl_fields fs xs (off + P.cellsOf f.type) b hf.2 (by simpa using hl) (fun i f' d' a' h1' h2' h3' => hi (i + 1) f' d' a' (by simpa using h1') (by simpa using h2') h3') h2
    have e : cs.drop off = (cs.drop off).take (P.cellsOf f.type) ++ cs.drop (off + P.cellsOf f.type) := by
      rw [← List.drop_drop, List.take_append_drop]
    rw [e]
    exact ha.append hb

/-- THE CELLS OF A DATUM. -/
theorem trod_RL (hH : ∀ fuel t v x u q ps rs va, P.underlying t = some (.func ps rs va) → DataW.trod enc P w base sp held fuel t [v] = some (.held x, q) → hd x = some u → RV ρ u v) :
    ∀ (k fuel : Nat) (t : TypeId) (cs : List Value) (d : DataW H) (p : List MemPlace) (vs : List V), flatT P k t = true → DataW.trod enc P w base sp held fuel t cs = some (d, p) → dataV hd d = some vs → RL ρ vs cs := by
  intro k
  induction k with
  | zero => intro fuel t cs d p vs hf; simp [flatT] at hf
  | succ k ih =>
    intro fuel t cs d p vs hf h hv
    unfold flatT at hf
    split at hf
    · rename_i ht
      obtain ⟨b, rfl, hx⟩ := DataW.trod_bool ht h
      cases hx
      cases hv
      exact .cons (.bool b) .nil
    · rename_i ht
      obtain ⟨b, rfl, hx, _⟩ := DataW.trod_int ht h
      cases hx
      cases hv
      exact .cons (.int _ b) .nil
    · rename_i ht
      obtain ⟨b, rfl, hx, _⟩ := DataW.trod_string ht h
      cases hx
      cases hv
      rw [bytes_of_list]
      exact .cons (.str b) .nil
    · rename_i ht
      cases fuel with
      | zero => simp [DataW.trod] at h
      | succ n =>
        have h0 := h
        cases cs with
        | nil => simp [DataW.trod, ht] at h
        | cons c r =>
          cases r with
          | cons _ _ => cases c <;> simp [DataW.trod, ht] at h
          | nil =>
            cases c <;> simp [DataW.trod, ht] at h
            all_goals first
              | (obtain ⟨rfl, _⟩ := h; cases hv; done)
              | skip
            obtain ⟨_, rfl, rfl⟩ := h
            unfold dataV at hv
            split at hv
            · rename_i v hu
              cases hv
              exact .cons (hH (n + 1) t _ _ _ _ _ _ _ ht h0 hu) .nil
            · cases hv
    · rename_i fs ht
      obtain ⟨xs, n, rfl, hx, hl, hxl, hall⟩ := DataW.trod_struct ht h
      simp only [Prod.mk.injEq] at hx
      obtain ⟨rfl, _⟩ := hx
      simp only [Bool.and_eq_true, List.all_eq_true] at hf
      rw [← hl] at hf
      unfold dataV at hv
      have := rl_fields (ρ := ρ) (P := P) (hd := hd) (cs := cs) fs.toList (xs.map (·.1)) 0 vs hf.2 (by simp [hxl]) (fun i f d' a h1 h2 h3 => by
        rw [Array.getElem?_toList] at h1
        have hy := hall i f h1
        rw [List.getElem?_map] at h2
        cases hxi : xs[i]? with
        | none => rw [hxi] at h2; cases h2
        | some y =>
          rw [hxi] at h2 hy
          cases h2
          exact ih n f.type _ y.1 y.2 a (hf.1 f (by rw [← Array.getElem?_toList] at h1; exact List.mem_of_getElem? h1)) hy h3) hv
      simpa using this
    · rename_i n e ht
      simp only [Bool.and_eq_true, beq_iff_eq] at hf
      cases fuel with
      | zero => simp [DataW.trod] at h
      | succ fuel =>
        simp only [DataW.trod, ht] at h
        split at h
        · rename_i hl
          obtain ⟨xs, hm, hx⟩ := Option.map_eq_some_iff.1 h
          simp only [Prod.mk.injEq] at hx
          obtain ⟨rfl, _⟩ := hx
          have hxl : xs.length = n := by simpa using Lib.mapM_length hm
          unfold dataV at hv
          have := rl_chunks (ρ := ρ) (hd := hd) (cs := cs) (m := P.cellsOf e) (xs.map (·.1)) 0 vs (fun i d' a h1 h2 => by
            rw [List.getElem?_map] at h1
            cases hxi : xs[i]? with
            | none => rw [hxi] at h1; cases h1
            | some y =>
              rw [hxi] at h1
              cases h1
              have hi : i < n := by rw [← hxl]; exact (List.getElem?_eq_some_iff.1 hxi).1
              obtain ⟨b, hb, hfb⟩ := Lib.mapM_at hm i i (by simp [hi])
              rw [hxi] at hb
              cases hb
              rw [Nat.zero_add]
              exact ih fuel e _ y.1 y.2 a hf.1 hfb h2) hv (by simp [hl, hf.2, hxl])
          simpa using this
        · cases h
    · cases hf

/-- A variable's cells: its block. -/
theorem var_block {name : String} {g : Nat} {cs : Array Value} (hg : P.globalNamed name = some g) (hv : w.var? P name = some cs) : ∃ el fr, w.heap[g]? = some (.cells cs el fr) := by
  unfold World.var? at hv
  rw [hg] at hv
  simp only [Option.bind_some] at hv
  split at hv
  · rename_i c el fr hh
    cases hv
    exact ⟨el, fr, hh⟩
  · cases hv
theorem cells?_at {a : Addr} {n : Nat} {l : List Value} (h : w.cells? base a n = some l) : l.length = n ∧ ∀ j, j < n → ∃ v, l[j]? = some v ∧ w.cell? (a.add j) = some v := by
  unfold World.cells? at h
  split at h
  · refine ⟨by simpa using Lib.mapM_length h, fun j hj => ?_⟩
    exact Lib.mapM_at h j j (by simp [hj])
  · cases h
theorem cell?_arr {a : Addr} {v : Value} (h : w.cell? a = some v) : a.spot = none ∧ ∃ c el fr, w.heap[a.block]? = some (.cells c el fr) ∧ c[a.off]? = some v := by
  unfold World.cell? at h
  split at h
  · rename_i c el fr hc
    split at h
    · cases h
    · rename_i hs
      exact ⟨by simpa using hs, c, el, fr, hc, h⟩
  · cases h

/-- A slice that reads as data, without spare elements: where its elements lie. -/
theorem slice_block {t e : TypeId} {fuel : Nat} {cs : List Value} {ds : List (DataW H)} {p : List MemPlace} (ht : P.underlying t = some (.slice e)) (hm : 0 < P.cellsOf e) (hds : ds ≠ [])
    (h : DataW.trod enc P w base sp held fuel t cs = some (.slice ds [], p)) :
    ∃ b o cap c el fr n, cs = [.slice (some ⟨b, o, none⟩) ds.length cap] ∧ ds.length ≤ cap ∧ w.heap[b]? = some (.cells c el fr) ∧ o + ds.length * P.cellsOf e ≤ c.size ∧
      ∀ (i : Nat) d, ds[i]? = some d → ∃ q, DataW.trod enc P w base sp held n e (((c.toList.drop o).drop (i * P.cellsOf e)).take (P.cellsOf e)) = some (d, q) := by
  rcases DataW.trod_slice ht h with ⟨_, hx⟩ | ⟨a, len, cap, elems, rest, n, _, hcs, hx, _, hl, _, hlen, hel, _⟩
  · simp at hx
  · simp only [Prod.mk.injEq, DataW.slice.injEq] at hx
    obtain ⟨⟨rfl, _⟩, _⟩ := hx
    have el0 : (elems.map (·.1)).length = len := by simpa using hlen
    have hpos : 0 < len := by
      rcases Nat.eq_zero_or_pos len with h0 | h0
      · exfalso; apply hds; exact List.eq_nil_of_length_eq_zero (by omega)
      · exact h0
    -- each cell
    have key : ∀ i, i < len → ∃ y cells, elems[i]? = some y ∧ w.cells? base (a.add (i * P.cellsOf e)) (P.cellsOf e) = some cells ∧ DataW.trod enc P w base sp held n e cells = some y := fun i hi => by
      have hE := hel i hi
      obtain ⟨y, hy⟩ : ∃ y, elems[i]? = some y := ⟨_, List.getElem?_eq_getElem (by omega)⟩
      rw [hy] at hE
      simp only [Option.bind_eq_some_iff] at hE
      obtain ⟨c1, hc1, hy1⟩ := hE
      exact ⟨y, c1, hy, hc1, hy1⟩
    obtain ⟨y0, c0, _, hc0, _⟩ := key 0 hpos
    obtain ⟨_, hat0⟩ := cells?_at hc0
    obtain ⟨v0, _, hv0⟩ := hat0 0 hm
    have ea : (a.add (0 * P.cellsOf e)).add 0 = a := by simp [Addr.add]
    rw [ea] at hv0
    obtain ⟨hsp, c, el, fr, hblk, _⟩ := cell?_arr hv0
    obtain ⟨b, o, s⟩ := a
    simp only at hsp hblk
    subst hsp
    have addb : ∀ x j, (((⟨b, o, none⟩ : Addr).add x).add j) = ⟨b, o + x + j, none⟩ := fun x j => by rw [add_at, add_at]
    have cellAt : ∀ i j, i < len → j < P.cellsOf e → ∀ cells, w.cells? base ((⟨b, o, none⟩ : Addr).add (i * P.cellsOf e)) (P.cellsOf e) = some cells → cells[j]? = c[o + i * P.cellsOf e + j]? ∧ o + i * P.cellsOf e + j < c.size := fun i j _ hj cells hc => by
      obtain ⟨_, hat⟩ := cells?_at hc
      obtain ⟨v, h1, h2⟩ := hat j hj
      rw [addb] at h2
      obtain ⟨_, c', el', fr', h3, h4⟩ := cell?_arr h2
      simp only at h3 h4
      rw [hblk] at h3
      cases h3
      exact ⟨by rw [h1, h4], (Array.getElem?_eq_some_iff.1 h4).1⟩
    refine ⟨b, o, cap, c, el, fr, n, by rw [el0]; exact hcs, by rw [el0]; exact hl, hblk, ?_, fun i d hd' => ?_⟩
    · rw [el0]
      obtain ⟨_, cl, _, hcl, _⟩ := key (len - 1) (by omega)
      have := (cellAt (len - 1) (P.cellsOf e - 1) (by omega) (by omega) cl hcl).2
      have e1 : (len - 1) * P.cellsOf e + P.cellsOf e = len * P.cellsOf e := by
        rw [← Nat.succ_mul]; congr 1; omega
      omega
    · have hi : i < len := by rw [← el0]; exact (List.getElem?_eq_some_iff.1 hd').1
      obtain ⟨y, cells, hy, hc, ht'⟩ := key i hi
      rw [List.getElem?_map, hy] at hd'
      cases hd'
      have hcells : cells = ((c.toList.drop o).drop (i * P.cellsOf e)).take (P.cellsOf e) := by
        apply List.ext_getElem?
        intro j
        rw [List.getElem?_take, List.drop_drop, List.getElem?_drop]
        by_cases hj : j < P.cellsOf e
        · rw [if_pos hj, (cellAt i j hi hj cells hc).1]
          simp
        · rw [if_neg hj, List.getElem?_eq_none]
          rw [(cells?_at hc).1]; omega
      exact ⟨y.2, by rw [← hcells]; exact ht'⟩

/-- .. and what they hold. -/
theorem slice_RL {k : Nat} {t e : TypeId} {fuel : Nat} {cs : List Value} {ds : List (DataW H)} {p : List MemPlace} {vs : List V} (ht : P.underlying t = some (.slice e)) (hm : 0 < P.cellsOf e) (hds : ds ≠ [])
    (hf : flatT P k e = true) (hH : ∀ fuel t v x u q ps rs va, P.underlying t = some (.func ps rs va) → DataW.trod enc P w base sp held fuel t [v] = some (.held x, q) → hd x = some u → RV ρ u v)
    (hv : dataVs hd ds = some vs)
    (h : DataW.trod enc P w base sp held fuel t cs = some (.slice ds [], p)) :
    ∃ b o cap c el fr, cs = [.slice (some ⟨b, o, none⟩) ds.length cap] ∧ ds.length ≤ cap ∧ w.heap[b]? = some (.cells c el fr) ∧ o + vs.length ≤ c.size ∧ RL ρ vs ((c.toList.drop o).take vs.length) := by
  obtain ⟨b, o, cap, c, el, fr, n, h1, h2, h3, h4, h5⟩ := slice_block ht hm hds h
  have hx : RL ρ vs (((c.toList.drop o).take (ds.length * P.cellsOf e)).drop 0) := by
    refine rl_chunks (m := P.cellsOf e) ds 0 vs (fun i d a h6 h7 => ?_) hv ?_
    · obtain ⟨q, h8⟩ := h5 i d h6
      have hi := (List.getElem?_eq_some_iff.1 h6).1
      have := trod_RL (ρ := ρ) (hd := hd) hH k n e _ d q a hf h8 h7
      have hle : i * P.cellsOf e + P.cellsOf e ≤ ds.length * P.cellsOf e := by
        rw [← Nat.succ_mul]; exact Nat.mul_le_mul_right _ hi
      rw [Nat.zero_add, List.drop_take, List.take_take, Nat.min_eq_left (by omega)]
      exact this
    · simp only [List.length_take, List.length_drop, Array.length_toList]; omega
  rw [List.drop_zero] at hx
  have hlen := hx.length
  simp only [List.length_take, List.length_drop, Array.length_toList] at hlen
  have hlen' : vs.length = ds.length * P.cellsOf e := by omega
  refine ⟨b, o, cap, c, el, fr, h1, h2, h3, by omega, ?_⟩
  rw [hlen']
  exact hx
end

/-- A function's cell. -/
theorem func_RV {P : Program} {w : World} {base : Nat} {sp : Nat → Bool} {tab : List (List UInt8 × FuncId)} {ρ : Rho}
    (ht : ∀ x ∈ tab, x.1 ≠ [] ∧ ((List.range P.funcs.size).filter fun f => (P.funcs[f]?).any (·.name.toUTF8.data.toList == x.1)) = [x.2]) :
    ∀ fuel t v x u q ps rs va, P.underlying t = some (.func ps rs va) → DataW.trod (funcToken P) P w base sp true fuel t [v] = some (.held x, q) →
      ((tab.find? fun y => y.1 == x).map fun y => (.func (.func y.2) [] [] : V)) = some u → RV ρ u v := by
  intro fuel t v x u q ps rs va h1 h2 h3
  obtain ⟨y, hy, rfl⟩ := Option.map_eq_some_iff.1 h3
  have hm := List.mem_of_find?_eq_some hy
  have he : y.1 = x := by simpa using List.find?_some hy
  obtain ⟨k1, k2⟩ := ht y hm
  rw [he] at k1 k2
  cases x with
  | nil => exact absurd rfl k1
  | cons b r =>
    rw [func_of_trod h1 k2 h2]
    exact .func .nil .nil

end Go.Rf
