/-
  The evaluator's operations against the model's, each by itself. No statement of the program is claimed here.
-/
import Derived.Test.YtbkjelhkjncfkaaGreatDoorRfB
import Derived.Test.YtbkjelhkjncfkaaGreatDoorRfP
import Derived.Laws.Slices
import Derived.WalkKit
import Derived.WideKeyMaps
namespace Go.Rf

/-! ### What the tables must say -/
def KOk (P : Program) (ti : TI) (d : TypeDesc) : Prop :=
  match ti.k with
  | .bool => d = .bool
  | .int k => d = .int k
  | .str => d = .string
  | .ptr e => d = .pointer e
  | .slice e => d = .slice e
  | .array n e => d = .array n e
  | .struct offs => ∃ fs, d = .struct fs ∧ fs.toList.map (·.offset) = offs ∧ ∀ i f, fs[i]? = some f → ∃ j, P.info? f.type = some j ∧ j.size ≠ 0 ∧ placeS ti offs i = some (f.offset, j.size)
  | .func => ∃ a b c, d = .func a b c
  | .map k e => d = .map k e
  | .tuple => ∃ a, d = .tuple a
structure TOk (P : Program) (t : TypeId) (ti : TI) : Prop where
  agg : ti.agg = true → ∀ i z, P.info? t = some i → i.zero = some z → ∃ a, z = .agg a
  one : ti.agg = false → ∀ i z, P.info? t = some i → i.zero = some z → z.cells = #[z]
  ex : ∃ i d z, P.info? t = some i ∧ P.underlying t = some d ∧ i.size = ti.size ∧ i.bytes = ti.bytes ∧ i.zero = some z ∧ (∀ ρ, RL ρ ti.zero z.cells.toList) ∧ ti.zero.length = ti.size ∧ KOk P ti d
structure EOk (P : Program) (E : Env) : Prop where
  ty : ∀ t ti, E.ty t = some ti → TOk P t ti
  eq : ∀ t ti, E.ty t = some ti → ti.eq = true → ∀ (xs ys : List V) (a b : Array Value) (ρ : Rho) (r : Bool) (w : World), eqInts ti.zero xs ys = some r → RL ρ xs a.toList → RL ρ ys b.toList → (Op.equal t (.agg a) (.agg b)).run P w = .ok r w ∧ P.eqGuardType P.depth t = false
  key : ∀ t ti, E.ty t = some ti → E.key t = true → WideMaps.KeyLaw P t ∧ ∀ (xs : List V) (a : Array Value) (ρ : Rho), intsIn ti.zero xs = true → RL ρ xs a.toList → ∃ l, keyOf P t (.agg a) = some l
  fld : ∀ t i p, E.fld t i = some p → ∃ fs f, P.underlying t = some (.struct fs) ∧ fs[i]? = some f ∧ p = (f.offset, f.type)
  fn : ∀ f fi, E.fn f = some fi → ∃ fn, P.funcs[f]? = some fn ∧ fn.body = some fi.body ∧ fn.ntmps = fi.nt ∧ fn.results.toList = fi.results ∧ (fn.name == "runtime.NumGoroutine") = false ∧ plansOk fi.plan fi.body = true
  mixed : P.follows .mixedOrders = true

/-! ### Operands -/
/-- The temporaries. -/
def TR (ρ : Rho) (tm : T V) (a : Act) : Prop := ∀ i, RV ρ (tget tm i) (a.tmps.getD i undef)
theorem TR.ext {ρ ρ' : Rho} (he : Ext ρ ρ') {tm : T V} {a : Act} (h : TR ρ tm a) : TR ρ' tm a := fun i => (h i).ext he
def GOk (E : Env) (ρ : Rho) : Prop := ∀ g b, E.glob g = some b → ∃ n, ρ b = some (g, (0, n))
theorem ev_ok {E : Env} {ρ : Rho} {tm : T V} {a : Act} (h : TR ρ tm a) (hg : GOk E ρ) (x : Operand) : RV ρ (ev E tm x) (a.eval x) := by
  cases x with
  | tmp t => exact h t
  | const v => exact RV.cv ρ v
  | global g =>
    show RV ρ (match E.glob g with | some b => .ptr b 0 | none => .dead) _
    cases hb : E.glob g with
    | none => exact .dead _
    | some b =>
      obtain ⟨n, hn⟩ := hg g b hb
      exact .ptr hn
  | func f => exact .func .nil .nil
theorem evL_ok {E : Env} {ρ : Rho} {tm : T V} {a : Act} (h : TR ρ tm a) (hg : GOk E ρ) : ∀ l : List Operand, RL ρ (evL E tm l) (l.map a.eval)
  | [] => .nil
  | x :: l => .cons (ev_ok h hg x) (evL_ok h hg l)
/-- Parts of a literal. -/
def RP (ρ : Rho) : List (Nat × V) → List (Nat × Value) → Prop
  | [], [] => True
  | (i, v) :: l, (j, c) :: m => i = j ∧ RV ρ v c ∧ RP ρ l m
  | _, _ => False
theorem evP_ok {E : Env} {ρ : Rho} {tm : T V} {a : Act} (h : TR ρ tm a) (hg : GOk E ρ) : ∀ l : List (Nat × Operand), RP ρ (evP E tm l) (l.map fun p => (p.1, a.eval p.2))
  | [] => trivial
  | (_, x) :: l => ⟨rfl, ev_ok h hg x, evP_ok h hg l⟩

section
variable {P : Program} {E : Env}

/-! ### Small runs -/
theorem TOk.under {t : TypeId} {ti : TI} (h : TOk P t ti) : ∃ d, P.underlying t = some d ∧ KOk P ti d := by
  obtain ⟨i, d, z, _, h2, _, _, _, _, _, h7⟩ := h.ex
  exact ⟨d, h2, h7⟩
theorem TOk.size {t : TypeId} {ti : TI} (h : TOk P t ti) (w : World) : (sizeOf t).run P w = .ok ti.size w := by
  obtain ⟨i, d, z, h1, _, h3, _⟩ := h.ex
  simp [sizeOf, typeInfo, h1, h3]
theorem TOk.zero {t : TypeId} {ti : TI} (h : TOk P t ti) : ∃ z, (∀ w, (zeroValue t).run P w = .ok z w) ∧ (∀ ρ, RL ρ ti.zero z.cells.toList) ∧ ti.zero.length = ti.size ∧ z.cells.size = ti.size := by
  obtain ⟨i, d, z, h1, _, _, _, h5, h6, h7, _⟩ := h.ex
  refine ⟨z, fun w => by simp [zeroValue, typeInfo, h1, h5], h6, h7, ?_⟩
  have := (h6 fun _ => none).length
  rw [h7] at this
  simpa using this.symm
theorem KOk.agg {ti : TI} {d : TypeDesc} (h : KOk P ti d) : (match d with | .struct _ | .array _ _ => true | _ => false) = ti.agg := by
  unfold KOk at h
  unfold TI.agg
  cases hk : ti.k <;> simp only [hk] at h <;> first
    | (subst h; rfl)
    | (obtain ⟨_, rfl, _⟩ := h; rfl)
    | (obtain ⟨_, _, _, rfl⟩ := h; rfl)
    | (obtain ⟨_, rfl⟩ := h; rfl)
theorem TOk.isAgg {t : TypeId} {ti : TI} (h : TOk P t ti) (w : World) : (isAgg t).run P w = .ok ti.agg w := by
  obtain ⟨d, h1, h2⟩ := h.under
  unfold Go.isAgg
  rw [Sem.run_bind, run_underlying h1, ← h2.agg, Result.andThen_ok]
  cases d <;> rfl

theorem asVar_agg {ti : TI} (h : ti.agg = true) (cs : List V) : asVar ti cs = match takeN ti.size cs with | some l => some (.agg l) | none => none := by
  unfold asVar
  unfold TI.agg at h
  cases hk : ti.k <;> simp only [hk] at h ⊢ <;> first | rfl | cases h
theorem asVar_one {ti : TI} (h : ti.agg = false) (cs : List V) : asVar ti cs = match cs with | v :: _ => some v | [] => none := by
  unfold asVar
  unfold TI.agg at h
  cases hk : ti.k <;> simp only [hk] at h ⊢ <;> first | rfl | cases h

/-- A variable is read. -/
theorem loadVar_ok {ρ : Rho} {t : TypeId} {ti : TI} (ht : TOk P t ti) {w : World} {g o : Nat} {cs : List V} {ds : List Value} (hl : RL ρ cs ds) (hd : ∀ j v, ds[j]? = some v → w.cell? ⟨g, o + j, none⟩ = some v)
    {v : V} (hv : asVar ti cs = some v) : ∃ c, (loadVar t ⟨g, o, none⟩).run P w = .ok c w ∧ RV ρ v c := by
  cases ha : ti.agg with
  | true =>
    rw [asVar_agg ha] at hv
    cases hk : takeN ti.size cs with
    | none => rw [hk] at hv; cases hv
    | some l =>
      rw [hk] at hv; cases hv
      obtain ⟨h1, h2⟩ := takeN_some hk
      have hr : RL ρ l (ds.take ti.size) := by
        have := hl.take ti.size
        rwa [h1, ← h2, List.take_left, h2] at this
      have hlen : (ds.take ti.size).length = ti.size := by rw [← hr.length, h2]
      refine ⟨.agg (ds.take ti.size).toArray, ?_, .agg hr⟩
      have hc := run_loadCells_list (P := P) w ⟨g, o, none⟩ (ds.take ti.size) fun j v hv => by
        rw [add_at]
        refine hd j v ?_
        rw [List.getElem?_take] at hv
        split at hv
        · exact hv
        · cases hv
      rw [hlen] at hc
      simp only [loadVar, Sem.run_bind, ht.isAgg, ha, Result.andThen_ok, ht.size, if_true, hc, Sem.run_pure]
  | false =>
    rw [asVar_one ha] at hv
    cases hl with
    | nil => cases hv
    | cons h t' =>
      cases hv
      rename_i c cs'
      refine ⟨c, ?_, h⟩
      have hc := hd 0 c rfl
      simp only [Nat.add_zero] at hc
      simp only [loadVar, Sem.run_bind, ht.isAgg, ha, Result.andThen_ok, Bool.false_eq_true, if_false, run_load, hc]

/-- A part of an aggregate. -/
theorem part_ok {ρ : Rho} {t : TypeId} {ti : TI} (ht : TOk P t ti) (w : World) {cs : List V} {a : Array Value} (hl : RL ρ cs a.toList) {o : Nat} {v : V} (hv : asVar ti (cs.drop o) = some v) :
    ∃ c, (part t a o).run P w = .ok c w ∧ RV ρ v c := by
  have hd := hl.drop o
  cases ha : ti.agg with
  | true =>
    rw [asVar_agg ha] at hv
    cases hk : takeN ti.size (cs.drop o) with
    | none => rw [hk] at hv; cases hv
    | some l =>
      rw [hk] at hv; cases hv
      obtain ⟨h1, h2⟩ := takeN_some hk
      have hr : RL ρ l ((a.toList.drop o).take ti.size) := by
        have := hd.take ti.size
        rwa [h1, ← h2, List.take_left, h2] at this
      refine ⟨.agg (a.extract o (o + ti.size)), ?_, .agg ?_⟩
      · simp only [part, Sem.run_bind, ht.isAgg, ha, Result.andThen_ok, ht.size, if_true, Sem.run_pure]
      · rw [Array.toList_extract]
        simpa [List.extract_eq_take_drop] using hr
  | false =>
    rw [asVar_one ha] at hv
    cases hc : cs.drop o with
    | nil => rw [hc] at hv; cases hv
    | cons x l =>
      rw [hc] at hv; cases hv
      rw [hc] at hd
      generalize he : a.toList.drop o = l2 at hd
      cases hd with
      | cons h t' =>
        rename_i c cs'
        refine ⟨c, ?_, h⟩
        have hget : a[o]? = some c := by
          have : (a.toList.drop o)[0]? = some c := by rw [he]; rfl
          simpa using this
        simp only [part, Sem.run_bind, ht.isAgg, ha, Result.andThen_ok, Bool.false_eq_true, if_false, hget, Sem.run_pure]

/-- Cells are written. -/
theorem storeCells_ok {g o : Nat} {w : World} {arr : Array Value} {el : TypeId} (hg : w.heap[g]? = some (.cells arr el (0, 0))) (ds : List Value) (hfit : o + ds.length ≤ arr.size) (h1 : ∀ c ∈ ds, c.oneCell' = true) :
    ∃ w', (storeCells ⟨g, o, none⟩ ds).run P w = .ok () w' ∧ Chg g w w' ∧ w'.heap[g]? = some (.cells (arr.toList.take o ++ ds ++ arr.toList.drop (o + ds.length)).toArray el (0, 0)) := by
  have h := run_storeCells_at P g o el ds 0 arr w hg (by simpa using hfit) h1
  simp only [Nat.add_zero] at h
  exact ⟨_, h, ⟨rfl, rfl, rfl, by simp, fun k hk => setRow_other _ _ _ _ hk⟩, setRow_heap _ _ _ _ _ _ hg⟩

theorem storeTo_ok {w0 w : World} {M0 : Nat → Prop} {ρ : Rho} {hp hp' : Hp} {nx : Nat} (h : Inv E w0 M0 ρ hp nx w) {b o : Nat} {vs : List V} (hs : storeTo hp b o vs = some hp') {g : Nat} {n : Nat × Nat} (hg : ρ b = some (g, n))
    {ds : List Value} (hl : RL ρ vs ds) (h1 : ∀ c ∈ ds, c.oneCell' = true) :
    ∃ w', (storeCells ⟨g, o + n.1, none⟩ ds).run P w = .ok () w' ∧ Inv E w0 M0 ρ hp' nx w' := by
  unfold storeTo at hs
  cases hb : hp.get b with
  | none => rw [hb] at hs; cases hs
  | some x =>
    rw [hb] at hs
    cases x with
    | ro l => cases hs
    | map l => cases hs
    | loop r => cases hs
    | mark o => cases hs
    | iter m n sn => cases hs
    | cells cs =>
      simp only at hs
      cases hp2 : putL cs o vs with
      | none => rw [hp2] at hs; cases hs
      | some cs' =>
        rw [hp2] at hs; cases hs
        obtain ⟨hfit, rfl⟩ := putL_some hp2
        obtain ⟨arr, el, k1, k2, k3, k4, k5⟩ := h.hr.blk b _ g n hb hg
        have hlen := hl.length
        obtain ⟨w', r1, r2, r3⟩ := storeCells_ok (P := P) k1 ds (o := o) (by rw [k2, ← hlen]; omega) h1
        refine ⟨w', by rw [k5]; exact r1, h.put hb trivial hg r2 ⟨_, el, r3, ?_, ?_, ?_, k5⟩⟩
        · simp only [List.size_toArray, List.length_append, List.length_take, List.length_drop, Array.length_toList]
          omega
        · simp only [List.length_append, List.length_take, List.length_drop]
          omega
        · have e1 : (cs.take o ++ vs ++ cs.drop (o + vs.length)).length = cs.length := by
            simp only [List.length_append, List.length_take, List.length_drop]; omega
          rw [e1]
          have e2 : ((arr.toList.take o ++ ds ++ arr.toList.drop (o + ds.length)).toArray.toList).take cs.length = (arr.toList.take cs.length).take o ++ ds ++ (arr.toList.take cs.length).drop (o + ds.length) := by
            have hal : arr.toList.length = n.2 := by rw [Array.length_toList, k2]
            apply List.ext_getElem?
            intro i
            simp only [List.getElem?_take, List.getElem?_append, List.length_take, List.length_append, List.getElem?_drop, hal]
            rw [Nat.min_eq_left (by omega : o ≤ n.2), Nat.min_eq_left (by omega : cs.length ≤ n.2), Nat.min_eq_left (by omega : o ≤ cs.length)]
            by_cases hi : i < cs.length
            · rw [if_pos hi]
              by_cases h3 : i < o
              · rw [if_pos (by omega), if_pos h3, if_pos h3, if_pos (by omega), if_pos h3, if_pos h3, if_pos (by omega)]
              · by_cases h4 : i < o + ds.length
                · rw [if_pos h4, if_neg h3, if_pos h4, if_neg h3]
                · rw [if_neg h4, if_neg h4, if_pos (by omega)]
            · rw [if_neg hi]
              by_cases h4 : i < o + ds.length
              · omega
              · rw [if_neg h4, if_neg (by omega)]
          rw [e2, ← hlen]
          exact ((k4.take o).append hl).append (k4.drop (o + vs.length))
end
end Go.Rf
