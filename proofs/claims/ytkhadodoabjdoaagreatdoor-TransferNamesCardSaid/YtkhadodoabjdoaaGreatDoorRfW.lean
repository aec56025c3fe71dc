/-
  The instance: the evaluator's tables are good for the program. No statement of the program is claimed here.
-/
import Derived.Test.YtkhadodoabjdoaaGreatDoorRfTabOk
import Derived.Laws.StructEq
namespace Go.Rf
set_option maxRecDepth 100000
open Go.Proofs
section
variable {P : Program} {d : Nat} {xs ys : Array Value} {f : Field} {fs : List Field} {a b : Value} {r s : Bool} {w : World}
theorem eqF1 (hn : (f.name == "_") = false) (ha : (part f.type xs f.offset).run P w = .ok a w) (hb : (part f.type ys f.offset).run P w = .ok b w) (he : (Op.equalIn d f.type a b).run P w = .ok r w) (hr : (Op.eqFields d xs ys fs).run P w = .ok s w) : (Op.eqFields d xs ys (f :: fs)).run P w = .ok (r && s) w := by
  have hn' : f.name ≠ "_" := by simpa using hn
  rw [Op.eqFields]
  simp only [if_pos hn', Sem.run_bind, ha, hb, he, Result.andThen_ok]
  cases r
  · simp
  · simpa using hr
theorem eqF0 : (Op.eqFields d xs ys []).run P w = .ok true w := by simp [Op.eqFields]
theorem eqS {t : TypeId} {fs : Array Field} (hu : P.underlying t = some (.struct fs)) (hp : P.stoodInHeld t = false) (h : (Op.eqFields d xs ys fs.toList).run P w = .ok r w) : (Op.equalIn (d + 1) t (.agg xs) (.agg ys)).run P w = .ok r w := by
  have hf : P.fieldsOf t = fs := by simp [Program.fieldsOf, hu]
  rw [run_equalIn_struct (P := P) w d t xs ys (by rw [hf]; exact hu) hp, hf]
  exact h
theorem eqI {t : TypeId} {k : IntKind} {x y : Int} (k' : IntKind) (h : P.underlying t = some (.int k')) : (Op.equalIn (d + 1) t (.int k x) (.int k y)).run P w = .ok (decide (x = y)) w := by
  rw [run_equalIn_int w d t k k' x y h]; congr 1
theorem szOf {t n : Nat} (h : (P.info? t).map (·.size) = some n) (w : World) : (sizeOf t).run P w = .ok n w := by
  cases hi : P.info? t with
  | none => rw [hi] at h; cases h
  | some i => rw [hi] at h; cases h; simp [sizeOf, typeInfo, hi]
end
theorem e58 (a1 a2 b1 b2 : Int) (d : Nat) (w : World) : (Op.equalIn (d + 2) 58 (.agg #[.int .u32 a1, .int .u32 a2]) (.agg #[.int .u32 b1, .int .u32 b2])).run Tryz.prog w = .ok (decide (a1 = b1) && (decide (a2 = b2) && true)) w := by
  refine eqS Tryz.underlying58 (by kernel_rfl) ?_
  refine eqF1 (by rfl) (a := .int .u32 a1) (b := .int .u32 b1) ?_ ?_ (eqI .u32 Tryz.underlying31) (eqF1 (by rfl) (a := .int .u32 a2) (b := .int .u32 b2) ?_ ?_ (eqI .u32 Tryz.underlying31) eqF0)
  all_goals simp [part, isAgg, run_underlying Tryz.underlying31]
theorem e60 (a1 a2 b1 b2 : Int) (d : Nat) (w : World) : (Op.equalIn (d + 2) 60 (.agg #[.int .u32 a1, .int .u32 a2]) (.agg #[.int .u32 b1, .int .u32 b2])).run Tryz.prog w = .ok (decide (a1 = b1) && (decide (a2 = b2) && true)) w := by
  refine eqS Tryz.underlying60 (by kernel_rfl) ?_
  refine eqF1 (by rfl) (a := .int .u32 a1) (b := .int .u32 b1) ?_ ?_ (eqI .u32 Tryz.underlying31) (eqF1 (by rfl) (a := .int .u32 a2) (b := .int .u32 b2) ?_ ?_ (eqI .u32 Tryz.underlying31) eqF0)
  all_goals simp [part, isAgg, run_underlying Tryz.underlying31]
theorem e33 (a1 a2 a3 a4 b1 b2 b3 b4 : Int) (d : Nat) (w : World) : (Op.equalIn (d + 2) 33 (.agg #[.int .u32 a1, .int .u32 a2, .int .i64 a3, .int .i64 a4]) (.agg #[.int .u32 b1, .int .u32 b2, .int .i64 b3, .int .i64 b4])).run Tryz.prog w =
    .ok (decide (a1 = b1) && (decide (a2 = b2) && (decide (a3 = b3) && (decide (a4 = b4) && true)))) w := by
  refine eqS Tryz.underlying33 (by kernel_rfl) ?_
  refine eqF1 (by rfl) (a := .int .u32 a1) (b := .int .u32 b1) ?_ ?_ (eqI .u32 Tryz.underlying31) (eqF1 (by rfl) (a := .int .u32 a2) (b := .int .u32 b2) ?_ ?_ (eqI .u32 Tryz.underlying31)
    (eqF1 (by rfl) (a := .int .i64 a3) (b := .int .i64 b3) ?_ ?_ (eqI .i64 Tryz.underlying3) (eqF1 (by rfl) (a := .int .i64 a4) (b := .int .i64 b4) ?_ ?_ (eqI .i64 Tryz.underlying3) eqF0)))
  all_goals simp [part, isAgg, run_underlying Tryz.underlying31, run_underlying Tryz.underlying3]
theorem s58 (w : World) : (sizeOf 58).run Tryz.prog w = .ok 2 w := szOf (by kernel_rfl) w
theorem s60 (w : World) : (sizeOf 60).run Tryz.prog w = .ok 2 w := szOf (by kernel_rfl) w
theorem s62 (w : World) : (sizeOf 62).run Tryz.prog w = .ok 4 w := szOf (by kernel_rfl) w
theorem e62 (a1 a2 a3 a4 b1 b2 b3 b4 : Int) (d : Nat) (w : World) : (Op.equalIn (d + 3) 62 (.agg #[.int .u32 a1, .int .u32 a2, .int .u32 a3, .int .u32 a4]) (.agg #[.int .u32 b1, .int .u32 b2, .int .u32 b3, .int .u32 b4])).run Tryz.prog w =
    .ok ((decide (a1 = b1) && (decide (a2 = b2) && true)) && ((decide (a3 = b3) && (decide (a4 = b4) && true)) && true)) w := by
  refine eqS Tryz.underlying62 (by kernel_rfl) ?_
  refine eqF1 (by rfl) (a := .agg #[.int .u32 a1, .int .u32 a2]) (b := .agg #[.int .u32 b1, .int .u32 b2]) ?_ ?_ (e58 _ _ _ _ d w) (eqF1 (by rfl) (a := .agg #[.int .u32 a3, .int .u32 a4]) (b := .agg #[.int .u32 b3, .int .u32 b4]) ?_ ?_ (e60 _ _ _ _ d w) eqF0)
  all_goals simp [part, isAgg, run_underlying Tryz.underlying58, run_underlying Tryz.underlying60]
theorem e108 (a1 a2 a3 a4 a5 a6 b1 b2 b3 b4 b5 b6 : Int) (d : Nat) (w : World) : (Op.equalIn (d + 4) 108 (.agg #[.int .i64 a1, .int .i64 a2, .int .u32 a3, .int .u32 a4, .int .u32 a5, .int .u32 a6]) (.agg #[.int .i64 b1, .int .i64 b2, .int .u32 b3, .int .u32 b4, .int .u32 b5, .int .u32 b6])).run Tryz.prog w =
    .ok (decide (a1 = b1) && (decide (a2 = b2) && (((decide (a3 = b3) && (decide (a4 = b4) && true)) && ((decide (a5 = b5) && (decide (a6 = b6) && true)) && true)) && true))) w := by
  refine eqS Tryz.underlying108 (by kernel_rfl) ?_
  refine eqF1 (by rfl) (a := .int .i64 a1) (b := .int .i64 b1) ?_ ?_ (eqI .i64 Tryz.underlying3) (eqF1 (by rfl) (a := .int .i64 a2) (b := .int .i64 b2) ?_ ?_ (eqI .i64 Tryz.underlying3)
    (eqF1 (by rfl) (a := .agg #[.int .u32 a3, .int .u32 a4, .int .u32 a5, .int .u32 a6]) (b := .agg #[.int .u32 b3, .int .u32 b4, .int .u32 b5, .int .u32 b6]) ?_ ?_ (e62 _ _ _ _ _ _ _ _ d w) eqF0))
  all_goals simp [part, isAgg, run_underlying Tryz.underlying3, run_underlying Tryz.underlying62]

/-! ### '==' as the evaluator has it -/
theorem eqInts_cons {k : IntKind} {m : Int} {z xs ys : List V} {r : Bool} (h : eqInts (.int k m :: z) xs ys = some r) : ∃ a x b y r', xs = .int k a :: x ∧ ys = .int k b :: y ∧ eqInts z x y = some r' ∧ r = (decide (a = b) && r') := by
  have key : ∃ j a x i b y, xs = .int j a :: x ∧ ys = .int i b :: y := by
    cases xs with
    | nil => cases ys <;> cases h
    | cons x xs =>
      cases x with
      | int j a =>
        cases ys with
        | nil => cases h
        | cons y ys =>
          cases y with
          | int i b => exact ⟨_, _, _, _, _, _, rfl, rfl⟩
          | _ => cases h
      | _ => cases ys <;> cases h
  obtain ⟨j, a, x, i, b, y, rfl, rfl⟩ := key
  have h' : (bif sameK k j && sameK k i then (match eqInts z x y with | some r => some (decide (a = b) && r) | none => none) else none) = some r := h
  obtain ⟨q, h2⟩ := bif_some h'
  rw [Bool.and_eq_true] at q
  obtain rfl := sameK_eq q.1
  obtain rfl := sameK_eq q.2
  cases hr : eqInts z x y with
  | none => rw [hr] at h2; cases h2
  | some r' => rw [hr] at h2; cases h2; exact ⟨a, x, b, y, r', rfl, rfl, hr, rfl⟩
theorem eqInts_nil {xs ys : List V} {r : Bool} (h : eqInts [] xs ys = some r) : xs = [] ∧ ys = [] ∧ r = true := by
  cases xs <;> cases ys <;> first | (cases h; exact ⟨rfl, rfl, rfl⟩) | cases h
theorem RL.int {ρ : Rho} {k : IntKind} {n : Int} {l : List V} {m : List Value} (h : RL ρ (.int k n :: l) m) : ∃ m', m = .int k n :: m' ∧ RL ρ l m' := by
  cases h with
  | cons h1 h2 => cases h1; exact ⟨_, rfl, h2⟩
theorem RL.none {ρ : Rho} {m : List Value} (h : RL ρ [] m) : m = [] := by cases h; rfl
theorem arr_of {a : Array Value} {l : List Value} (h : a.toList = l) : a = l.toArray := by rw [← h]
theorem q58 : ∀ (xs ys : List V) (a b : Array Value) (ρ : Rho) (r : Bool) (w : World), eqInts [(.int .u32 0), (.int .u32 0)] xs ys = some r → RL ρ xs a.toList → RL ρ ys b.toList → (Op.equal 58 (.agg a) (.agg b)).run Tryz.prog w = .ok r w ∧ Tryz.prog.eqGuardType Tryz.prog.depth 58 = false := by
  intro xs ys a b ρ r w h0 hx0 hy0
  obtain ⟨a0, xs0, b0, ys0, r0, rfl, rfl, h1, rfl⟩ := eqInts_cons h0
  obtain ⟨m0, hm0, hx1⟩ := hx0.int
  obtain ⟨k0, hk0, hy1⟩ := hy0.int
  obtain ⟨a1, xs1, b1, ys1, r1, rfl, rfl, h2, rfl⟩ := eqInts_cons h1
  obtain ⟨m1, rfl, hx2⟩ := hx1.int
  obtain ⟨k1, rfl, hy2⟩ := hy1.int
  obtain ⟨rfl, rfl, rfl⟩ := eqInts_nil h2
  obtain rfl := hx2.none
  obtain rfl := hy2.none
  obtain rfl := arr_of hm0
  obtain rfl := arr_of hk0
  exact ⟨e58 _ _ _ _ 9998 w, by kernel_rfl⟩
theorem q33 : ∀ (xs ys : List V) (a b : Array Value) (ρ : Rho) (r : Bool) (w : World), eqInts [(.int .u32 0), (.int .u32 0), (.int .i64 0), (.int .i64 0)] xs ys = some r → RL ρ xs a.toList → RL ρ ys b.toList → (Op.equal 33 (.agg a) (.agg b)).run Tryz.prog w = .ok r w ∧ Tryz.prog.eqGuardType Tryz.prog.depth 33 = false := by
  intro xs ys a b ρ r w h0 hx0 hy0
  obtain ⟨a0, xs0, b0, ys0, r0, rfl, rfl, h1, rfl⟩ := eqInts_cons h0
  obtain ⟨m0, hm0, hx1⟩ := hx0.int
  obtain ⟨k0, hk0, hy1⟩ := hy0.int
  obtain ⟨a1, xs1, b1, ys1, r1, rfl, rfl, h2, rfl⟩ := eqInts_cons h1
  obtain ⟨m1, rfl, hx2⟩ := hx1.int
  obtain ⟨k1, rfl, hy2⟩ := hy1.int
  obtain ⟨a2, xs2, b2, ys2, r2, rfl, rfl, h3, rfl⟩ := eqInts_cons h2
  obtain ⟨m2, rfl, hx3⟩ := hx2.int
  obtain ⟨k2, rfl, hy3⟩ := hy2.int
  obtain ⟨a3, xs3, b3, ys3, r3, rfl, rfl, h4, rfl⟩ := eqInts_cons h3
  obtain ⟨m3, rfl, hx4⟩ := hx3.int
  obtain ⟨k3, rfl, hy4⟩ := hy3.int
  obtain ⟨rfl, rfl, rfl⟩ := eqInts_nil h4
  obtain rfl := hx4.none
  obtain rfl := hy4.none
  obtain rfl := arr_of hm0
  obtain rfl := arr_of hk0
  exact ⟨e33 _ _ _ _ _ _ _ _ 9998 w, by kernel_rfl⟩
theorem q62 : ∀ (xs ys : List V) (a b : Array Value) (ρ : Rho) (r : Bool) (w : World), eqInts [(.int .u32 0), (.int .u32 0), (.int .u32 0), (.int .u32 0)] xs ys = some r → RL ρ xs a.toList → RL ρ ys b.toList → (Op.equal 62 (.agg a) (.agg b)).run Tryz.prog w = .ok r w ∧ Tryz.prog.eqGuardType Tryz.prog.depth 62 = false := by
  intro xs ys a b ρ r w h0 hx0 hy0
  obtain ⟨a0, xs0, b0, ys0, r0, rfl, rfl, h1, rfl⟩ := eqInts_cons h0
  obtain ⟨m0, hm0, hx1⟩ := hx0.int
  obtain ⟨k0, hk0, hy1⟩ := hy0.int
  obtain ⟨a1, xs1, b1, ys1, r1, rfl, rfl, h2, rfl⟩ := eqInts_cons h1
  obtain ⟨m1, rfl, hx2⟩ := hx1.int
  obtain ⟨k1, rfl, hy2⟩ := hy1.int
  obtain ⟨a2, xs2, b2, ys2, r2, rfl, rfl, h3, rfl⟩ := eqInts_cons h2
  obtain ⟨m2, rfl, hx3⟩ := hx2.int
  obtain ⟨k2, rfl, hy3⟩ := hy2.int
  obtain ⟨a3, xs3, b3, ys3, r3, rfl, rfl, h4, rfl⟩ := eqInts_cons h3
  obtain ⟨m3, rfl, hx4⟩ := hx3.int
  obtain ⟨k3, rfl, hy4⟩ := hy3.int
  obtain ⟨rfl, rfl, rfl⟩ := eqInts_nil h4
  obtain rfl := hx4.none
  obtain rfl := hy4.none
  obtain rfl := arr_of hm0
  obtain rfl := arr_of hk0
  have := e62 a0 a1 a2 a3 b0 b1 b2 b3 9997 w
  refine ⟨?_, by kernel_rfl⟩
  rw [show Op.equal 62 = Op.equalIn (9997 + 3) 62 from rfl, this]
  congr 1
  simp only [Bool.and_true, Bool.and_assoc]
theorem q108 : ∀ (xs ys : List V) (a b : Array Value) (ρ : Rho) (r : Bool) (w : World), eqInts [(.int .i64 0), (.int .i64 0), (.int .u32 0), (.int .u32 0), (.int .u32 0), (.int .u32 0)] xs ys = some r → RL ρ xs a.toList → RL ρ ys b.toList → (Op.equal 108 (.agg a) (.agg b)).run Tryz.prog w = .ok r w ∧ Tryz.prog.eqGuardType Tryz.prog.depth 108 = false := by
  intro xs ys a b ρ r w h0 hx0 hy0
  obtain ⟨a0, xs0, b0, ys0, r0, rfl, rfl, h1, rfl⟩ := eqInts_cons h0
  obtain ⟨m0, hm0, hx1⟩ := hx0.int
  obtain ⟨k0, hk0, hy1⟩ := hy0.int
  obtain ⟨a1, xs1, b1, ys1, r1, rfl, rfl, h2, rfl⟩ := eqInts_cons h1
  obtain ⟨m1, rfl, hx2⟩ := hx1.int
  obtain ⟨k1, rfl, hy2⟩ := hy1.int
  obtain ⟨a2, xs2, b2, ys2, r2, rfl, rfl, h3, rfl⟩ := eqInts_cons h2
  obtain ⟨m2, rfl, hx3⟩ := hx2.int
  obtain ⟨k2, rfl, hy3⟩ := hy2.int
  obtain ⟨a3, xs3, b3, ys3, r3, rfl, rfl, h4, rfl⟩ := eqInts_cons h3
  obtain ⟨m3, rfl, hx4⟩ := hx3.int
  obtain ⟨k3, rfl, hy4⟩ := hy3.int
  obtain ⟨a4, xs4, b4, ys4, r4, rfl, rfl, h5, rfl⟩ := eqInts_cons h4
  obtain ⟨m4, rfl, hx5⟩ := hx4.int
  obtain ⟨k4, rfl, hy5⟩ := hy4.int
  obtain ⟨a5, xs5, b5, ys5, r5, rfl, rfl, h6, rfl⟩ := eqInts_cons h5
  obtain ⟨m5, rfl, hx6⟩ := hx5.int
  obtain ⟨k5, rfl, hy6⟩ := hy5.int
  obtain ⟨rfl, rfl, rfl⟩ := eqInts_nil h6
  obtain rfl := hx6.none
  obtain rfl := hy6.none
  obtain rfl := arr_of hm0
  obtain rfl := arr_of hk0
  have := e108 a0 a1 a2 a3 a4 a5 b0 b1 b2 b3 b4 b5 9996 w
  refine ⟨?_, by kernel_rfl⟩
  rw [show Op.equal 108 = Op.equalIn (9996 + 4) 108 from rfl, this]
  congr 1
  simp only [Bool.and_true, Bool.and_assoc]

theorem tyT_mem {t : TypeId} {ti : TI} (h : tyT.get t = some ti) : (t, ti) ∈ tyL := by rw [tyT_eq] at h; exact mkT_mem h
/-- Which types are compared as rows. -/
def eqRows : List (Nat × TI) → Bool
  | [] => true
  | (t, ti) :: l => bif (!ti.eq || (Nat.beq t 33 || Nat.beq t 58) || (Nat.beq t 62 || Nat.beq t 108)) then eqRows l else false
theorem eqRows_ok : ∀ {l : List (Nat × TI)}, eqRows l = true → ∀ x ∈ l, x.2.eq = true → x.1 = 33 ∨ x.1 = 58 ∨ x.1 = 62 ∨ x.1 = 108
  | [], _, x, hx => by cases hx
  | (t, ti) :: l, h, x, hx => by
    unfold eqRows at h
    intro he
    obtain ⟨h1, h2⟩ : (!ti.eq || (Nat.beq t 33 || Nat.beq t 58) || (Nat.beq t 62 || Nat.beq t 108)) = true ∧ eqRows l = true := by
      cases hc : (!ti.eq || (Nat.beq t 33 || Nat.beq t 58) || (Nat.beq t 62 || Nat.beq t 108)) with
      | false => rw [hc] at h; cases h
      | true => rw [hc] at h; exact ⟨rfl, h⟩
    cases hx with
    | head =>
      simp only at he
      simp only [he, Bool.not_true, Bool.false_or, Bool.or_eq_true, Nat.beq_eq] at h1
      rcases h1 with (h1 | h1) | (h1 | h1) <;> simp [h1]
    | tail _ hx => exact eqRows_ok h2 x hx he
noncomputable def E0 (fuel : Nat) : Env := { ty := tyT.get, fn := fnT.get, glob := fun g => bif Nat.blt g 4 then some g else none, fuel := fuel }
theorem eOk (fuel : Nat) : EOk Tryz.prog (E0 fuel) where
  ty t ti h := tysChk_ok tyL_ok _ (tyT_mem h)
  eq t ti h he := by
    have hc := eqRows_ok (l := tyL) (by kernel_rfl) _ (tyT_mem h) he
    rcases hc with e | e | e | e <;> simp only at e
    · subst e
      have hk : tyT.get 33 = some ⟨.struct [0, 1, 2, 3], 4, 24, [(.int .u32 0), (.int .u32 0), (.int .i64 0), (.int .i64 0)], true⟩ := by kernel_rfl
      have h' : tyT.get 33 = some ti := h
      rw [hk] at h'; cases h'
      exact q33
    · subst e
      have hk : tyT.get 58 = some ⟨.struct [0, 1], 2, 8, [(.int .u32 0), (.int .u32 0)], true⟩ := by kernel_rfl
      have h' : tyT.get 58 = some ti := h
      rw [hk] at h'; cases h'
      exact q58
    · subst e
      have hk : tyT.get 62 = some ⟨.struct [0, 2], 4, 16, [(.int .u32 0), (.int .u32 0), (.int .u32 0), (.int .u32 0)], true⟩ := by kernel_rfl
      have h' : tyT.get 62 = some ti := h
      rw [hk] at h'; cases h'
      exact q62
    · subst e
      have hk : tyT.get 108 = some ⟨.struct [0, 1, 2], 6, 32, [(.int .i64 0), (.int .i64 0), (.int .u32 0), (.int .u32 0), (.int .u32 0), (.int .u32 0)], true⟩ := by kernel_rfl
      have h' : tyT.get 108 = some ti := h
      rw [hk] at h'; cases h'
      exact q108
  fn f fi h := by
    have h' : fnT.get f = some fi := h
    rw [fnT_eq] at h'
    exact fnL_ok.mem _ (mkT_mem h')
  mixed := by kernel_rfl
end Go.Rf
