/-
  The instance: the evaluator's tables are good for the program. No statement of the program is claimed here.
-/
import Derived.Test.YtbkjelhkjncfkaaGreatDoorRfTabOk
import Derived.Laws.StructEq
import Derived.DeepKeys5
import Derived.Test.YtbkjelhkjncfkaaGreatDoorRfMemo
namespace Go.Rf
set_option maxRecDepth 100000
open Go.Proofs
section
variable {P : Program} {d : Nat} {xs ys : Array Value} {f : Field} {fs : List Field} {a b : Value} {r s : Bool} {w : World}
theorem eqF1 (hn : (f.name == "_") = false) (ha : (part f.type xs f.offset).run P w = .ok a w) (hb : (part f.type ys f.offset).run P w = .ok b w) (he : (Op.equalIn d f.type a b).run P w = .ok r w) (hr : (Op.eqFields d xs ys fs).run P w = .ok s w) : (Op.eqFields d xs ys (f :: fs)).run P w = .ok (r && s) w := by
  have hn' : f.name ≠ "_" := by simpa using hn
  rw [Op.eqFields]
  simp only [if_pos hn', Sem.run_bind, ha, hb, he, Result.andThen_ok]
  cases r
  · simp
  · simpa using hr
theorem eqF0 : (Op.eqFields d xs ys []).run P w = .ok true w := by simp [Op.eqFields]
theorem eqS {t : TypeId} {fs : Array Field} (hu : P.underlying t = some (.struct fs)) (hp : P.stoodInHeld t = false) (h : (Op.eqFields d xs ys fs.toList).run P w = .ok r w) : (Op.equalIn (d + 1) t (.agg xs) (.agg ys)).run P w = .ok r w := by
  have hf : P.fieldsOf t = fs := by simp [Program.fieldsOf, hu]
  rw [run_equalIn_struct (P := P) w d t xs ys (by rw [hf]; exact hu) hp, hf]
  exact h
theorem eqI {t : TypeId} {k : IntKind} {x y : Int} (k' : IntKind) (h : P.underlying t = some (.int k')) : (Op.equalIn (d + 1) t (.int k x) (.int k y)).run P w = .ok (decide (x = y)) w := by
  rw [run_equalIn_int w d t k k' x y h]; congr 1
theorem szOf {t n : Nat} (h : (P.info? t).map (·.size) = some n) (w : World) : (sizeOf t).run P w = .ok n w := by
  cases hi : P.info? t with
  | none => rw [hi] at h; cases h
  | some i => rw [hi] at h; cases h; simp [sizeOf, typeInfo, hi]
end
theorem e138 (a1 a2 b1 b2 : Int) (d : Nat) (w : World) : (Op.equalIn (d + 2) 138 (.agg #[.int .u32 a1, .int .u32 a2]) (.agg #[.int .u32 b1, .int .u32 b2])).run Tryz.prog w = .ok (decide (a1 = b1) && (decide (a2 = b2) && true)) w := by
  refine eqS Tryz.underlying138 (by kernel_rfl) ?_
  refine eqF1 (by rfl) (a := .int .u32 a1) (b := .int .u32 b1) ?_ ?_ (eqI .u32 Tryz.underlying71) (eqF1 (by rfl) (a := .int .u32 a2) (b := .int .u32 b2) ?_ ?_ (eqI .u32 Tryz.underlying71) eqF0)
  all_goals simp [part, isAgg, run_underlying Tryz.underlying71]
theorem e140 (a1 a2 b1 b2 : Int) (d : Nat) (w : World) : (Op.equalIn (d + 2) 140 (.agg #[.int .u32 a1, .int .u32 a2]) (.agg #[.int .u32 b1, .int .u32 b2])).run Tryz.prog w = .ok (decide (a1 = b1) && (decide (a2 = b2) && true)) w := by
  refine eqS Tryz.underlying140 (by kernel_rfl) ?_
  refine eqF1 (by rfl) (a := .int .u32 a1) (b := .int .u32 b1) ?_ ?_ (eqI .u32 Tryz.underlying71) (eqF1 (by rfl) (a := .int .u32 a2) (b := .int .u32 b2) ?_ ?_ (eqI .u32 Tryz.underlying71) eqF0)
  all_goals simp [part, isAgg, run_underlying Tryz.underlying71]
theorem e112 (a1 a2 a3 a4 b1 b2 b3 b4 : Int) (d : Nat) (w : World) : (Op.equalIn (d + 2) 112 (.agg #[.int .u32 a1, .int .u32 a2, .int .i64 a3, .int .i64 a4]) (.agg #[.int .u32 b1, .int .u32 b2, .int .i64 b3, .int .i64 b4])).run Tryz.prog w =
    .ok (decide (a1 = b1) && (decide (a2 = b2) && (decide (a3 = b3) && (decide (a4 = b4) && true)))) w := by
  refine eqS Tryz.underlying112 (by kernel_rfl) ?_
  refine eqF1 (by rfl) (a := .int .u32 a1) (b := .int .u32 b1) ?_ ?_ (eqI .u32 Tryz.underlying71) (eqF1 (by rfl) (a := .int .u32 a2) (b := .int .u32 b2) ?_ ?_ (eqI .u32 Tryz.underlying71)
    (eqF1 (by rfl) (a := .int .i64 a3) (b := .int .i64 b3) ?_ ?_ (eqI .i64 Tryz.underlying3) (eqF1 (by rfl) (a := .int .i64 a4) (b := .int .i64 b4) ?_ ?_ (eqI .i64 Tryz.underlying3) eqF0)))
  all_goals simp [part, isAgg, run_underlying Tryz.underlying71, run_underlying Tryz.underlying3]
theorem s138 (w : World) : (sizeOf 138).run Tryz.prog w = .ok 2 w := szOf (by kernel_rfl) w
theorem s140 (w : World) : (sizeOf 140).run Tryz.prog w = .ok 2 w := szOf (by kernel_rfl) w
theorem s142 (w : World) : (sizeOf 142).run Tryz.prog w = .ok 4 w := szOf (by kernel_rfl) w
theorem e142 (a1 a2 a3 a4 b1 b2 b3 b4 : Int) (d : Nat) (w : World) : (Op.equalIn (d + 3) 142 (.agg #[.int .u32 a1, .int .u32 a2, .int .u32 a3, .int .u32 a4]) (.agg #[.int .u32 b1, .int .u32 b2, .int .u32 b3, .int .u32 b4])).run Tryz.prog w =
    .ok ((decide (a1 = b1) && (decide (a2 = b2) && true)) && ((decide (a3 = b3) && (decide (a4 = b4) && true)) && true)) w := by
  refine eqS Tryz.underlying142 (by kernel_rfl) ?_
  refine eqF1 (by rfl) (a := .agg #[.int .u32 a1, .int .u32 a2]) (b := .agg #[.int .u32 b1, .int .u32 b2]) ?_ ?_ (e138 _ _ _ _ d w) (eqF1 (by rfl) (a := .agg #[.int .u32 a3, .int .u32 a4]) (b := .agg #[.int .u32 b3, .int .u32 b4]) ?_ ?_ (e140 _ _ _ _ d w) eqF0)
  all_goals simp [part, isAgg, run_underlying Tryz.underlying138, run_underlying Tryz.underlying140]
/-! ### '==' as the evaluator has it -/
theorem eqInts_cons {k : IntKind} {m : Int} {z xs ys : List V} {r : Bool} (h : eqInts (.int k m :: z) xs ys = some r) : ∃ a x b y r', xs = .int k a :: x ∧ ys = .int k b :: y ∧ eqInts z x y = some r' ∧ r = (decide (a = b) && r') := by
  have key : ∃ j a x i b y, xs = .int j a :: x ∧ ys = .int i b :: y := by
    cases xs with
    | nil => cases ys <;> cases h
    | cons x xs =>
      cases x with
      | int j a =>
        cases ys with
        | nil => cases h
        | cons y ys =>
          cases y with
          | int i b => exact ⟨_, _, _, _, _, _, rfl, rfl⟩
          | _ => cases h
      | _ => cases ys <;> cases h
  obtain ⟨j, a, x, i, b, y, rfl, rfl⟩ := key
  have h' : (bif sameK k j && sameK k i then (match eqInts z x y with | some r => some (eqQ a b && r) | none => none) else none) = some r := h
  obtain ⟨q, h2⟩ := bif_some h'
  rw [Bool.and_eq_true] at q
  obtain rfl := sameK_eq q.1
  obtain rfl := sameK_eq q.2
  cases hr : eqInts z x y with
  | none => rw [hr] at h2; cases h2
  | some r' => rw [hr] at h2; cases h2; exact ⟨a, x, b, y, r', rfl, rfl, hr, by rw [eqQ_eq]⟩
theorem eqInts_nil {xs ys : List V} {r : Bool} (h : eqInts [] xs ys = some r) : xs = [] ∧ ys = [] ∧ r = true := by
  cases xs <;> cases ys <;> first | (cases h; exact ⟨rfl, rfl, rfl⟩) | cases h
theorem RL.int {ρ : Rho} {k : IntKind} {n : Int} {l : List V} {m : List Value} (h : RL ρ (.int k n :: l) m) : ∃ m', m = .int k n :: m' ∧ RL ρ l m' := by
  cases h with
  | cons h1 h2 => cases h1; exact ⟨_, rfl, h2⟩
theorem RL.none {ρ : Rho} {m : List Value} (h : RL ρ [] m) : m = [] := by cases h; rfl
theorem arr_of {a : Array Value} {l : List Value} (h : a.toList = l) : a = l.toArray := by rw [← h]
theorem q138 : ∀ (xs ys : List V) (a b : Array Value) (ρ : Rho) (r : Bool) (w : World), eqInts [(.int .u32 0), (.int .u32 0)] xs ys = some r → RL ρ xs a.toList → RL ρ ys b.toList → (Op.equal 138 (.agg a) (.agg b)).run Tryz.prog w = .ok r w ∧ Tryz.prog.eqGuardType Tryz.prog.depth 138 = false := by
  intro xs ys a b ρ r w h0 hx0 hy0
  obtain ⟨a0, xs0, b0, ys0, r0, rfl, rfl, h1, rfl⟩ := eqInts_cons h0
  obtain ⟨m0, hm0, hx1⟩ := hx0.int
  obtain ⟨k0, hk0, hy1⟩ := hy0.int
  obtain ⟨a1, xs1, b1, ys1, r1, rfl, rfl, h2, rfl⟩ := eqInts_cons h1
  obtain ⟨m1, rfl, hx2⟩ := hx1.int
  obtain ⟨k1, rfl, hy2⟩ := hy1.int
  obtain ⟨rfl, rfl, rfl⟩ := eqInts_nil h2
  obtain rfl := hx2.none
  obtain rfl := hy2.none
  obtain rfl := arr_of hm0
  obtain rfl := arr_of hk0
  exact ⟨e138 _ _ _ _ 9998 w, by kernel_rfl⟩
theorem q112 : ∀ (xs ys : List V) (a b : Array Value) (ρ : Rho) (r : Bool) (w : World), eqInts [(.int .u32 0), (.int .u32 0), (.int .i64 0), (.int .i64 0)] xs ys = some r → RL ρ xs a.toList → RL ρ ys b.toList → (Op.equal 112 (.agg a) (.agg b)).run Tryz.prog w = .ok r w ∧ Tryz.prog.eqGuardType Tryz.prog.depth 112 = false := by
  intro xs ys a b ρ r w h0 hx0 hy0
  obtain ⟨a0, xs0, b0, ys0, r0, rfl, rfl, h1, rfl⟩ := eqInts_cons h0
  obtain ⟨m0, hm0, hx1⟩ := hx0.int
  obtain ⟨k0, hk0, hy1⟩ := hy0.int
  obtain ⟨a1, xs1, b1, ys1, r1, rfl, rfl, h2, rfl⟩ := eqInts_cons h1
  obtain ⟨m1, rfl, hx2⟩ := hx1.int
  obtain ⟨k1, rfl, hy2⟩ := hy1.int
  obtain ⟨a2, xs2, b2, ys2, r2, rfl, rfl, h3, rfl⟩ := eqInts_cons h2
  obtain ⟨m2, rfl, hx3⟩ := hx2.int
  obtain ⟨k2, rfl, hy3⟩ := hy2.int
  obtain ⟨a3, xs3, b3, ys3, r3, rfl, rfl, h4, rfl⟩ := eqInts_cons h3
  obtain ⟨m3, rfl, hx4⟩ := hx3.int
  obtain ⟨k3, rfl, hy4⟩ := hy3.int
  obtain ⟨rfl, rfl, rfl⟩ := eqInts_nil h4
  obtain rfl := hx4.none
  obtain rfl := hy4.none
  obtain rfl := arr_of hm0
  obtain rfl := arr_of hk0
  exact ⟨e112 _ _ _ _ _ _ _ _ 9998 w, by kernel_rfl⟩
theorem q142 : ∀ (xs ys : List V) (a b : Array Value) (ρ : Rho) (r : Bool) (w : World), eqInts [(.int .u32 0), (.int .u32 0), (.int .u32 0), (.int .u32 0)] xs ys = some r → RL ρ xs a.toList → RL ρ ys b.toList → (Op.equal 142 (.agg a) (.agg b)).run Tryz.prog w = .ok r w ∧ Tryz.prog.eqGuardType Tryz.prog.depth 142 = false := by
  intro xs ys a b ρ r w h0 hx0 hy0
  obtain ⟨a0, xs0, b0, ys0, r0, rfl, rfl, h1, rfl⟩ := eqInts_cons h0
  obtain ⟨m0, hm0, hx1⟩ := hx0.int
  obtain ⟨k0, hk0, hy1⟩ := hy0.int
  obtain ⟨a1, xs1, b1, ys1, r1, rfl, rfl, h2, rfl⟩ := eqInts_cons h1
  obtain ⟨m1, rfl, hx2⟩ := hx1.int
  obtain ⟨k1, rfl, hy2⟩ := hy1.int
  obtain ⟨a2, xs2, b2, ys2, r2, rfl, rfl, h3, rfl⟩ := eqInts_cons h2
  obtain ⟨m2, rfl, hx3⟩ := hx2.int
  obtain ⟨k2, rfl, hy3⟩ := hy2.int
  obtain ⟨a3, xs3, b3, ys3, r3, rfl, rfl, h4, rfl⟩ := eqInts_cons h3
  obtain ⟨m3, rfl, hx4⟩ := hx3.int
  obtain ⟨k3, rfl, hy4⟩ := hy3.int
  obtain ⟨rfl, rfl, rfl⟩ := eqInts_nil h4
  obtain rfl := hx4.none
  obtain rfl := hy4.none
  obtain rfl := arr_of hm0
  obtain rfl := arr_of hk0
  have := e142 a0 a1 a2 a3 b0 b1 b2 b3 9997 w
  refine ⟨?_, by kernel_rfl⟩
  rw [show Op.equal 142 = Op.equalIn (9997 + 3) 142 from rfl, this]
  congr 1
  simp only [Bool.and_true, Bool.and_assoc]
theorem tyT_mem {t : TypeId} {ti : TI} (h : tyT.get t = some ti) : (t, ti) ∈ tyL := by rw [tyT_eq] at h; exact mkT_mem h
/-- Which types are compared as rows. -/
def eqRows : List (Nat × TI) → Bool
  | [] => true
  | (t, ti) :: l => bif (!ti.eq || (Nat.beq t 112 || Nat.beq t 142)) then eqRows l else false
theorem eqRows_ok : ∀ {l : List (Nat × TI)}, eqRows l = true → ∀ x ∈ l, x.2.eq = true → x.1 = 112 ∨ x.1 = 142
  | [], _, x, hx => by cases hx
  | (t, ti) :: l, h, x, hx => by
    unfold eqRows at h
    intro he
    obtain ⟨h1, h2⟩ : (!ti.eq || (Nat.beq t 112 || Nat.beq t 142)) = true ∧ eqRows l = true := by
      cases hc : (!ti.eq || (Nat.beq t 112 || Nat.beq t 142)) with
      | false => rw [hc] at h; cases h
      | true => rw [hc] at h; exact ⟨rfl, h⟩
    cases hx with
    | head =>
      simp only at he
      simp only [he, Bool.not_true, Bool.false_or, Bool.or_eq_true, Nat.beq_eq] at h1
      exact h1
    | tail _ hx => exact eqRows_ok h2 x hx he

/-! ### Keys -/
theorem laidAll : laidOutB Tryz.prog = true := by kernel_rfl
theorem key47 : WideMaps.KeyLaw Tryz.prog 47 := deep_law_gate laidAll (by decide +kernel) (by decide +kernel) (by kernel_rfl) (by kernel_rfl)
theorem key232 : WideMaps.KeyLaw Tryz.prog 232 := deep_law_gate laidAll (by decide +kernel) (by decide +kernel) (by kernel_rfl) (by kernel_rfl)
theorem intsIn_cons {k : IntKind} {m : Int} {z xs : List V} (h : intsIn (.int k m :: z) xs = true) : ∃ a x, xs = .int k a :: x ∧ intsIn z x = true ∧ (Lit.int k a).wf = true := by
  cases xs with
  | nil => cases h
  | cons y x =>
    cases y with
    | int j a =>
      have h' : (bif sameK k j && (leQ (loQ k) a && leQ a (hiQ k)) then intsIn z x else false) = true := h
      obtain ⟨q, h2⟩ := bif2 h'
      simp only [Bool.and_eq_true, leQ_eq, decide_eq_true_eq] at q
      obtain ⟨q0, q1, q2⟩ := q
      obtain rfl := sameK_eq q0
      refine ⟨a, x, rfl, h2, ?_⟩
      cases k <;> simp only [loQ, hiQ] at q1 q2 <;> simp [Lit.wf, IntKind.min, IntKind.max, IntKind.bits, IntKind.signed] <;> exact ⟨q1, q2⟩
    | _ => cases h
theorem intsIn_nil {xs : List V} (h : intsIn [] xs = true) : xs = [] := by cases xs <;> first | rfl | cases h
theorem tsz : Tryz.prog.types.size = 448 := by kernel_rfl
theorem c3 : Tryz.prog.cellsOf 3 = 1 := by kernel_rfl
theorem c47 : Tryz.prog.cellsOf 47 = 6 := by kernel_rfl
theorem c232 : Tryz.prog.cellsOf 232 = 2 := by kernel_rfl
theorem kt47 : Tryz.prog.keyType 47 = true := by kernel_rfl
theorem kt232 : Tryz.prog.keyType 232 = true := by kernel_rfl
theorem kl3 (d : Nat) {a : Int} (h : (Lit.int .i64 a).wf = true) : Tryz.prog.keyLits (d + 1) 3 [.int .i64 a] = some [.int .i64 a] := by
  simp [Program.keyLits, Tryz.underlying3, h]
theorem keyLits_arr {P : Program} {d : Nat} {t e : TypeId} {n : Nat} {cs : List Value} (h : P.underlying t = some (.array n e)) : P.keyLits (d + 1) t cs =
    if cs.length = P.cellsOf t then ((List.range n).mapM fun i => P.keyLits d e ((cs.drop (i * P.cellsOf e)).take (P.cellsOf e))).map List.flatten else none := by
  conv => lhs; unfold Program.keyLits
  simp only [h]
theorem keyLits_struct {P : Program} {d : Nat} {t : TypeId} {fs : Array Field} {cs : List Value} (h : P.underlying t = some (.struct fs)) : P.keyLits (d + 1) t cs =
    if cs.length = P.cellsOf t ∧ fs.all (·.name != "_") = true then (fs.toList.mapM fun f => P.keyLits d f.type ((cs.drop f.offset).take (P.cellsOf f.type))).map List.flatten else none := by
  conv => lhs; unfold Program.keyLits
  simp only [h]
theorem lit232 {a b : Int} (h1 : (Lit.int .i64 a).wf = true) (h2 : (Lit.int .i64 b).wf = true) : ∃ l, keyOf Tryz.prog 232 (.agg #[.int .i64 a, .int .i64 b]) = some l := by
  have hk : Tryz.prog.keyLits (447 + 1 + 1) 232 [.int .i64 a, .int .i64 b] = some [.int .i64 a, .int .i64 b] := by
    rw [keyLits_arr Tryz.underlying232]
    have hr : List.range 2 = [0, 1] := rfl
    rw [hr, c232, c3]
    simp [kl3 447 h1, kl3 447 h2]
  refine ⟨.string (keyBytes [.int .i64 a, .int .i64 b]), ?_⟩
  unfold keyOf
  simp only [Tryz.underlying232, kt232, Value.formed, c232, tsz]
  have hl : (Value.agg #[Value.int IntKind.i64 a, Value.int IntKind.i64 b]).cells.toList = [.int .i64 a, .int .i64 b] := rfl
  rw [hl, hk]
  rfl
theorem lit47 {a b c d e f : Int} (h1 : (Lit.int .i64 a).wf = true) (h2 : (Lit.int .i64 b).wf = true) (h3 : (Lit.int .i64 c).wf = true) (h4 : (Lit.int .i64 d).wf = true) (h5 : (Lit.int .i64 e).wf = true) (h6 : (Lit.int .i64 f).wf = true) :
    ∃ l, keyOf Tryz.prog 47 (.agg #[.int .i64 a, .int .i64 b, .int .i64 c, .int .i64 d, .int .i64 e, .int .i64 f]) = some l := by
  have hk : Tryz.prog.keyLits (447 + 1 + 1) 47 [.int .i64 a, .int .i64 b, .int .i64 c, .int .i64 d, .int .i64 e, .int .i64 f] = some [.int .i64 a, .int .i64 b, .int .i64 c, .int .i64 d, .int .i64 e, .int .i64 f] := by
    rw [keyLits_struct Tryz.underlying47]
    simp [c47, c3, kl3 447 h1, kl3 447 h2, kl3 447 h3, kl3 447 h4, kl3 447 h5, kl3 447 h6]
  refine ⟨.string (keyBytes [.int .i64 a, .int .i64 b, .int .i64 c, .int .i64 d, .int .i64 e, .int .i64 f]), ?_⟩
  unfold keyOf
  simp only [Tryz.underlying47, kt47, Value.formed, c47, tsz]
  have hl : (Value.agg #[Value.int IntKind.i64 a, Value.int IntKind.i64 b, Value.int IntKind.i64 c, Value.int IntKind.i64 d, Value.int IntKind.i64 e, Value.int IntKind.i64 f]).cells.toList = [.int .i64 a, .int .i64 b, .int .i64 c, .int .i64 d, .int .i64 e, .int .i64 f] := rfl
  rw [hl, hk]
  rfl
noncomputable def E0 (fuel : Nat) : Env := { ty := tyT.get, fn := fnT.get, glob := fun g => bif Nat.blt g 6 then some g else none, key := fun t => Nat.beq t 47 || Nat.beq t 232, fld := fun t i => match Tryz.prog.underlying t with | some (.struct fs) => (match fs[i]? with | some f => some (f.offset, f.type) | none => none) | _ => none, fuel := fuel }
theorem eOk (fuel : Nat) : EOk Tryz.prog (E0 fuel) where
  ty t ti h := tysChk_ok tyL_ok _ (tyT_mem h)
  eq t ti h he := by
    have hc := eqRows_ok (l := tyL) (by kernel_rfl) _ (tyT_mem h) he
    rcases hc with e | e <;> simp only at e
    · subst e
      have hk : tyT.get 112 = some ⟨.struct [0, 1, 2, 3], 4, 24, [(.int .u32 0), (.int .u32 0), (.int .i64 0), (.int .i64 0)], true⟩ := by kernel_rfl
      have h' : tyT.get 112 = some ti := h
      rw [hk] at h'; cases h'
      exact q112
    · subst e
      have hk : tyT.get 142 = some ⟨.struct [0, 2], 4, 16, [(.int .u32 0), (.int .u32 0), (.int .u32 0), (.int .u32 0)], true⟩ := by kernel_rfl
      have h' : tyT.get 142 = some ti := h
      rw [hk] at h'; cases h'
      exact q142
  key t ti h hk := by
    have hk' : (Nat.beq t 47 || Nat.beq t 232) = true := hk
    rw [Bool.or_eq_true] at hk'
    rcases hk' with hk' | hk' <;> obtain rfl := Nat.eq_of_beq_eq_true hk'
    · have hz : tyT.get 47 = some ⟨.struct [0, 1, 2, 3, 4, 5], 6, 48, [(.int .i64 0), (.int .i64 0), (.int .i64 0), (.int .i64 0), (.int .i64 0), (.int .i64 0)], false⟩ := by kernel_rfl
      have h' : tyT.get 47 = some ti := h
      rw [hz] at h'; cases h'
      refine ⟨key47, fun xs a ρ hi hr0 => ?_⟩
      obtain ⟨a0, x0, rfl, hi, w0⟩ := intsIn_cons hi
      obtain ⟨a1, x1, rfl, hi, w1⟩ := intsIn_cons hi
      obtain ⟨a2, x2, rfl, hi, w2⟩ := intsIn_cons hi
      obtain ⟨a3, x3, rfl, hi, w3⟩ := intsIn_cons hi
      obtain ⟨a4, x4, rfl, hi, w4⟩ := intsIn_cons hi
      obtain ⟨a5, x5, rfl, hi, w5⟩ := intsIn_cons hi
      obtain rfl := intsIn_nil hi
      obtain ⟨m0, hm, hr1⟩ := hr0.int
      obtain ⟨m1, rfl, hr2⟩ := hr1.int
      obtain ⟨m2, rfl, hr3⟩ := hr2.int
      obtain ⟨m3, rfl, hr4⟩ := hr3.int
      obtain ⟨m4, rfl, hr5⟩ := hr4.int
      obtain ⟨m5, rfl, hr6⟩ := hr5.int
      obtain rfl := hr6.none
      obtain rfl := arr_of hm
      exact lit47 w0 w1 w2 w3 w4 w5
    · have hz : tyT.get 232 = some ⟨.array 2 3, 2, 16, [(.int .i64 0), (.int .i64 0)], false⟩ := by kernel_rfl
      have h' : tyT.get 232 = some ti := h
      rw [hz] at h'; cases h'
      refine ⟨key232, fun xs a ρ hi hr0 => ?_⟩
      obtain ⟨a0, x0, rfl, hi, w0⟩ := intsIn_cons hi
      obtain ⟨a1, x1, rfl, hi, w1⟩ := intsIn_cons hi
      obtain rfl := intsIn_nil hi
      obtain ⟨m0, hm, hr1⟩ := hr0.int
      obtain ⟨m1, rfl, hr2⟩ := hr1.int
      obtain rfl := hr2.none
      obtain rfl := arr_of hm
      exact lit232 w0 w1
  fld t i p h := by
    have h' : (match Tryz.prog.underlying t with | some (.struct fs) => (match fs[i]? with | some f => some (f.offset, f.type) | none => none) | _ => none) = some p := h
    split at h'
    · rename_i fs hu
      split at h'
      · rename_i f hf
        cases h'
        exact ⟨fs, f, hu, hf, rfl⟩
      · cases h'
    · cases h'
  fn f fi h := by
    have h' : fnT.get f = some fi := h
    rw [fnT_eq] at h'
    exact fnL_ok.mem _ (mkT_mem h')
  mixed := by kernel_rfl
end Go.Rf
