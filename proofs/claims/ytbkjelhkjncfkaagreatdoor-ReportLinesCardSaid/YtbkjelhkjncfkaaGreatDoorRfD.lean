/-
  Numbers, texts, and the other operations that only compute: the evaluator against the model. No statement of the program is claimed here.
-/
import Derived.Test.YtbkjelhkjncfkaaGreatDoorRfC
import Derived.Lib.Strings
import Derived.Laws.StructEq
import Derived.WalkSpells
namespace Go.Rf

/-! ### Whole numbers -/
theorem wrapF_eq (k : IntKind) (n : Int) : wrapF k n = k.wrap n := by
  have e : ∀ m : Int, Int.emod n m = n % m := fun _ => rfl
  cases k <;> simp only [wrapF, IntKind.wrap, IntKind.bits, IntKind.signed, e, Bool.cond_decide] <;> simp
theorem bitsN_eq (k : IntKind) (n : Int) : (BitVec.ofInt k.bits n).toNat = bitsN k n := by
  have e : ∀ m : Int, Int.emod n m = n % m := fun _ => rfl
  cases k <;> simp [bitsN, IntKind.bits, BitVec.toNat_ofInt, e]
theorem fullN_eq (k : IntKind) : 2 ^ k.bits - 1 = fullN k := by cases k <;> rfl
theorem eqQ_eq (a b : Int) : eqQ a b = decide (a = b) := by
  cases a <;> cases b <;> simp only [eqQ] <;> (rw [Bool.eq_iff_iff]; simp; try omega)
theorem ltQ_eq (a b : Int) : ltQ a b = decide (a < b) := by
  cases a <;> cases b <;> simp only [ltQ, Nat.blt] <;> (rw [Bool.eq_iff_iff]; simp; try omega)
theorem leQ_eq (a b : Int) : leQ a b = decide (a ≤ b) := by
  cases a <;> cases b <;> simp only [leQ] <;> (rw [Bool.eq_iff_iff]; simp; try omega)
theorem addQ_eq (a b : Int) : addQ a b = a + b := by cases a <;> cases b <;> rfl
theorem subQ_eq (a b : Int) : subQ a b = a - b := by
  cases a <;> cases b <;> try rfl
  rename_i m n
  show (bif Nat.ble n m then Int.ofNat (Nat.sub m n) else Int.sub (Int.ofNat m) (Int.ofNat n)) = _
  cases h : Nat.ble n m with
  | false => rfl
  | true =>
    have := Nat.le_of_ble_eq_true h
    rw [cond_true]
    simp only [Int.ofNat_eq_natCast, Nat.sub_eq]
    omega
theorem mulQ_eq (a b : Int) : mulQ a b = a * b := by cases a <;> cases b <;> rfl
theorem wrapQ_eq (k : IntKind) (n : Int) : wrapQ k n = wrapF k n := by
  have e : ∀ x m : Int, Int.emod x m = x % m := fun _ _ => rfl
  have e2 : ∀ a b : Nat, Nat.mod a b = a % b := fun _ _ => rfl
  have key : ∀ (b : Bool) (x y z : Int), (b = true → x = z) → (b = false → y = z) → (bif b then x else y) = z := fun b x y z h1 h2 => by cases b; exact h2 rfl; exact h1 rfl
  cases k <;> cases n <;> simp only [wrapQ]
  all_goals refine key _ _ _ _ (fun h => ?_) (fun h => ?_)
  all_goals try (with_reducible rfl)
  all_goals try rw [Nat.blt_eq] at h
  all_goals simp only [wrapF, e, e2, Bool.cond_decide, Int.ofNat_eq_natCast]
  all_goals try (split <;> omega)
  all_goals omega
theorem bitsQ_eq (k : IntKind) (n : Int) : bitsQ k n = bitsN k n := by
  cases n with
  | ofNat m => cases k <;> rfl
  | negSucc m => rfl
theorem fdivQ_eq (a : Int) (n : Nat) : fdivQ a n = Int.fdiv a (Int.ofNat n) := by
  cases a with
  | ofNat m => show Int.ofNat (m / n) = _; simp [Int.fdiv_eq_ediv]
  | negSucc m => rfl
theorem sameK_eq {k k' : IntKind} (h : sameK k k' = true) : k = k' := by cases k <;> cases k' <;> first | rfl | cases h

section
variable {P : Program} (w : World)
theorem run_shiftL (k : IntKind) (a : Int) (k' : IntKind) (b : Int) (v : V) (h : iShl k a b = some v) (t : TypeId) : ∃ c, (binOp .shl t (.int k a) (.int k' b)).run P w = .ok c w ∧ ∀ ρ, RV ρ v c := by
  unfold iShl at h
  obtain ⟨h0, h⟩ := bif_some h
  rw [leQ_eq] at h0
  have h0 : 0 ≤ b := of_decide_eq_true h0
  cases h
  refine ⟨.int k (k.wrap (a * 2 ^ (min b.toNat k.bits))), ?_, fun ρ => ?_⟩
  · simp only [binOp, Op.shift, if_neg (show ¬ b < 0 by omega)]; rfl
  · rw [wrapQ_eq, mulQ_eq, wrapF_eq]
    have : (Int.ofNat (Nat.pow 2 (min b.toNat k.bits)) : Int) = 2 ^ (min b.toNat k.bits) := by simp
    rw [this]; exact .int _ _
theorem run_shiftR (k : IntKind) (a : Int) (k' : IntKind) (b : Int) (v : V) (h : iShr k a b = some v) (t : TypeId) : ∃ c, (binOp .shr t (.int k a) (.int k' b)).run P w = .ok c w ∧ ∀ ρ, RV ρ v c := by
  unfold iShr at h
  obtain ⟨h0, h⟩ := bif_some h
  rw [leQ_eq] at h0
  have h0 : 0 ≤ b := of_decide_eq_true h0
  cases h
  refine ⟨.int k (a.fdiv (2 ^ (min b.toNat k.bits))), ?_, fun ρ => ?_⟩
  · simp only [binOp, Op.shift, if_neg (show ¬ b < 0 by omega)]; rfl
  · have : (Int.ofNat (Nat.pow 2 (min b.toNat k.bits)) : Int) = 2 ^ (min b.toNat k.bits) := by simp
    rw [fdivQ_eq, this]; exact .int _ _
theorem run_binI2 (op : BinOp) (k : IntKind) (a b : Int) (v : V) (h : binI2 op k a b = some v) (t : TypeId) : ∃ c, (binOp op t (.int k a) (.int k b)).run P w = .ok c w ∧ ∀ ρ, RV ρ v c := by
  have out : ∀ {n : Int} {m : Nat}, m = n → ∀ ρ, RV ρ (.int k (wrapQ k (Int.ofNat m))) (.int k (k.wrap n)) := fun e ρ => by rw [wrapQ_eq, wrapF_eq, Int.ofNat_eq_natCast, e]; exact .int _ _
  cases op <;> simp only [binI2] at h <;> try (cases h; done)
  case add => cases h; exact ⟨.int k (k.wrap (a + b)), by simp [binOp, Op.intArith], fun ρ => by rw [wrapQ_eq, addQ_eq, wrapF_eq]; exact .int _ _⟩
  case sub => cases h; exact ⟨.int k (k.wrap (a - b)), by simp [binOp, Op.intArith], fun ρ => by rw [wrapQ_eq, subQ_eq, wrapF_eq]; exact .int _ _⟩
  case mul => cases h; exact ⟨.int k (k.wrap (a * b)), by simp [binOp, Op.intArith], fun ρ => by rw [wrapQ_eq, mulQ_eq, wrapF_eq]; exact .int _ _⟩
  case quo =>
    unfold iQuo at h
    rw [eqQ_eq] at h
    cases hb : decide (b = .ofNat 0) with
    | true => rw [hb] at h; cases h
    | false =>
      rw [hb] at h; cases h
      have hb : b ≠ 0 := of_decide_eq_false hb
      exact ⟨.int k (k.wrap (a.tdiv b)), by simp [binOp, Op.intDiv, hb], fun ρ => by rw [wrapQ_eq, wrapF_eq]; exact .int _ _⟩
  case rem =>
    unfold iRem at h
    rw [eqQ_eq] at h
    cases hb : decide (b = .ofNat 0) with
    | true => rw [hb] at h; cases h
    | false =>
      rw [hb] at h; cases h
      have hb : b ≠ 0 := of_decide_eq_false hb
      exact ⟨.int k (a.tmod b), by simp [binOp, Op.intDiv, hb], fun ρ => .int _ _⟩
  case and =>
    cases h
    exact ⟨.int k (k.wrap (BitVec.ofInt k.bits a &&& BitVec.ofInt k.bits b).toNat), by simp [binOp, Op.intBits], out (by rw [BitVec.toNat_and, bitsN_eq, bitsN_eq, bitsQ_eq, bitsQ_eq]; rfl)⟩
  case or =>
    cases h
    exact ⟨.int k (k.wrap (BitVec.ofInt k.bits a ||| BitVec.ofInt k.bits b).toNat), by simp [binOp, Op.intBits], out (by rw [BitVec.toNat_or, bitsN_eq, bitsN_eq, bitsQ_eq, bitsQ_eq]; rfl)⟩
  case xor =>
    cases h
    exact ⟨.int k (k.wrap (BitVec.ofInt k.bits a ^^^ BitVec.ofInt k.bits b).toNat), by simp [binOp, Op.intBits], out (by rw [BitVec.toNat_xor, bitsN_eq, bitsN_eq, bitsQ_eq, bitsQ_eq]; rfl)⟩
  case andNot =>
    cases h
    exact ⟨.int k (k.wrap (BitVec.ofInt k.bits a &&& ~~~(BitVec.ofInt k.bits b)).toNat), by simp [binOp, Op.intBits], out (by rw [BitVec.toNat_and, BitVec.toNat_not, bitsN_eq, bitsN_eq, fullN_eq, bitsQ_eq, bitsQ_eq]; rfl)⟩
  case eql => cases h; exact ⟨.bool (a == b), by simp [binOp, Op.intCmp], fun ρ => by rw [eqQ_eq, show (a == b) = decide (a = b) from rfl]; exact .bool _⟩
  case neq => cases h; exact ⟨.bool (a != b), by simp [binOp, Op.intCmp], fun ρ => by rw [eqQ_eq, show (a != b) = !decide (a = b) from rfl]; exact .bool _⟩
  case lss => cases h; exact ⟨.bool (a < b), by simp [binOp, Op.intCmp], fun ρ => by rw [ltQ_eq]; exact .bool _⟩
  case leq => cases h; exact ⟨.bool (a ≤ b), by simp [binOp, Op.intCmp], fun ρ => by rw [leQ_eq]; exact .bool _⟩
  case gtr => cases h; exact ⟨.bool (a > b), by simp [binOp, Op.intCmp], fun ρ => by rw [ltQ_eq]; exact .bool _⟩
  case geq => cases h; exact ⟨.bool (a ≥ b), by simp [binOp, Op.intCmp], fun ρ => by rw [leQ_eq]; exact .bool _⟩
theorem run_binI (op : BinOp) (k : IntKind) (a : Int) (k' : IntKind) (b : Int) (v : V) (h : binI op k a k' b = some v) (t : TypeId) : ∃ c, (binOp op t (.int k a) (.int k' b)).run P w = .ok c w ∧ ∀ ρ, RV ρ v c := by
  unfold binI at h
  split at h
  · exact run_shiftL w k a k' b v h t
  · exact run_shiftR w k a k' b v h t
  · obtain ⟨hk, h2⟩ := bif_some h
    clear h
    obtain rfl := sameK_eq hk
    exact run_binI2 w op k a b v h2 t
end

section
variable {P : Program} {E : Env}

/-! ### '==' and the other operators -/
theorem eqGuard_int {op : BinOp} {t : TypeId} {x y : Operand} {k k' : IntKind} {n m : Int} (w : World) : (eqGuard op t x y (.int k n) (.int k' m)).run P w = .ok () w := by cases op <;> rfl
theorem eqGuard_str {op : BinOp} {t : TypeId} {x y : Operand} {n m : ByteArray} (w : World) : (eqGuard op t x y (.string n) (.string m)).run P w = .ok () w := by cases op <;> rfl
theorem eqGuard_bool {op : BinOp} {t : TypeId} {x y : Operand} {n m : Bool} (w : World) : (eqGuard op t x y (.bool n) (.bool m)).run P w = .ok () w := by cases op <;> rfl
theorem eqGuard_sl {op : BinOp} {t : TypeId} {x y : Operand} {a b : Option Addr} {n m c d : Nat} (w : World) : (eqGuard op t x y (.slice a n c) (.slice b m d)).run P w = .ok () w := by cases op <;> rfl
theorem eqGuard_fn {op : BinOp} {t : TypeId} {x y : Operand} {a b : Value} (ha : a = .nilFunc ∨ ∃ f p q, a = .func f p q) (w : World) : (eqGuard op t x y a b).run P w = .ok () w := by
  rcases ha with rfl | ⟨f, p, q, rfl⟩ <;> cases op <;> cases b <;> rfl
theorem eqGuard_agg {op : BinOp} {t : TypeId} {x y : Operand} {a b : Array Value} (h : P.eqGuardType P.depth t = false) (w : World) : (eqGuard op t x y (.agg a) (.agg b)).run P w = .ok () w := by
  cases op <;> first | rfl | simp [eqGuard, h]

theorem eqSl_nn (d : Nat) (t e : TypeId) (h : P.underlying t = some (.slice e)) (w : World) : (Op.equalIn (d + 1) t (.slice none 0 0) (.slice none 0 0)).run P w = .ok true w := by simp [Op.equalIn, run_underlying h]
theorem eqSl_ns (d : Nat) (t e : TypeId) (h : P.underlying t = some (.slice e)) (a : Addr) (n c : Nat) (w : World) : (Op.equalIn (d + 1) t (.slice none 0 0) (.slice (some a) n c)).run P w = .ok false w := by simp [Op.equalIn, run_underlying h]
theorem eqSl_sn (d : Nat) (t e : TypeId) (h : P.underlying t = some (.slice e)) (a : Addr) (n c : Nat) (w : World) : (Op.equalIn (d + 1) t (.slice (some a) n c) (.slice none 0 0)).run P w = .ok false w := by simp [Op.equalIn, run_underlying h]
theorem eqFn_nn (d : Nat) (t : TypeId) (x y : Array TypeId) (z : Bool) (h : P.underlying t = some (.func x y z)) (w : World) : (Op.equalIn (d + 1) t .nilFunc .nilFunc).run P w = .ok true w := by simp [Op.equalIn, run_underlying h]
theorem eqFn_nf (d : Nat) (t : TypeId) (x y : Array TypeId) (z : Bool) (h : P.underlying t = some (.func x y z)) (f : Fn) (p q : Array Value) (w : World) : (Op.equalIn (d + 1) t .nilFunc (.func f p q)).run P w = .ok false w := by simp [Op.equalIn, run_underlying h]
theorem eqFn_fn (d : Nat) (t : TypeId) (x y : Array TypeId) (z : Bool) (h : P.underlying t = some (.func x y z)) (f : Fn) (p q : Array Value) (w : World) : (Op.equalIn (d + 1) t (.func f p q) .nilFunc).run P w = .ok false w := by simp [Op.equalIn, run_underlying h]

/-- What the evaluator says of '==', the model says. -/
theorem eqV_ok (hE : EOk P E) {ρ : Rho} {t : TypeId} {x y : V} {a b : Value} (hx : RV ρ x a) (hy : RV ρ y b) {r : Bool} (h : eqV E t x y = some r) (w : World) :
    (Op.equal t a b).run P w = .ok r w ∧ (∀ op p q, (eqGuard op t p q a b).run P w = .ok () w) ∧ binOp .eql t a b = (do pure (.bool (← Op.equal t a b)) : Sem Value) ∧ binOp .neq t a b = (do pure (.bool (!(← Op.equal t a b))) : Sem Value) := by
  unfold eqV at h
  obtain ⟨ti, hti, h⟩ := bindO_some h
  obtain ⟨d, hd, hk⟩ := (hE.ty t ti hti).under
  unfold KOk at hk
  unfold eqK at h
  generalize ti.k = k at h hk
  split at h
  · obtain rfl : d = .bool := hk
    cases hx; cases hy; cases h
    exact ⟨run_equalIn_bool' w 9999 t _ _ hd, fun op p q => eqGuard_bool w, rfl, rfl⟩
  · obtain ⟨e, rfl⟩ : ∃ e, d = .slice e := ⟨_, hk⟩
    cases hx; cases hy; cases h
    exact ⟨eqSl_nn 9999 t _ hd w, fun op p q => eqGuard_sl w, rfl, rfl⟩
  · obtain ⟨e, rfl⟩ : ∃ e, d = .slice e := ⟨_, hk⟩
    cases hx; cases hy; cases h
    exact ⟨eqSl_ns 9999 t _ hd _ _ _ w, fun op p q => eqGuard_sl w, rfl, rfl⟩
  · obtain ⟨e, rfl⟩ : ∃ e, d = .slice e := ⟨_, hk⟩
    cases hx; cases hy; cases h
    exact ⟨eqSl_sn 9999 t _ hd _ _ _ w, fun op p q => eqGuard_sl w, rfl, rfl⟩
  · obtain ⟨e, rfl⟩ : ∃ e, d = .slice e := ⟨_, hk⟩
    cases hx; cases hy; cases h
    exact ⟨eqSl_ns 9999 t _ hd _ _ _ w, fun op p q => eqGuard_sl w, rfl, rfl⟩
  · obtain ⟨e, rfl⟩ : ∃ e, d = .slice e := ⟨_, hk⟩
    cases hx; cases hy; cases h
    exact ⟨eqSl_sn 9999 t _ hd _ _ _ w, fun op p q => eqGuard_sl w, rfl, rfl⟩
  · obtain ⟨_, _, _, rfl⟩ : ∃ a b c, d = .func a b c := hk
    cases hx; cases hy; cases h
    exact ⟨eqFn_nn 9999 t _ _ _ hd w, fun op p q => eqGuard_fn (.inl rfl) w, rfl, rfl⟩
  · obtain ⟨_, _, _, rfl⟩ : ∃ a b c, d = .func a b c := hk
    cases hx; cases hy; cases h
    exact ⟨eqFn_nf 9999 t _ _ _ hd _ _ _ w, fun op p q => eqGuard_fn (.inl rfl) w, rfl, rfl⟩
  · obtain ⟨_, _, _, rfl⟩ : ∃ a b c, d = .func a b c := hk
    cases hx; cases hy; cases h
    exact ⟨eqFn_fn 9999 t _ _ _ hd _ _ _ w, fun op p q => eqGuard_fn (.inr ⟨_, _, _, rfl⟩) w, rfl, rfl⟩
  · obtain ⟨he, h⟩ := bif_some h
    cases hx with | agg hxs => cases hy with | agg hys =>
    obtain ⟨h1, h2⟩ := hE.eq t ti hti he _ _ _ _ ρ r w h hxs hys
    exact ⟨h1, fun op p q => eqGuard_agg h2 w, rfl, rfl⟩
  · cases h

/-- A binary operator. -/
theorem binV_ok (hE : EOk P E) {ρ : Rho} {op : BinOp} {t : TypeId} {x y : V} {a b : Value} (hx : RV ρ x a) (hy : RV ρ y b) {v : V} (h : binV E op t x y = some v) (p q : Operand) (w : World) :
    ∃ c, (do eqGuard op t p q a b; binOp op t a b : Sem Value).run P w = .ok c w ∧ RV ρ v c := by
  unfold binV at h
  split at h
  · cases hx; cases hy
    obtain ⟨c, h1, h2⟩ := run_binI (P := P) w op _ _ _ _ v h t
    exact ⟨c, by rw [Sem.run_bind, eqGuard_int, Result.andThen_ok, h1], h2 ρ⟩
  · cases hx; cases hy
    cases op <;> simp only at h <;> try (cases h; done)
    · rename_i s1 s2
      obtain ⟨q, h⟩ := bif_some h
      rw [Nat.ble_eq] at q
      have q2 : s1.size + s2.size ≤ 9223372036854775807 := q
      have q' : ¬ (9223372036854775807 < (s1.size : Int) + (s2.size : Int)) := by omega
      cases h; exact ⟨.string (s1 ++ s2), by rw [Sem.run_bind, eqGuard_str, Result.andThen_ok]; simp [binOp, Op.stringOp, q'], .str _⟩
    · cases h; exact ⟨_, by rw [Sem.run_bind, eqGuard_str, Result.andThen_ok]; simp [binOp, Op.stringOp]; rfl, by rw [← Lib.toList_data, ← Lib.toList_data]; exact .bool _⟩
    · cases h; exact ⟨_, by rw [Sem.run_bind, eqGuard_str, Result.andThen_ok]; simp [binOp, Op.stringOp]; rfl, by rw [← Lib.toList_data, ← Lib.toList_data]; exact .bool _⟩
  · unfold eqOp at h
    split at h
    · cases he : eqV E t x y with
      | none => rw [he] at h; cases h
      | some r =>
        rw [he] at h; cases h
        obtain ⟨h1, h2, h3, _⟩ := eqV_ok hE hx hy he w
        exact ⟨.bool r, by rw [Sem.run_bind, h2, Result.andThen_ok, h3, Sem.run_bind, h1]; rfl, .bool _⟩
    · cases he : eqV E t x y with
      | none => rw [he] at h; cases h
      | some r =>
        rw [he] at h; cases h
        obtain ⟨h1, h2, _, h3⟩ := eqV_ok hE hx hy he w
        exact ⟨.bool !r, by rw [Sem.run_bind, h2, Result.andThen_ok, h3, Sem.run_bind, h1]; rfl, .bool _⟩
    · cases h

/-- An operator of one operand. -/
theorem unV_ok {ρ : Rho} {op : UnOp} {x : V} {a : Value} (hx : RV ρ x a) {v : V} (h : unV op x = some v) (w : World) : ∃ c, (Op.unary op a).run P w = .ok c w ∧ RV ρ v c := by
  unfold unV at h
  split at h
  · cases hx
    rename_i k n
    cases op <;> simp only at h <;> try (cases h; done)
    · cases h; exact ⟨.int k (k.wrap (0 - n)), by simp [Op.unary, Op.intArith], by rw [wrapQ_eq, subQ_eq, wrapF_eq]; exact .int _ _⟩
    · cases h
      refine ⟨.int k (k.wrap (BitVec.ofInt k.bits (if k.signed then -1 else k.max) ^^^ BitVec.ofInt k.bits n).toNat), by simp [Op.unary, Op.intBits], ?_⟩
      have hb : BitVec.ofInt k.bits (if k.signed then -1 else k.max) = BitVec.allOnes k.bits := by cases k <;> rfl
      rw [wrapQ_eq, bitsQ_eq, wrapF_eq, hb, BitVec.allOnes_xor, BitVec.toNat_not, bitsN_eq, fullN_eq]
      exact .int _ _
  · cases hx
    cases op <;> simp only at h <;> try (cases h; done)
    cases h
    exact ⟨_, rfl, .bool _⟩
  · cases h

/-- A conversion of whole numbers. -/
theorem convV_ok (hE : EOk P E) {ρ : Rho} {src dst : TypeId} {x : V} {a : Value} (hx : RV ρ x a) {v : V} (h : convV E dst x = some v) (w : World) {d : TypeDesc} (hs : P.underlying src = some d) : ∃ c, (convert src dst a).run P w = .ok c w ∧ RV ρ v c := by
  unfold convV at h
  split at h
  · cases hx
    rename_i n
    split at h
    · rename_i k _ _ _ _ hti
      cases h
      obtain ⟨d', hd', hk⟩ := (hE.ty _ _ hti).under
      obtain rfl : d' = .int k := hk
      refine ⟨.int k (k.wrap n), ?_, by rw [wrapQ_eq, wrapF_eq]; exact .int _ _⟩
      simp [convert, run_underlying hs, run_underlying hd', Conv.intToInt]
    · cases h
  · cases h
end

end Go.Rf
