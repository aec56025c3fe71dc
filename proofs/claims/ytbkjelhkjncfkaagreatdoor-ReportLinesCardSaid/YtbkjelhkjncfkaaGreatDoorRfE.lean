/-
  The operations on memory: the evaluator against the model. No statement of the program is claimed here.
-/
import Derived.Test.YtbkjelhkjncfkaaGreatDoorRfD
namespace Go.Rf
theorem natOf_some {ρ : Rho} {x : V} {c : Value} (hx : RV ρ x c) {n : Nat} (h : natOf x = some n) : ∃ k, c = .int k (n : Int) := by
  unfold natOf at h
  split at h
  · cases hx
    rename_i m
    cases m with
    | ofNat m => cases h; exact ⟨_, rfl⟩
    | negSucc m => cases h
  · cases h
inductive RO (ρ : Rho) : Option V → Option Value → Prop
  | none : RO ρ none none
  | some {v : V} {c : Value} (h : RV ρ v c) : RO ρ (some v) (some c)

section
variable {P : Program} {E : Env}
theorem evO_ok {ρ : Rho} {tm : T V} {a : Act} (h : TR ρ tm a) (hg : GOk E ρ) (x : Option Operand) : RO ρ (evO E tm x) (x.map a.eval) := by
  cases x with
  | none => exact .none
  | some x => exact .some (ev_ok h hg x)
theorem bound_ok {ρ : Rho} {x : Option V} {y : Option Value} (h : RO ρ x y) {d n : Nat} (hb : bound x d = some n) : (y = none ∧ n = d) ∨ ∃ k, y = some (.int k (n : Int)) := by
  cases h with
  | none => cases hb; exact .inl ⟨rfl, rfl⟩
  | some h => obtain ⟨k, rfl⟩ := natOf_some h hb; exact .inr ⟨k, rfl⟩

/-- The bounds of a slice expression. -/
theorem bounds_ok {ρ : Rho} {lo hi mx : Option V} {lo' hi' mx' : Option Value} (h1 : RO ρ lo lo') (h2 : RO ρ hi hi') (h3 : RO ρ mx mx') {len cap l h m : Nat} (isSlice : Bool)
    (hl : bound lo 0 = some l) (hh : bound hi len = some h) (hm : bound mx cap = some m) (k1 : l ≤ h) (k2 : h ≤ m) (k3 : m ≤ cap) (k4 : mx.isSome = true → hi.isSome = true) (w : World) :
    (Instr.sliceBounds isSlice len cap lo' hi' mx').run P w = .ok (l, h, m) w := by
  have sb : ∀ (k : IntKind) (n y : Nat) (code : BoundsCode), n ≤ y → (Instr.sliceBound (.int k (n : Int)) y code).run P w = .ok n w := fun k n y code hn => by
    rw [run_sliceBound w k n y code (by omega) (by omega)]; simp
  cases h3 with
  | none =>
    cases hm
    rcases bound_ok h2 hh with ⟨rfl, rfl⟩ | ⟨kh, rfl⟩ <;> rcases bound_ok h1 hl with ⟨rfl, rfl⟩ | ⟨kl, rfl⟩ <;> simp [Instr.sliceBounds, sb, k1, k2]
  | some h3 =>
    obtain ⟨km, rfl⟩ := natOf_some h3 hm
    cases h2 with
    | none => simp at k4
    | some h2 =>
      obtain ⟨kh, rfl⟩ := natOf_some h2 hh
      rcases bound_ok h1 hl with ⟨rfl, rfl⟩ | ⟨kl, rfl⟩ <;> simp [Instr.sliceBounds, sb, k1, k2, k3]

theorem sliceSl_ok {ρ : Rho} {size b o len cap : Nat} {ex : Bool} {lo hi mx : Option V} {lo' hi' mx' : Option Value} (h1 : RO ρ lo lo') (h2 : RO ρ hi hi') (h3 : RO ρ mx mx') {c : Value} (hc : RV ρ (.sl b o len cap ex) c)
    {v : V} (h : sliceSl size b o len cap ex lo hi mx = some v) {t e : TypeId} (ht : P.underlying t = some (.slice e)) (he : ∀ w, (sizeOf e).run P w = .ok size w) (w : World) :
    ∃ c', (Instr.slice t c lo' hi' mx').run P w = .ok c' w ∧ RV ρ v c' := by
  cases hc with | sl hb hl hex hf =>
  rename_i g n cc
  unfold sliceSl at h
  obtain ⟨hh, hhv, h⟩ := bindO_some h
  obtain ⟨ll, llv, h⟩ := bindO_some h
  obtain ⟨hc1, h⟩ := bif_some h
  simp only [Bool.and_eq_true, Nat.ble_eq] at hc1
  obtain ⟨k1, k2⟩ := hc1
  have htop : (bif ex then cap else len) ≤ cc := by cases ex with
    | true => exact Nat.le_of_eq (hex rfl).symm
    | false => exact hl
  have hrun : ∀ mm, bound mx cc = some mm → hh ≤ mm → mm ≤ cc → (mx.isSome = true → hi.isSome = true) →
      (Instr.slice t (.slice (some ⟨g, o + n.1, none⟩) len cc) lo' hi' mx').run P w = .ok (.slice (if mm = ll then some ⟨g, o + n.1, none⟩ else some ⟨g, o + ll * size + n.1, none⟩) (hh - ll) (mm - ll)) w := fun mm hm q1 q2 q3 => by
    have hbd := bounds_ok (P := P) h1 h2 h3 (len := len) (cap := cc) true llv hhv hm k1 q1 q2 q3 w
    simp only [Instr.slice, Sem.run_bind, run_underlying ht, Result.andThen_ok, hbd, he, Sem.run_pure]
    by_cases e : mm = ll <;> simp [e, add_at, Nat.add_right_comm]
  cases h3 with
  | none =>
    have hr := hrun cc rfl (Nat.le_trans k2 htop) (Nat.le_refl _) (by simp)
    refine ⟨_, hr, ?_⟩
    cases ex with
    | true =>
      simp only [cond_true] at h
      obtain ⟨q, h⟩ := bif_some h
      cases h
      have hcc := hex rfl
      subst hcc
      simp only [Bool.or_eq_true, Nat.beq_eq, Nat.blt_eq] at q
      have : (if cc = ll then some (⟨g, o + n.1, none⟩ : Addr) else some ⟨g, o + ll * size + n.1, none⟩) = some ⟨g, o + ll * size + n.1, none⟩ := by
        split
        · rename_i e
          rcases q with q | q
          · rw [q, Nat.zero_mul, Nat.add_zero]
          · omega
        · rfl
      rw [this]
      exact .sl hb (by simp only [cond_true] at k2; omega) (fun _ => rfl) (fun e => by cases e)
    | false =>
      simp only [cond_false] at h k2
      rcases Bool.eq_false_or_eq_true (Nat.beq ll 0 || (Nat.blt ll len && Nat.beq size cap)) with q | q
      case inr =>
        rw [q, cond_false] at h
        obtain ⟨q2, h⟩ := bif_some h
        cases h
        simp only [Nat.ble_eq] at q2
        have e0 : hh - ll = 0 := by omega
        rw [e0]
        split
        · exact .esl _ _
        · exact .esl _ _
      rw [q, cond_true] at h
      cases h
      simp only [Bool.or_eq_true, Bool.and_eq_true, Nat.beq_eq, Nat.blt_eq] at q
      have hff := hf rfl
      have : (if cc = ll then some (⟨g, o + n.1, none⟩ : Addr) else some ⟨g, o + ll * size + n.1, none⟩) = some ⟨g, o + ll * size + n.1, none⟩ := by
        split
        · rename_i e
          rcases q with q | q
          · rw [q, Nat.zero_mul, Nat.add_zero]
          · omega
        · rfl
      rw [this]
      refine .sl hb (by omega) (fun e => by cases e) (fun _ => ?_)
      rcases q with q | ⟨q1, q2⟩
      · rw [q, Nat.zero_mul, Nat.add_zero, Nat.sub_zero]; exact hff
      · subst q2
        have e1 : cc = ll + (cc - ll) := by omega
        have e2 : cc * size = ll * size + (cc - ll) * size := by
          conv => lhs; rw [e1]
          exact Nat.add_mul _ _ _
        omega
  | some h3 =>
    simp only at h
    obtain ⟨mm, hmv, h⟩ := bindO_some h
    obtain ⟨q, h⟩ := bif_some h
    cases h
    simp only [Bool.and_eq_true, Bool.or_eq_true, Nat.ble_eq, Nat.beq_eq, Nat.blt_eq] at q
    obtain ⟨⟨⟨q1, q2⟩, q3⟩, q4⟩ := q
    have hr := hrun mm hmv q1 (Nat.le_trans q2 htop) (fun _ => q4)
    refine ⟨_, hr, ?_⟩
    have : (if mm = ll then some (⟨g, o + n.1, none⟩ : Addr) else some ⟨g, o + ll * size + n.1, none⟩) = some ⟨g, o + ll * size + n.1, none⟩ := by
      split
      · rename_i e
        rcases q3 with q | q
        · rw [q, Nat.zero_mul, Nat.add_zero]
        · omega
      · rfl
    rw [this]
    exact .sl hb (by omega) (fun _ => rfl) (fun e => by cases e)

/-- A slice expression. -/
theorem sliceV_ok (hE : EOk P E) {ρ : Rho} {t : TypeId} {x : V} {c : Value} (hx : RV ρ x c) {lo hi mx : Option V} {lo' hi' mx' : Option Value} (h1 : RO ρ lo lo') (h2 : RO ρ hi hi') (h3 : RO ρ mx mx')
    {v : V} (h : sliceV E t x lo hi mx = some v) (w : World) : ∃ c', (Instr.sliceAt t c lo' hi' mx').run P w = .ok c' w ∧ RV ρ v c' := by
  unfold sliceV at h
  split at h
  · rename_i s _ _ _ _ hti
    obtain ⟨d, hd, hk⟩ := (hE.ty _ _ hti).under
    obtain rfl : d = .string := hk
    cases hx
    have hat : ∀ a b c, (Instr.sliceAt t (.string s) a b c).run P w = (Instr.slice t (.string s) a b c).run P w := fun a b c => run_sliceAt_string w t _ _ _ _ hd
    cases h3 with
    | some h3 => cases h
    | none =>
      simp only at h
      unfold sliceStr at h
      obtain ⟨hh, hhv, h⟩ := bindO_some h
      obtain ⟨ll, llv, h⟩ := bindO_some h
      obtain ⟨q, h⟩ := bif_some h
      cases h
      simp only [Bool.and_eq_true, Nat.ble_eq] at q
      have hbd := bounds_ok (P := P) h1 h2 (.none (ρ := ρ)) (len := s.size) (cap := s.size) (m := s.size) false llv hhv rfl q.1 q.2 (Nat.le_refl _) (by simp) w
      refine ⟨.string (s.extract ll hh), ?_, .str _⟩
      rw [hat]
      simp [Instr.slice, run_underlying hd, hbd]
  · rename_i e _ _ _ _ hti
    obtain ⟨d, hd, hk⟩ := (hE.ty _ _ hti).under
    obtain rfl : d = .slice e := hk
    cases hx
    have hat : ∀ a b c, (Instr.sliceAt t (.slice none 0 0) a b c).run P w = (Instr.slice t (.slice none 0 0) a b c).run P w := fun a b c => by simp [Instr.sliceAt, run_underlying hd]
    obtain ⟨te, hte, h⟩ := bindO_some h
    unfold sliceNil at h
    obtain ⟨hh, hhv, h⟩ := bindO_some h
    obtain ⟨ll, llv, h⟩ := bindO_some h
    obtain ⟨mm, mmv, h⟩ := bindO_some h
    obtain ⟨q, h⟩ := bif_some h
    cases h
    simp only [Bool.and_eq_true, Nat.beq_eq, Bool.or_eq_true] at q
    obtain ⟨⟨⟨rfl, rfl⟩, rfl⟩, q⟩ := q
    have hbd := bounds_ok (P := P) h1 h2 h3 (len := 0) (cap := 0) true llv hhv mmv (Nat.le_refl _) (Nat.le_refl _) (Nat.le_refl _) (fun hs => q.resolve_left (by cases mx <;> simp_all)) w
    refine ⟨.slice none 0 0, ?_, .nilSl⟩
    rw [hat]
    simp [Instr.slice, run_underlying hd, hbd, (hE.ty _ _ hte).size w]
  · rename_i e _ _ _ _ hti
    obtain ⟨d, hd, hk⟩ := (hE.ty _ _ hti).under
    obtain rfl : d = .slice e := hk
    obtain ⟨te, hte, h⟩ := bindO_some h
    obtain ⟨c', r1, r2⟩ := sliceSl_ok h1 h2 h3 hx h hd (fun w => (hE.ty _ _ hte).size w) w
    refine ⟨c', ?_, r2⟩
    rw [← r1]
    simp [Instr.sliceAt, run_underlying hd]
  · cases h

/-! ### Addresses and parts -/
theorem natOf_int {ρ : Rho} {x : V} {c : Value} (hx : RV ρ x c) {n : Nat} (h : natOf x = some n) : ∃ k, (asIntOf c) = (pure (k, (n : Int)) : Sem (IntKind × Int)) := by
  obtain ⟨k, rfl⟩ := natOf_some hx h
  exact ⟨k, rfl⟩
theorem indexAddrV_ok (hE : EOk P E) {ρ : Rho} {t : TypeId} {x i : V} {a b : Value} (hx : RV ρ x a) (hi : RV ρ i b) {v : V} (h : indexAddrV E t x i = some v) (w : World) :
    ∃ c, (Instr.indexAt t a b).run P w = .ok c w ∧ RV ρ v c := by
  unfold indexAddrV at h
  cases hn : natOf i with
  | none => rw [hn] at h; cases h
  | some m =>
    simp only [hn] at h
    obtain ⟨k, rfl⟩ := natOf_some hi hn
    split at h
    · rename_i b o n e _ _ _ _ hti
      obtain ⟨d, hd, hk⟩ := (hE.ty _ _ hti).under
      obtain rfl : d = .array n e := hk
      cases hx with | @ptr _ _ g sh hb =>
      cases he : E.ty e with
      | none => simp only [he] at h; cases h
      | some te =>
        simp only [he] at h
        obtain ⟨q, h⟩ := bif_some h
        cases h
        simp only [Nat.blt_eq] at q
        refine ⟨.pointer (some ⟨g, o + m * te.size + sh.1, none⟩), ?_, .ptr hb⟩
        simp [Instr.indexAt, asIntOf, run_underlying hd, Instr.sureAddr, (hE.ty _ _ he).size w, add_at, q, Nat.add_right_comm]
    · rename_i b o len cap ex e _ _ _ _ hti
      obtain ⟨d, hd, hk⟩ := (hE.ty _ _ hti).under
      obtain rfl : d = .slice e := hk
      cases hx with | @sl _ _ _ _ g sh c _ hb hl hex hf =>
      cases he : E.ty e with
      | none => simp only [he] at h; cases h
      | some te =>
        simp only [he] at h
        obtain ⟨q, h⟩ := bif_some h
        cases h
        simp only [Nat.blt_eq] at q
        refine ⟨.pointer (some ⟨g, o + m * te.size + sh.1, none⟩), ?_, .ptr hb⟩
        simp [Instr.indexAt, asIntOf, run_underlying hd, (hE.ty _ _ he).size w, add_at, q, Nat.add_right_comm]
    · cases h
theorem indexV_ok (hE : EOk P E) {ρ : Rho} {t : TypeId} {x i : V} {a b : Value} (hx : RV ρ x a) (hi : RV ρ i b) {v : V} (h : indexV E t x i = some v) (w : World) :
    ∃ c, (Instr.index t a b).run P w = .ok c w ∧ RV ρ v c := by
  unfold indexV at h
  cases hn : natOf i with
  | none => rw [hn] at h; cases h
  | some m =>
    simp only [hn] at h
    obtain ⟨k, rfl⟩ := natOf_some hi hn
    split at h
    · rename_i n e _ _ _ _ hti
      obtain ⟨d, hd, hk⟩ := (hE.ty _ _ hti).under
      obtain rfl : d = .array n e := hk
      cases hx with | agg hl =>
      cases he : E.ty e with
      | none => simp only [he] at h; cases h
      | some te =>
        simp only [he] at h
        obtain ⟨q, h⟩ := bif_some h
        simp only [Nat.blt_eq] at q
        rw [dropN_eq] at h
        obtain ⟨c, r1, r2⟩ := part_ok (hE.ty _ _ he) w hl h
        refine ⟨c, ?_, r2⟩
        simp [Instr.index, asIntOf, run_underlying hd, (hE.ty _ _ he).size w, q, r1]
    · rename_i s _ _ _ _ hti
      obtain ⟨d, hd, hk⟩ := (hE.ty _ _ hti).under
      obtain rfl : d = .string := hk
      cases hx
      cases hs : s.data[m]? with
      | none => simp only [hs] at h; cases h
      | some y =>
        simp only [hs] at h
        cases h
        refine ⟨.int .u8 y.toNat, ?_, .int _ _⟩
        have hs' : s[m]? = some y := by
          obtain ⟨hlt, he⟩ := Array.getElem?_eq_some_iff.1 hs
          exact getElem?_eq_some_iff.2 ⟨hlt, he⟩
        simp [Instr.index, asIntOf, run_underlying hd, hs']
    · cases h
theorem fieldV_ok (hE : EOk P E) {ρ : Rho} {t : TypeId} {x : V} {a : Value} (hx : RV ρ x a) {f : Nat} {v : V} (h : fieldV x (E.ty t) f = some v) (w : World) :
    ∃ c, (Instr.fieldAt t a f).run P w = .ok c w ∧ RV ρ v c := by
  unfold fieldV at h
  split at h
  · rename_i b o offs _ _ _ _ hti
    obtain ⟨d, hd, hk⟩ := (hE.ty _ _ hti).under
    obtain ⟨fs, rfl, ho, hf⟩ : ∃ fs, d = .struct fs ∧ fs.toList.map (·.offset) = offs ∧ _ := hk
    cases hx with | @ptr _ _ g sh hb =>
    cases hd' : offs[f]? with
    | none => simp only [hd'] at h; cases h
    | some dd =>
      simp only [hd'] at h
      cases h
      rw [← ho] at hd'
      obtain ⟨fl, hfl, rfl⟩ : ∃ fl, fs[f]? = some fl ∧ fl.offset = dd := by
        simpa using hd'
      obtain ⟨j, hj, hj0, _⟩ := hf f fl hfl
      refine ⟨.pointer (some ⟨g, o + fl.offset + sh.1, none⟩), ?_, .ptr hb⟩
      simp [Instr.fieldAt, run_underlying hd, hfl, Instr.sureAddr, fieldPlace, sizeOf, typeInfo, hj, hj0, add_at, Nat.add_right_comm]
  · cases h
theorem extractV_ok {ρ : Rho} {x : V} {a : Value} (hx : RV ρ x a) {i : Nat} {v : V} (h : extractV x i = some v) (w : World) : ∃ c, (Instr.extract a i).run P w = .ok c w ∧ RV ρ v c := by
  unfold extractV at h
  split at h
  · cases hx with | tup hl =>
    rw [nth_eq] at h
    obtain ⟨c, h1, h2⟩ := hl.get i v h
    refine ⟨c, ?_, h2⟩
    have h1' := h1
    rw [Array.getElem?_toList] at h1'
    simp [Instr.extract, h1']
  · cases h
theorem loadV_ok (hE : EOk P E) {ρ : Rho} {hp : Hp} {nx : Nat} {w : World} (hr : HR ρ hp nx w) {t : TypeId} {x : V} {a : Value} (hx : RV ρ x a) {v : V} (h : loadV hp x (E.ty t) = some v) :
    ∃ c, (Instr.loadAt t a).run P w = .ok c w ∧ RV ρ v c := by
  unfold loadV at h
  split at h
  · rename_i hti
    cases hx with | ptr hb =>
    split at h
    · rename_i cs hrd
      obtain ⟨ds, h1, h2⟩ := rdFrom_some hr hrd hb
      obtain ⟨c, h3, h4⟩ := loadVar_ok (P := P) (hE.ty _ _ hti) h1 h2 h
      exact ⟨c, by simp [Instr.loadAt, Instr.sureAddr, h3], h4⟩
    · cases h
  · cases h
theorem storeV_ok (hE : EOk P E) {w0 w : World} {M0 : Nat → Prop} {ρ : Rho} {hp hp' : Hp} {nx : Nat} (hI : Inv E w0 M0 ρ hp nx w) {t : TypeId} {x y : V} {a b : Value} (hx : RV ρ x a) (hy : RV ρ y b)
    {cs : List V} (hc : y.cellsO = some cs) (h : storeV hp x (E.ty t) cs = some hp') : ∃ w', (Instr.storeAt t a b).run P w = .ok () w' ∧ Inv E w0 M0 ρ hp' nx w' := by
  unfold storeV at h
  split at h
  · rename_i ti hti
    cases hx with | ptr hb =>
    obtain ⟨q, h⟩ := bif_some h
    simp only [Bool.and_eq_true, Nat.beq_eq] at q
    have hcs := hy.cells hc
    obtain ⟨w', h1, h2⟩ := storeTo_ok (P := P) hI h hb hcs (hcs.one q.2)
    refine ⟨w', ?_, h2⟩
    have hlen : b.cells.size = ti.size := by rw [← q.1, hcs.length, Array.length_toList]
    simp [Instr.storeAt, Instr.sureAddr, storeVar, (hE.ty _ _ hti).size w, hlen, h1]
  · cases h
end
end Go.Rf
