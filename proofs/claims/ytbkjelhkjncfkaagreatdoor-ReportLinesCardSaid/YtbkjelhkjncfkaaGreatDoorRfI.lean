/-
  Lengths, greatest and least, clear, and every operation but the calls: the evaluator against the model. No statement of the program is claimed here.
-/
import Derived.Test.YtbkjelhkjncfkaaGreatDoorRfH
namespace Go.Rf
section
variable {P : Program} {E : Env}

theorem lenV_ok (hE : EOk P E) {ρ : Rho} (w : World) {t ty : TypeId} {ts : List TypeId} {x : V} {a : Value} {as : List Value} (hx : RV ρ x a) {v : V} (h : lenV E (E.ty t) x = some v) :
    ∃ c, (Builtin.len_ (t :: ts).toArray ty (a :: as).toArray).run P w = .ok c w ∧ RV ρ v c := by
  unfold lenV at h
  split at h
  · rename_i hti
    obtain ⟨d, hd, hk⟩ := (hE.ty _ _ hti).under
    unfold KOk at hk; cases hk
    cases x with
    | nilSl => cases h; cases hx; exact ⟨.int .i64 0, by simp [Builtin.len_, run_underlying hd, goInt], .int _ _⟩
    | sl b o n cap ex =>
      cases h
      obtain ⟨g, m, c, rfl, _⟩ := hx.sl_inv
      exact ⟨.int .i64 _, by simp [Builtin.len_, run_underlying hd, goInt], .int _ _⟩
    | esl => cases h; cases hx; exact ⟨.int .i64 0, by simp [Builtin.len_, run_underlying hd, goInt], .int _ _⟩
    | _ => cases h
  · rename_i hti
    obtain ⟨d, hd, hk⟩ := (hE.ty _ _ hti).under
    unfold KOk at hk; cases hk
    cases x with
    | str s => cases h; cases hx; exact ⟨.int .i64 _, by simp [Builtin.len_, run_underlying hd, goInt], .int _ _⟩
    | _ => cases h
  · rename_i hti
    obtain ⟨d, hd, hk⟩ := (hE.ty _ _ hti).under
    unfold KOk at hk; cases hk
    split at h
    · rename_i hta
      cases h
      obtain ⟨d', hd', hk'⟩ := (hE.ty _ _ hta).under
      unfold KOk at hk'; cases hk'
      exact ⟨.int .i64 _, by simp [Builtin.len_, run_underlying hd, run_underlying hd', goInt], .int _ _⟩
    · cases h
  · rename_i hti
    cases h
    obtain ⟨d, hd, hk⟩ := (hE.ty _ _ hti).under
    unfold KOk at hk; cases hk
    exact ⟨.int .i64 _, by simp [Builtin.len_, run_underlying hd, goInt], .int _ _⟩
  · rename_i hti
    obtain ⟨d, hd, hk⟩ := (hE.ty _ _ hti).under
    unfold KOk at hk; cases hk
    cases x with
    | nilMap => cases h; cases hx; exact ⟨.int .i64 0, by simp [Builtin.len_, run_underlying hd, goInt], .int _ _⟩
    | _ => cases h
  · cases h

theorem max2_ok {ρ : Rho} {x y z : V} {a b : Value} (hx : RV ρ x a) (hy : RV ρ y b) (h : max2V x y = some z) : ∃ c, Builtin.max2 a b = pure c ∧ RV ρ z c := by
  unfold max2V at h
  split at h
  · cases h; cases hx; cases hy; exact ⟨_, rfl, .int _ _⟩
  · cases h
theorem min2_ok {ρ : Rho} {x y z : V} {a b : Value} (hx : RV ρ x a) (hy : RV ρ y b) (h : min2V x y = some z) : ∃ c, Builtin.min2 a b = pure c ∧ RV ρ z c := by
  unfold min2V at h
  split at h
  · cases h; cases hx; cases hy; exact ⟨_, rfl, .int _ _⟩
  · cases h
theorem foldV_ok {ρ : Rho} {f : V → V → Option V} {g : Value → Value → Sem Value} (hf : ∀ x y z a b, RV ρ x a → RV ρ y b → f x y = some z → ∃ c, g a b = pure c ∧ RV ρ z c) (w : World) :
    ∀ (l : List V) (l' : List Value) (x : V) (a : Value) (z : V), RV ρ x a → RL ρ l l' → foldV f x l = some z → ∃ c, (l'.foldlM g a).run P w = .ok c w ∧ RV ρ z c
  | [], [], x, a, z, hx, _, h => by cases h; exact ⟨a, rfl, hx⟩
  | y :: l, b :: l', x, a, z, hx, hl, h => by
    cases hl with | cons hy hl =>
    unfold foldV at h
    cases hz : f x y with
    | none => rw [hz] at h; cases h
    | some u =>
      rw [hz] at h
      obtain ⟨c, h1, h2⟩ := hf x y u a b hx hy hz
      obtain ⟨c', h3, h4⟩ := foldV_ok hf w l l' u c z h2 hl h
      refine ⟨c', ?_, h4⟩
      rw [List.foldlM_cons, h1]
      simpa using h3
  | [], _ :: _, _, _, _, _, hl, _ => by cases hl
  | _ :: _, [], _, _, _, _, hl, _ => by cases hl
theorem allFlat_append : ∀ {l m : List V}, allFlat l = true → allFlat m = true → allFlat (l ++ m) = true
  | [], _, _, h => h
  | v :: l, m, h, h' => by
    rw [allFlat_cons] at h
    rw [List.cons_append, allFlat_cons]
    cases hv : v.flat with
    | false => rw [hv] at h; cases h
    | true => rw [hv] at h; exact allFlat_append h h'
theorem allFlat_rep {z : List V} (h : allFlat z = true) : ∀ n, allFlat (rep n z) = true
  | 0 => rfl
  | n + 1 => allFlat_append h (allFlat_rep h n)
theorem clearV_ok (hE : EOk P E) {w0 w : World} {M0 : Nat → Prop} {ρ : Rho} {st : St} (hI : Inv E w0 M0 ρ st.hp st.nx w) {t ty : TypeId} {ts : List TypeId} {x : V} {a : Value} {as : List Value} (hx : RV ρ x a)
    {r : R} (h : clearV E st (E.ty t) x = some r) : ∃ c w', (Builtin.clear_ (t :: ts).toArray ty (a :: as).toArray).run P w = .ok c w' ∧ Stp E w0 M0 ρ st.nx r c w' ∧ r.df = none := by
  unfold clearV at h
  split at h
  · rename_i e _ _ _ _ hti
    obtain ⟨d, hd, hk⟩ := (hE.ty _ _ hti).under
    obtain rfl : d = .slice e := hk
    obtain ⟨te, hte, h⟩ := bindO_some h
    obtain ⟨z, hz, hz1, hz2, hz3⟩ := (hE.ty _ _ hte).zero
    cases x with
    | nilSl =>
      cases h; cases hx
      exact ⟨.tuple #[], w, by simp [Builtin.clear_, run_underlying hd], Stp.same hI (.tup .nil) none, rfl⟩
    | sl b o n cap ex =>
      obtain ⟨g, m, c, rfl, hb, _⟩ := hx.sl_inv
      simp only [clearSl] at h
      cases hn : Nat.beq n 0 with
      | true =>
        simp only [hn, cond_true] at h
        cases h
        obtain rfl := Nat.eq_of_beq_eq_true hn
        exact ⟨.tuple #[], w, by simp [Builtin.clear_, run_underlying hd], Stp.same hI (.tup .nil) none, rfl⟩
      | false =>
        simp only [hn, cond_false] at h
        obtain ⟨hfl, h⟩ := bif_some h
        unfold hpR at h
        cases hst : storeTo st.hp b o (rep n te.zero) with
        | none => rw [hst] at h; cases h
        | some hp' =>
          rw [hst] at h; cases h
          have hr := rep_ok (hz1 ρ) n
          obtain ⟨w', s1, s2⟩ := storeTo_ok (P := P) hI hst hb hr (hr.one (allFlat_rep hfl n))
          have hn0 : n ≠ 0 := fun e => by subst e; cases hn
          refine ⟨.tuple #[], w', ?_, Stp.same s2 (.tup .nil) none, rfl⟩
          have hs' : (storeCells ⟨g, o + m.1, none⟩ (Builtin.zeroCells z.cells n).toList).run P w = .ok () w' := s1
          cases n with
          | zero => exact absurd rfl hn0
          | succ n => simp [Builtin.clear_, run_underlying hd, hz, hs']
    | _ => cases h
  · cases h
end
end Go.Rf
