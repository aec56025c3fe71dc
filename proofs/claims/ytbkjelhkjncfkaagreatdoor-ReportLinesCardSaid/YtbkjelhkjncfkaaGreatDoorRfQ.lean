/-
  What a plan's check gives, and what a trace holds. No statement of the program is claimed here.
-/
import Derived.Test.YtbkjelhkjncfkaaGreatDoorRfN
namespace Go.Rf
section
variable {P : Program} {E : Env} {call : CallT}

/-! ### The plan -/
theorem testBit_lor (a b i : Nat) : Nat.testBit (Nat.lor a b) i = (Nat.testBit a i || Nat.testBit b i) := Nat.testBit_or a b i
theorem testBit_one (e i : Nat) (h : Nat.testBit (Nat.shiftLeft 1 e) i = true) : i = e := by
  have h' : Nat.testBit (1 <<< e) i = true := h
  rw [Nat.one_shiftLeft, Nat.testBit_two_pow] at h'
  exact (by simpa using h' : e = i).symm
theorem ancOf_bit (pl : Plan) : ∀ (l : List Nat) (j : Nat), Nat.testBit (ancOf pl l) j = true → ∃ e ∈ l, e = j ∨ isAnc pl e j = true
  | [], j, h => by simp [ancOf] at h
  | e :: l, j, h => by
    unfold ancOf at h
    rw [testBit_lor, testBit_lor, Bool.or_eq_true, Bool.or_eq_true] at h
    rcases h with (h | h) | h
    · exact ⟨e, List.mem_cons_self .., .inl (testBit_one _ _ h).symm⟩
    · exact ⟨e, List.mem_cons_self .., .inr h⟩
    · obtain ⟨e', h1, h2⟩ := ancOf_bit pl l j h
      exact ⟨e', List.mem_cons_of_mem _ h1, h2⟩

theorem pickL_get (ops : List Oper) : ∀ (ord : List Nat), (∀ i ∈ ord, i < ops.length) → ∀ p : Nat, (pickL ops ord)[p]? = (ord[p]?).bind fun i => ops[i]?
  | [], _, p => by simp [pickL]
  | i :: ord, h, p => by
    have hi := h i (List.mem_cons_self ..)
    have ho : ops[i]? = some ops[i] := List.getElem?_eq_getElem hi
    unfold pickL
    rw [ho]
    cases p with
    | zero => simp [ho]
    | succ p =>
      simp only [List.getElem?_cons_succ]
      exact pickL_get ops ord (fun j hj => h j (List.mem_cons_of_mem _ hj)) p
theorem pickL_length (ops : List Oper) : ∀ (ord : List Nat), (∀ i ∈ ord, i < ops.length) → (pickL ops ord).length = ord.length
  | [], _ => rfl
  | i :: ord, h => by
    have hi := h i (List.mem_cons_self ..)
    have ho : ops[i]? = some ops[i] := List.getElem?_eq_getElem hi
    unfold pickL
    rw [ho]
    simp [pickL_length ops ord (fun j hj => h j (List.mem_cons_of_mem _ hj))]

structure PlanP (ops : Array Oper) (pl : Plan) (l : List Oper) : Prop where
  len : pl.ord.length = ops.size
  llen : l.length = ops.size
  all : ∀ i : Nat, i < ops.size → ∃ p : Nat, pl.ord[p]? = some i
  get : ∀ (p i : Nat), pl.ord[p]? = some i → ∃ o, ops[i]? = some o ∧ l[p]? = some o
  sel : Region.noSelect ops = true
  anc : ∀ (p i : Nat) (o : Oper), pl.ord[p]? = some i → l[p]? = some o → ∀ j, isAnc pl i j = true → ∃ e ∈ bindsOf o, e = j ∨ isAnc pl e j = true
  bnd : ∀ (p i : Nat) (o : Oper), pl.ord[p]? = some i → l[p]? = some o → ∀ e ∈ bindsOf o, ∃ q : Nat, q < p ∧ pl.ord[q]? = some e
  pair : ∀ (p q i j : Nat) (oi oj : Oper), q < p → pl.ord[p]? = some i → pl.ord[q]? = some j → l[p]? = some oi → l[q]? = some oj →
    (heavyO oj.op = true → isAnc pl i j = true) ∧ (isAnc pl i j = true ∨ oj.apart ops oi = true) ∧ (∀ d, oi.dst = some d → oj.dst ≠ some d) ∧ i ≠ j
  late : ∀ (p q : Nat), p < ops.size → lightAt l p = true → p < q → q ≤ ops.size → segEnd l q = true → (∀ (r i j : Nat), p < r → r < q → heavyAt l r = true → pl.ord[r]? = some j → pl.ord[p]? = some i → isAnc pl j i = false) → (p, q) ∈ pl.late

theorem planOk_spec {ops : Array Oper} {pl : Plan} (h : planOk ops pl = true) : PlanP ops pl (pickL ops.toList pl.ord) := by
  unfold planOk at h
  simp only [Bool.and_eq_true, Nat.beq_eq, List.all_eq_true, List.mem_range, List.contains_iff_mem, Nat.blt_eq] at h
  obtain ⟨⟨h1, h2⟩, ⟨h3, h4⟩, h5⟩ := h
  have hlt : ∀ i ∈ pl.ord, i < ops.toList.length := fun i hi => by rw [Array.length_toList]; exact h4 i hi
  have hget := pickL_get ops.toList pl.ord hlt
  have hsome : ∀ (p i : Nat), pl.ord[p]? = some i → ∃ o, ops[i]? = some o ∧ (pickL ops.toList pl.ord)[p]? = some o := fun p i hp => by
    have hi : i < ops.size := h4 i (List.mem_of_getElem? hp)
    refine ⟨ops[i], Array.getElem?_eq_getElem hi, ?_⟩
    rw [hget p, hp]
    simp [hi]
  have hpn : ∀ (p i : Nat), pl.ord[p]? = some i → p < ops.size := fun p i hp => by
    have := (List.getElem?_eq_some_iff.1 hp).1
    omega
  have hrow : ∀ (p i : Nat) (o : Oper), pl.ord[p]? = some i → (pickL ops.toList pl.ord)[p]? = some o → 
      (ancAt pl i = ancOf pl (bindsOf o) ∧ ∀ e ∈ bindsOf o, e ∈ pl.ord.take p) ∧ ∀ q : Nat, q < p → (match pl.ord[q]?, (pickL ops.toList pl.ord)[q]? with | some j, some oj => pairOk ops pl i j o oj | _, _ => false) = true := fun p i o hp ho => by
    have := (h5 p (hpn p i hp)).1
    unfold rowOk at this
    rw [hp, ho] at this
    simp only [Bool.and_eq_true, Nat.beq_eq, List.all_eq_true, List.mem_range, List.contains_iff_mem] at this
    exact this
  refine ⟨h1, by rw [pickL_length _ _ hlt, h1], fun i hi => ?_, hsome, h3, fun p i o hp ho j hj => ?_, fun p i o hp ho e he => ?_, fun p q i j oi oj hq hp hj hoi hoj => ?_, fun p q hpn' hl hpq hqn hse hno => ?_⟩
  · obtain ⟨p, hp⟩ := List.getElem?_of_mem (h2 i hi)
    exact ⟨p, hp⟩
  · unfold isAnc at hj
    rw [(hrow p i o hp ho).1.1] at hj
    exact ancOf_bit pl _ j hj
  · have := (hrow p i o hp ho).1.2 e he
    obtain ⟨q, hq⟩ := List.getElem?_of_mem this
    rw [List.getElem?_take] at hq
    split at hq
    · rename_i hlt'
      exact ⟨q, hlt', hq⟩
    · cases hq
  · have := (hrow p i oi hp hoi).2 q hq
    rw [hj, hoj] at this
    unfold pairOk at this
    simp only [Bool.and_eq_true, Bool.or_eq_true, Bool.not_eq_true'] at this
    obtain ⟨a1, ⟨a2, a3⟩, a4⟩ := this
    refine ⟨fun hh => a1.resolve_left (by simp [hh]), a2, fun d hd hd' => ?_, fun e => by subst e; simp at a4⟩
    unfold dstNe at a3
    rw [hd, hd'] at a3
    simp at a3
  · have := (h5 p hpn').2
    unfold lateOk at this
    simp only [hl, Bool.not_true, Bool.false_or, List.all_eq_true, List.mem_range] at this
    have := this q (by omega)
    simp only [hse, Bool.not_true, Bool.or_false, Bool.or_eq_true, Bool.not_eq_true', List.contains_iff_mem, List.any_eq_true, List.mem_range, Bool.and_eq_true, Nat.blt_eq] at this
    rcases this with h' | h' | ⟨r, hr, ⟨⟨h6, h7⟩, h8⟩⟩
    · have : Nat.blt p q = true := Nat.blt_eq.mpr hpq
      rw [this] at h'; cases h'
    · exact h'
    · split at h8
      · rename_i j i hj hi
        rw [hno r i j h6 hr h7 hj hi] at h8
        cases h8
      · cases h8
end
end Go.Rf
