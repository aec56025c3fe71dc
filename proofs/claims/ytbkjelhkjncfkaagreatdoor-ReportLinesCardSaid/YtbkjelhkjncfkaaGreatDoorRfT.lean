/-
  Regions that draw: any order of the model's comes to what the one order came to. No statement of the program is claimed here.
-/
import Derived.Test.YtbkjelhkjncfkaaGreatDoorRfS
namespace Go.Rf
section
variable {P : Program} {E : Env} {call : CallT} {nt : Nat} {w0 : World} {M0 : Nat → Prop}

theorem eq0_eq {x y : V} (h : eq0 x y = true) : x = y := by
  unfold eq0 at h
  split at h
  · rw [eq_of_beq h]
  · simp only [Bool.and_eq_true, eqQ_eq, decide_eq_true_eq] at h
    rw [sameK_eq h.1, h.2]
  · rfl
  · rfl
  · rfl
  · rfl
  · simp only [Bool.and_eq_true, Nat.beq_eq] at h
    rw [h.1, h.2]
  · simp only [Bool.and_eq_true, Nat.beq_eq, beq_iff_eq] at h
    rw [h.1.1, h.1.2, h.2.1.1, h.2.1.2, h.2.2]
  · rw [Nat.eq_of_beq_eq_true h]
  · rw [Nat.eq_of_beq_eq_true h]
  · cases h
theorem eqL0_eq : ∀ {l m : List V}, eqL0 l m = true → l = m
  | [], [], _ => rfl
  | [], _ :: _, h => by cases h
  | _ :: _, [], h => by cases h
  | x :: l, y :: m, h => by
    unfold eqL0 at h
    cases hx : eq0 x y with
    | false => rw [hx] at h; cases h
    | true => rw [hx] at h; rw [eq0_eq hx, eqL0_eq h]
theorem eq1_eq {x y : V} (h : eq1 x y = true) : x = y := by
  unfold eq1 at h
  split at h
  · rw [eqL0_eq h]
  · simp only [Bool.and_eq_true, Nat.beq_eq] at h
    rw [h.1, eqL0_eq h.2.1, eqL0_eq h.2.2]
  · exact eq0_eq h

theorem upon2 (hG : Good P E call) {rd : Option Nat} {ρ : Rho} {st : St} {r : R} {a : Act} {w : World} {o : Oper} (ho : OpOk P E call w0 M0 ρ st r w (execOp a.eval o)) (hI : Inv E w0 M0 ρ st.hp st.nx w) (hdf : DR ρ st.df a.defers) (hpl : rd = none ∨ plainOp o.op = true)
    {K : Act → World → Prop} {Q : Exit → Act → World → Prop}
    (hK : ∀ (ρ' : Rho) (c : Value) (a0 : Act) (w' : World), a0.tmps = a.tmps → Inv E w0 M0 ρ' r.hp r.nx w' → RV ρ' r.v c → st.nx ≤ r.nx → (∀ b, b < st.nx → ρ' b = ρ b) →
      DR ρ' (match r.df with | some d => d :: st.df | none => st.df) a0.defers → K (a0.put o.dst c) w') : o.wpIn (FW rd) 0 P a w K Q := by
  refine ⟨fun _ _ => trivial, ?_⟩
  rw [plainOp_sem hpl]
  cases ho with
  | val n c w' h hn hst hd =>
    rw [h]
    obtain ⟨ρ', h1, h2, h3, h4⟩ := hst
    have := hK ρ' c a w' rfl h1 h2 h3 h4 (by rw [hd]; exact hdf.ext (hI.hr.ext_of h4))
    rcases hn with rfl | ⟨rfl, rfl⟩
    · exact this
    · exact this
  | enter f vs args r' h hl hf hc hr =>
    rw [h]
    subst hr
    refine ⟨fun h => (by cases h), callsIn_fw (Calls.mono (hG.calls f vs _ _ r' hc hf w0 M0 ρ args w hl hI) fun e w' he => ?_)⟩
    obtain ⟨c, rfl, ρ', h1, h2, h3, h4⟩ := he
    exact hK ρ' c a w' rfl h1 h2 h3 h4 (hdf.ext (hI.hr.ext_of h4))
  | round l vs args r' g n hg hl h hc hr =>
    subst hr
    obtain ⟨lr, h1, h2, h3⟩ := hG.rounds l vs _ _ r' hc w0 M0 ρ args w g n hg hl hI
    rw [h lr h1 h2]
    refine ⟨fun h => (by cases h), RoundIn.mono (F := FW rd) (n := 0) h3 fun e w' he => ?_⟩
    obtain ⟨c, rfl, ρ', h1, h2, h3, h4⟩ := he
    exact hK ρ' c a w' rfl h1 h2 h3 h4 (hdf.ext (hI.hr.ext_of h4))
  | later f vs d h hd hr =>
    rw [h]
    subst hr
    exact hK ρ undef { a with defers := d :: a.defers } w rfl hI (.tup .nil) (Nat.le_refl _) (fun _ _ => rfl) ⟨hd, hdf⟩

variable {ops : Array Oper} {pl : Plan} {l : List Oper} {S : Nat → St}

theorem segEnd_heavy {q : Nat} {o : Oper} (h : segEnd l q = true) (ho : l[q]? = some o) : heavyO o.op = true := by
  unfold segEnd at h
  rw [ho] at h
  exact h
theorem heavyAt_eq {q : Nat} {o : Oper} (ho : l[q]? = some o) : heavyAt l q = heavyO o.op := by
  unfold heavyAt; rw [ho]
/-- Where a ready operation stands. -/
theorem KI.place (R : Run E call nt ops pl l S) {ρ0 ρ : Rho} {listed : Array Bool} {q : Nat} {a : Act} {w : World} (h : KI E nt w0 M0 ops pl l S ρ0 listed ρ q a w) {p i : Nat} {o : Oper} (hp : pl.ord[p]? = some i) (ho : l[p]? = some o)
    (hn : ¬ Dn pl listed p) (hr : ∀ e ∈ bindsOf o, listed.getD e false = true) : (p < q ∧ heavyO o.op = false) ∨ (p = q ∧ heavyO o.op = true) := by
  have hpn : p < ops.size := (R.ord_of ho).choose_spec.2.2
  rcases Nat.lt_trichotomy p q with hlt | rfl | hgt
  · refine .inl ⟨hlt, ?_⟩
    cases hh : heavyO o.op with
    | false => rfl
    | true => exact absurd (h.hv p hlt (by rw [heavyAt_eq ho, hh])) hn
  · exact .inr ⟨rfl, segEnd_heavy h.seg ho⟩
  · have hq : q < l.length := by rw [R.pp.llen]; omega
    have hoq := List.getElem?_eq_getElem hq
    obtain ⟨j, hj, _⟩ := R.ord_of hoq
    have hanc := (R.pp.pair p q i j o _ hgt hp hj ho hoq).1 (segEnd_heavy h.seg hoq)
    have hl := R.anc_ready h.down hp ho hr hanc
    have := h.lt q ⟨j, hj, hl⟩
    omega
theorem KI.operands (R : Run E call nt ops pl l S) {ρ0 ρ : Rho} {listed : Array Bool} {q : Nat} {a : Act} {w : World} (h : KI E nt w0 M0 ops pl l S ρ0 listed ρ q a w) {p i : Nat} {o : Oper} (hp : pl.ord[p]? = some i) (ho : l[p]? = some o)
    (hn : ¬ Dn pl listed p) (hr : ∀ e ∈ bindsOf o, listed.getD e false = true) : ∀ x ∈ o.op.operands, RV ρ (ev E (S p).tm x) (a.eval x) := fun x hx => by
  cases x with
  | tmp t => exact h.view R hp ho hn hr (List.mem_append_left _ (List.mem_filterMap.2 ⟨.tmp t, by simpa using hx, rfl⟩))
  | const v => exact RV.cv ρ v
  | global g =>
    show RV ρ (match E.glob g with | some b => .ptr b 0 | none => .dead) _
    cases hb : E.glob g with
    | none => exact .dead _
    | some b =>
      obtain ⟨n, hn⟩ := h.inv.gl g b hb
      exact .ptr hn
  | func f => exact .func .nil .nil
theorem KI.guards (R : Run E call nt ops pl l S) {ρ0 ρ : Rho} {listed : Array Bool} {q : Nat} {a : Act} {w : World} (h : KI E nt w0 M0 ops pl l S ρ0 listed ρ q a w) {p i : Nat} {o : Oper} (hp : pl.ord[p]? = some i) (ho : l[p]? = some o)
    (hn : ¬ Dn pl listed p) (hr : ∀ e ∈ bindsOf o, listed.getD e false = true) {b : Bool} (hw : wants ops.toList (S p).tm o = some b) : Region.wanted o (yielded ops a.tmps) = b :=
  wants_ok (fun j want p' d hg hj hd => h.view R hp ho hn hr (List.mem_append_right _ (by simp [hg, hj, hd]))) hw

theorem mono_le {q : Nat} (h : ∀ p, p < q → (S p).nx ≤ (S (p + 1)).nx) (r : Nat) : ∀ k, r + k ≤ q → (S r).nx ≤ (S (r + k)).nx
  | 0, _ => Nat.le_refl _
  | k + 1, hk => Nat.le_trans (mono_le h r k (by omega)) (h (r + k) (by omega))
theorem mono_le' {q : Nat} (h : ∀ p, p < q → (S p).nx ≤ (S (p + 1)).nx) {r s : Nat} (h1 : r ≤ s) (h2 : s ≤ q) : (S r).nx ≤ (S s).nx := by
  have := mono_le h r (s - r) (by omega)
  rwa [show r + (s - r) = s by omega] at this
theorem alloc_nx {o : Oper} {s s' : St} (ha : isAlloc o.op = true) (hw : wants ops.toList s.tm o = some true) (h : evOp1 E call nt ops.toList o s = some s') : ∃ cs, s'.hp = s.hp.set s.nx (some (.cells cs)) ∧ s'.nx = s.nx + 1 := by
  rcases evOp1_cases h with ⟨h1, _⟩ | ⟨_, r, hr, h⟩
  · rw [h1] at hw; cases hw
  · obtain ⟨tm, _, rfl⟩ := stepR_form h
    obtain ⟨cs, v, rfl⟩ := alloc_form ha hr
    exact ⟨cs, rfl, rfl⟩

/-! ### One more is done -/
theorem Run.set_done (R : Run E call nt ops pl l S) {listed : Array Bool} (hsz : listed.size = ops.size) {p i : Nat} (hp : pl.ord[p]? = some i) (r : Nat) : Dn pl (listed.setIfInBounds i true) r ↔ (Dn pl listed r ∨ r = p) := by
  have hi : i < listed.size := by
    obtain ⟨o, h1, _⟩ := R.pp.get p i hp
    rw [hsz]; exact (Array.getElem?_eq_some_iff.1 h1).1
  have hself : (listed.setIfInBounds i true).getD i false = true := by simp [hi]
  constructor
  · rintro ⟨j, hj, hl⟩
    by_cases e : i = j
    · subst e
      right
      obtain ⟨o, _, h2⟩ := R.pp.get p i hp
      obtain ⟨o', _, h2'⟩ := R.pp.get r i hj
      rcases Nat.lt_trichotomy r p with h | h | h
      · exact absurd rfl (R.pp.pair p r i i o o' h hp hj h2 h2').2.2.2
      · exact h
      · exact absurd rfl (R.pp.pair r p i i o' o h hj hp h2' h2).2.2.2
    · rw [getD_set_ne false e] at hl
      exact .inl ⟨j, hj, hl⟩
  · rintro (⟨j, hj, hl⟩ | rfl)
    · exact ⟨j, hj, getD_set_true hl⟩
    · exact ⟨i, hp, hself⟩
theorem down_set {listed : Array Bool} (h : Down ops listed) {i : Nat} {o : Oper} (hi : ops[i]? = some o) (hr : ∀ e ∈ bindsOf o, listed.getD e false = true) : Down ops (listed.setIfInBounds i true) := fun j o' hj ho' e he => by
  by_cases heq : i = j
  · subst heq
    rw [hi] at ho'; cases ho'
    exact getD_set_true (hr e he)
  · rw [getD_set_ne false heq] at hj
    exact getD_set_true (h j o' hj ho' e he)
theorem put_get {a : Act} {dst : Option Tmp} {c : Value} {t : Tmp} (h : dst ≠ some t) : (a.put dst c).tmps.getD t undef = a.tmps.getD t undef := by
  cases dst with
  | none => rfl
  | some d =>
    have : d ≠ t := fun e => h (by rw [e])
    simp only [Act.put]
    rw [Array.getD_eq_getD_getElem?, Array.getElem?_setIfInBounds_ne this, ← Array.getD_eq_getD_getElem?]
theorem put_at {a : Act} {d : Tmp} {c : Value} (h : d < a.tmps.size) : (a.put (some d) c).tmps.getD d undef = c := by
  simp [Act.put, h]
theorem put_size {a : Act} {dst : Option Tmp} {c : Value} : (a.put dst c).tmps.size = a.tmps.size := by
  cases dst <;> simp [Act.put]
theorem put_defers {a : Act} {dst : Option Tmp} {c : Value} : (a.put dst c).defers = a.defers := by
  cases dst <;> rfl

/-- The variables after one more is done. -/
theorem KI.tmps (R : Run E call nt ops pl l S) {ρ0 ρ ρ' : Rho} {listed : Array Bool} {q : Nat} {a a0 : Act} {w : World} (h : KI E nt w0 M0 ops pl l S ρ0 listed ρ q a w) {p i : Nat} {o : Oper} (hp : pl.ord[p]? = some i) (ho : l[p]? = some o) (hext : Ext ρ ρ')
    (ha : a0.tmps = a.tmps) {c : Value} (hv : ∀ d, o.dst = some d → d < nt ∧ RV ρ' (tget (S (p + 1)).tm d) c) :
    (∀ (r : Nat) (o' : Oper) (d : Tmp), l[r]? = some o' → o'.dst = some d → Dn pl (listed.setIfInBounds i true) r → RV ρ' (tget (S ops.size).tm d) ((a0.put o.dst c).tmps.getD d undef)) ∧
    (∀ t : Tmp, (∀ (r : Nat) (o' : Oper), l[r]? = some o' → Dn pl (listed.setIfInBounds i true) r → o'.dst ≠ some t) → RV ρ' (tget (S 0).tm t) ((a0.put o.dst c).tmps.getD t undef)) := by
  have hpn : p < ops.size := (R.ord_of ho).choose_spec.2.2
  refine ⟨fun r o' d hr hd hD => ?_, fun t hno => ?_⟩
  · rcases (R.set_done h.sz hp r).1 hD with hD | rfl
    · by_cases hdd : o.dst = some d
      · obtain rfl := R.dst_ne hr ho hd hdd
        rw [ho] at hr; cases hr
        rw [hdd, put_at (by rw [ha]; exact Nat.lt_of_lt_of_le (hv d hdd).1 h.tsz), R.tm_done ho hdd hpn (Nat.le_refl _)]
        exact (hv d hdd).2
      · rw [put_get hdd, ha]
        exact (h.done r o' d hr hd hD).ext hext
    · rw [ho] at hr; cases hr
      rw [hd, put_at (by rw [ha]; exact Nat.lt_of_lt_of_le (hv d hd).1 h.tsz), R.tm_done ho hd hpn (Nat.le_refl _)]
      exact (hv d hd).2
  · rw [put_get (hno p o ho ((R.set_done h.sz hp p).2 (.inr rfl))), ha]
    exact (h.undone t fun r o' hr hD => hno r o' hr ((R.set_done h.sz hp r).2 (.inl hD))).ext hext

/-- A light operation is done. -/
theorem KI.float (R : Run E call nt ops pl l S) {ρ0 ρ ρ' : Rho} {listed : Array Bool} {q : Nat} {a a0 : Act} {w w' : World} (h : KI E nt w0 M0 ops pl l S ρ0 listed ρ q a w) {p i : Nat} {o : Oper} (hp : pl.ord[p]? = some i) (hi : ops[i]? = some o) (ho : l[p]? = some o)
    (hr : ∀ e ∈ bindsOf o, listed.getD e false = true) (hpq : p < q) (hext : Ext ρ ρ') (ha : a0.tmps = a.tmps) (had : DR ρ' (S q).df a0.defers) {c : Value} (hv : ∀ d, o.dst = some d → d < nt ∧ RV ρ' (tget (S (p + 1)).tm d) c)
    (hI : Inv E w0 M0 ρ' (S q).hp (S q).nx w') (hpe : ∀ (r : Nat) (o' : Oper), r < q → r ≠ p → l[r]? = some o' → isAlloc o'.op = true → wants ops.toList (S r).tm o' = some true → ρ (S r).nx = none → ρ' (S r).nx = none) (hb : ∀ b, b < (S 0).nx → ρ' b = ρ b) :
    KI E nt w0 M0 ops pl l S ρ0 (listed.setIfInBounds i true) ρ' q (a0.put o.dst c) w' := by
  obtain ⟨t1, t2⟩ := h.tmps R hp ho hext ha hv
  have sd := R.set_done h.sz hp
  exact {
    sz := by rw [Array.size_setIfInBounds]; exact h.sz
    qn := h.qn
    seg := h.seg
    hv := fun r hr hh => (sd r).2 (.inl (h.hv r hr hh))
    lt := fun r hD => by
      rcases (sd r).1 hD with hD | rfl
      · exact h.lt r hD
      · exact hpq
    down := down_set h.down hi hr
    tsz := by rw [put_size, ha]; exact h.tsz
    inv := hI
    df := by rw [put_defers]; exact had
    done := t1
    undone := t2
    pend := fun r o' hrq hl hD hal hw => hpe r o' hrq (fun e => hD ((sd r).2 (.inr e))) hl hal hw (h.pend r o' hrq hl (fun hD' => hD ((sd r).2 (.inl hD'))) hal hw)
    mono := h.mono
    base := fun b hb' => (hb b hb').trans (h.base b hb') }

theorem nextSeg (q : Nat) : ∀ k, l.length - q = k → q ≤ l.length → ∃ q', q ≤ q' ∧ q' ≤ l.length ∧ segEnd l q' = true ∧ ∀ r, q ≤ r → r < q' → heavyAt l r = false := by
  intro k
  induction k generalizing q with
  | zero =>
    intro h1 h2
    have : q = l.length := by omega
    subst this
    exact ⟨l.length, Nat.le_refl _, Nat.le_refl _, by unfold segEnd; simp, fun r h1 h2 => by omega⟩
  | succ k ih =>
    intro h1 h2
    have hq : q < l.length := by omega
    have ho := List.getElem?_eq_getElem hq
    cases hh : heavyO l[q].op with
    | true => exact ⟨q, Nat.le_refl _, h2, by unfold segEnd; rw [ho]; exact hh, fun r h1 h2 => by omega⟩
    | false =>
      obtain ⟨q', a1, a2, a3, a4⟩ := ih (q + 1) (by omega) (by omega)
      refine ⟨q', by omega, a2, a3, fun r h1 h2 => ?_⟩
      by_cases e : r = q
      · subst e; rw [heavyAt_eq ho]; exact hh
      · exact a4 r (by omega) h2
/-- The light ones behind a heavy one add rows that no one knows of yet. -/
theorem Run.pads (R : Run E call nt ops pl l S) {ρ : Rho} {w : World} (q : Nat) (hI : Inv E w0 M0 ρ (S q).hp (S q).nx w) : ∀ k, q + k ≤ ops.size → (∀ r, q ≤ r → r < q + k → heavyAt l r = false) →
    Inv E w0 M0 ρ (S (q + k)).hp (S (q + k)).nx w ∧ (S (q + k)).df = (S q).df ∧ ∀ r, q ≤ r → r < q + k → (S r).nx ≤ (S (r + 1)).nx
  | 0, _, _ => ⟨hI, rfl, fun r h1 h2 => by omega⟩
  | k + 1, hk, hf => by
    obtain ⟨h1, h2, h3⟩ := R.pads q hI k (by omega) fun r a b => hf r a (by omega)
    have hlt : q + k < l.length := by rw [R.pp.llen]; omega
    have ho := List.getElem?_eq_getElem hlt
    have hh : heavyO l[q + k].op = false := by rw [← heavyAt_eq ho]; exact hf (q + k) (by omega) (by omega)
    obtain ⟨f1, f2⟩ := float_form hh (R.step _ _ ho)
    rw [← Nat.add_assoc]
    refine ⟨?_, by rw [f1, h2], fun r a b => ?_⟩
    · rcases f2 with ⟨e1, e2⟩ | ⟨cs, e1, e2⟩
      · rw [e1, e2]; exact h1
      · rw [e1, e2]; exact h1.pad _
    · by_cases e : r = q + k
      · subst e
        rcases f2 with ⟨_, e2⟩ | ⟨cs, _, e2⟩ <;> omega
      · exact h3 r a (by omega)
end
end Go.Rf
