/-
  Regions that draw: the state of any order against the one order that was run. No statement of the program is claimed here.
-/
import Derived.Test.YtbkjelhkjncfkaaGreatDoorRfR
namespace Go.Rf
section
variable {P : Program} {E : Env} {call : CallT} {nt : Nat} {w0 : World} {M0 : Nat → Prop}

theorem Inv.pad {w : World} {ρ : Rho} {hp : Hp} {nx : Nat} (h : Inv E w0 M0 ρ hp nx w) (x : Blk) : Inv E w0 M0 ρ (hp.set nx (some x)) (nx + 1) w := by
  have hn := h.hr.dom nx (Nat.le_refl _)
  have hget : ∀ (b g : Nat) (m : Nat × Nat) (y : Blk), ρ b = some (g, m) → (hp.set nx (some x)).get b = some y → hp.get b = some y := fun b g m y hb hy => by
    have : b ≠ nx := fun e => by rw [e, hn] at hb; cases hb
    rwa [T.get_ne _ _ _ _ this] at hy
  refine ⟨⟨fun b hb => h.hr.dom b (by omega), fun b hb => ?_, h.hr.bnd, fun b b' y y' g m m' hb hb' hz hg hg' => h.hr.inj b b' y y' g m m' (hget _ _ _ _ hg hb) (hget _ _ _ _ hg' hb') hz hg hg', fun b y g m hb hg => h.hr.blk b y g m (hget _ _ _ _ hg hb) hg⟩, h.wf, fun g hg => ?_, h.gl⟩
  · rw [T.get_ne _ _ _ _ (by omega)]; exact h.hr.free b (by omega)
  · obtain ⟨b, y, m, hb, hm, hg⟩ := hg
    exact h.wr g ⟨b, y, m, hget _ _ _ _ hg hb, hm, hg⟩

/-- A row that the one order made earlier is made now. -/
theorem Inv.fill {w w' : World} {ρ : Rho} {hp : Hp} {nx : Nat} (h : Inv E w0 M0 ρ hp nx w) {id : Nat} {cs : List V} {cells : Array Value} {el : TypeId} (hid : id < nx) (hn : ρ id = none) (hb : hp.get id = some (.cells cs)) (hl : RL ρ cs cells.toList)
    (hw : w' = { w with heap := w.heap.push (.cells cells el) }) : Inv E w0 M0 (ρ.put id (w.heap.size, (0, cells.size))) hp nx w' ∧ Ext ρ (ρ.put id (w.heap.size, (0, cells.size))) := by
  subst hw
  have hext : Ext ρ (ρ.put id (w.heap.size, (0, cells.size))) := fun b x hx => by
    have : b ≠ id := fun e => by rw [e, hn] at hx; cases hx
    rw [Rho.put_ne _ _ _ _ this]; exact hx
  refine ⟨⟨⟨fun b hb' => ?_, h.hr.free, fun b g m hb' => ?_, fun b b' y y' g m m' hy hy' hz hg hg' => ?_, fun b y g m hy hg => ?_⟩, ⟨h.wf.os, h.wf.tape, h.wf.output, ?_, fun k hk hm => ?_⟩, fun g hg => ?_, fun g b hg => ?_⟩, hext⟩
  · rw [Rho.put_ne _ _ _ _ (by omega)]; exact h.hr.dom b hb'
  · simp only [Array.size_push]
    by_cases e : b = id
    · subst e; rw [Rho.put_same] at hb'; cases hb'; omega
    · rw [Rho.put_ne _ _ _ _ e] at hb'; have := h.hr.bnd b g m hb'; omega
  · by_cases e : b = id
    · by_cases e' : b' = id
      · rw [e, e']
      · subst e
        rw [Rho.put_same] at hg; cases hg
        rw [Rho.put_ne _ _ _ _ e'] at hg'
        have := h.hr.bnd b' _ _ hg'
        omega
    · by_cases e' : b' = id
      · subst e'
        rw [Rho.put_same] at hg'; cases hg'
        rw [Rho.put_ne _ _ _ _ e] at hg
        have := h.hr.bnd b _ _ hg
        omega
      · rw [Rho.put_ne _ _ _ _ e'] at hg'
        rw [Rho.put_ne _ _ _ _ e] at hg
        exact h.hr.inj b b' y y' g m m' hy hy' hz hg hg'
  · by_cases e : b = id
    · subst e
      rw [Rho.put_same] at hg; cases hg
      rw [hb] at hy; cases hy
      refine ⟨cells, el, by simp, rfl, by rw [hl.length, Array.length_toList]; exact Nat.le_refl _, ?_, rfl⟩
      rw [hl.length, List.take_length]; exact hl.ext hext
    · rw [Rho.put_ne _ _ _ _ e] at hg
      exact (h.hr.blk b y g m hy hg).ext hext (push_old rfl g (h.hr.bnd b g m hg))
  · simp only [Array.size_push]; have := h.wf.size; omega
  · have := h.wf.size
    rw [push_old (w := w) rfl k (by omega)]
    exact h.wf.block k hk hm
  · obtain ⟨b, y, m, hy, hm, hg⟩ := hg
    by_cases e : b = id
    · subst e
      rw [Rho.put_same] at hg; cases hg
      exact .inr h.wf.size
    · rw [Rho.put_ne _ _ _ _ e] at hg
      exact h.wr g ⟨b, y, m, hy, hm, hg⟩
  · obtain ⟨m, hm⟩ := h.gl g b hg
    exact ⟨m, hext _ _ hm⟩

/-! ### The run of the one order -/
structure Run (E : Env) (call : CallT) (nt : Nat) (ops : Array Oper) (pl : Plan) (l : List Oper) (S : Nat → St) : Prop where
  pp : PlanP ops pl l
  step : ∀ (p : Nat) (o : Oper), l[p]? = some o → evOp1 E call nt ops.toList o (S p) = some (S (p + 1))
  late : ∀ (p q : Nat) (o : Oper), (p, q) ∈ pl.late → l[p]? = some o → q ≤ ops.size → lateO E ops.toList o (S p) (S (p + 1)) (S q) = true

variable {ops : Array Oper} {pl : Plan} {l : List Oper} {S : Nat → St}

/-- No write in between. -/
theorem Run.tm_same (R : Run E call nt ops pl l S) (t : Tmp) (p : Nat) : ∀ k, p + k ≤ ops.size → (∀ (r : Nat) (o : Oper), p ≤ r → r < p + k → l[r]? = some o → o.dst ≠ some t) → tget (S (p + k)).tm t = tget (S p).tm t
  | 0, _, _ => rfl
  | k + 1, hk, h => by
    have hlt : p + k < l.length := by rw [R.pp.llen]; omega
    have ho := List.getElem?_eq_getElem hlt
    have := evOp1_other (R.step (p + k) _ ho) (h (p + k) _ (by omega) (by omega) ho)
    rw [← Nat.add_assoc, this]
    exact R.tm_same t p k (by omega) fun r o h1 h2 => h r o h1 (by omega)
theorem Run.ord_of (R : Run E call nt ops pl l S) {p : Nat} {o : Oper} (h : l[p]? = some o) : ∃ i, pl.ord[p]? = some i ∧ ops[i]? = some o ∧ p < ops.size := by
  have hp : p < l.length := (List.getElem?_eq_some_iff.1 h).1
  rw [R.pp.llen] at hp
  have hp' : p < pl.ord.length := by rw [R.pp.len]; exact hp
  have hi := List.getElem?_eq_getElem hp'
  obtain ⟨o', h1, h2⟩ := R.pp.get p _ hi
  rw [h] at h2; cases h2
  exact ⟨_, hi, h1, hp⟩
/-- Two places never write the same variable. -/
theorem Run.dst_ne (R : Run E call nt ops pl l S) {p r : Nat} {o o' : Oper} {t : Tmp} (hp : l[p]? = some o) (hr : l[r]? = some o') (h1 : o.dst = some t) (h2 : o'.dst = some t) : p = r := by
  obtain ⟨i, hi, _⟩ := R.ord_of hp
  obtain ⟨j, hj, _⟩ := R.ord_of hr
  rcases Nat.lt_trichotomy p r with h | h | h
  · exact absurd h1 ((R.pp.pair r p j i o' o h hj hi hr hp).2.2.1 t h2)
  · exact h
  · exact absurd h2 ((R.pp.pair p r i j o o' h hi hj hp hr).2.2.1 t h1)
theorem Run.tm_done (R : Run E call nt ops pl l S) {p q : Nat} {o : Oper} {t : Tmp} (hp : l[p]? = some o) (hd : o.dst = some t) (hq : p < q) (hqn : q ≤ ops.size) : tget (S q).tm t = tget (S (p + 1)).tm t := by
  have := R.tm_same t (p + 1) (q - (p + 1)) (by omega) fun r o' h1 h2 hr hd' => by
    have := R.dst_ne hp hr hd hd'
    omega
  rwa [show p + 1 + (q - (p + 1)) = q by omega] at this
theorem Run.tm_first (R : Run E call nt ops pl l S) {q : Nat} {t : Tmp} (hqn : q ≤ ops.size) (h : ∀ (r : Nat) (o : Oper), r < q → l[r]? = some o → o.dst ≠ some t) : tget (S q).tm t = tget (S 0).tm t := by
  have := R.tm_same t 0 q (by omega) fun r o _ h2 => h r o (by omega)
  rwa [Nat.zero_add] at this

/-! ### What is done so far -/
def Dn (pl : Plan) (listed : Array Bool) (p : Nat) : Prop := ∃ i, pl.ord[p]? = some i ∧ listed.getD i false = true
def Down (ops : Array Oper) (listed : Array Bool) : Prop := ∀ (i : Nat) (o : Oper), listed.getD i false = true → ops[i]? = some o → ∀ e ∈ bindsOf o, listed.getD e false = true
theorem Run.anc_done (R : Run E call nt ops pl l S) {listed : Array Bool} (hd : Down ops listed) : ∀ (p i j : Nat), pl.ord[p]? = some i → listed.getD i false = true → isAnc pl i j = true → listed.getD j false = true := by
  intro p
  induction p using Nat.strongRecOn with
  | _ p ih =>
    intro i j hp hi hj
    obtain ⟨o, h1, h2⟩ := R.pp.get p i hp
    obtain ⟨e, he, h3⟩ := R.pp.anc p i o hp h2 j hj
    have hle := hd i o hi h1 e he
    rcases h3 with rfl | h3
    · exact hle
    · obtain ⟨q, hq, hqe⟩ := R.pp.bnd p i o hp h2 e he
      exact ih q hq e j hqe hle h3
theorem Run.anc_ready (R : Run E call nt ops pl l S) {listed : Array Bool} (hd : Down ops listed) {p i j : Nat} {o : Oper} (hp : pl.ord[p]? = some i) (ho : l[p]? = some o) (hr : ∀ e ∈ bindsOf o, listed.getD e false = true) (hj : isAnc pl i j = true) : listed.getD j false = true := by
  obtain ⟨e, he, h3⟩ := R.pp.anc p i o hp ho j hj
  rcases h3 with rfl | h3
  · exact hr _ he
  · obtain ⟨q, hq, hqe⟩ := R.pp.bnd p i o hp ho e he
    exact R.anc_done hd q e j hqe (hr e he) h3

structure KI (E : Env) (nt : Nat) (w0 : World) (M0 : Nat → Prop) (ops : Array Oper) (pl : Plan) (l : List Oper) (S : Nat → St) (ρ0 : Rho) (listed : Array Bool) (ρ : Rho) (q : Nat) (a : Act) (w : World) : Prop where
  sz : listed.size = ops.size
  qn : q ≤ ops.size
  seg : segEnd l q = true
  hv : ∀ r, r < q → heavyAt l r = true → Dn pl listed r
  lt : ∀ r, Dn pl listed r → r < q
  down : Down ops listed
  tsz : nt ≤ a.tmps.size
  inv : Inv E w0 M0 ρ (S q).hp (S q).nx w
  df : DR ρ (S q).df a.defers
  done : ∀ (p : Nat) (o : Oper) (d : Tmp), l[p]? = some o → o.dst = some d → Dn pl listed p → RV ρ (tget (S ops.size).tm d) (a.tmps.getD d undef)
  undone : ∀ t : Tmp, (∀ (p : Nat) (o : Oper), l[p]? = some o → Dn pl listed p → o.dst ≠ some t) → RV ρ (tget (S 0).tm t) (a.tmps.getD t undef)
  pend : ∀ (p : Nat) (o : Oper), p < q → l[p]? = some o → ¬ Dn pl listed p → isAlloc o.op = true → wants ops.toList (S p).tm o = some true → ρ (S p).nx = none
  mono : ∀ p, p < q → (S p).nx ≤ (S (p + 1)).nx
  base : ∀ b, b < (S 0).nx → ρ b = ρ0 b

/-- What an operation looks at is what the one order saw. -/
theorem KI.view (R : Run E call nt ops pl l S) {ρ0 ρ : Rho} {listed : Array Bool} {q : Nat} {a : Act} {w : World} (h : KI E nt w0 M0 ops pl l S ρ0 listed ρ q a w) {p i : Nat} {o : Oper} (hp : pl.ord[p]? = some i) (ho : l[p]? = some o)
    (hn : ¬ Dn pl listed p) (hr : ∀ e ∈ bindsOf o, listed.getD e false = true) {t : Tmp} (ht : t ∈ o.looksAt ops) : RV ρ (tget (S p).tm t) (a.tmps.getD t undef) := by
  have hpn : p < ops.size := (R.ord_of ho).choose_spec.2.2
  by_cases hw : ∃ (r : Nat) (o' : Oper), l[r]? = some o' ∧ o'.dst = some t
  · obtain ⟨r, o', hr', hd'⟩ := hw
    obtain ⟨j, hj, _, hrn⟩ := R.ord_of hr'
    have hun : ¬ Dn pl listed r → r ≥ p → RV ρ (tget (S p).tm t) (a.tmps.getD t undef) := fun hnd hge => by
      rw [R.tm_first (by omega) fun r2 o2 h2 hl2 hd2 => by have := R.dst_ne hr' hl2 hd' hd2; omega]
      exact h.undone t fun r2 o2 hl2 hD hd2 => by
        have := R.dst_ne hr' hl2 hd' hd2
        subst this
        exact hnd hD
    rcases Nat.lt_trichotomy r p with hlt | rfl | hgt
    · obtain ⟨_, h2, _⟩ := R.pp.pair p r i j o o' hlt hp hj ho hr'
      have hanc : isAnc pl i j = true := h2.resolve_right fun hap => (Oper.apart_spec hap).1 t hd' ht
      have hlj := R.anc_ready h.down hp ho hr hanc
      rw [R.tm_done hr' hd' hlt (by omega), ← R.tm_done hr' hd' (by omega : r < ops.size) (Nat.le_refl _)]
      exact h.done r o' t hr' hd' ⟨j, hj, hlj⟩
    · exact hun hn (Nat.le_refl _)
    · obtain ⟨_, h2, _⟩ := R.pp.pair r p j i o' o hgt hj hp hr' ho
      have hanc : isAnc pl j i = true := h2.resolve_right fun hap => (Oper.apart_spec hap).2.2 t hd' ht
      refine hun (fun hD => hn ?_) (by omega)
      obtain ⟨j', hj', hlj⟩ := hD
      rw [hj] at hj'; cases hj'
      exact ⟨i, hp, R.anc_done h.down r j i hj hlj hanc⟩
  · rw [R.tm_first (by omega) fun r o' _ hl hd => hw ⟨r, o', hl, hd⟩]
    exact h.undone t fun r o' hl _ hd => hw ⟨r, o', hl, hd⟩
end
end Go.Rf
