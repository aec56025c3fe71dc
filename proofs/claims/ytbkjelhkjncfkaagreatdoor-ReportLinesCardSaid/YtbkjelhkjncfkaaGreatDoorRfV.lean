/-
  Tables checked by reckoning: types, functions. No statement of the program is claimed here.
-/
import Derived.Test.YtbkjelhkjncfkaaGreatDoorRfU
namespace Go.Rf

/-! ### A tree from its rows -/
noncomputable def mkT {α : Type} : List (Nat × α) → T α
  | [] => .e
  | (i, x) :: l => (mkT l).set i (some x)
theorem mkT_mem {α : Type} : ∀ {l : List (Nat × α)} {i : Nat} {x : α}, (mkT l).get i = some x → (i, x) ∈ l
  | [], i, x, h => by simp [mkT, T.get_e] at h
  | (j, y) :: l, i, x, h => by
    unfold mkT at h
    by_cases e : i = j
    · subst e
      rw [T.get_same] at h; cases h
      exact List.mem_cons_self ..
    · rw [T.get_ne _ _ _ _ e] at h
      exact List.mem_cons_of_mem _ (mkT_mem h)
/-- All rows. -/
def AllL {α : Type} (Q : α → Prop) : List α → Prop
  | [] => True
  | x :: l => Q x ∧ AllL Q l
theorem AllL.mem {α : Type} {Q : α → Prop} : ∀ {l : List α}, AllL Q l → ∀ x ∈ l, Q x
  | [], _, x, hx => by cases hx
  | y :: l, h, x, hx => by
    cases hx with
    | head => exact h.1
    | tail _ hx => exact AllL.mem h.2 x hx

/-! ### Types -/
def zV : V → Value → Bool
  | .int j a, .int k b => sameK j k && decide (a = b)
  | .bool a, .bool b => a == b
  | .str s, .string t => s.data.toList == t.data.toList
  | .nilPtr, .pointer none => true
  | .nilSl, .slice none 0 0 => true
  | .nilFunc, .nilFunc => true
  | .nilMap, .map none => true
  | _, _ => false
theorem zV_ok {x : V} {c : Value} (h : zV x c = true) (ρ : Rho) : RV ρ x c := by
  unfold zV at h
  split at h
  · simp only [Bool.and_eq_true, decide_eq_true_eq] at h
    obtain ⟨h1, rfl⟩ := h
    obtain rfl := sameK_eq h1
    exact .int _ _
  · obtain rfl := eq_of_beq h; exact .bool _
  · rename_i s t
    have h1 := eq_of_beq h
    have : s = t := by
      cases s; cases t
      simp only at h1
      exact congrArg _ (Array.toList_inj.1 h1)
    subst this; exact .str _
  · exact .nilPtr
  · exact .nilSl
  · exact .nilFunc
  · exact .nilMap
  · cases h
def zL : List V → List Value → Bool
  | [], [] => true
  | x :: l, c :: m => bif zV x c then zL l m else false
  | _, _ => false
theorem zL_ok : ∀ {l : List V} {m : List Value}, zL l m = true → ∀ ρ : Rho, RL ρ l m
  | [], [], _, _ => .nil
  | [], _ :: _, h, _ => by cases h
  | _ :: _, [], h, _ => by cases h
  | x :: l, c :: m, h, ρ => by
    unfold zL at h
    cases hx : zV x c with
    | false => rw [hx] at h; cases h
    | true => rw [hx] at h; exact .cons (zV_ok hx ρ) (zL_ok h ρ)
def fldsOk (P : Program) (ti : TI) (offs : List Nat) (fs : List Field) : Nat → Bool
  | 0 => true
  | i + 1 => (match fs[i]? with
    | some f => (match P.info? f.type, placeS ti offs i with | some j, some (o, n) => !(Nat.beq j.size 0) && (Nat.beq o f.offset && Nat.beq n j.size) | _, _ => false)
    | none => false) && fldsOk P ti offs fs i
theorem fldsOk_ok {P : Program} {ti : TI} {offs : List Nat} {fs : List Field} : ∀ {n : Nat}, fldsOk P ti offs fs n = true → ∀ (i : Nat) (f : Field), i < n → fs[i]? = some f → ∃ j, P.info? f.type = some j ∧ j.size ≠ 0 ∧ placeS ti offs i = some (f.offset, j.size)
  | 0, _, i, f, hi, _ => by omega
  | n + 1, h, i, f, hi, hf => by
    unfold fldsOk at h
    rw [Bool.and_eq_true] at h
    by_cases e : i = n
    · subst e
      have h1 := h.1
      rw [hf] at h1
      simp only at h1
      cases hj : P.info? f.type with
      | none => rw [hj] at h1; cases h1
      | some j =>
        cases hp : placeS ti offs i with
        | none => rw [hj, hp] at h1; cases h1
        | some x =>
          rw [hj, hp] at h1
          obtain ⟨o, n'⟩ := x
          simp only [Bool.and_eq_true, Bool.not_eq_true', Nat.beq_eq] at h1
          obtain ⟨a, rfl, rfl⟩ := h1
          exact ⟨j, rfl, fun e0 => (by rw [e0] at a; cases a), rfl⟩
    · exact fldsOk_ok h.2 i f (by omega) hf
def natsEq : List Nat → List Nat → Bool
  | [], [] => true
  | a :: l, b :: m => bif Nat.beq a b then natsEq l m else false
  | _, _ => false
theorem natsEq_eq : ∀ {l m : List Nat}, natsEq l m = true → l = m
  | [], [], _ => rfl
  | [], _ :: _, h => by cases h
  | _ :: _, [], h => by cases h
  | a :: l, b :: m, h => by
    unfold natsEq at h
    obtain ⟨h1, h2⟩ : Nat.beq a b = true ∧ natsEq l m = true := by
      cases hx : Nat.beq a b with
      | false => rw [hx] at h; cases h
      | true => rw [hx] at h; exact ⟨rfl, h⟩
    rw [Nat.eq_of_beq_eq_true h1, natsEq_eq h2]
def kChk (P : Program) (ti : TI) (d : TypeDesc) : Bool :=
  match ti.k, d with
  | .bool, .bool => true
  | .int k, .int k' => sameK k k'
  | .str, .string => true
  | .ptr e, .pointer e' => Nat.beq e e'
  | .slice e, .slice e' => Nat.beq e e'
  | .array n e, .array n' e' => Nat.beq n n' && Nat.beq e e'
  | .struct offs, .struct fs => natsEq (fs.toList.map (·.offset)) offs && fldsOk P ti offs fs.toList fs.toList.length
  | .func, .func _ _ _ => true
  | .map k e, .map k' e' => Nat.beq k k' && Nat.beq e e'
  | _, _ => false
theorem kChk_ok {P : Program} {ti : TI} {d : TypeDesc} (h : kChk P ti d = true) : KOk P ti d := by
  unfold kChk at h
  unfold KOk
  generalize ti.k = k at h ⊢
  cases k with
  | bool => cases d <;> first | rfl | cases h
  | int k => cases d <;> first | (rw [sameK_eq h]) | cases h
  | str => cases d <;> first | rfl | cases h
  | ptr e => cases d <;> first | (rw [Nat.eq_of_beq_eq_true h]) | cases h
  | slice e => cases d <;> first | (rw [Nat.eq_of_beq_eq_true h]) | cases h
  | array n e =>
    cases d with
    | array n' e' =>
      simp only [Bool.and_eq_true, Nat.beq_eq] at h
      rw [h.1, h.2]
    | _ => cases h
  | struct offs =>
    cases d with
    | struct fs =>
      simp only [Bool.and_eq_true] at h
      refine ⟨_, rfl, natsEq_eq h.1, fun i f hf => ?_⟩
      rw [← Array.getElem?_toList] at hf
      exact fldsOk_ok h.2 i f (List.getElem?_eq_some_iff.1 hf).1 hf
    | _ => cases h
  | func => cases d <;> first | exact ⟨_, _, _, rfl⟩ | cases h
  | map k e =>
    cases d with
    | map k' e' =>
      simp only [Bool.and_eq_true, Nat.beq_eq] at h
      rw [h.1, h.2]
    | _ => cases h
  | tuple => cases d <;> cases h
def isOne (z : Value) : Bool := match z with | .agg _ => false | _ => true
theorem isOne_ok {z : Value} (h : isOne z = true) : z.cells = #[z] := by
  cases z <;> first | rfl | cases h
def isAggV (z : Value) : Bool := match z with | .agg _ => true | _ => false
theorem isAggV_ok {z : Value} (h : isAggV z = true) : ∃ a, z = .agg a := by
  cases z <;> first | exact ⟨_, rfl⟩ | cases h
def tyChk (P : Program) (t : TypeId) (ti : TI) : Bool :=
  match P.info? t, P.underlying t with
  | some i, some d => (Nat.beq i.size ti.size && Nat.beq i.bytes ti.bytes) && ((match i.zero with | some z => zL ti.zero z.cells.toList && (match ti.agg with | true => isAggV z | false => isOne z) | none => false) && (Nat.beq ti.zero.length ti.size && kChk P ti d))
  | _, _ => false
theorem tyChk_ok {P : Program} {t : TypeId} {ti : TI} (h : tyChk P t ti = true) : TOk P t ti := by
  unfold tyChk at h
  split at h
  · rename_i i d hi hd
    simp only [Bool.and_eq_true, Nat.beq_eq] at h
    obtain ⟨⟨h1, h2⟩, h3, h4, h5⟩ := h
    split at h3
    · rename_i z hz
      simp only [Bool.and_eq_true] at h3
      refine ⟨fun hag i' z' hi' hz' => ?_, fun hag i' z' hi' hz' => ?_, i, d, z, hi, hd, h1, h2, hz, zL_ok h3.1, h4, kChk_ok h5⟩
      rw [hi] at hi'; cases hi'
      rw [hz] at hz'; cases hz'
      have h6 := h3.2
      rw [hag] at h6
      exact isAggV_ok h6
      rw [hi] at hi'; cases hi'
      rw [hz] at hz'; cases hz'
      have h6 := h3.2
      rw [hag] at h6
      exact isOne_ok h6
    · cases h3
  · cases h
def tysChk (P : Program) : List (Nat × TI) → Bool
  | [] => true
  | (t, ti) :: l => bif tyChk P t ti then tysChk P l else false
theorem tysChk_ok {P : Program} : ∀ {l : List (Nat × TI)}, tysChk P l = true → ∀ x ∈ l, TOk P x.1 x.2
  | [], _, x, hx => by cases hx
  | (t, ti) :: l, h, x, hx => by
    unfold tysChk at h
    cases ht : tyChk P t ti with
    | false => rw [ht] at h; cases h
    | true =>
      rw [ht] at h
      cases hx with
      | head => exact tyChk_ok ht
      | tail _ hx => exact tysChk_ok h x hx

/-- What must be known of a function. -/
def FOk (P : Program) (x : Nat × FI) : Prop := ∃ fn, P.funcs[x.1]? = some fn ∧ fn.body = some x.2.body ∧ fn.ntmps = x.2.nt ∧ fn.results.toList = x.2.results ∧ (fn.name == "runtime.NumGoroutine") = false ∧ plansOk x.2.plan x.2.body = true
end Go.Rf
