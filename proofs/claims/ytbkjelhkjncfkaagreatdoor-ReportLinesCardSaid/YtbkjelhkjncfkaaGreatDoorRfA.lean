/-
  How the evaluator's values and blocks stand to the model's: 'RV' (a value), 'HR' (the memory); the laws of both. No statement of the program is claimed here.
-/
import Derived.Test.YtbkjelhkjncfkaaGreatDoorRf
import Derived.Below
import Derived.Laws.CopyRow
import Derived.Deep.MidRow
namespace Go.Rf

/-! ### The tree -/
def W.num : W → Nat
  | .z => 0
  | .l p => 2 * p.num + 1
  | .r p => 2 * p.num + 2
theorem wayF_succ (f i : Nat) : wayF (f + 1) i = bif Nat.beq i 0 then .z else bif Nat.beq (Nat.mod i 2) 1 then .l (wayF f (Nat.div i 2)) else .r (wayF f (Nat.sub (Nat.div i 2) 1)) := rfl
theorem wayF_num (f : Nat) : ∀ i, i < f → (wayF f i).num = i := by
  induction f with
  | zero => intro i h; omega
  | succ f ih =>
    intro i h
    rw [wayF_succ]
    by_cases h0 : i = 0
    · subst h0; rfl
    · have hb : Nat.beq i 0 = false := by rw [← Bool.not_eq_true]; intro h; exact h0 (Nat.eq_of_beq_eq_true h)
      rw [hb, cond_false]
      have e1 : Nat.mod i 2 = i % 2 := rfl
      have e2 : Nat.div i 2 = i / 2 := rfl
      have e3 : Nat.sub (Nat.div i 2) 1 = i / 2 - 1 := rfl
      by_cases h1 : i % 2 = 1
      · have hc : Nat.beq (Nat.mod i 2) 1 = true := by rw [e1, h1]; rfl
        rw [hc, cond_true, e2]
        simp only [W.num]
        rw [ih _ (by omega)]
        omega
      · have hc : Nat.beq (Nat.mod i 2) 1 = false := by rw [e1, ← Bool.not_eq_true]; intro h; exact h1 (Nat.eq_of_beq_eq_true h)
        rw [hc, cond_false, e3]
        simp only [W.num]
        rw [ih _ (by omega)]
        omega
theorem way_num (i : Nat) : (way i).num = i := wayF_num _ _ (Nat.lt_succ_self i)
theorem way_inj {i j : Nat} (h : way i = way j) : i = j := by rw [← way_num i, ← way_num j, h]

theorem getW_e {α : Type} (p : W) : T.getW p (.e : T α) = none := by cases p <;> rfl
theorem getW_setW_same {α : Type} (x : Option α) (p : W) : ∀ t : T α, T.getW p (T.setW x p t) = x := by
  induction p with
  | z => intro t; cases t <;> rfl
  | l p ih => intro t; cases t with
    | e => exact ih .e
    | n l v r => exact ih l
  | r p ih => intro t; cases t with
    | e => exact ih .e
    | n l v r => exact ih r
theorem getW_setW_ne {α : Type} (x : Option α) (p : W) : ∀ (q : W) (t : T α), q ≠ p → T.getW q (T.setW x p t) = T.getW q t := by
  induction p with
  | z =>
    intro q t h
    cases q with
    | z => exact absurd rfl h
    | l q => cases t with
      | e => exact getW_e q
      | n l v r => rfl
    | r q => cases t with
      | e => exact getW_e q
      | n l v r => rfl
  | l p ih =>
    intro q t h
    cases q with
    | z => cases t <;> rfl
    | l q =>
      have hq : q ≠ p := fun e => h (e ▸ rfl)
      cases t with
      | e => exact (ih q .e hq).trans (getW_e q)
      | n l v r => exact ih q l hq
    | r q => cases t with
      | e => exact getW_e q
      | n l v r => rfl
  | r p ih =>
    intro q t h
    cases q with
    | z => cases t <;> rfl
    | r q =>
      have hq : q ≠ p := fun e => h (e ▸ rfl)
      cases t with
      | e => exact (ih q .e hq).trans (getW_e q)
      | n l v r => exact ih q r hq
    | l q => cases t with
      | e => exact getW_e q
      | n l v r => rfl
theorem T.get_same {α : Type} (t : T α) (i : Nat) (x : Option α) : (t.set i x).get i = x := getW_setW_same x _ t
theorem T.get_ne {α : Type} (t : T α) (i j : Nat) (x : Option α) (h : j ≠ i) : (t.set i x).get j = t.get j :=
  getW_setW_ne x _ _ t fun e => h (way_inj e)
theorem T.get_e {α : Type} (i : Nat) : (T.e : T α).get i = none := getW_e _

/-! ### Lists -/
theorem bindO_some {α β : Type} {x : Option α} {k : α → Option β} {r : β} (h : bindO x k = some r) : ∃ a, x = some a ∧ k a = some r := by
  cases x with
  | none => cases h
  | some a => exact ⟨a, rfl, h⟩
theorem bindS_some {α β : Type} {x : Option α} {k : α → Option β} {r : β} (h : bindS x k = some r) : ∃ a, x = some a ∧ k a = some r := by
  cases x with
  | none => cases h
  | some a => exact ⟨a, rfl, h⟩
theorem bif_some {β : Type} {c : Bool} {x : Option β} {r : β} (h : (bif c then x else none) = some r) : c = true ∧ x = some r := by
  cases c with
  | false => cases h
  | true => exact ⟨rfl, h⟩
theorem takeN_succ_cons (n : Nat) (v : V) (l : List V) : takeN (n + 1) (v :: l) = match takeN n l with | some r => some (v :: r) | none => none := rfl
theorem takeN_some {n : Nat} : ∀ {l r : List V}, takeN n l = some r → l = r ++ l.drop n ∧ r.length = n := by
  induction n with
  | zero => intro l r h; cases h; exact ⟨rfl, rfl⟩
  | succ n ih =>
    intro l r h
    cases l with
    | nil => cases h
    | cons v l =>
      rw [takeN_succ_cons] at h
      cases hh : takeN n l with
      | none => rw [hh] at h; cases h
      | some r' =>
        rw [hh] at h; cases h
        obtain ⟨h1, h2⟩ := ih hh
        exact ⟨by rw [List.cons_append, List.drop_succ_cons, ← h1], by rw [List.length_cons, h2]⟩
theorem dropN_eq (n : Nat) : ∀ l : List V, dropN n l = l.drop n := by
  induction n with
  | zero => intro l; rfl
  | succ n ih => intro l; cases l with
    | nil => rfl
    | cons v l => exact ih l
theorem nth_eq : ∀ (l : List V) (i : Nat), nth l i = l[i]? := by
  intro l
  induction l with
  | nil => intro i; rfl
  | cons v l ih =>
    intro i
    cases i with
    | zero => rfl
    | succ i => exact (ih i).trans (by simp)
theorem overL_some : ∀ {vs cs r : List V}, overL vs cs = some r → vs.length ≤ cs.length ∧ r = vs ++ cs.drop vs.length := by
  intro vs
  induction vs with
  | nil => intro cs r h; cases h; exact ⟨Nat.zero_le _, rfl⟩
  | cons v vs ih =>
    intro cs r h
    cases cs with
    | nil => cases h
    | cons c cs =>
      have h' : (match overL vs cs with | some r => some (v :: r) | none => none) = some r := h
      cases hh : overL vs cs with
      | none => rw [hh] at h'; cases h'
      | some r' =>
        rw [hh] at h'; cases h'
        obtain ⟨h1, h2⟩ := ih hh
        exact ⟨by simp; omega, by rw [h2]; rfl⟩
theorem putL_some {o : Nat} {vs : List V} : ∀ {cs r : List V}, putL cs o vs = some r → o + vs.length ≤ cs.length ∧ r = cs.take o ++ vs ++ cs.drop (o + vs.length) := by
  induction o with
  | zero =>
    intro cs r h
    obtain ⟨h1, h2⟩ := overL_some (vs := vs) (cs := cs) (r := r) h
    exact ⟨by omega, by rw [h2]; simp⟩
  | succ o ih =>
    intro cs r h
    cases cs with
    | nil => cases h
    | cons c cs =>
      have h' : (match putL cs o vs with | some r => some (c :: r) | none => none) = some r := h
      cases hh : putL cs o vs with
      | none => rw [hh] at h'; cases h'
      | some r' =>
        rw [hh] at h'; cases h'
        obtain ⟨h1, h2⟩ := ih hh
        refine ⟨by simp; omega, ?_⟩
        rw [h2, show o + 1 + vs.length = (o + vs.length) + 1 by omega]
        simp

/-! ### Values -/
/-- To each block of the evaluator's: the model's block, and how many cells it has. -/
abbrev Rho := Nat → Option (Nat × (Nat × Nat))

mutual
inductive RV (ρ : Rho) : V → Value → Prop
  | bool (b : Bool) : RV ρ (.bool b) (.bool b)
  | int (k : IntKind) (n : Int) : RV ρ (.int k n) (.int k n)
  | str (s : ByteArray) : RV ρ (.str s) (.string s)
  | nilPtr : RV ρ .nilPtr (.pointer none)
  | ptr {b o g : Nat} {n : Nat × Nat} (h : ρ b = some (g, n)) : RV ρ (.ptr b o) (.pointer (some ⟨g, o + n.1, none⟩))
  | nilSl : RV ρ .nilSl (.slice none 0 0)
  | sl {b o len cap g : Nat} {n : Nat × Nat} {c : Nat} {ex : Bool} (h : ρ b = some (g, n)) (hl : len ≤ c) (he : ex = true → c = cap) (hf : ex = false → o + c * cap ≤ n.2) : RV ρ (.sl b o len cap ex) (.slice (some ⟨g, o + n.1, none⟩) len c)
  | esl (a : Addr) (c : Nat) : RV ρ .esl (.slice (some a) 0 c)
  | nilFunc : RV ρ .nilFunc .nilFunc
  | func {fn : Fn} {f1 f2 : List V} {a1 a2 : Array Value} (h1 : RL ρ f1 a1.toList) (h2 : RL ρ f2 a2.toList) : RV ρ (.func fn f1 f2) (.func fn a1 a2)
  | nilMap : RV ρ .nilMap (.map none)
  | map {b g : Nat} {n : Nat × Nat} (h : ρ b = some (g, n)) : RV ρ (.map b) (.map (some g))
  | yield {b g : Nat} {n : Nat × Nat} (h : ρ b = some (g, n)) : RV ρ (.yield b) (.func (.yield g) #[] #[])
  | agg {cs : List V} {a : Array Value} (h : RL ρ cs a.toList) : RV ρ (.agg cs) (.agg a)
  | tup {cs : List V} {a : Array Value} (h : RL ρ cs a.toList) : RV ρ (.tup cs) (.tuple a)
  | dead (c : Value) : RV ρ .dead c
inductive RL (ρ : Rho) : List V → List Value → Prop
  | nil : RL ρ [] []
  | cons {v : V} {vs : List V} {c : Value} {cs : List Value} (h : RV ρ v c) (t : RL ρ vs cs) : RL ρ (v :: vs) (c :: cs)
end

/-- More blocks are known; those that were stay. -/
def Ext (ρ ρ' : Rho) : Prop := ∀ b x, ρ b = some x → ρ' b = some x
theorem Ext.refl (ρ : Rho) : Ext ρ ρ := fun _ _ h => h
theorem Ext.trans {a b c : Rho} (h : Ext a b) (k : Ext b c) : Ext a c := fun i x hx => k i x (h i x hx)

mutual
theorem RV.ext {ρ ρ' : Rho} (he : Ext ρ ρ') : ∀ {v : V} {c : Value}, RV ρ v c → RV ρ' v c
  | _, _, .bool b => .bool b
  | _, _, .int k n => .int k n
  | _, _, .str s => .str s
  | _, _, .nilPtr => .nilPtr
  | _, _, .ptr h => .ptr (he _ _ h)
  | _, _, .nilSl => .nilSl
  | _, _, .sl h a b c => .sl (he _ _ h) a b c
  | _, _, .esl a c => .esl a c
  | _, _, .nilFunc => .nilFunc
  | _, _, .func a b => .func (RL.ext he a) (RL.ext he b)
  | _, _, .nilMap => .nilMap
  | _, _, .map h => .map (he _ _ h)
  | _, _, .yield h => .yield (he _ _ h)
  | _, _, .agg h => .agg (RL.ext he h)
  | _, _, .tup h => .tup (RL.ext he h)
  | _, _, .dead c => .dead c
theorem RL.ext {ρ ρ' : Rho} (he : Ext ρ ρ') : ∀ {vs : List V} {cs : List Value}, RL ρ vs cs → RL ρ' vs cs
  | _, _, .nil => .nil
  | _, _, .cons h t => .cons (RV.ext he h) (RL.ext he t)
end

theorem RL.length {ρ : Rho} : ∀ {vs : List V} {cs : List Value}, RL ρ vs cs → vs.length = cs.length
  | _, _, .nil => rfl
  | _, _, .cons _ t => by rw [List.length_cons, List.length_cons, t.length]
theorem RL.append {ρ : Rho} : ∀ {vs ws : List V} {cs ds : List Value}, RL ρ vs cs → RL ρ ws ds → RL ρ (vs ++ ws) (cs ++ ds)
  | _, _, _, _, .nil, k => k
  | _, _, _, _, .cons h t, k => .cons h (t.append k)
theorem RL.take {ρ : Rho} : ∀ {vs : List V} {cs : List Value}, RL ρ vs cs → ∀ n, RL ρ (vs.take n) (cs.take n)
  | _, _, .nil, n => by simpa using RL.nil
  | _, _, .cons h t, 0 => .nil
  | _, _, .cons h t, n + 1 => .cons h (t.take n)
theorem RL.drop {ρ : Rho} : ∀ {vs : List V} {cs : List Value}, RL ρ vs cs → ∀ n, RL ρ (vs.drop n) (cs.drop n)
  | _, _, .nil, n => by simpa using RL.nil
  | _, _, .cons h t, 0 => .cons h t
  | _, _, .cons h t, n + 1 => t.drop n
theorem RL.get {ρ : Rho} : ∀ {vs : List V} {cs : List Value}, RL ρ vs cs → ∀ (i : Nat) (v : V), vs[i]? = some v → ∃ c, cs[i]? = some c ∧ RV ρ v c
  | _, _, .nil, i, v, h => by simp at h
  | _, _, .cons h t, 0, v, hv => by simp at hv; subst hv; exact ⟨_, rfl, h⟩
  | _, _, .cons h t, i + 1, v, hv => by
    obtain ⟨c, h1, h2⟩ := t.get i v (by simpa using hv)
    exact ⟨c, by simpa using h1, h2⟩
theorem RL.mk {ρ : Rho} : ∀ {vs : List V} {cs : List Value}, vs.length = cs.length → (∀ (i : Nat) (v : V) (c : Value), vs[i]? = some v → cs[i]? = some c → RV ρ v c) → RL ρ vs cs
  | [], [], _, _ => .nil
  | [], _ :: _, h, _ => by simp at h
  | _ :: _, [], h, _ => by simp at h
  | v :: vs, c :: cs, h, k => .cons (k 0 v c rfl rfl) (RL.mk (by simpa using h) fun i x y hx hy => k (i + 1) x y (by simpa using hx) (by simpa using hy))

/-- The cells of a value that is known. -/
theorem RV.cells {ρ : Rho} {v : V} {c : Value} (h : RV ρ v c) {vs : List V} (hc : v.cellsO = some vs) : RL ρ vs c.cells.toList := by
  have h0 := h
  cases h <;> simp only [V.cellsO] at hc <;> first
    | (cases hc; exact .cons h0 .nil)
    | (cases hc; simpa [Value.cells] using ‹RL ρ _ _›)
    | cases hc
theorem RV.one {ρ : Rho} {v : V} {c : Value} (h : RV ρ v c) (hf : v.flat = true) : c.oneCell' = true := by
  cases h <;> first | rfl | cases hf
theorem allFlat_cons (v : V) (l : List V) : allFlat (v :: l) = (bif v.flat then allFlat l else false) := rfl
theorem RL.one {ρ : Rho} : ∀ {vs : List V} {cs : List Value}, RL ρ vs cs → allFlat vs = true → ∀ c ∈ cs, c.oneCell' = true
  | _, _, .nil, _ => fun c hc => by cases hc
  | _, _, .cons (v := v) (vs := vs) h t, hf => by
    rw [allFlat_cons] at hf
    cases hv : v.flat with
    | false => rw [hv] at hf; cases hf
    | true =>
      rw [hv, cond_true] at hf
      intro c hc
      cases hc with
      | head => exact h.one hv
      | tail _ hc => exact t.one hf c hc

/-- What the evaluator holds of the literals. -/
theorem RV.cv (ρ : Rho) (v : Value) : RV ρ (cv v) v := by
  cases v with
  | int k n => exact .int k n
  | bool b => exact .bool b
  | string s => exact .str s
  | nilFunc => exact .nilFunc
  | slice a n c =>
    cases a with
    | some a => exact .dead _
    | none =>
      show RV ρ (bif Nat.beq n 0 && Nat.beq c 0 then .nilSl else .dead) _
      cases h : (Nat.beq n 0 && Nat.beq c 0) with
      | false => exact .dead _
      | true =>
        rw [Bool.and_eq_true] at h
        obtain rfl := Nat.eq_of_beq_eq_true h.1
        obtain rfl := Nat.eq_of_beq_eq_true h.2
        exact .nilSl
  | pointer a => cases a with
    | some a => exact .dead _
    | none => exact .nilPtr
  | map a => cases a with
    | some a => exact .dead _
    | none => exact .nilMap
  | tuple a =>
    obtain ⟨l⟩ := a
    cases l with
    | nil => exact .tup .nil
    | cons x l => exact .dead _
  | _ => exact .dead _

end Go.Rf
