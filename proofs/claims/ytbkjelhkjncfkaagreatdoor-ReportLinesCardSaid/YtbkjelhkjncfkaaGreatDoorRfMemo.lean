/-
  Calls that were reckoned once, and are taken from a table afterwards. No statement of the program is claimed here.
-/
import Derived.Test.YtbkjelhkjncfkaaGreatDoorRfShut
namespace Go.Rf

/-! ### Sameness -/
def eqBytes : List UInt8 → List UInt8 → Bool
  | [], [] => true
  | a :: l, b :: m => bif Nat.beq a.toNat b.toNat then eqBytes l m else false
  | _, _ => false
theorem eqBytes_eq : ∀ {l m : List UInt8}, eqBytes l m = true → l = m
  | [], [], _ => rfl
  | [], _ :: _, h => by cases h
  | _ :: _, [], h => by cases h
  | a :: l, b :: m, h => by
    unfold eqBytes at h
    cases hb : Nat.beq a.toNat b.toNat with
    | false => rw [hb] at h; cases h
    | true =>
      rw [hb] at h
      rw [eqBytes_eq h, UInt8.toNat_inj.1 (Nat.eq_of_beq_eq_true hb)]
def eqFn : Fn → Fn → Bool
  | .func a, .func b => Nat.beq a b
  | _, _ => false
theorem eqFn_eq {a b : Fn} (h : eqFn a b = true) : a = b := by
  unfold eqFn at h
  split at h
  · rw [Nat.eq_of_beq_eq_true h]
  · cases h
def eqA : V → V → Bool
  | .str s, .str t => eqBytes s.data.toList t.data.toList
  | .func f [] [], .func g [] [] => eqFn f g
  | x, y => eq0 x y
theorem eqA_eq {x y : V} (h : eqA x y = true) : x = y := by
  unfold eqA at h
  split at h
  · rename_i s t
    have := eqBytes_eq h
    obtain ⟨s⟩ := s
    obtain ⟨t⟩ := t
    have : s = t := by simpa using this
    rw [this]
  · rw [eqFn_eq h]
  · exact eq0_eq h
def eqLA : List V → List V → Bool
  | [], [] => true
  | x :: l, y :: m => bif eqA x y then eqLA l m else false
  | _, _ => false
theorem eqLA_eq : ∀ {l m : List V}, eqLA l m = true → l = m
  | [], [], _ => rfl
  | [], _ :: _, h => by cases h
  | _ :: _, [], h => by cases h
  | x :: l, y :: m, h => by
    unfold eqLA at h
    cases hx : eqA x y with
    | false => rw [hx] at h; cases h
    | true => rw [hx] at h; rw [eqA_eq hx, eqLA_eq h]
def eqB : V → V → Bool
  | .agg l, .agg m => eqLA l m
  | x, y => eqA x y
theorem eqB_eq {x y : V} (h : eqB x y = true) : x = y := by
  unfold eqB at h
  split at h
  · rw [eqLA_eq h]
  · exact eqA_eq h
def eqLB : List V → List V → Bool
  | [], [] => true
  | x :: l, y :: m => bif eqB x y then eqLB l m else false
  | _, _ => false
theorem eqLB_eq : ∀ {l m : List V}, eqLB l m = true → l = m
  | [], [], _ => rfl
  | [], _ :: _, h => by cases h
  | _ :: _, [], h => by cases h
  | x :: l, y :: m, h => by
    unfold eqLB at h
    cases hx : eqB x y with
    | false => rw [hx] at h; cases h
    | true => rw [hx] at h; rw [eqB_eq hx, eqLB_eq h]
def eqC : V → V → Bool
  | .tup l, .tup m => eqLB l m
  | x, y => eqB x y
theorem eqC_eq {x y : V} (h : eqC x y = true) : x = y := by
  unfold eqC at h
  split at h
  · rw [eqLB_eq h]
  · exact eqB_eq h

/-! ### Blocks moved up: from 'n' on by 'd' -/
def sh (n d b : Nat) : Nat := bif Nat.blt b n then b else Nat.add b d
def shA (n d : Nat) : V → V
  | .ptr b o => .ptr (sh n d b) o
  | .sl b o l c e => .sl (sh n d b) o l c e
  | .map b => .map (sh n d b)
  | v => v
def shL (n d : Nat) : List V → List V
  | [] => []
  | v :: l => shA n d v :: shL n d l
def shB (n d : Nat) : V → V
  | .agg l => .agg (shL n d l)
  | v => shA n d v
def shM (n d : Nat) : List V → List V
  | [] => []
  | v :: l => shB n d v :: shM n d l
def shC (n d : Nat) : V → V
  | .tup l => .tup (shM n d l)
  | v => shB n d v
/-- What can be moved. -/
def okA : V → Bool
  | .agg _ => false
  | .yield _ => false
  | .tup _ => false
  | .func _ [] [] => true
  | .func _ _ _ => false
  | _ => true
def okL : List V → Bool
  | [] => true
  | v :: l => bif okA v then okL l else false
def okB : V → Bool
  | .agg l => okL l
  | v => okA v
def okM : List V → Bool
  | [] => true
  | v :: l => bif okB v then okM l else false
def okC : V → Bool
  | .tup l => okM l
  | v => okB v
/-- All blocks lie below. -/
def blA (n : Nat) : V → Bool
  | .ptr b _ => Nat.blt b n
  | .sl b _ _ _ _ => Nat.blt b n
  | .map b => Nat.blt b n
  | .yield _ => false
  | .agg _ => false
  | .tup _ => false
  | .func _ [] [] => true
  | .func _ _ _ => false
  | _ => true
def blL (n : Nat) : List V → Bool
  | [] => true
  | v :: l => bif blA n v then blL n l else false
def blB (n : Nat) : V → Bool
  | .agg l => blL n l
  | v => blA n v
def blM (n : Nat) : List V → Bool
  | [] => true
  | v :: l => bif blB n v then blM n l else false

section
variable {ρ ρ' : Rho} {n d : Nat}
theorem bif2 {c x : Bool} (h : (bif c then x else false) = true) : c = true ∧ x = true := by cases c; cases h; exact ⟨rfl, h⟩

theorem RV.shA (hs : ∀ b x, ρ b = some x → ρ' (sh n d b) = some x) {v : V} {c : Value} (ho : okA v = true) (h : RV ρ v c) : RV ρ' (shA n d v) c := by
  cases h with
  | bool b => exact .bool b
  | int k n => exact .int k n
  | str s => exact .str s
  | nilPtr => exact .nilPtr
  | ptr h => exact .ptr (hs _ _ h)
  | nilSl => exact .nilSl
  | sl h a b c => exact .sl (hs _ _ h) a b c
  | esl a c => exact .esl a c
  | nilFunc => exact .nilFunc
  | @func fn f1 f2 a1 a2 h1 h2 =>
    cases f1 with
    | cons _ _ => cases ho
    | nil =>
      cases f2 with
      | cons _ _ => cases ho
      | nil =>
        generalize he1 : a1.toList = l1 at h1
        generalize he2 : a2.toList = l2 at h2
        cases h1
        cases h2
        exact .func (by rw [he1]; exact .nil) (by rw [he2]; exact .nil)
  | nilMap => exact .nilMap
  | map h => exact .map (hs _ _ h)
  | yield h => cases ho
  | agg h => cases ho
  | tup h => cases ho
  | dead c => exact .dead c
theorem RL.shL (hs : ∀ b x, ρ b = some x → ρ' (sh n d b) = some x) : ∀ {l : List V} {cs : List Value}, okL l = true → RL ρ l cs → RL ρ' (shL n d l) cs
  | _, _, _, .nil => .nil
  | _, _, ho, .cons h t => .cons (h.shA hs (bif2 ho).1) (RL.shL hs (bif2 ho).2 t)
theorem RV.shB (hs : ∀ b x, ρ b = some x → ρ' (sh n d b) = some x) {v : V} {c : Value} (ho : okB v = true) (h : RV ρ v c) : RV ρ' (shB n d v) c := by
  cases v with
  | agg l => cases h with | agg h => exact .agg (RL.shL hs ho h)
  | _ => simp only [okB] at ho; simp only [Go.Rf.shB]; exact RV.shA hs ho h
theorem RL.shM (hs : ∀ b x, ρ b = some x → ρ' (sh n d b) = some x) : ∀ {l : List V} {cs : List Value}, okM l = true → RL ρ l cs → RL ρ' (shM n d l) cs
  | _, _, _, .nil => .nil
  | _, _, ho, .cons h t => .cons (h.shB hs (bif2 ho).1) (RL.shM hs (bif2 ho).2 t)
theorem RV.shC (hs : ∀ b x, ρ b = some x → ρ' (sh n d b) = some x) {v : V} {c : Value} (ho : okC v = true) (h : RV ρ v c) : RV ρ' (shC n d v) c := by
  cases v with
  | tup l => cases h with | tup h => exact .tup (RL.shM hs ho h)
  | _ => simp only [okC] at ho; simp only [Go.Rf.shC]; exact RV.shB hs ho h

theorem RV.blA (hs : ∀ b x, b < n → ρ b = some x → ρ' b = some x) {v : V} {c : Value} (ho : blA n v = true) (h : RV ρ v c) : RV ρ' v c := by
  cases h with
  | bool b => exact .bool b
  | int k n => exact .int k n
  | str s => exact .str s
  | nilPtr => exact .nilPtr
  | ptr h => exact .ptr (hs _ _ (by simpa [Go.Rf.blA] using ho) h)
  | nilSl => exact .nilSl
  | sl h a b c => exact .sl (hs _ _ (by simpa [Go.Rf.blA] using ho) h) a b c
  | esl a c => exact .esl a c
  | nilFunc => exact .nilFunc
  | @func fn f1 f2 a1 a2 h1 h2 =>
    cases f1 with
    | cons _ _ => cases ho
    | nil =>
      cases f2 with
      | cons _ _ => cases ho
      | nil =>
        generalize he1 : a1.toList = l1 at h1
        generalize he2 : a2.toList = l2 at h2
        cases h1
        cases h2
        exact .func (by rw [he1]; exact .nil) (by rw [he2]; exact .nil)
  | nilMap => exact .nilMap
  | map h => exact .map (hs _ _ (by simpa [Go.Rf.blA] using ho) h)
  | yield h => cases ho
  | agg h => cases ho
  | tup h => cases ho
  | dead c => exact .dead c
theorem RL.blL (hs : ∀ b x, b < n → ρ b = some x → ρ' b = some x) : ∀ {l : List V} {cs : List Value}, blL n l = true → RL ρ l cs → RL ρ' l cs
  | _, _, _, .nil => .nil
  | _, _, ho, .cons h t => .cons (h.blA hs (bif2 ho).1) (RL.blL hs (bif2 ho).2 t)
theorem RV.blB (hs : ∀ b x, b < n → ρ b = some x → ρ' b = some x) {v : V} {c : Value} (ho : blB n v = true) (h : RV ρ v c) : RV ρ' v c := by
  cases v with
  | agg l => cases h with | agg h => exact .agg (RL.blL hs ho h)
  | _ => simp only [Go.Rf.blB] at ho; exact RV.blA hs ho h
theorem RL.blM (hs : ∀ b x, b < n → ρ b = some x → ρ' b = some x) : ∀ {l : List V} {cs : List Value}, blM n l = true → RL ρ l cs → RL ρ' l cs
  | _, _, _, .nil => .nil
  | _, _, ho, .cons h t => .cons (h.blB hs (bif2 ho).1) (RL.blM hs (bif2 ho).2 t)
end

/-! ### An entry -/
structure Ent where
  f : FuncId
  args : List V
  pre : List (Nat × List V)
  n0 : Nat
  v : V
  len : Nat
  new : List (Nat × List V)

noncomputable def layP : List (Nat × List V) → Hp → Hp
  | [], h => h
  | (b, cs) :: r, h => layP r (h.set b (some (.ro cs)))
theorem layP_get : ∀ (l : List (Nat × List V)) (h : Hp) (b : Nat) (x : Blk), (layP l h).get b = some x → (∃ cs, x = .ro cs ∧ (b, cs) ∈ l) ∨ h.get b = some x
  | [], h, b, x, hx => .inr hx
  | (b', cs) :: r, h, b, x, hx => by
    rcases layP_get r _ b x hx with ⟨cs', h1, h2⟩ | h1
    · exact .inl ⟨cs', h1, .tail _ h2⟩
    · by_cases e : b = b'
      · subst e
        rw [T.get_same] at h1
        cases h1
        exact .inl ⟨cs, rfl, .head _⟩
      · rw [T.get_ne _ _ _ _ e] at h1
        exact .inr h1
noncomputable def preOk (hp : Hp) : List (Nat × List V) → Bool
  | [] => true
  | (b, cs) :: r => bif (match hp.get b with | some blk => (match blk.rd with | some cs' => eqLA cs' cs | none => false) | none => false) then preOk hp r else false
theorem preOk_mem {hp : Hp} : ∀ {l : List (Nat × List V)}, preOk hp l = true → ∀ b cs, (b, cs) ∈ l → ∃ blk, hp.get b = some blk ∧ blk.rd = some cs
  | [], _, b, cs, hm => by cases hm
  | (b', cs') :: r, h, b, cs, hm => by
    obtain ⟨h1, h2⟩ := bif2 h
    rcases List.mem_cons.1 hm with e | e
    · cases e
      split at h1
      · rename_i blk hb
        split at h1
        · rename_i cs2 hc
          exact ⟨blk, hb, by rw [hc, eqLA_eq h1]⟩
        · cases h1
      · cases h1
    · exact preOk_mem h2 b cs e
def preBl (n : Nat) : List (Nat × List V) → Bool
  | [] => true
  | (b, cs) :: r => bif Nat.blt b n && blL n cs then preBl n r else false
theorem preBl_mem {n : Nat} : ∀ {l : List (Nat × List V)}, preBl n l = true → ∀ b cs, (b, cs) ∈ l → b < n ∧ blL n cs = true
  | [], _, b, cs, hm => by cases hm
  | (b', cs') :: r, h, b, cs, hm => by
    obtain ⟨h1, h2⟩ := bif2 h
    rcases List.mem_cons.1 hm with e | e
    · cases e
      rw [Bool.and_eq_true] at h1
      exact ⟨by simpa using h1.1, h1.2⟩
    · exact preBl_mem h2 b cs e
noncomputable def newOk (hp : Hp) (n0 len : Nat) : List (Nat × List V) → Bool
  | [] => true
  | (j, cs) :: r => bif Nat.blt j len && (okL cs && (match hp.get (Nat.add n0 j) with | some (.cells cs') => eqLA cs' cs | _ => false)) then newOk hp n0 len r else false
theorem newOk_get {hp : Hp} {n0 len : Nat} : ∀ {l : List (Nat × List V)}, newOk hp n0 len l = true → ∀ j cs, (j, cs) ∈ l → j < len ∧ okL cs = true ∧ hp.get (n0 + j) = some (.cells cs)
  | [], _, j, cs, hj => by cases hj
  | (j', cs') :: r, h, j, cs, hj => by
    obtain ⟨h1, h2⟩ := bif2 h
    rcases List.mem_cons.1 hj with e | e
    · obtain ⟨e1, e2⟩ : j = j' ∧ cs = cs' := by cases e; exact ⟨rfl, rfl⟩
      rw [e1, e2]
      simp only [Bool.and_eq_true, Nat.blt_eq] at h1
      obtain ⟨q1, q2, q3⟩ := h1
      refine ⟨q1, q2, ?_⟩
      split at q3
      · rename_i c hc
        have hc' : hp.get (n0 + j') = some (.cells c) := hc
        rw [hc', eqLA_eq q3]
      · cases q3
    · exact newOk_get h2 j cs e

/-- What an entry says. -/
structure EntOk (P : Program) (E : Env) (e : Ent) : Prop where
  glob : ∀ g b, E.glob g = some b → b < e.n0
  args : blM e.n0 e.args = true
  pre : preBl e.n0 e.pre = true
  val : okC e.v = true
  known : ∃ fi, E.fn e.f = some fi
  low : e.f < markId
  run : ∃ r : R, r.v = e.v ∧ r.df = none ∧ r.nx = e.n0 + e.len ∧ (∀ (j : Nat) cs, (j, cs) ∈ e.new → j < e.len ∧ okL cs = true ∧ r.hp.get (e.n0 + j) = some (.cells cs)) ∧
    (∀ w0 M0 ρ (args : Array Value) w, RL ρ e.args args.toList → Inv E w0 M0 ρ (layP e.pre .e) e.n0 w → Calls P e.f args w fun x w' => ∃ c, x = .returned c ∧ Stp E w0 M0 ρ e.n0 r c w') ∧
    (∀ w0 M0 ρ (args : Array Value) w u, RL ρ e.args args.toList → Inv E w0 M0 ρ (layP e.pre .e) e.n0 w → CallsDIn (FW none) 0 P e.f args u w fun x u' w' => u' = u ∧ ∃ c, x = .returned c ∧ Stp E w0 M0 ρ e.n0 r c w')

/-- An entry, reckoned. -/
noncomputable def entChk (call : CallT) (ng : Nat) (e : Ent) : Bool :=
  bif (Nat.ble ng e.n0 && blM e.n0 e.args) && (preBl e.n0 e.pre && (okC e.v && Nat.blt e.f markId)) then
    (match call e.f e.args (layP e.pre .e) e.n0 with
      | some r => bif eqC r.v e.v then (bif r.df.isNone && Nat.beq r.nx (e.n0 + e.len) then newOk r.hp e.n0 e.len e.new else false) else false
      | none => false)
  else false
theorem entOk_of {P : Program} {E : Env} {call : CallT} (hG : Good P E call) {ng : Nat} (hng : ∀ g b, E.glob g = some b → b < ng) {e : Ent} (h : entChk call ng e = true) : EntOk P E e := by
  obtain ⟨h1, h2⟩ := bif2 h
  simp only [Bool.and_eq_true, Nat.ble_eq, Nat.blt_eq] at h1
  split at h2
  · rename_i r hr
    obtain ⟨h3, h4⟩ := bif2 h2
    obtain ⟨h5, h6⟩ := bif2 h4
    simp only [Bool.and_eq_true, Nat.beq_eq] at h5
    have hd : r.df = none := by
      cases hx : r.df with
      | none => rfl
      | some x => rw [hx] at h5; simp at h5
    exact ⟨fun g b hb => Nat.lt_of_lt_of_le (hng g b hb) h1.1.1, h1.1.2, h1.2.1, h1.2.2.1, hG.known _ _ _ _ _ hr h1.2.2.2, h1.2.2.2, r, eqC_eq h3, hd, h5.2, newOk_get h6,
      hG.calls _ _ _ _ _ hr h1.2.2.2, hG.later _ _ _ _ _ hr h1.2.2.2 hd⟩
  · cases h2

/-! ### Its use -/
noncomputable def layN (n d : Nat) : List (Nat × List V) → Nat → Hp → Hp
  | [], _, h => h
  | (j, cs) :: r, i, h => layN n d r i (h.set (Nat.add i j) (some (.cells (shL n d cs))))
theorem layN_get {n d : Nat} : ∀ (l : List (Nat × List V)) (i : Nat) (h : Hp) (b : Nat) (x : Blk), (layN n d l i h).get b = some x →
    (∃ j cs, b = i + j ∧ (j, cs) ∈ l ∧ x = .cells (shL n d cs)) ∨ h.get b = some x
  | [], i, h, b, x, hx => .inr hx
  | (j', cs') :: r, i, h, b, x, hx => by
    rcases layN_get r i _ b x hx with ⟨j, cs, h1, h2, h3⟩ | h1
    · exact .inl ⟨j, cs, h1, .tail _ h2, h3⟩
    · by_cases e : b = i + j'
      · subst e
        have h1' : (h.set (i + j') (some (.cells (shL n d cs')))).get (i + j') = some x := h1
        rw [T.get_same] at h1'
        cases h1'
        exact .inl ⟨j', cs', rfl, .head _, rfl⟩
      · have h1' : (h.set (i + j') (some (.cells (shL n d cs')))).get b = some x := h1
        rw [T.get_ne _ _ _ _ e] at h1'
        exact .inr h1'

noncomputable def useEnt (e : Ent) (args : List V) (hp : Hp) (nx : Nat) : Option R :=
  bif (eqLB args e.args && Nat.ble e.n0 nx) && preOk hp e.pre then
    some ⟨shC e.n0 (Nat.sub nx e.n0) e.v, layN e.n0 (Nat.sub nx e.n0) e.new nx hp, Nat.add nx e.len, none⟩
  else none

theorem BR_ro {ρ : Rho} {w : World} {g : Nat} {n : Nat × Nat} {x : Blk} {cs : List V} (h : BR ρ w g n x) (hr : x.rd = some cs) : BR ρ w g n (.ro cs) := by
  cases x with
  | cells l =>
    cases hr
    obtain ⟨arr, el, h1, h2, h3, h4, h5⟩ := h
    exact ⟨arr, el, _, h1, h2, by omega, by rw [h5, List.drop_zero]; exact h4⟩
  | ro l => cases hr; exact h
  | map l => cases hr
  | loop l => cases hr
  | mark l => cases hr
  | iter m k sn => cases hr

section
variable {P : Program} {E : Env}
theorem use_inv {e : Ent} (h : EntOk P E e) {args : List V} {hp : Hp} {nx : Nat} {r : R} (hu : useEnt e args hp nx = some r) {w0 : World} {M0 : Nat → Prop} {ρ : Rho} {cargs : Array Value} {w : World} (hl : RL ρ args cargs.toList) (hI : Inv E w0 M0 ρ hp nx w) :
    ∃ ρ0 : Rho, RL ρ0 e.args cargs.toList ∧ Inv E w (fun _ => False) ρ0 (layP e.pre .e) e.n0 w ∧
      ∀ (r0 : R) (c : Value) (w' : World), r0.v = e.v → r0.nx = e.n0 + e.len → (∀ (j : Nat) cs, (j, cs) ∈ e.new → j < e.len ∧ okL cs = true ∧ r0.hp.get (e.n0 + j) = some (.cells cs)) →
        Stp E w (fun _ => False) ρ0 e.n0 r0 c w' → Stp E w0 M0 ρ nx r c w' := by
  obtain ⟨hc, hr⟩ := bif_some hu
  simp only [Bool.and_eq_true, Nat.ble_eq] at hc
  obtain ⟨⟨ha, hn⟩, hp0⟩ := hc
  obtain rfl := eqLB_eq ha
  cases hr
  have hlow : ∀ b x, b < e.n0 → ρ b = some x → (if b < e.n0 then ρ b else none) = some x := fun b x hb hx => by rw [if_pos hb]; exact hx
  refine ⟨fun b => if b < e.n0 then ρ b else none, RL.blM hlow h.args hl, ⟨⟨fun b hb => if_neg (by omega), fun b hb => ?_, fun b g n hb => ?_, fun b b' x x' g n n' hb _ hm => ?_, fun b x g n hb hg => ?_⟩, WF.refl _ _, fun g hg => ?_, fun g b hb => ?_⟩, ?_⟩
  · cases hx : (layP e.pre .e).get b with
    | none => rfl
    | some x =>
      rcases layP_get _ _ _ _ hx with ⟨cs, _, hm⟩ | h1
      · have := (preBl_mem h.pre b cs hm).1; omega
      · rw [T.get_e] at h1; cases h1
  · try simp only at hb
    split at hb
    · exact hI.hr.bnd b g n hb
    · cases hb
  · rcases layP_get _ _ _ _ hb with ⟨cs, rfl, _⟩ | h1
    · exact hm.elim
    · rw [T.get_e] at h1; cases h1
  · rcases layP_get _ _ _ _ hb with ⟨cs, rfl, hm⟩ | h1
    · obtain ⟨blk, h2, h3⟩ := preOk_mem hp0 b cs hm
      have h4 := (preBl_mem h.pre b cs hm)
      simp only [if_pos h4.1] at hg
      obtain ⟨arr, el, fr, k1, k2, k3, k4⟩ := BR_ro (hI.hr.blk b blk g n h2 hg) h3
      exact ⟨arr, el, fr, k1, k2, k3, RL.blL hlow h4.2 k4⟩
    · rw [T.get_e] at h1; cases h1
  · obtain ⟨b, x, n, hb, hm, _⟩ := hg
    rcases layP_get _ _ _ _ hb with ⟨cs, rfl, _⟩ | h1
    · exact hm.elim
    · rw [T.get_e] at h1; cases h1
  · obtain ⟨n, hn'⟩ := hI.gl g b hb
    exact ⟨n, by rw [if_pos (h.glob g b hb)]; exact hn'⟩
  · intro r0 c w' q1 q2 q3 ⟨ρ1, h1, h2, h3, h4⟩
    have hd : nx = e.n0 + Nat.sub nx e.n0 := by have : Nat.sub nx e.n0 = nx - e.n0 := rfl; omega
    generalize Nat.sub nx e.n0 = d at hd
    subst hd
    have hsh : ∀ b x, ρ1 b = some x → (fun b => if b < e.n0 + d then ρ b else ρ1 (b - d)) (sh e.n0 d b) = some x := fun b x hx => by
      unfold sh
      by_cases hb : b < e.n0
      · have hb' : Nat.blt b e.n0 = true := by simpa using hb
        simp only [hb', cond_true]
        rw [if_pos (by omega)]
        have := h4 b hb
        rw [hx] at this
        simp only [if_pos hb] at this
        exact this.symm
      · have hb' : Nat.blt b e.n0 = false := by rw [← Bool.not_eq_true]; simpa using hb
        have ha : Nat.add b d = b + d := rfl
        simp only [hb', cond_false, ha]
        rw [if_neg (by omega), Nat.add_sub_cancel]
        exact hx
    have hext : Ext ρ (fun b => if b < e.n0 + d then ρ b else ρ1 (b - d)) := fun b x hx => by
      rcases Nat.lt_or_ge b (e.n0 + d) with hb | hb
      · simp only [if_pos hb]; exact hx
      · rw [hI.hr.dom b hb] at hx; cases hx
    have hget : ∀ b x, (layN e.n0 d e.new (e.n0 + d) hp).get b = some x → (b < e.n0 + d ∧ hp.get b = some x) ∨ (e.n0 + d ≤ b ∧ ∃ cs, x = .cells (shL e.n0 d cs) ∧ okL cs = true ∧ r0.hp.get (b - d) = some (.cells cs)) := fun b x hx => by
      rcases layN_get _ _ _ _ _ hx with ⟨j, cs, k1, k2, k3⟩ | k1
      · obtain ⟨_, k4, k5⟩ := q3 j cs k2
        exact .inr ⟨by omega, cs, k3, k4, by rw [show b - d = e.n0 + j by omega]; exact k5⟩
      · rcases Nat.lt_or_ge b (e.n0 + d) with hb | hb
        · exact .inl ⟨hb, k1⟩
        · rw [hI.hr.free b hb] at k1; cases k1
    have hnew : ∀ b g n, e.n0 + d ≤ b → (∃ cs, r0.hp.get (b - d) = some (.cells cs)) → ρ1 (b - d) = some (g, n) → w.heap.size ≤ g := fun b g n _ ⟨cs, hcs⟩ hg => by
      rcases h1.wr g ⟨b - d, _, n, hcs, trivial, hg⟩ with hf | hf
      · exact hf.elim
      · exact hf
    refine ⟨fun b => if b < e.n0 + d then ρ b else ρ1 (b - d), ⟨⟨fun b hb => ?_, fun b hb => ?_, fun b g n hb => ?_, fun b b' x x' g n n' hb hb' hm hg hg' => ?_, fun b x g n hb hg => ?_⟩, ?_, fun g hg => ?_, fun g b hb => ?_⟩, ?_, Nat.le_add_right _ _, fun b hb => if_pos hb⟩
    · have hb' : e.n0 + d + e.len ≤ b := hb
      try simp only
      rw [if_neg (by omega)]
      exact h1.hr.dom _ (by omega)
    · have hb' : e.n0 + d + e.len ≤ b := hb
      cases hx : (layN e.n0 d e.new (e.n0 + d) hp).get b with
      | none => rfl
      | some x =>
        rcases layN_get _ _ _ _ _ hx with ⟨j, cs, k1, k2, k3⟩ | k1
        · have := (q3 j cs k2).1; omega
        · rw [hI.hr.free b (by omega)] at k1; cases k1
    · try simp only at hb
      split at hb
      · exact Nat.lt_of_lt_of_le (hI.hr.bnd b g n hb) h1.wf.size
      · exact h1.hr.bnd _ g n hb
    · try simp only at hg hg'
      rcases hget b x hb with ⟨a1, a2⟩ | ⟨a1, cs, a2, a3, a4⟩
      · rw [if_pos a1] at hg
        rcases hget b' x' hb' with ⟨b1, b2⟩ | ⟨b1, cs', b2, b3, b4⟩
        · rw [if_pos b1] at hg'
          exact hI.hr.inj b b' x x' g n n' a2 b2 hm hg hg'
        · rw [if_neg (by omega)] at hg'
          have k1 := hI.hr.bnd b g n hg
          have k2 := hnew b' g n' b1 ⟨_, b4⟩ hg'
          omega
      · rw [if_neg (by omega)] at hg
        rcases hget b' x' hb' with ⟨b1, b2⟩ | ⟨b1, cs', b2, b3, b4⟩
        · rw [if_pos b1] at hg'
          have k1 := hI.hr.bnd b' g n' hg'
          have k2 := hnew b g n a1 ⟨_, a4⟩ hg
          omega
        · rw [if_neg (by omega)] at hg'
          have := h1.hr.inj _ _ _ _ g n n' a4 b4 trivial hg hg'
          omega
    · try simp only at hg
      rcases hget b x hb with ⟨a1, a2⟩ | ⟨a1, cs, a2, a3, a4⟩
      · rw [if_pos a1] at hg
        exact (hI.hr.blk b x g n a2 hg).ext hext (h1.wf.block g (hI.hr.bnd b g n hg) id)
      · rw [if_neg (by omega)] at hg
        obtain ⟨arr, el, k1, k2, k3, k4, k5⟩ := h1.hr.blk _ _ g n a4 hg
        subst a2
        have hlen : (shL e.n0 d cs).length = cs.length := by
          have e1 := (RL.shL (ρ' := fun b => if b < e.n0 + d then ρ b else ρ1 (b - d)) (n := e.n0) (d := d) hsh a3 k4).length
          rw [e1, ← k4.length]
        exact ⟨arr, el, k1, k2, by rw [hlen]; exact k3, by rw [hlen]; exact RL.shL (ρ' := fun b => if b < e.n0 + d then ρ b else ρ1 (b - d)) (n := e.n0) (d := d) hsh a3 k4, k5⟩
    · exact hI.wf.then h1.wf fun g hg => hg.elim
    · obtain ⟨b, x, n, hb, hm, hg⟩ := hg
      try simp only at hg
      rcases hget b x hb with ⟨a1, a2⟩ | ⟨a1, cs, a2, a3, a4⟩
      · rw [if_pos a1] at hg
        exact hI.wr g ⟨b, x, n, a2, hm, hg⟩
      · rw [if_neg (by omega)] at hg
        have := hnew b g n a1 ⟨_, a4⟩ hg
        exact .inr (Nat.le_trans hI.wf.size this)
    · obtain ⟨n, hn'⟩ := hI.gl g b hb
      have := h.glob g b hb
      refine ⟨n, ?_⟩
      try simp only
      rw [if_pos (by omega)]; exact hn'
    · have := h2
      rw [q1] at this
      exact RV.shC (ρ' := fun b => if b < e.n0 + d then ρ b else ρ1 (b - d)) (n := e.n0) (d := d) hsh h.val this

/-! ### A table -/
noncomputable def useAny : List Ent → List V → Hp → Nat → Option R
  | [], _, _, _ => none
  | e :: l, args, hp, nx => match useEnt e args hp nx with
    | some r => some r
    | none => useAny l args hp nx
theorem useAny_some : ∀ {l : List Ent} {args : List V} {hp : Hp} {nx : Nat} {r : R}, useAny l args hp nx = some r → ∃ e ∈ l, useEnt e args hp nx = some r
  | [], _, _, _, _, h => by cases h
  | e :: l, args, hp, nx, r, h => by
    unfold useAny at h
    split at h
    · rename_i r' hr
      cases h
      exact ⟨e, .head _, hr⟩
    · obtain ⟨e', h1, h2⟩ := useAny_some h
      exact ⟨e', .tail _ h1, h2⟩
noncomputable def tabCall (tab : T (List Ent)) : CallT := fun f args hp nx => match tab.get f with | some l => useAny l args hp nx | none => none
/-- A table of entries that hold. -/
def TabOk (P : Program) (E : Env) (tab : T (List Ent)) : Prop := ∀ f l, tab.get f = some l → ∀ e ∈ l, e.f = f ∧ EntOk P E e
theorem tab_nil : TabOk P E .e := fun f l h => by rw [T.get_e] at h; cases h
noncomputable def tabAdd (t : T (List Ent)) (e : Ent) : T (List Ent) := t.set e.f (some (e :: match t.get e.f with | some l => l | none => []))
theorem tab_add {t : T (List Ent)} (h : TabOk P E t) {e : Ent} (he : EntOk P E e) : TabOk P E (tabAdd t e) := fun f l hl e' hm => by
  unfold tabAdd at hl
  by_cases hf : f = e.f
  · subst hf
    rw [T.get_same] at hl
    cases hl
    rcases List.mem_cons.1 hm with rfl | hm
    · exact ⟨rfl, he⟩
    · split at hm
      · rename_i l' hl'
        exact h _ _ hl' _ hm
      · cases hm
  · rw [T.get_ne _ _ _ _ hf] at hl
    exact h f l hl e' hm
theorem tab_low {tab : T (List Ent)} (h : TabOk P E tab) {f : FuncId} {args : List V} {hp : Hp} {nx : Nat} {r : R} (hr : tabCall tab f args hp nx = some r) : f < markId := by
  unfold tabCall at hr
  split at hr
  · rename_i l hl
    obtain ⟨e, h1, h2⟩ := useAny_some hr
    have := h f l hl e h1
    rw [← this.1]; exact this.2.low
  · cases hr
theorem tab_good {tab : T (List Ent)} (h : TabOk P E tab) : Good P E (tabCall tab) := by
  have key : ∀ f args hp nx r, tabCall tab f args hp nx = some r → ∃ e, e.f = f ∧ EntOk P E e ∧ useEnt e args hp nx = some r := fun f args hp nx r hr => by
    unfold tabCall at hr
    split at hr
    · rename_i l hl
      obtain ⟨e, h1, h2⟩ := useAny_some hr
      exact ⟨e, (h f l hl e h1).1, (h f l hl e h1).2, h2⟩
    · cases hr
  refine ⟨fun f args hp nx r hr _ => ?_, fun f args hp nx r hr _ w0 M0 ρ cargs w hl hI => ?_, fun f args hp nx r hr _ hd w0 M0 ρ cargs w u hl hI => ?_, fun l vs hp nx r hr => absurd (tab_low h hr) (by rw [← Nat.blt_eq, (round_id l).1]; exact Bool.false_ne_true)⟩
  · obtain ⟨e, rfl, he, _⟩ := key _ _ _ _ _ hr
    exact he.known
  · obtain ⟨e, rfl, he, hu⟩ := key _ _ _ _ _ hr
    obtain ⟨ρ0, k1, k2, k3⟩ := use_inv he hu hl hI
    obtain ⟨r0, q1, q2, q3, q4, q5, q6⟩ := he.run
    exact (q5 w _ ρ0 cargs w k1 k2).mono fun x w' ⟨c, m1, m2⟩ => ⟨c, m1, k3 r0 c w' q1 q3 q4 m2⟩
  · obtain ⟨e, rfl, he, hu⟩ := key _ _ _ _ _ hr
    obtain ⟨ρ0, k1, k2, k3⟩ := use_inv he hu hl hI
    obtain ⟨r0, q1, q2, q3, q4, q5, q6⟩ := he.run
    exact CallsDIn.mono (q6 w _ ρ0 cargs w u k1 k2) fun x u' w' ⟨m0, c, m1, m2⟩ => ⟨m0, c, m1, k3 r0 c w' q1 q3 q4 m2⟩

/-- The evaluator, with a table (or whatever else is good) asked first. -/
noncomputable def evFunT (E : Env) (tb : CallT) (n : Nat) : CallT :=
  Nat.rec (motive := fun _ => CallT) (fun _ _ _ _ => none)
    (fun _ ih f args hp nx => bif Nat.blt f markId then (match tb f args hp nx with | some r => some r | none => bindS (E.fn f) fun fi => evBody E ih fi args hp nx) else evRound E ih (Nat.sub f rdBase) args hp nx) n
theorem evFunT_succ {E : Env} (tb : CallT) (n : Nat) (f : FuncId) (vs : List V) (hp : Hp) (nx : Nat) : evFunT E tb (n + 1) f vs hp nx =
    bif Nat.blt f markId then (match tb f vs hp nx with | some r => some r | none => bindS (E.fn f) fun fi => evBody E (evFunT E tb n) fi vs hp nx) else evRound E (evFunT E tb n) (Nat.sub f rdBase) vs hp nx := rfl
theorem evFunT_good (hE : EOk P E) {tb : CallT} (hT : Good P E tb) : ∀ n, Good P E (evFunT E tb n)
  | 0 => ⟨fun _ _ _ _ _ h => (by cases h), fun _ _ _ _ _ h => (by cases h), fun _ _ _ _ _ h => (by cases h), fun _ _ _ _ _ h => (by cases h)⟩
  | n + 1 => by
    have ih := evFunT_good hE hT n
    refine good_step hE ih (mix_ok hE _ ih) (fun l vs hp nx => ?_) fun f vs hp nx r hlt h => ?_
    · rw [evFunT_succ, (round_id l).1, (round_id l).2]; rfl
    · rw [evFunT_succ, Nat.blt_eq.mpr hlt] at h
      simp only [cond_true] at h
      split at h
      · rename_i r' hr
        cases h
        exact .inr ⟨tb, hT, hr⟩
      · exact .inl (bindS_some h)
end
end Go.Rf
