/-
  States related, one operation in its region, and regions in their given order. No statement of the program is claimed here.
-/
import Derived.Test.YtbkjelhkjncfkaaGreatDoorRfJ
import Derived.Tactics
import Derived.TacticsIn
import Derived.DefersIn
namespace Go.Rf
section
variable {P : Program} {E : Env} {call : CallT}

/-- The calls put off. -/
def DR (ρ : Rho) : List (FuncId × List V) → List Deferred → Prop
  | [], [] => True
  | x :: l, d :: m => DOk ρ x d ∧ DR ρ l m
  | _, _ => False
theorem DOk.ext {ρ ρ' : Rho} (he : Ext ρ ρ') {x : FuncId × List V} {d : Deferred} (h : DOk ρ x d) : DOk ρ' x d := by
  rcases h with ⟨h0, cap, h1, h2⟩ | ⟨h0, b, g, n, h1, h2, h3⟩
  · exact .inl ⟨h0, cap, h1, h2.ext he⟩
  · exact .inr ⟨h0, b, g, n, h1, he _ _ h2, h3⟩
theorem DR.ext {ρ ρ' : Rho} (he : Ext ρ ρ') : ∀ {l : List (FuncId × List V)} {m : List Deferred}, DR ρ l m → DR ρ' l m
  | [], [], _ => trivial
  | _ :: _, _ :: _, h => ⟨h.1.ext he, h.2.ext he⟩
  | [], _ :: _, h => h.elim
  | _ :: _, [], h => h.elim

structure SR (E : Env) (w0 : World) (M0 : Nat → Prop) (ρ : Rho) (nt : Nat) (st : St) (a : Act) (w : World) : Prop where
  tr : TR ρ st.tm a
  sz : nt ≤ a.tmps.size
  inv : Inv E w0 M0 ρ st.hp st.nx w
  df : DR ρ st.df a.defers

/-- What is reached from a state. -/
def Re (E : Env) (w0 : World) (M0 : Nat → Prop) (ρ : Rho) (nt nx : Nat) (st : St) (a : Act) (w : World) : Prop :=
  ∃ ρ', SR E w0 M0 ρ' nt st a w ∧ (∀ b, b < nx → ρ' b = ρ b) ∧ nx ≤ st.nx
theorem SR.re {w0 : World} {M0 : Nat → Prop} {ρ : Rho} {nt : Nat} {st : St} {a : Act} {w : World} (h : SR E w0 M0 ρ nt st a w) : Re E w0 M0 ρ nt st.nx st a w := ⟨ρ, h, fun _ _ => rfl, Nat.le_refl _⟩

/-- The fence of a function's activation ('none'), or of a round's. -/
abbrev FW (rd : Option Nat) : Fence := { fn := fun _ => True, depth := none, alive := false, round := rd }
/-- What the calls are good for. -/
structure Good (P : Program) (E : Env) (call : CallT) : Prop where
  known : ∀ f vs hp nx r, call f vs hp nx = some r → f < markId → ∃ fi, E.fn f = some fi
  calls : ∀ f vs hp nx r, call f vs hp nx = some r → f < markId → ∀ w0 M0 ρ (args : Array Value) w, RL ρ vs args.toList → Inv E w0 M0 ρ hp nx w →
    Calls P f args w fun e w' => ∃ c, e = .returned c ∧ Stp E w0 M0 ρ nx r c w'
  later : ∀ f vs hp nx r, call f vs hp nx = some r → f < markId → r.df = none → ∀ w0 M0 ρ (args : Array Value) w u, RL ρ vs args.toList → Inv E w0 M0 ρ hp nx w →
    CallsDIn (FW none) 0 P f args u w fun e u' w' => u' = u ∧ ∃ c, e = .returned c ∧ Stp E w0 M0 ρ nx r c w'
  rounds : ∀ l vs hp nx r, call (Nat.add rdBase l) vs hp nx = some r → ∀ w0 M0 ρ (args : Array Value) w g n, ρ l = some (g, n) → RL ρ vs args.toList → Inv E w0 M0 ρ hp nx w →
    ∃ lr : Loop, w.heap[g]? = some (.loop lr) ∧ args.size = lr.params.size ∧
      RoundIn Fence.wide 0 P g lr.fn ((lr.params.zip args).foldl (fun tmps (t, a) => tmps.setIfInBounds t a) lr.tmps) lr.assign lr.body w fun e w' => ∃ c, e = .returned c ∧ Stp E w0 M0 ρ nx r c w'
theorem callsIn_fw {rd : Option Nat} {f : FuncId} {args : Array Value} {w : World} {R : Ending → World → Prop} (h : Calls P f args w R) : CallsIn (FW rd) 0 P f args w R :=
  (callsIn_wide (n := 0)).2 h
theorem plainOp_sem {rd : Option Nat} {o : Oper} (h : rd = none ∨ plainOp o.op = true) (f : Operand → Value) : o.semAt (FW rd).round f = execOp f o := by
  rcases h with rfl | h
  · rfl
  · exact Oper.semAt_eq rd f o fun c hc => by rw [hc] at h; cases h

theorem putT_ok {ρ : Rho} {nt : Nat} {tm tm' : T V} {a : Act} (htr : TR ρ tm a) (hsz : nt ≤ a.tmps.size) {dst : Option Tmp} {v : V} {c : Value} (hv : RV ρ v c) (h : putT nt tm dst v = some tm') :
    TR ρ tm' (a.put dst c) ∧ nt ≤ (a.put dst c).tmps.size := by
  cases dst with
  | none => cases h; exact ⟨htr, hsz⟩
  | some d =>
    simp only [putT] at h
    obtain ⟨q, h⟩ := bif_some h
    cases h
    have hd : d < a.tmps.size := Nat.lt_of_lt_of_le (Nat.blt_eq.mp q) hsz
    refine ⟨fun i => ?_, by simpa [Act.put] using hsz⟩
    by_cases e : i = d
    · subst e
      simp [tget, T.get_same, Act.put, hd, hv]
    · have := htr i
      simp only [tget, T.get_ne _ _ _ _ e, Act.put] at this ⊢
      rw [Array.getD_eq_getD_getElem?, Array.getElem?_setIfInBounds_ne (Ne.symm e), ← Array.getD_eq_getD_getElem?]
      exact this

theorem wants_ok {ρ : Rho} {ops : Array Oper} {tm : T V} {a : Act} {o : Oper} {b : Bool} (htr : ∀ (j : Nat) (want : Bool) (p : Oper) (d : Tmp), o.guard = some (j, want) → ops[j]? = some p → p.dst = some d → RV ρ (tget tm d) (a.tmps.getD d undef)) (h : wants ops.toList tm o = some b) : Region.wanted o (yielded ops a.tmps) = b := by
  unfold wants at h
  unfold Region.wanted
  split at h
  · rename_i hg; cases h; simp [hg]
  · rename_i j want hg
    simp only [hg]
    rw [Array.getElem?_toList] at h
    cases ho : ops[j]? with
    | none => rw [ho] at h; cases h; simp [yielded, ho]
    | some p =>
      rw [ho] at h
      simp only at h
      cases hd : p.dst with
      | none => rw [hd] at h; cases h; simp [yielded, ho, hd]
      | some d =>
        rw [hd] at h
        simp only at h
        have := htr j want p d hg ho hd
        have hy : yielded ops a.tmps j = match a.tmps[d]? with | some (.bool b) => some b | _ => none := by simp [yielded, ho, hd]; rfl
        rw [hy]
        rw [Array.getD_eq_getD_getElem?] at this
        cases hv : a.tmps[d]? with
        | none =>
          rw [hv] at this
          cases ht : tget tm d with
          | bool => rw [ht] at this; cases this
          | dead => rw [ht] at h; cases h
          | _ => rw [ht] at h; cases h; rfl
        | some c =>
          rw [hv] at this
          simp only [Option.getD_some] at this
          cases ht : tget tm d with
          | bool b' =>
            rw [ht] at this h
            cases this; cases h
            simp
          | dead => rw [ht] at h; cases h
          | _ => rw [ht] at this h; cases this; cases h; rfl

variable {w0 : World} {M0 : Nat → Prop} {nt : Nat}

theorem upon_ok (hG : Good P E call) {rd : Option Nat} {ρ : Rho} {st st' : St} {a : Act} {w : World} (hs : SR E w0 M0 ρ nt st a w) {o : Oper} {r : R} (ho : OpOk P E call w0 M0 ρ st r w (execOp a.eval o)) (h : stepR nt st o.dst (some r) = some st') (hpl : rd = none ∨ plainOp o.op = true)
    {K : Act → World → Prop} {Q : Exit → Act → World → Prop} (hK : ∀ a' w', Re E w0 M0 ρ nt st.nx st' a' w' → K a' w') : o.wpIn (FW rd) 0 P a w K Q := by
  simp only [stepR] at h
  cases hp : putT nt st.tm o.dst r.v with
  | none => rw [hp] at h; cases h
  | some tm =>
    rw [hp] at h
    cases h
    have fin : ∀ c w', Stp E w0 M0 ρ st.nx r c w' → r.df = none → K (a.put o.dst c) w' := fun c w' hst hd => by
      obtain ⟨ρ', h1, h2, h3, h4⟩ := hst
      have hext := hs.inv.hr.ext_of h4
      obtain ⟨t1, t2⟩ := putT_ok (hs.tr.ext hext) hs.sz h2 hp
      refine hK _ _ ⟨ρ', ⟨t1, t2, h1, ?_⟩, h4, h3⟩
      rw [hd]
      have : (a.put o.dst c).defers = a.defers := by cases o.dst <;> rfl
      rw [this]
      exact hs.df.ext hext
    refine ⟨fun _ _ => trivial, ?_⟩
    rw [plainOp_sem hpl]
    cases ho with
    | val n c w' h hn hst hd =>
      rw [h]
      rcases hn with rfl | ⟨rfl, rfl⟩
      · exact fin c w' hst hd
      · exact fin undef w' hst hd
    | enter f vs args r' h hl hf hc hr =>
      rw [h]
      subst hr
      refine ⟨fun h => (by cases h), callsIn_fw (Calls.mono (hG.calls f vs _ _ r' hc hf w0 M0 ρ args w hl hs.inv) fun e w' he => ?_)⟩
      obtain ⟨c, rfl, hst⟩ := he
      exact fin c w' hst rfl
    | round l vs args r' g n hg hl h hc hr =>
      subst hr
      obtain ⟨lr, h1, h2, h3⟩ := hG.rounds l vs _ _ r' hc w0 M0 ρ args w g n hg hl hs.inv
      rw [h lr h1 h2]
      refine ⟨fun h => (by cases h), RoundIn.mono (F := FW rd) (n := 0) h3 fun e w' he => ?_⟩
      obtain ⟨c, rfl, hst⟩ := he
      exact fin c w' hst rfl
    | later f vs d h hd hr =>
      rw [h]
      subst hr
      obtain ⟨t1, t2⟩ := putT_ok (a := { a with defers := d :: a.defers }) (dst := o.dst) (v := .tup []) (c := undef) hs.tr hs.sz (.tup .nil) hp
      refine hK _ _ ⟨ρ, ⟨t1, t2, hs.inv, ?_⟩, fun _ _ => rfl, Nat.le_refl _⟩
      have : ({ a with defers := d :: a.defers }.put o.dst undef).defers = d :: a.defers := by cases o.dst <;> rfl
      rw [this]
      exact ⟨hd, hs.df⟩

theorem skip_ok {ρ : Rho} {st st' : St} {a : Act} {w : World} (hs : SR E w0 M0 ρ nt st a w) {dst : Option Tmp} (h : skipR nt st dst = some st') : Re E w0 M0 ρ nt st.nx st' (a.put dst undef) w := by
  simp only [skipR] at h
  cases hp : putT nt st.tm dst (.tup []) with
  | none => rw [hp] at h; cases h
  | some tm =>
    rw [hp] at h
    cases h
    obtain ⟨t1, t2⟩ := putT_ok hs.tr hs.sz (c := undef) (.tup .nil) hp
    refine ⟨ρ, ⟨t1, t2, hs.inv, ?_⟩, fun _ _ => rfl, Nat.le_refl _⟩
    have : (a.put dst undef).defers = a.defers := by cases dst <;> rfl
    rw [this]; exact hs.df

theorem evOp1_ok (hE : EOk P E) (hG : Good P E call) {rd : Option Nat} {ops : Array Oper} {o : Oper} {ρ : Rho} {st st' : St} {a : Act} {w : World} (h : evOp1 E call nt ops.toList o st = some st') (hs : SR E w0 M0 ρ nt st a w) (hpl : rd = none ∨ plainOp o.op = true)
    {K : Act → World → Prop} {Q : Exit → Act → World → Prop} (hK : ∀ a' w', Re E w0 M0 ρ nt st.nx st' a' w' → K a' w') :
    if Region.wanted o (yielded ops a.tmps) then o.wpIn (FW rd) 0 P a w K Q else K (a.put o.dst undef) w := by
  unfold evOp1 at h
  cases hw : wants ops.toList st.tm o with
  | none => rw [hw] at h; cases h
  | some b =>
    rw [hw] at h
    rw [wants_ok (fun _ _ _ d _ _ _ => hs.tr d) hw]
    cases b with
    | false => exact hK _ _ (skip_ok hs h)
    | true =>
      simp only at h
      cases hr : opx E call st o.op with
      | none => rw [hr] at h; cases h
      | some r =>
        rw [hr] at h
        exact upon_ok hG hs (opx_ok hE hG.known hs.inv o (fun x _ => ev_ok hs.tr hs.inv.gl x) hr) h hpl hK

theorem evOp1y_ok (hE : EOk P E) (hG : Good P E call) {rd : Option Nat} {ops : Array Oper} {o : Oper} {ρ : Rho} {st st' : St} {a : Act} {w : World} (h : evOp1y E call nt ops.toList o st = some st') (hs : SR E w0 M0 ρ nt st a w) (hpl : rd = none ∨ plainOp o.op = true)
    {K : Act → World → Prop} {Q : Exit → Act → World → Prop} (hK : ∀ a' w', Re E w0 M0 ρ nt st.nx st' a' w' → K a' w') :
    if Region.wanted o (yielded ops a.tmps) then o.wpIn (FW rd) 0 P a w K Q else K (a.put o.dst undef) w := by
  unfold evOp1y at h
  cases hw : wants ops.toList st.tm o with
  | none => rw [hw] at h; cases h
  | some b =>
    rw [hw] at h
    rw [wants_ok (fun _ _ _ d _ _ _ => hs.tr d) hw]
    cases b with
    | false => exact hK _ _ (skip_ok hs h)
    | true =>
      simp only at h
      cases hr : opy E call st o.op with
      | none => rw [hr] at h; cases h
      | some r =>
        rw [hr] at h
        exact upon_ok hG hs (opy_ok hE hG.known hs.inv o (fun x _ => ev_ok hs.tr hs.inv.gl x) hr) h hpl hK

theorem evOps_ok (hE : EOk P E) (hG : Good P E call) {rd : Option Nat} {ops : Array Oper} {Q : Exit → Act → World → Prop} : ∀ (l : List Oper) (_ : rd = none ∨ ∀ o ∈ l, plainOp o.op = true) {ρ : Rho} {st st' : St} {a : Act} {w : World}, evOps E call nt ops.toList l st = some st' → SR E w0 M0 ρ nt st a w →
    (∀ a' w', Re E w0 M0 ρ nt st.nx st' a' w' → Q .normal a' w') → wpListIn (FW rd) 0 P ops Q l a w
  | [], _, ρ, st, st', a, w, h, hs, hQ => by cases h; exact hQ _ _ hs.re
  | o :: l, hpl, ρ, st, st', a, w, h, hs, hQ => by
    have h' : bindS (evOp1y E call nt ops.toList o st) (evOps E call nt ops.toList l) = some st' := h
    obtain ⟨s1, h1, h2⟩ := bindS_some h'
    refine wpListIn_step fun K hK => ?_
    have hone := evOp1y_ok hE hG (rd := rd) (Q := Q) h1 hs (hpl.imp id fun h => h o (List.mem_cons_self ..)) (K := K) fun a1 w1 hr => hK _ _ ?_
    · split
      · rename_i hw; rwa [if_pos hw] at hone
      · rename_i hw; rw [if_neg hw] at hone; exact ⟨fun _ _ => trivial, hone⟩
    obtain ⟨ρ1, k1, k2, k3⟩ := hr
    refine evOps_ok hE hG l (hpl.imp id fun h x hx => h x (List.mem_cons_of_mem _ hx)) h2 k1 fun a2 w2 hr2 => hQ _ _ ?_
    obtain ⟨ρ2, m1, m2, m3⟩ := hr2
    exact ⟨ρ2, m1, fun b hb => (m2 b (Nat.lt_of_lt_of_le hb k3)).trans (k2 b hb), Nat.le_trans k3 m3⟩
end
end Go.Rf
