/-
  Code and functions: the evaluator against the model. No statement of the program is claimed here.
-/
import Derived.Test.YtkhadodoabjdoaaGreatDoorRfK
import Derived.Scope
namespace Go.Rf
section
variable {P : Program} {E : Env} {call : CallT} {w0 : World} {M0 : Nat → Prop} {nt : Nat}

/-- How a piece of code ends. -/
def OutE : Out → Exit → Prop
  | .norm, e => e = .normal
  | .ret, e => e = .ret
  | .exit id, e => e = .exit id
/-- What the regions that draw are good for. -/
def MixOk (P : Program) (E : Env) (call : CallT) : Prop := ∀ (w0 : World) (M0 : Nat → Prop) (nt id : Nat) (ops : Array Oper) (p : Plan) (ρ : Rho) (st st' : St) (a : Act) (w : World) (out : Out), planOk ops p = true →
  mixS E call nt ops.toList (some p) st = some (out, st') → SR E w0 M0 ρ nt st a w → (Code.region id ops true).wp P (fun e a' w' => OutE out e ∧ Re E w0 M0 ρ nt st.nx st' a' w') a w

theorem bindS_none {α β : Type} (k : α → Option β) : bindS none k = none := rfl
theorem evLoop_ok {c : Code} {body : St → Option (Out × St)}
    (hb : ∀ (ρ : Rho) (st : St) (a : Act) (w : World) (o : Out) (st1 : St), body st = some (o, st1) → SR E w0 M0 ρ nt st a w → c.wp P (fun e a' w' => OutE o e ∧ Re E w0 M0 ρ nt st.nx st1 a' w') a w) :
    ∀ (n : Nat) (ρ : Rho) (st : St) (a : Act) (w : World) (out : Out) (st' : St), evLoop body n st = some (out, st') → SR E w0 M0 ρ nt st a w → ∀ (b : Frame) (k : List Item) (cs : List Frame),
      ∃ e a' w', (OutE out e ∧ Re E w0 M0 ρ nt st.nx st' a' w') ∧ Arrives P (lone (b.at a (.code c :: .inLoop c :: k)) cs w) b k cs e a' w'
  | 0, _, _, _, _, _, _, h, _, _, _, _ => by cases h
  | n + 1, ρ, st, a, w, out, st', h, hs, b, k, cs => by
    have h' : bindS (body st) (fun r => bif r.1.isNorm then evLoop body n r.2 else some r) = some (out, st') := h
    obtain ⟨⟨o, st1⟩, h1, h2⟩ := bindS_some h'
    obtain ⟨e, a1, w1, ⟨ho, ρ1, k1, k2, k3⟩, harr⟩ := hb ρ st a w o st1 h1 hs b (.inLoop c :: k) cs
    cases o with
    | norm =>
      simp only [Out.isNorm, cond_true] at h2
      cases ho
      obtain ⟨e2, a2, w2, ⟨ho2, ρ2, m1, m2, m3⟩, harr2⟩ := evLoop_ok hb n ρ1 st1 a1 w1 out st' h2 k1 b k cs
      exact ⟨e2, a2, w2, ⟨ho2, ρ2, m1, fun b hb => (m2 b (Nat.lt_of_lt_of_le hb k3)).trans (k2 b hb), Nat.le_trans k3 m3⟩, .of_steps (Steps.trans harr (.one step_inLoop)) harr2⟩
    | ret =>
      cases h2
      cases ho
      exact ⟨_, a1, w1, ⟨rfl, ρ1, k1, k2, k3⟩, .pass (x := .inLoop c) rfl (fun _ _ => .inl (by simp)) harr⟩
    | exit id =>
      cases h2
      cases ho
      exact ⟨_, a1, w1, ⟨rfl, ρ1, k1, k2, k3⟩, .pass (x := .inLoop c) rfl (fun _ _ => .inl (by simp)) harr⟩

theorem evCode_ok (hE : EOk P E) (hG : Good P E call) (hM : MixOk P E call) (pl : Nat → Option Plan) : ∀ (c : Code) (ρ : Rho) (st : St) (a : Act) (w : World) (out : Out) (st' : St), plansOk pl c = true →
    evCode E call nt pl c st = some (out, st') → SR E w0 M0 ρ nt st a w → c.wp P (fun e a' w' => OutE out e ∧ Re E w0 M0 ρ nt st.nx st' a' w') a w := by
  intro c
  induction c with
  | skip => intro ρ st a w out st' _ h hs; cases h; exact wp_skip ⟨rfl, hs.re⟩
  | region id ops draw =>
    intro ρ st a w out st' hp h hs
    have hp' : (bif draw then (match pl id with | some p => planOk ops p | none => true) else true) = true := hp
    have h' : (bif draw then mixS E call nt ops.toList (pl id) st else regionS (evOps E call nt ops.toList ops.toList st)) = some (out, st') := h
    cases draw with
    | true =>
      simp only [cond_true] at hp' h'
      cases hpl : pl id with
      | none => rw [hpl] at h'; cases h'
      | some p =>
        rw [hpl] at hp' h'
        exact hM w0 M0 nt id ops p ρ st st' a w out hp' h' hs
    | false =>
      simp only [cond_false] at h'
      obtain ⟨s1, h1, h2⟩ := bindS_some h'
      cases h2
      exact wp_region_list (evOps_ok hE hG _ h1 hs fun a' w' hr => ⟨rfl, hr⟩)
  | seq x y ihx ihy =>
    intro ρ st a w out st' hp h hs
    have hp' : (bif plansOk pl x then plansOk pl y else false) = true := hp
    have h' : seqS (evCode E call nt pl x st) (evCode E call nt pl y) = some (out, st') := h
    cases hx : plansOk pl x with
    | false => rw [hx] at hp'; cases hp'
    | true =>
      rw [hx] at hp'
      obtain ⟨⟨o, s1⟩, h1, h2⟩ := bindS_some h'
      refine wp_seq (wp_mono (ihx ρ st a w o s1 hx h1 hs) fun e a1 w1 hq => ?_)
      obtain ⟨ho, ρ1, k1, k2, k3⟩ := hq
      cases o with
      | norm =>
        cases ho
        simp only [Out.isNorm, cond_true] at h2
        exact wp_mono (ihy ρ1 s1 a1 w1 out st' hp' h2 k1) fun e a2 w2 hq => by
          obtain ⟨ho2, ρ2, m1, m2, m3⟩ := hq
          exact ⟨ho2, ρ2, m1, fun b hb => (m2 b (Nat.lt_of_lt_of_le hb k3)).trans (k2 b hb), Nat.le_trans k3 m3⟩
      | ret => cases ho; cases h2; exact ⟨rfl, ρ1, k1, k2, k3⟩
      | exit id => cases ho; cases h2; exact ⟨rfl, ρ1, k1, k2, k3⟩
  | cond cnd x y ihx ihy =>
    intro ρ st a w out st' hp h hs
    have hp' : (bif plansOk pl x then plansOk pl y else false) = true := hp
    have h' : condS (ev E st.tm cnd) (evCode E call nt pl x) (evCode E call nt pl y) st = some (out, st') := h
    have hev := ev_ok hs.tr hs.inv.gl cnd
    unfold condS at h'
    split at h'
    · rename_i t ht
      rw [ht] at hev
      have hc : a.eval cnd = .bool t := by
        generalize a.eval cnd = v at hev
        cases hev; rfl
      cases hx : plansOk pl x with
      | false => rw [hx] at hp'; cases hp'
      | true =>
        rw [hx] at hp'
        cases t with
        | true => exact wp_cond_true hc (ihx ρ st a w out st' hx h' hs)
        | false => exact wp_cond_false hc (ihy ρ st a w out st' hp' h' hs)
    · cases h'
  | block id x ih =>
    intro ρ st a w out st' hp h hs
    have h' : blockS id (evCode E call nt pl x st) = some (out, st') := h
    obtain ⟨⟨o, s1⟩, h1, h2⟩ := bindS_some h'
    refine wp_block (wp_mono (ih ρ st a w o s1 hp h1 hs) fun e a1 w1 hq => ?_)
    obtain ⟨ho, hre⟩ := hq
    cases o with
    | norm => cases ho; cases h2; exact ⟨rfl, hre⟩
    | ret => cases ho; cases h2; exact ⟨rfl, hre⟩
    | exit id' =>
      cases ho
      simp only [Out.is] at h2
      cases hid : Nat.beq id' id with
      | true =>
        rw [hid] at h2
        cases h2
        have := Nat.eq_of_beq_eq_true hid
        simp only [Exit.inBlock, this, if_true]
        exact ⟨rfl, hre⟩
      | false =>
        rw [hid] at h2
        cases h2
        have : ¬ id' = id := fun e => by subst e; simp at hid
        simp only [Exit.inBlock, this, if_false]
        exact ⟨rfl, hre⟩
  | loop x ih =>
    intro ρ st a w out st' hp h hs b k cs
    obtain ⟨e, a', w', hq, harr⟩ := evLoop_ok (fun ρ st a w o st1 h1 hs1 => ih ρ st a w o st1 hp h1 hs1) E.fuel ρ st a w out st' h hs b k cs
    exact ⟨e, a', w', hq, .of_steps (.one step_loop) harr⟩
  | rangeFunc => intro ρ st a w out st' _ h; cases h
  | exit id => intro ρ st a w out st' _ h hs; cases h; exact wp_exit ⟨rfl, hs.re⟩
  | scope x ih =>
    intro ρ st a w out st' hp h hs
    refine wp_scope_straight (wp_mono (ih ρ st a w out st' hp h hs) fun e a1 w1 hq => ?_)
    obtain ⟨ho, hre⟩ := hq
    cases out <;> cases ho <;> exact ⟨rfl, hre⟩
  | label l => intro ρ st a w out st' _ h hs; cases h; exact wp_label ⟨rfl, hs.re⟩
  | goto => intro ρ st a w out st' _ h; cases h
  | ret => intro ρ st a w out st' _ h hs; cases h; exact wp_ret ⟨rfl, hs.re⟩
  | refuse => intro ρ st a w out st' _ h; cases h
end
end Go.Rf
