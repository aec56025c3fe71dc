/-
  Code and functions: the evaluator against the model. No statement of the program is claimed here.
-/
import Derived.Test.YtbkjelhkjncfkaaGreatDoorRfK
import Derived.Scope
namespace Go.Rf
section
variable {P : Program} {E : Env} {call : CallT} {w0 : World} {M0 : Nat → Prop} {nt : Nat}

/-- How a piece of code ends. -/
def OutE : Out → Exit → Prop
  | .norm, e => e = .normal
  | .ret, e => e = .ret
  | .exit id, e => e = .exit id
/-- What the regions that draw are good for. -/
def MixOk (P : Program) (E : Env) (call : CallT) : Prop := ∀ (rd : Option Nat) (w0 : World) (M0 : Nat → Prop) (nt id : Nat) (ops : Array Oper) (p : Plan) (ρ : Rho) (st st' : St) (a : Act) (w : World) (out : Out), planOk ops p = true →
  (rd = none ∨ ops.toList.all (fun o => plainOp o.op) = true) →
  mixS E call nt ops.toList (some p) st = some (out, st') → SR E w0 M0 ρ nt st a w → (Code.region id ops true).wpIn (FW rd) 0 P (fun e a' w' => OutE out e ∧ Re E w0 M0 ρ nt st.nx st' a' w') a w

theorem bindS_none {α β : Type} (k : α → Option β) : bindS none k = none := rfl
theorem room_fw {rd : Option Nat} (n : Nat) : (FW rd).room n := fun _ h => by cases h
theorem evLoop_ok {rd : Option Nat} {c : Code} {body : St → Option (Out × St)}
    (hb : ∀ (ρ : Rho) (st : St) (a : Act) (w : World) (o : Out) (st1 : St), body st = some (o, st1) → SR E w0 M0 ρ nt st a w → c.wpIn (FW rd) 0 P (fun e a' w' => OutE o e ∧ Re E w0 M0 ρ nt st.nx st1 a' w') a w) :
    ∀ (n : Nat) (ρ : Rho) (st : St) (a : Act) (w : World) (out : Out) (st' : St), evLoop body n st = some (out, st') → SR E w0 M0 ρ nt st a w → ∀ (b : Frame) (k : List Item) (cs : List Frame), b.roundOf = rd →
      ∃ e a' w', (OutE out e ∧ Re E w0 M0 ρ nt st.nx st' a' w') ∧ ArrivesIn (Machine.fenced P (FW rd)) P (lone (b.atR a (.code c :: .inLoop c :: k)) cs w) b k cs e a' w'
  | 0, _, _, _, _, _, _, h, _, _, _, _, _ => by cases h
  | n + 1, ρ, st, a, w, out, st', h, hs, b, k, cs, hro => by
    have h' : bindS (body st) (fun r => bif r.1.isNorm then evLoop body n r.2 else some r) = some (out, st') := h
    obtain ⟨⟨o, st1⟩, h1, h2⟩ := bindS_some h'
    obtain ⟨e, a1, w1, ⟨ho, ρ1, k1, k2, k3⟩, harr⟩ := hb ρ st a w o st1 h1 hs b (.inLoop c :: k) cs hro trivial (room_fw _)
    cases o with
    | norm =>
      simp only [Out.isNorm, cond_true] at h2
      cases ho
      obtain ⟨e2, a2, w2, ⟨ho2, ρ2, m1, m2, m3⟩, harr2⟩ := evLoop_ok hb n ρ1 st1 a1 w1 out st' h2 k1 b k cs hro
      exact ⟨e2, a2, w2, ⟨ho2, ρ2, m1, fun b hb => (m2 b (Nat.lt_of_lt_of_le hb k3)).trans (k2 b hb), Nat.le_trans k3 m3⟩,
        .of_steps (StepsIn.trans harr (.one (fenced_calm (n := 0) (fr := b.atR a1 (.inLoop c :: k)) trivial (room_fw _) rfl) stepR_inLoop)) harr2⟩
    | ret =>
      cases h2
      cases ho
      exact ⟨_, a1, w1, ⟨rfl, ρ1, k1, k2, k3⟩, .pass (x := .inLoop c) rfl (fun _ _ => .inl (by simp)) harr⟩
    | exit id =>
      cases h2
      cases ho
      exact ⟨_, a1, w1, ⟨rfl, ρ1, k1, k2, k3⟩, .pass (x := .inLoop c) rfl (fun _ _ => .inl (by simp)) harr⟩

/-! ### A range over a function -/
theorem plansOk_range {pl : Nat → Option Plan} {g : Operand} {ps : Array Tmp} {x c : Code} (h : plansOk pl (.rangeFunc g ps x c) = true) : plainC x = true ∧ plainC c = true ∧ plansOk pl x = true ∧ plansOk pl c = true := by
  have h' : (bif plainC x && plainC c then (bif plansOk pl x then plansOk pl c else false) else false) = true := h
  cases hx : (plainC x && plainC c) with
  | false => rw [hx] at h'; cases h'
  | true =>
    rw [hx] at h'
    rw [Bool.and_eq_true] at hx
    cases hy : plansOk pl x with
    | false => rw [hy] at h'; cases h'
    | true => rw [hy] at h'; exact ⟨hx.1, hx.2, rfl, h'⟩
theorem putObj_chg (w : World) (g : Nat) (o : Obj) : Chg g w (w.putObj g o) := ⟨rfl, rfl, rfl, World.putObj_size, fun _ h => World.putObj_heap_other h⟩
theorem HR.there {ρ : Rho} {hp : Hp} {nx : Nat} {w : World} (h : HR ρ hp nx w) {b g : Nat} {n : Nat × Nat} (hb : ρ b = some (g, n)) : b < nx := by
  rcases Nat.lt_or_ge b nx with hlt | hge
  · exact hlt
  · rw [h.dom b hge] at hb; cases hb

theorem rangeS_ok (hE : EOk P E) (hG : Good P E call) {pl : Nat → Option Plan} {g : Operand} {ps : Array Tmp} {x c : Code} (hx1 : plainC x = true) (hc1 : plainC c = true) (hx2 : plansOk pl x = true) (hc2 : plansOk pl c = true)
    {ρ : Rho} {st st' : St} {a : Act} {w : World} {out : Out} (h : rangeS call nt pl (ev E st.tm g) ps.toList x c st = some (out, st')) (hs : SR E w0 M0 ρ nt st a w) :
    (Code.rangeFunc g ps x c).wpIn (FW none) 0 P (fun e a' w' => OutE out e ∧ Re E w0 M0 ρ nt st.nx st' a' w') a w := by
  unfold rangeS at h
  split at h
  case h_2 => cases h
  rename_i k first captured hv
  have hgx := ev_ok hs.tr hs.inv.gl g
  rw [hv] at hgx
  generalize hav : a.eval g = av at hgx
  cases hgx with | @func _ _ _ f1 f2 g1 g2 =>
  obtain ⟨hlt, h⟩ := bif_some h
  have hlt' := Nat.blt_eq.mp hlt
  obtain ⟨r, hcall, hend⟩ := bindS_some h
  obtain ⟨fi, hfi⟩ := hG.known _ _ _ _ _ hcall hlt'
  obtain ⟨fn', k1, k2, k3, k4, k5, _⟩ := hE.fn _ _ hfi
  have k5' : ¬ fn'.name = "runtime.NumGoroutine" := by simpa using k5
  refine wpIn_rangeFunc fun fn _ => ?_
  -- the two blocks
  obtain ⟨i1, e1⟩ := hs.inv.new (.mark true) (.deferred (some [])) (0, 0) (w' := w.alloc (.deferred (some []))) rfl rfl rfl rfl fun w'' hh => hh
  have x1 : Ext ρ (ρ.put st.nx (w.heap.size, (0, 0))) := hs.inv.hr.ext_of e1
  obtain ⟨i2, e2⟩ := i1.new (.loop ⟨.ready, none, nt, pl, st.tm, ps.toList, x, c⟩)
    (.loop { state := .ready, pending := none, fn, tmps := a.tmps, params := ps, assign := x, body := c, defers := w.heap.size }) (0, 0)
    (w' := (w.alloc (.deferred (some []))).alloc (.loop { state := .ready, pending := none, fn, tmps := a.tmps, params := ps, assign := x, body := c, defers := w.heap.size })) rfl rfl rfl rfl
    fun w'' hh => ⟨_, hh, rfl, rfl, rfl, rfl, rfl, fun i => (hs.tr i).ext x1, hs.sz, hc2, hc1, hx2, hx1⟩
  have x2 := i1.hr.ext_of e2
  have hsz1 : (w.alloc (.deferred (some []))).heap.size = w.heap.size + 1 := World.size_alloc ..
  rw [hsz1] at i2 e2 x2
  generalize hρ2 : (ρ.put st.nx (w.heap.size, (0, 0))).put (st.nx + 1) (w.heap.size + 1, (0, 0)) = ρ2 at i2 e2 x2
  have q1 : ρ2 st.nx = some (w.heap.size, (0, 0)) := by rw [← hρ2, Rho.put_ne _ _ _ _ (by omega), Rho.put_same]
  have q2 : ρ2 (st.nx + 1) = some (w.heap.size + 1, (0, 0)) := by rw [← hρ2, Rho.put_same]
  have xx : Ext ρ ρ2 := x1.trans x2
  have hent := run_enterLoop_outer (P := P) (w := w) fn a.tmps ps x c
  generalize hw2 : (w.alloc (.deferred (some []))).alloc (.loop { state := .ready, pending := none, fn, tmps := a.tmps, params := ps, assign := x, body := c, defers := w.heap.size }) = w2 at i2 hent
  refine ⟨w.heap.size + 1, [{ target := .collected w.heap.size, args := #[] }], w2, ⟨.fn (.func k) f2, f1 ++ #[.func (.yield (w.heap.size + 1)) #[] #[]]⟩, w2, k, f1 ++ #[.func (.yield (w.heap.size + 1)) #[] #[]] ++ f2, w2, hent, ?_, fun _ _ => trivial, ?_, fun h => (by cases h), ?_⟩
  · have hy : Act.eval a (.const (.func (.yield (w.heap.size + 1)) #[] #[])) = .func (.yield (w.heap.size + 1)) #[] #[] := rfl
    simp [resolve, Deferred.ofValue, hav, hy]
  · simp [invoke, callFunc, k1, k2, k5']
  have hargs : RL ρ2 (first ++ ([.yield (Nat.succ st.nx)] ++ captured)) (f1 ++ #[Value.func (.yield (w.heap.size + 1)) #[] #[]] ++ f2).toList := by
    simp only [Array.toList_append, List.append_assoc]
    exact (g1.ext xx).append (RL.cons (.yield q2) (g2.ext xx))
  refine callsIn_fw (rd := none) (Calls.mono (hG.calls k _ _ _ r hcall hlt' w0 M0 ρ2 _ _ hargs i2) fun e w3 he => ?_)
  obtain ⟨cv, rfl, ρ3, j1, _, j3, j4⟩ := he
  have x3 := i2.hr.ext_of j4
  have p1 : ρ3 st.nx = some (w.heap.size, (0, 0)) := x3 _ _ q1
  have p2 : ρ3 (st.nx + 1) = some (w.heap.size + 1, (0, 0)) := x3 _ _ q2
  unfold rangeEnd at hend
  split at hend
  case h_2 => cases hend
  rename_i lr hlr
  obtain ⟨mr, m1, m2⟩ := j1.hr.blk _ _ _ _ hlr p2
  have hnb : lr.state ≠ .busy := fun hb => by rw [hb] at hend; cases hend
  have hput := j1.put (y := .loop { lr with state := .exhausted }) hlr trivial p2 (putObj_chg w3 (w.heap.size + 1) (.loop { mr with state := .exhausted }))
    ⟨_, World.putObj_heap_same (Array.getElem?_eq_some_iff.1 m1).1, rfl, m2.pend, m2.params, m2.assign, m2.body, m2.tm, m2.sz, m2.plan, m2.plain, m2.plan0, m2.plain0⟩
  have hlow : ∀ b, b < st.nx → ρ3 b = ρ b := fun b hb => by rw [j4 b (by omega), e2 b (by omega), e1 b hb]
  have hnx : st.nx ≤ st.nx.succ.succ := by omega
  obtain ⟨S0, hS0⟩ : ∃ S0 : St, S0 = (⟨st.tm, r.hp.set (Nat.succ st.nx) (some (.loop { lr with state := .exhausted })), r.nx, (markId, [.map st.nx]) :: st.df⟩ : St) := ⟨_, rfl⟩
  have hre : ∀ (out' : Out), (some (out', S0) : Option (Out × St)) = some (out, st') → out' = out ∧
      Re E w0 M0 ρ nt st.nx st' { a with defers := [{ target := .collected w.heap.size, args := #[] }] ++ a.defers } (w3.putObj (w.heap.size + 1) (.loop { mr with state := .exhausted })) := fun out' he => by
    cases he
    subst hS0
    exact ⟨rfl, ρ3, ⟨fun i => (hs.tr i).ext (xx.trans x3), hs.sz, hput, ⟨.inr ⟨rfl, _, _, _, rfl, p1, rfl⟩, hs.df.ext (xx.trans x3)⟩⟩, hlow, Nat.le_trans hnx j3⟩
  have hel := run_endLoop (P := P) m1 (by rw [m2.state]; exact hnb)
  generalize w3.putObj (w.heap.size + 1) (.loop { mr with state := .exhausted }) = w4 at hel hre
  refine ⟨mr.pending, w4, hel, ?_⟩
  rw [m2.pend]
  have hend' : (match lr.pending with
      | none => some (Out.norm, S0)
      | some o => some (o, S0)) = some (out, st') := by
    subst hS0
    cases hst : lr.state <;> rw [hst] at hend <;> first | exact hend | cases hend
  cases hp : lr.pending with
  | none =>
    rw [hp] at hend'
    obtain ⟨rfl, hR⟩ := hre _ hend'
    exact ⟨rfl, hR⟩
  | some o =>
    rw [hp] at hend'
    obtain ⟨rfl, hR⟩ := hre _ hend'
    cases o with
    | norm => exact ⟨rfl, hR⟩
    | ret => exact wpIn_ret ⟨rfl, hR⟩
    | exit id => exact wpIn_exit ⟨rfl, hR⟩

theorem evCode_ok (hE : EOk P E) (hG : Good P E call) (hM : MixOk P E call) (pl : Nat → Option Plan) {rd : Option Nat} : ∀ (c : Code) (ρ : Rho) (st : St) (a : Act) (w : World) (out : Out) (st' : St), plansOk pl c = true → (rd = none ∨ plainC c = true) →
    evCode E call nt pl c st = some (out, st') → SR E w0 M0 ρ nt st a w → c.wpIn (FW rd) 0 P (fun e a' w' => OutE out e ∧ Re E w0 M0 ρ nt st.nx st' a' w') a w := by
  intro c
  have split2 : ∀ {x y : Bool}, (rd = none ∨ (bif x then y else false) = true) → (rd = none ∨ x = true) ∧ (rd = none ∨ y = true) := fun {x y} h => by
    rcases h with h | h
    · exact ⟨.inl h, .inl h⟩
    · cases x with
      | false => cases h
      | true => exact ⟨.inr rfl, .inr h⟩
  induction c with
  | skip => intro ρ st a w out st' _ _ h hs; cases h; exact wpIn_skip ⟨rfl, hs.re⟩
  | region id ops draw =>
    intro ρ st a w out st' hp hpc h hs
    have hp' : (bif draw then (match pl id with | some p => planOk ops p | none => true) else true) = true := hp
    have h' : (bif draw then mixS E call nt ops.toList (pl id) st else regionS (evOps E call nt ops.toList ops.toList st)) = some (out, st') := h
    have hpc' : rd = none ∨ ops.toList.all (fun o => plainOp o.op) = true := hpc
    cases draw with
    | true =>
      simp only [cond_true] at hp' h'
      cases hpl : pl id with
      | none => rw [hpl] at h'; cases h'
      | some p =>
        rw [hpl] at hp' h'
        exact hM rd w0 M0 nt id ops p ρ st st' a w out hp' hpc' h' hs
    | false =>
      simp only [cond_false] at h'
      obtain ⟨s1, h1, h2⟩ := bindS_some h'
      cases h2
      exact wpIn_region_list (evOps_ok hE hG _ (hpc'.imp (fun h => h) fun h => List.all_eq_true.1 h) h1 hs fun a' w' hr => ⟨rfl, hr⟩)
  | seq x y ihx ihy =>
    intro ρ st a w out st' hp hpc h hs
    obtain ⟨hpx, hpy⟩ := split2 (x := plainC x) (y := plainC y) hpc
    have hp' : (bif plansOk pl x then plansOk pl y else false) = true := hp
    have h' : seqS (evCode E call nt pl x st) (evCode E call nt pl y) = some (out, st') := h
    cases hx : plansOk pl x with
    | false => rw [hx] at hp'; cases hp'
    | true =>
      rw [hx] at hp'
      obtain ⟨⟨o, s1⟩, h1, h2⟩ := bindS_some h'
      refine wpIn_seq (wpIn_mono (ihx ρ st a w o s1 hx hpx h1 hs) fun e a1 w1 hq => ?_)
      obtain ⟨ho, ρ1, k1, k2, k3⟩ := hq
      cases o with
      | norm =>
        cases ho
        simp only [Out.isNorm, cond_true] at h2
        exact wpIn_mono (ihy ρ1 s1 a1 w1 out st' hp' hpy h2 k1) fun e a2 w2 hq => by
          obtain ⟨ho2, ρ2, m1, m2, m3⟩ := hq
          exact ⟨ho2, ρ2, m1, fun b hb => (m2 b (Nat.lt_of_lt_of_le hb k3)).trans (k2 b hb), Nat.le_trans k3 m3⟩
      | ret => cases ho; cases h2; exact ⟨rfl, ρ1, k1, k2, k3⟩
      | exit id => cases ho; cases h2; exact ⟨rfl, ρ1, k1, k2, k3⟩
  | cond cnd x y ihx ihy =>
    intro ρ st a w out st' hp hpc h hs
    obtain ⟨hpx, hpy⟩ := split2 (x := plainC x) (y := plainC y) hpc
    have hp' : (bif plansOk pl x then plansOk pl y else false) = true := hp
    have h' : condS (ev E st.tm cnd) (evCode E call nt pl x) (evCode E call nt pl y) st = some (out, st') := h
    have hev := ev_ok hs.tr hs.inv.gl cnd
    unfold condS at h'
    split at h'
    · rename_i t ht
      rw [ht] at hev
      have hc : a.eval cnd = .bool t := by
        generalize a.eval cnd = v at hev
        cases hev; rfl
      cases hx : plansOk pl x with
      | false => rw [hx] at hp'; cases hp'
      | true =>
        rw [hx] at hp'
        cases t with
        | true => exact wpIn_cond_true hc (ihx ρ st a w out st' hx hpx h' hs)
        | false => exact wpIn_cond_false hc (ihy ρ st a w out st' hp' hpy h' hs)
    · cases h'
  | block id x ih =>
    intro ρ st a w out st' hp hpc h hs
    have h' : blockS id (evCode E call nt pl x st) = some (out, st') := h
    obtain ⟨⟨o, s1⟩, h1, h2⟩ := bindS_some h'
    refine wpIn_block (wpIn_mono (ih ρ st a w o s1 hp hpc h1 hs) fun e a1 w1 hq => ?_)
    obtain ⟨ho, hre⟩ := hq
    cases o with
    | norm => cases ho; cases h2; exact ⟨rfl, hre⟩
    | ret => cases ho; cases h2; exact ⟨rfl, hre⟩
    | exit id' =>
      cases ho
      simp only [Out.is] at h2
      cases hid : Nat.beq id' id with
      | true =>
        rw [hid] at h2
        cases h2
        have := Nat.eq_of_beq_eq_true hid
        simp only [Exit.inBlock, this, if_true]
        exact ⟨rfl, hre⟩
      | false =>
        rw [hid] at h2
        cases h2
        have : ¬ id' = id := fun e => by subst e; simp at hid
        simp only [Exit.inBlock, this, if_false]
        exact ⟨rfl, hre⟩
  | loop x ih =>
    intro ρ st a w out st' hp hpc h hs b k cs hro hfn hrm
    obtain ⟨e, a', w', hq, harr⟩ := evLoop_ok (fun ρ st a w o st1 h1 hs1 => ih ρ st a w o st1 hp hpc h1 hs1) E.fuel ρ st a w out st' h hs b k cs hro
    exact ⟨e, a', w', hq, .of_steps (.one (fenced_calm hfn hrm rfl) stepR_loop) harr⟩
  | rangeFunc g ps x c =>
    intro ρ st a w out st' hp hpc h hs
    obtain ⟨hx1, hc1, hx2, hc2⟩ := plansOk_range hp
    rcases hpc with rfl | hpc
    · exact rangeS_ok hE hG hx1 hc1 hx2 hc2 h hs
    · cases hpc
  | exit id => intro ρ st a w out st' _ _ h hs; cases h; exact wpIn_exit ⟨rfl, hs.re⟩
  | scope x ih =>
    intro ρ st a w out st' hp hpc h hs
    rcases hpc with rfl | hpc
    · refine (wpIn_wide (n := 0)).2 (wp_scope_straight (wp_mono ((wpIn_wide (n := 0)).1 (ih ρ st a w out st' hp (.inl rfl) h hs)) fun e a1 w1 hq => ?_))
      obtain ⟨ho, hre⟩ := hq
      cases out <;> cases ho <;> exact ⟨rfl, hre⟩
    · cases hpc
  | label l => intro ρ st a w out st' _ _ h hs; cases h; exact wpIn_label ⟨rfl, hs.re⟩
  | goto => intro ρ st a w out st' _ _ h; cases h
  | ret => intro ρ st a w out st' _ _ h hs; cases h; exact wpIn_ret ⟨rfl, hs.re⟩
  | refuse => intro ρ st a w out st' _ _ h; cases h
end
end Go.Rf
