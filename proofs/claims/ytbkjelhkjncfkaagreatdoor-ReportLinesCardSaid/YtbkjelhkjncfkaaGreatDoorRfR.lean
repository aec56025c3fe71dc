/-
  The trace of a region, and what its light operations do. No statement of the program is claimed here.
-/
import Derived.Test.YtbkjelhkjncfkaaGreatDoorRfQ
namespace Go.Rf
section
variable {P : Program} {E : Env} {call : CallT} {nt : Nat}

theorem evTrace_cons (ops : List Oper) (o : Oper) (l : List Oper) (st : St) : evTrace E call nt ops (o :: l) st = bindS (evOp1 E call nt ops o st) fun st' => bindS (evTrace E call nt ops l st') fun tr => some (st :: tr) := rfl
theorem evTrace_spec {ops : List Oper} : ∀ (l : List Oper) (st : St) (tr : List St), evTrace E call nt ops l st = some tr → tr.length = l.length + 1 ∧ tr[0]? = some st ∧
    ∀ p : Nat, p < l.length → ∃ o s s', l[p]? = some o ∧ tr[p]? = some s ∧ tr[p + 1]? = some s' ∧ evOp1 E call nt ops o s = some s'
  | [], st, tr, h => by cases h; exact ⟨rfl, rfl, fun p hp => by simp at hp⟩
  | o :: l, st, tr, h => by
    rw [evTrace_cons] at h
    obtain ⟨s1, h1, h⟩ := bindS_some h
    obtain ⟨tr', h2, h⟩ := bindS_some h
    cases h
    obtain ⟨k1, k2, k3⟩ := evTrace_spec l s1 tr' h2
    refine ⟨by simp [k1], rfl, fun p hp => ?_⟩
    cases p with
    | zero => exact ⟨o, st, s1, rfl, rfl, by simpa using k2, h1⟩
    | succ p =>
      obtain ⟨o', s, s', m1, m2, m3, m4⟩ := k3 p (by simpa using hp)
      exact ⟨o', s, s', by simpa using m1, by simpa using m2, by simpa using m3, m4⟩

theorem evOp1_cases {ops : List Oper} {o : Oper} {st st' : St} (h : evOp1 E call nt ops o st = some st') :
    (wants ops st.tm o = some false ∧ skipR nt st o.dst = some st') ∨ (wants ops st.tm o = some true ∧ ∃ r, opx E call st o.op = some r ∧ stepR nt st o.dst (some r) = some st') := by
  unfold evOp1 at h
  cases hw : wants ops st.tm o with
  | none => rw [hw] at h; cases h
  | some b =>
    rw [hw] at h
    cases b with
    | false => exact .inl ⟨rfl, h⟩
    | true =>
      simp only at h
      cases hr : opx E call st o.op with
      | none => rw [hr] at h; cases h
      | some r => rw [hr] at h; exact .inr ⟨rfl, r, rfl, h⟩
theorem stepR_form {st st' : St} {dst : Option Tmp} {r : R} (h : stepR nt st dst (some r) = some st') : ∃ tm, putT nt st.tm dst r.v = some tm ∧ st' = ⟨tm, r.hp, r.nx, match r.df with | some d => d :: st.df | none => st.df⟩ := by
  simp only [stepR] at h
  cases hp : putT nt st.tm dst r.v with
  | none => rw [hp] at h; cases h
  | some tm => rw [hp] at h; cases h; exact ⟨tm, rfl, rfl⟩
theorem skipR_form {st st' : St} {dst : Option Tmp} (h : skipR nt st dst = some st') : ∃ tm, putT nt st.tm dst (.tup []) = some tm ∧ st' = { st with tm := tm } := by
  simp only [skipR] at h
  cases hp : putT nt st.tm dst (.tup []) with
  | none => rw [hp] at h; cases h
  | some tm => rw [hp] at h; cases h; exact ⟨tm, rfl, rfl⟩
theorem putT_other {tm tm' : T V} {dst : Option Tmp} {v : V} (h : putT nt tm dst v = some tm') {t : Tmp} (ht : dst ≠ some t) : tget tm' t = tget tm t := by
  cases dst with
  | none => cases h; rfl
  | some d =>
    simp only [putT] at h
    obtain ⟨_, h⟩ := bif_some h
    cases h
    have : t ≠ d := fun e => ht (by rw [e])
    simp [tget, T.get_ne _ _ _ _ this]
theorem putT_at {tm tm' : T V} {d : Tmp} {v : V} (h : putT nt tm (some d) v = some tm') : tget tm' d = v ∧ d < nt := by
  simp only [putT] at h
  obtain ⟨q, h⟩ := bif_some h
  cases h
  exact ⟨by simp [tget, T.get_same], Nat.blt_eq.mp q⟩
theorem evOp1_other {ops : List Oper} {o : Oper} {st st' : St} (h : evOp1 E call nt ops o st = some st') {t : Tmp} (ht : o.dst ≠ some t) : tget st'.tm t = tget st.tm t := by
  rcases evOp1_cases h with ⟨_, h⟩ | ⟨_, r, _, h⟩
  · obtain ⟨tm, h1, rfl⟩ := skipR_form h
    exact putT_other h1 ht
  · obtain ⟨tm, h1, rfl⟩ := stepR_form h
    exact putT_other h1 ht

/-! ### What the light operations do -/
theorem opx_pure {op : Op} {st : St} {r : R} (h1 : heavyO op = false) (h2 : lightO op = false) (h : opx E call st op = some r) :
    r = ⟨r.v, st.hp, st.nx, none⟩ ∧ ∀ st2 : St, st2.tm = st.tm → opx E call st2 op = some ⟨r.v, st2.hp, st2.nx, none⟩ := by
  have key : ∀ (f : T V → Option V), (∀ st2 : St, opx E call st2 op = pureR st2 (f st2.tm)) → r = ⟨r.v, st.hp, st.nx, none⟩ ∧ ∀ st2 : St, st2.tm = st.tm → opx E call st2 op = some ⟨r.v, st2.hp, st2.nx, none⟩ := fun f hf => by
    rw [hf st] at h
    obtain ⟨v, hv, rfl⟩ := pureR_some h
    exact ⟨rfl, fun st2 e => by rw [hf st2, e, hv]; rfl⟩
  cases op with
  | move x => exact key (fun tm => some (ev E tm x)) fun _ => rfl
  | assign x => exact key (fun tm => some (ev E tm x)) fun _ => rfl
  | pick c a b => exact key (fun tm => pickV (ev E tm c) (ev E tm a) (ev E tm b)) fun _ => rfl
  | nilCheck x => exact key (fun tm => nilCheckV (ev E tm x)) fun _ => rfl
  | binOp o t x y z => exact key (fun tm => binV E o t (ev E tm x) (ev E tm y)) fun _ => rfl
  | unOp o t x => exact key (fun tm => unV o (ev E tm x)) fun _ => rfl
  | convert s t x =>
    refine key (fun tm => bindO (E.ty s) fun _ => convV E t (ev E tm x)) fun st2 => ?_
    have hx : opx E call st2 (.convert s t x) = bindO (E.ty s) fun _ => pureR st2 (convV E t (ev E st2.tm x)) := rfl
    rw [hx]
    cases E.ty s <;> rfl
  | makeFunc f x y => exact key (fun tm => some (.func f (evL E tm x.toList) (evL E tm y.toList))) fun _ => rfl
  | fieldAddr s x f => exact key (fun tm => fieldV (ev E tm x) (E.ty s) f) fun _ => rfl
  | indexAddr t x i => exact key (fun tm => indexAddrV E t (ev E tm x) (ev E tm i)) fun _ => rfl
  | index t x i => exact key (fun tm => indexV E t (ev E tm x) (ev E tm i)) fun _ => rfl
  | slice t x a b c => exact key (fun tm => sliceV E t (ev E tm x) (evO E tm a) (evO E tm b) (evO E tm c)) fun _ => rfl
  | extract t i => exact key (fun tm => extractV (ev E tm t) i) fun _ => rfl
  | build t ps => exact key (fun tm => buildV E (E.ty t) (evP E tm ps.toList)) fun _ => rfl
  | call c =>
    have hx : ∀ st2 : St, opx E call st2 (.call c) = xCall E call st2 c := fun _ => rfl
    cases hc : c.callee with
    | value f => simp [heavyO, hc] at h1
    | invoke f g => simp [heavyO, hc] at h1
    | builtin b =>
      have hx2 : ∀ st2 : St, opx E call st2 (.call c) = callB E st2 b c.argTypes.toList (evL E st2.tm c.args.toList) := fun st2 => by rw [hx, xCall, hc]
      have hlen : ∀ tm : T V, (evL E tm c.args.toList).length = c.args.size := fun tm => by
        have : ∀ l : List Operand, (evL E tm l).length = l.length := fun l => by
          induction l with
          | nil => rfl
          | cons x l ih => simp [evL, ih]
        rw [this, Array.length_toList]
      cases b with
      | len =>
        refine key (fun tm => match c.argTypes.toList, evL E tm c.args.toList with | t :: _, x :: _ => lenV E (E.ty t) x | _, _ => none) fun st2 => ?_
        rw [hx2]
        cases c.argTypes.toList with
        | nil => cases evL E st2.tm c.args.toList <;> rfl
        | cons t ts => cases evL E st2.tm c.args.toList <;> rfl
      | max =>
        refine key (fun tm => match evL E tm c.args.toList with | x :: l => foldV max2V x l | _ => none) fun st2 => ?_
        rw [hx2]
        cases evL E st2.tm c.args.toList <;> rfl
      | min =>
        refine key (fun tm => match evL E tm c.args.toList with | x :: l => foldV min2V x l | _ => none) fun st2 => ?_
        rw [hx2]
        cases evL E st2.tm c.args.toList <;> rfl
      | _ => simp [heavyO, hc] at h1
  | load | alloc | box | buildSlice | makeSlice => simp [lightO] at h2
  | _ => simp [heavyO] at h1

theorem alloc_form {op : Op} {st : St} {r : R} (hl : isAlloc op = true) (h : opx E call st op = some r) : ∃ cs v, r = ⟨v, st.hp.set st.nx (some (.cells cs)), st.nx + 1, none⟩ := by
  unfold isAlloc at hl
  split at hl
  · have h' : xAlloc E st _ = some r := h
    unfold xAlloc at h'
    split at h'
    · exact ⟨_, _, newBlk_some h'⟩
    · cases h'
  · have h' : xBox E st _ = some r := h
    obtain ⟨cs, _, h'⟩ := bindO_some h'
    exact ⟨_, _, newBlk_some h'⟩
  · have h' : xBuildSlice E st _ _ _ = some r := h
    unfold xBuildSlice at h'
    split at h'
    · split at h'
      · obtain ⟨_, h'⟩ := bif_some h'
        split at h'
        · exact ⟨_, _, newBlk_some h'⟩
        · cases h'
      · cases h'
    · cases h'
  · have h' : makeSliceR E st _ _ _ = some r := h
    unfold makeSliceR at h'
    split at h'
    · split at h'
      · split at h'
        · obtain ⟨_, h'⟩ := bif_some h'
          exact ⟨_, _, newBlk_some h'⟩
        · cases h'
      · cases h'
    · cases h'
  · cases hl

theorem light_cases {op : Op} (h : lightO op = true) : isAlloc op = true ∨ ∃ t a, op = .load t a := by
  unfold lightO at h
  split at h
  · exact .inr ⟨_, _, rfl⟩
  all_goals first | exact .inl rfl | cases h
theorem float_form {ops : List Oper} {o : Oper} {s s' : St} (hh : heavyO o.op = false) (h : evOp1 E call nt ops o s = some s') :
    s'.df = s.df ∧ ((s'.hp = s.hp ∧ s'.nx = s.nx) ∨ ∃ cs, s'.hp = s.hp.set s.nx (some (.cells cs)) ∧ s'.nx = s.nx + 1) := by
  rcases evOp1_cases h with ⟨_, h⟩ | ⟨_, r, hr, h⟩
  · obtain ⟨tm, _, rfl⟩ := skipR_form h
    exact ⟨rfl, .inl ⟨rfl, rfl⟩⟩
  · obtain ⟨tm, _, rfl⟩ := stepR_form h
    cases hl : lightO o.op with
    | false =>
      obtain ⟨e, _⟩ := opx_pure hh hl hr
      rw [e]
      exact ⟨rfl, .inl ⟨rfl, rfl⟩⟩
    | true =>
      rcases light_cases hl with ha | ⟨t, a, hop⟩
      · obtain ⟨cs, v, rfl⟩ := alloc_form ha hr
        exact ⟨rfl, .inr ⟨cs, rfl, rfl⟩⟩
      · rw [hop] at hr
        obtain ⟨v, _, rfl⟩ := pureR_some (show pureR s (loadV s.hp (ev E s.tm a) (E.ty t)) = some r from hr)
        exact ⟨rfl, .inl ⟨rfl, rfl⟩⟩
theorem alloc_run (hE : EOk P E) {ρ : Rho} {o : Oper} {st : St} {r : R} {a : Act} {w : World} (hl : isAlloc o.op = true) (hev : ∀ x ∈ o.op.operands, RV ρ (ev E st.tm x) (a.eval x)) (h : opx E call st o.op = some r) :
    ∃ s : Sem Value, execOp a.eval o = (do pure (.value (← s))) ∧ NewR P ρ w s st.hp st.nx r := by
  unfold isAlloc at hl
  unfold execOp
  split at hl <;> rename_i heq <;> simp only [heq] at hev h ⊢
  · have h' : xAlloc E st _ = some r := h
    unfold xAlloc at h'
    split at h'
    · rename_i hti
      obtain ⟨z, hz, hz1, hz2, hz3⟩ := (hE.ty _ _ hti).zero
      exact ⟨_, rfl, _, _, _, fun id => .ptr id 0, _, newBlk_some h', run_alloc hz w, hz1 ρ, fun _ _ hid => .ptr hid⟩
    · cases h'
  · have h' : xBox E st _ = some r := h
    obtain ⟨cs, hc, h'⟩ := bindO_some h'
    exact ⟨_, rfl, _, _, _, fun id => .ptr id 0, _, newBlk_some h', run_box _ _ w, (hev _ (by simp [Op.operands])).cells hc, fun _ _ hid => .ptr hid⟩
  · rename_i ps
    refine ⟨_, rfl, xBuildSlice_new hE (?_ : RP ρ (evP E st.tm ps.toList) _) h⟩
    rw [Array.toList_map]
    exact evP_in fun p hp => hev p.2 (by simp only [Op.operands, List.mem_toArray, List.mem_map]; exact ⟨p, by simpa using hp, rfl⟩)
  · exact ⟨_, rfl, makeSliceR_new hE (hev _ (by simp [Op.operands])) (hev _ (by simp [Op.operands])) h⟩
  · cases hl
end
end Go.Rf
