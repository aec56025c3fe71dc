/-
  Functions, closures, deferred calls: the evaluator against the model. No statement of the program is claimed here.
-/
import Derived.Test.YtbkjelhkjncfkaaGreatDoorRfM
namespace Go.Rf
section
variable {P : Program} {E : Env} {call : CallT} {w0 : World} {M0 : Nat → Prop}

/-! ### A function's temporaries -/
theorem initT_cons (v : V) (l : List V) (k : Nat) (tm : T V) : initT (v :: l) k tm = initT l (k + 1) (tm.set k (some v)) := rfl
theorem initT_get : ∀ (l : List V) (k i : Nat) (tm : T V), (initT l k tm).get i = if k ≤ i ∧ i < k + l.length then l[i - k]? else tm.get i
  | [], k, i, tm => by
    have : ¬ (k ≤ i ∧ i < k + ([] : List V).length) := by simp only [List.length_nil]; omega
    rw [if_neg this]; rfl
  | v :: l, k, i, tm => by
    rw [initT_cons, initT_get l (k + 1) i]
    by_cases h1 : i = k
    · subst h1
      rw [if_neg (by omega), if_pos (by simp)]
      simp [T.get_same]
    · by_cases h2 : k + 1 ≤ i ∧ i < k + 1 + l.length
      · rw [if_pos h2, if_pos (by simp only [List.length_cons]; omega)]
        have : i - k = (i - (k + 1)) + 1 := by omega
        rw [this, List.getElem?_cons_succ]
      · rw [if_neg h2, if_neg (by simp only [List.length_cons]; omega), T.get_ne _ _ _ _ h1]
theorem init_ok {ρ : Rho} {vs : List V} {args : Array Value} (h : RL ρ vs args.toList) (k : Nat) : TR ρ (initT vs 0 .e) { tmps := args ++ Array.replicate k undef, defers := [] } := by
  intro i
  simp only [tget, initT_get, Nat.zero_le, true_and, Nat.zero_add, Nat.sub_zero, T.get_e]
  rw [Array.getD_eq_getD_getElem?, Array.getElem?_append]
  have hl : vs.length = args.size := h.length.trans Array.length_toList
  by_cases hi : i < vs.length
  · rw [if_pos hi, if_pos (by omega)]
    have hv : vs[i]? = some vs[i] := List.getElem?_eq_getElem hi
    obtain ⟨c, h1, h2⟩ := h.get i _ hv
    rw [Array.getElem?_toList] at h1
    rw [hv, h1]
    exact h2
  · rw [if_neg hi, if_neg (by omega)]
    have : (Array.replicate k undef)[i - args.size]?.getD undef = undef := by
      rw [Array.getElem?_replicate]; split <;> rfl
    rw [this]
    exact .dead _

/-! ### Results -/
def resM (tmps : Array Value) (x : ResultVar) : Sem Value :=
  match x with
  | .tmp t => pure (tmps.getD t undef)
  | .cell a t => do loadVar t (← asAddr (tmps.getD a undef))
theorem results_eq (fn : Func) (tmps : Array Value) : results fn tmps = (do let vs ← fn.results.mapM (resM tmps); pure (if h : vs.size = 1 then vs[0] else .tuple vs)) := rfl
theorem resV_ok (hE : EOk P E) {ρ : Rho} {tm : T V} {tmps : Array Value} (htr : ∀ i, RV ρ (tget tm i) (tmps.getD i undef)) {hp : Hp} {nx : Nat} {w : World} (hr : HR ρ hp nx w) {x : ResultVar} {v : V} (h : resV E tm hp x = some v) :
    ∃ c, (resM tmps x).run P w = .ok c w ∧ RV ρ v c := by
  cases x with
  | tmp t => cases h; exact ⟨_, rfl, htr t⟩
  | cell a t =>
    simp only [resV] at h
    split at h
    · rename_i ti ha hti
      have hx := htr a
      rw [ha] at hx
      show ∃ c, (do loadVar t (← asAddr (tmps.getD a undef)) : Sem Value).run P w = .ok c w ∧ RV ρ v c
      generalize tmps.getD a undef = c at hx
      cases hx with | ptr hb =>
      split at h
      · rename_i cs hrd
        obtain ⟨ds, h1, h2⟩ := rdFrom_some hr hrd hb
        obtain ⟨c, h3, h4⟩ := loadVar_ok (P := P) (hE.ty _ _ hti) h1 h2 h
        exact ⟨c, by simp [asAddr, h3], h4⟩
      · cases h
    · cases h
theorem resL_ok (hE : EOk P E) {ρ : Rho} {tm : T V} {tmps : Array Value} (htr : ∀ i, RV ρ (tget tm i) (tmps.getD i undef)) {hp : Hp} {nx : Nat} {w : World} (hr : HR ρ hp nx w) : ∀ {xs : List ResultVar} {vs : List V}, mapO (resV E tm hp) xs = some vs →
    ∃ cs, (xs.mapM (resM tmps)).run P w = .ok cs w ∧ RL ρ vs cs
  | [], vs, h => by cases h; exact ⟨[], rfl, .nil⟩
  | x :: xs, vs, h => by
    unfold mapO at h
    cases hx : resV E tm hp x with
    | none => rw [hx] at h; cases h
    | some v =>
      rw [hx] at h
      simp only at h
      cases hl : mapO (resV E tm hp) xs with
      | none => rw [hl] at h; cases h
      | some l =>
        rw [hl] at h; cases h
        obtain ⟨c, h1, h2⟩ := resV_ok hE htr hr hx
        obtain ⟨cs, h3, h4⟩ := resL_ok hE htr hr hl
        refine ⟨c :: cs, ?_, .cons h2 h4⟩
        rw [List.mapM_cons]
        simp [h1, h3]
theorem results_ok (hE : EOk P E) {ρ : Rho} {tm : T V} {a : Act} (htr : TR ρ tm a) {hp : Hp} {nx : Nat} {w : World} (hr : HR ρ hp nx w) {fn : Func} {xs : List ResultVar} (hxs : fn.results.toList = xs) {vs : List V} (h : mapO (resV E tm hp) xs = some vs) :
    ∃ c, (results fn a.tmps).run P w = .ok c w ∧ RV ρ (retV vs) c := by
  subst hxs
  obtain ⟨cs, h1, h2⟩ := resL_ok hE (tmps := a.tmps) htr hr h
  have hm : (fn.results.mapM (resM a.tmps)).run P w = .ok cs.toArray w := by
    rw [Array.mapM_eq_mapM_toList]
    simp [h1]
  rw [results_eq]
  cases h2 with
  | nil => exact ⟨.tuple #[], by simp [hm], .tup .nil⟩
  | cons hv hl =>
    cases hl with
    | nil => exact ⟨_, by simp [hm], hv⟩
    | cons hv2 hl =>
      refine ⟨.tuple _, by simp [hm]; rfl, .tup ?_⟩
      exact .cons hv (.cons hv2 hl)

/-! ### Deferred calls -/
theorem evDefs_cons (d : FuncId × List V) (l : List (FuncId × List V)) (hp : Hp) (nx : Nat) : evDefs call (d :: l) hp nx =
    bif Nat.blt d.1 markId then (bindS (call d.1 d.2 hp nx) fun r => bif r.df.isNone then evDefs call l r.hp r.nx else none) else (bindS (shutMark d.2 hp) fun hp' => evDefs call l hp' nx) := rfl
theorem leaves_ok (hE : EOk P E) (hG : Good P E call) {fn : Func} {tmps : Array Value} {R : Ending → World → Prop} : ∀ (l : List (FuncId × List V)) (ds : List Deferred) (ρ : Rho) (hp hp' : Hp) (nx nx' : Nat) (w : World),
    evDefs call l hp nx = some (hp', nx') → DR ρ l ds → Inv E w0 M0 ρ hp nx w →
    (∀ ρ' w', Inv E w0 M0 ρ' hp' nx' w' → (∀ b, b < nx → ρ' b = ρ b) → nx ≤ nx' → ∃ v, (results fn tmps).run P w' = .ok v w' ∧ R (.returned v) w') → LeavesInM (FW none) 0 P fn tmps R ds .returning w
  | [], [], ρ, hp, hp', nx, nx', w, h, _, hI, hR => by cases h; exact hR ρ w hI (fun _ _ => rfl) (Nat.le_refl _)
  | [], _ :: _, _, _, _, _, _, _, _, hd, _, _ => hd.elim
  | _ :: _, [], _, _, _, _, _, _, _, hd, _, _ => hd.elim
  | (f, vs) :: l, d :: ds, ρ, hp, hp', nx, nx', w, h, hd, hI, hR => by
    rw [evDefs_cons] at h
    obtain ⟨hd1, hd2⟩ := hd
    rcases hd1 with ⟨hlt, cap, ht, hl⟩ | ⟨heq, b, g, n, h1, h2, ht⟩
    · have hb : Nat.blt f markId = true := Nat.blt_eq.mpr hlt
      simp only [hb, cond_true] at h
      obtain ⟨r, hc, h⟩ := bindS_some h
      obtain ⟨hdf, h⟩ := bif_some h
      obtain ⟨fi, hfi⟩ := hG.known _ _ _ _ _ hc hlt
      obtain ⟨fn', k1, k2, k3, k4, k5, _⟩ := hE.fn _ _ hfi
      have k5' : ¬ fn'.name = "runtime.NumGoroutine" := by simpa using k5
      have hdf' : r.df = none := by
        cases hx : r.df with
        | none => rfl
        | some x => rw [hx] at hdf; cases hdf
      refine ⟨by simp, .inr ⟨fun h => (by cases h), .func f, cap, f, d.args ++ cap, ht, by rw [ht]; simp [invoke, callFunc, k1, k2, k5'], fun _ _ => trivial, ?_⟩⟩
      refine CallsDIn.mono (hG.later f vs hp nx r hc hlt hdf' w0 M0 ρ (d.args ++ cap) w .returning hl hI) fun e u' w' he => ?_
      obtain ⟨rfl, c, rfl, ρ', h1, h2, h3, h4⟩ := he
      show LeavesInM (FW none) 0 P fn tmps R ds .returning w'
      refine leaves_ok hE hG l ds ρ' r.hp hp' r.nx nx' w' h (hd2.ext (hI.hr.ext_of h4)) h1 fun ρ2 w2 m1 m2 m3 => ?_
      exact hR ρ2 w2 m1 (fun b hb => (m2 b (Nat.lt_of_lt_of_le hb h3)).trans (h4 b hb)) (Nat.le_trans h3 m3)
    · simp only at heq h1
      subst heq; subst h1
      have hb : Nat.blt markId markId = false := by decide
      simp only [hb, cond_false] at h
      obtain ⟨hp1, hs, h⟩ := bindS_some h
      unfold shutMark at hs
      simp only at hs
      split at hs
      case h_2 => cases hs
      rename_i hget
      cases hs
      have hbr : w.heap[g]? = some (.deferred (some [])) := hI.hr.blk _ _ g n hget h2
      have hput := hI.put (y := .mark false) hget trivial h2 (putObj_chg w g (.deferred none)) (World.putObj_heap_same (Array.getElem?_eq_some_iff.1 hbr).1)
      refine ⟨by simp, .inl ⟨g, _, ht, run_takeDeferred hbr, ?_⟩⟩
      exact leaves_ok hE hG l ds ρ _ hp' nx nx' _ h hd2 hput hR

/-! ### Functions -/
theorem evBody_ok (hE : EOk P E) (hG : Good P E call) (hM : MixOk P E call) {f : FuncId} {fi : FI} (hf : E.fn f = some fi) {vs : List V} {hp : Hp} {nx : Nat} {r : R} (h : evBody E call fi vs hp nx = some r)
    {ρ : Rho} {args : Array Value} {w : World} (hl : RL ρ vs args.toList) (hI : Inv E w0 M0 ρ hp nx w) :
    (Calls P f args w fun e w' => ∃ c, e = .returned c ∧ Stp E w0 M0 ρ nx r c w') ∧
    (r.df = none → ∀ u, CallsDIn (FW none) 0 P f args u w fun e u' w' => u' = u ∧ ∃ c, e = .returned c ∧ Stp E w0 M0 ρ nx r c w') := by
  obtain ⟨fn, k1, k2, k3, k4, k5, k6⟩ := hE.fn _ _ hf
  unfold evBody at h
  obtain ⟨⟨out, s1⟩, h1, h⟩ := bindS_some h
  have hs : SR E w0 M0 ρ fi.nt ⟨initT vs 0 .e, hp, nx, []⟩ { tmps := args ++ Array.replicate (fn.ntmps - args.size) undef, defers := [] } w :=
    ⟨init_ok hl _, by simp only [Array.size_append, Array.size_replicate, ← k3]; omega, hI, trivial⟩
  have hwp := evCode_ok (rd := none) hE hG hM fi.plan fi.body ρ _ _ w out s1 k6 (.inl rfl) h1 hs
  have fin : ∀ (e : Exit), OutE out e → e = .normal ∨ e = .ret := fun e he => by
    cases out with
    | norm => exact .inl he
    | ret => exact .inr he
    | exit id => cases h
  have h' : bindS (evDefs call s1.df s1.hp s1.nx) (fun h => bindS (mapO (resV E s1.tm h.1) fi.results) fun vs => some ⟨retV vs, h.1, h.2, s1.df.head?⟩) = some r := by
    cases out with
    | norm => exact h
    | ret => exact h
    | exit id => cases h
  obtain ⟨⟨hp2, nx2⟩, h2, h3⟩ := bindS_some h'
  obtain ⟨rs, h4, h5⟩ := bindS_some h3
  cases h5
  have body : ∀ (a' : Act) (w' : World), Re E w0 M0 ρ fi.nt nx s1 a' w' → LeavesInM (FW none) 0 P fn a'.tmps (fun e w' => ∃ c, e = .returned c ∧ Stp E w0 M0 ρ nx ⟨retV rs, hp2, nx2, s1.df.head?⟩ c w') a'.defers .returning w' := fun a' w' hr => by
    obtain ⟨ρ1, m1, m2, m3⟩ := hr
    refine leaves_ok hE hG s1.df a'.defers ρ1 s1.hp hp2 s1.nx nx2 w' h2 m1.df m1.inv fun ρ2 w2 n1 n2 n3 => ?_
    obtain ⟨c, r1, r2⟩ := results_ok hE (m1.tr.ext (m1.inv.hr.ext_of n2)) n1.hr k4 h4
    exact ⟨c, r1, c, rfl, ρ2, n1, r2, Nat.le_trans m3 n3, fun b hb => (n2 b (Nat.lt_of_lt_of_le hb m3)).trans (m2 b hb)⟩
  refine ⟨(callsIn_wide (n := 0)).1 (callsIn_of_wp_marks (F := FW none) k1 k2 trivial (wpIn_mono hwp fun e a' w' hq => ?_)), fun hdf u => callsDIn_of_wp (F := FW none) k1 k2 trivial (wpIn_mono hwp fun e a' w' hq => ?_)⟩
  · rcases fin e hq.1 with rfl | rfl
    · exact body a' w' hq.2
    · exact body a' w' hq.2
  · have hnil : s1.df = [] := by
      cases hx : s1.df with
      | nil => rfl
      | cons x l => rw [hx] at hdf; cases hdf
    have hb := body a' w' hq.2
    obtain ⟨ρ1, m1, _⟩ := hq.2
    have hdn : a'.defers = [] := by
      have := m1.df
      rw [hnil] at this
      cases hx : a'.defers with
      | nil => rfl
      | cons x l => rw [hx] at this; exact this.elim
    rw [hdn] at hb
    rcases fin e hq.1 with rfl | rfl
    · exact ⟨hdn, hb⟩
    · exact ⟨hdn, hb⟩

/-! ### Rounds -/
theorem setPs_ok {ρ : Rho} {nt : Nat} : ∀ {ps : List Tmp} {vs : List V} {as : List Value} {tm tm' : T V} {tmps : Array Value}, setPs nt tm ps vs = some tm' → RL ρ vs as → (∀ i, RV ρ (tget tm i) (tmps.getD i undef)) → nt ≤ tmps.size →
    (∀ i, RV ρ (tget tm' i) (((ps.zip as).foldl (fun tmps x => tmps.setIfInBounds x.1 x.2) tmps).getD i undef)) ∧ nt ≤ ((ps.zip as).foldl (fun tmps x => tmps.setIfInBounds x.1 x.2) tmps).size ∧ ps.length = as.length
  | [], [], [], tm, tm', tmps, h, _, ht, hs => by cases h; exact ⟨ht, hs, rfl⟩
  | [], _ :: _, _, _, _, _, h, _, _, _ => by cases h
  | _ :: _, [], _, _, _, _, h, _, _, _ => by cases h
  | [], [], _ :: _, _, _, _, _, hl, _, _ => by cases hl
  | t :: ps, v :: vs, a :: as, tm, tm', tmps, h, hl, ht, hs => by
    obtain ⟨hb, h⟩ := bif_some h
    have hb' := Nat.blt_eq.mp hb
    cases hl with | cons hv hl =>
    have hts : t < tmps.size := Nat.lt_of_lt_of_le hb' hs
    obtain ⟨h1, h2, h3⟩ := setPs_ok (ps := ps) (tmps := tmps.setIfInBounds t a) h hl (fun i => by
      by_cases e : i = t
      · subst e
        simp [tget, T.get_same, hts, hv]
      · have := ht i
        simp only [tget, T.get_ne _ _ _ _ e] at this ⊢
        rw [Array.getD_eq_getD_getElem?, Array.getElem?_setIfInBounds_ne (Ne.symm e), ← Array.getD_eq_getD_getElem?]
        exact this) (by simpa using hs)
    exact ⟨h1, h2, by rw [List.length_cons, List.length_cons, h3]⟩
  | _ :: _, _ :: _, [], _, _, _, _, hl, _, _ => by cases hl

theorem evRound_ok (hE : EOk P E) (hG : Good P E call) (hM : MixOk P E call) {l : Nat} {vs : List V} {hp : Hp} {nx : Nat} {r : R} (h : evRound E call l vs hp nx = some r)
    {ρ : Rho} {args : Array Value} {w : World} {g : Nat} {n : Nat × Nat} (hg : ρ l = some (g, n)) (hl : RL ρ vs args.toList) (hI : Inv E w0 M0 ρ hp nx w) :
    ∃ lr : Loop, w.heap[g]? = some (.loop lr) ∧ args.size = lr.params.size ∧
      RoundIn Fence.wide 0 P g lr.fn ((lr.params.zip args).foldl (fun tmps (t, a) => tmps.setIfInBounds t a) lr.tmps) lr.assign lr.body w fun e w' => ∃ c, e = .returned c ∧ Stp E w0 M0 ρ nx r c w' := by
  unfold evRound at h
  split at h
  case h_2 => cases h
  rename_i lr hlr
  split at h
  case h_2 => cases h
  rename_i tm htm
  obtain ⟨⟨o1, s0⟩, h1, hA⟩ := bindS_some h
  obtain ⟨hn, hB⟩ := bif_some hA
  obtain ⟨⟨lr1, sb⟩, h3, hC⟩ := bindS_some hB
  obtain ⟨⟨out, s1⟩, h5, h2⟩ := bindS_some hC
  clear h hA hB hC
  obtain ⟨mr, m1, m2⟩ := hI.hr.blk _ _ g n hlr hg
  obtain ⟨t1, t2, t3⟩ := setPs_ok htm hl m2.tm m2.sz
  have hsize : args.size = mr.params.size := by
    have := congrArg List.length m2.params
    simp only [Array.length_toList] at this t3
    omega
  refine ⟨mr, m1, hsize, ?_⟩
  have hfold : (mr.params.zip args).foldl (fun tmps (t, a) => tmps.setIfInBounds t a) mr.tmps = (lr.params.zip args.toList).foldl (fun tmps x => tmps.setIfInBounds x.1 x.2) mr.tmps := by
    rw [← Array.foldl_toList, Array.toList_zip, m2.params]
  rw [hfold]
  generalize (lr.params.zip args.toList).foldl (fun tmps x => tmps.setIfInBounds x.1 x.2) mr.tmps = tmps at t1 t2
  refine roundIn_of_wpIn trivial ?_
  rw [m2.assign]
  refine wpIn_mono (evCode_ok (rd := some g) hE hG hM lr.pl lr.assign ρ _ { tmps := tmps, defers := [] } _ o1 s0 m2.plan0 (.inr m2.plain0) h1 ⟨t1, t2, hI, trivial⟩) fun e a1 w1 hq => ?_
  obtain ⟨ho, ρ1, p1, p2, p3⟩ := hq
  cases o1 with
  | ret => cases hn
  | exit id => cases hn
  | norm =>
  cases ho
  unfold roundBegin at h3
  split at h3
  case h_2 => cases h3
  rename_i lrx hlrx
  split at h3
  case h_2 => cases h3
  rename_i hst
  cases h3
  have hlt0 := hI.hr.there hg
  have hg1 : ρ1 l = some (g, n) := by rw [p2 l hlt0]; exact hg
  obtain ⟨mrx, mx1, mx2⟩ := p1.inv.hr.blk _ _ g n hlrx hg1
  have hput := p1.inv.put (y := .loop { lr1 with state := .busy }) hlrx trivial hg1 (putObj_chg w1 g (.loop { mrx with state := .busy }))
    ⟨_, World.putObj_heap_same (Array.getElem?_eq_some_iff.1 mx1).1, rfl, mx2.pend, mx2.params, mx2.assign, mx2.body, mx2.tm, mx2.sz, mx2.plan, mx2.plain, mx2.plan0, mx2.plain0⟩
  have hbr := run_beginRound (P := P) mx1 (by rw [mx2.state, hst])
  generalize w1.putObj g (.loop { mrx with state := .busy }) = w2 at hbr hput
  refine ⟨w2, hbr, ?_⟩
  rw [m2.body]
  refine wpIn_mono (evCode_ok (rd := some g) hE hG hM lr.pl lr.body ρ1 _ a1 w2 out s1 m2.plan (.inr m2.plain) h5 ⟨p1.tr, p1.sz, hput, p1.df⟩) fun e a' w' hq => ?_
  obtain ⟨ho, ρ', q1, q2, q3⟩ := hq
  unfold roundEnd at h2
  split at h2
  case h_2 => cases h2
  rename_i lr' hdf hlr'
  cases h2
  have hlt := p1.inv.hr.there hg1
  have hg' : ρ' l = some (g, n) := by rw [q2 l hlt]; exact hg1
  obtain ⟨mr', m1', m2'⟩ := q1.inv.hr.blk _ _ g n hlr' hg'
  have fin : ∀ (jump : Option Code), jump.isNone = out.isNorm → (jump = pendC (bif out.isNorm then none else some out)) → ∃ v w'', (Instr.endRound g jump).run P w' = .ok v w'' ∧
      ∃ c, (Ending.returned v : Ending) = .returned c ∧ Stp E w0 M0 ρ nx ⟨.bool out.isNorm, s1.hp.set l (some (.loop { lr' with state := bif out.isNorm then .ready else .done, pending := bif out.isNorm then none else some out })), s1.nx, none⟩ c w'' := fun jump hj1 hj2 => by
    refine ⟨_, _, run_endRound jump m1', _, rfl, ρ', ?_, ?_, Nat.le_trans p3 q3, fun b hb => (q2 b (Nat.lt_of_lt_of_le hb p3)).trans (p2 b hb)⟩
    · exact q1.inv.put (y := .loop { lr' with state := bif out.isNorm then .ready else .done, pending := bif out.isNorm then none else some out }) hlr' trivial hg' (putObj_chg _ g _)
        ⟨_, World.putObj_heap_same (Array.getElem?_eq_some_iff.1 m1').1, by rw [hj1]; cases out.isNorm <;> rfl, hj2, m2'.params, m2'.assign, m2'.body, m2'.tm, m2'.sz, m2'.plan, m2'.plain, m2'.plan0, m2'.plain0⟩
    · rw [hj1]; exact .bool _
  cases out with
  | norm => cases ho; exact fin none rfl rfl
  | ret => cases ho; exact fin (some .ret) rfl rfl
  | exit id => cases ho; exact fin (some (.exit id)) rfl rfl

theorem round_id (l : Nat) : Nat.blt (Nat.add rdBase l) markId = false ∧ Nat.sub (Nat.add rdBase l) rdBase = l := by
  refine ⟨?_, show rdBase + l - rdBase = l from Nat.add_sub_cancel_left ..⟩
  rw [← Bool.not_eq_true, Nat.blt_eq]
  show ¬ rdBase + l < markId
  unfold rdBase markId
  omega
/-- One level more: functions by 'fc', rounds by the evaluator. -/
theorem good_step (hE : EOk P E) (hG : Good P E call) (hM : MixOk P E call) {call' : CallT}
    (hr : ∀ l vs hp nx, call' (Nat.add rdBase l) vs hp nx = evRound E call l vs hp nx)
    (hf : ∀ f vs hp nx r, f < markId → call' f vs hp nx = some r → (∃ fi, E.fn f = some fi ∧ evBody E call fi vs hp nx = some r) ∨ (∃ tb : CallT, Good P E tb ∧ tb f vs hp nx = some r)) : Good P E call' := by
  refine ⟨fun f vs hp nx r h hlt => ?_, fun f vs hp nx r h hlt w0 M0 ρ args w hl hI => ?_, fun f vs hp nx r h hlt hd w0 M0 ρ args w u hl hI => ?_, fun l vs hp nx r h w0 M0 ρ args w g n hg hl hI => ?_⟩
  · rcases hf _ _ _ _ _ hlt h with ⟨fi, h1, _⟩ | ⟨tb, h1, h2⟩
    · exact ⟨fi, h1⟩
    · exact h1.known _ _ _ _ _ h2 hlt
  · rcases hf _ _ _ _ _ hlt h with ⟨fi, h1, h2⟩ | ⟨tb, h1, h2⟩
    · exact (evBody_ok hE hG hM h1 h2 hl hI).1
    · exact h1.calls _ _ _ _ _ h2 hlt w0 M0 ρ args w hl hI
  · rcases hf _ _ _ _ _ hlt h with ⟨fi, h1, h2⟩ | ⟨tb, h1, h2⟩
    · exact (evBody_ok hE hG hM h1 h2 hl hI).2 hd u
    · exact h1.later _ _ _ _ _ h2 hlt hd w0 M0 ρ args w u hl hI
  · rw [hr] at h
    exact evRound_ok hE hG hM h hg hl hI

theorem evFun_succ (n : Nat) (f : FuncId) (vs : List V) (hp : Hp) (nx : Nat) : evFun E (n + 1) f vs hp nx =
    bif Nat.blt f markId then (bindS (E.fn f) fun fi => evBody E (evFun E n) fi vs hp nx) else evRound E (evFun E n) (Nat.sub f rdBase) vs hp nx := rfl
theorem good_all (hE : EOk P E) (hM : ∀ call, Good P E call → MixOk P E call) : ∀ n, Good P E (evFun E n)
  | 0 => ⟨fun _ _ _ _ _ h => (by cases h), fun _ _ _ _ _ h => (by cases h), fun _ _ _ _ _ h => (by cases h), fun _ _ _ _ _ h => (by cases h)⟩
  | n + 1 => by
    have ih := good_all hE hM n
    refine good_step hE ih (hM _ ih) (fun l vs hp nx => ?_) fun f vs hp nx r hlt h => .inl ?_
    · rw [evFun_succ, (round_id l).1, (round_id l).2]; rfl
    · rw [evFun_succ, Nat.blt_eq.mpr hlt] at h
      exact bindS_some h
end
end Go.Rf
