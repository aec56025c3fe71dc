/-
  Every operation of the evaluator against the model. No statement of the program is claimed here.
-/
import Derived.Test.YtbkjelhkjncfkaaGreatDoorRfCv
import Derived.RangeFuncRecord
namespace Go.Rf
section
variable {P : Program} {E : Env} {call : CallT}

theorem pureR_some {st : St} {x : Option V} {r : R} (h : pureR st x = some r) : ∃ v, x = some v ∧ r = ⟨v, st.hp, st.nx, none⟩ := by
  cases x with
  | none => cases h
  | some v => cases h; exact ⟨v, rfl, rfl⟩
theorem hpR_some {st : St} {x : Option Hp} {r : R} (h : hpR st x = some r) : ∃ hp, x = some hp ∧ r = ⟨.tup [], hp, st.nx, none⟩ := by
  cases x with
  | none => cases h
  | some v => cases h; exact ⟨v, rfl, rfl⟩

/-- A call that was put off. -/
def DOk (ρ : Rho) (x : FuncId × List V) (d : Deferred) : Prop :=
  (x.1 < markId ∧ ∃ cap, d.target = .fn (.func x.1) cap ∧ RL ρ x.2 (d.args ++ cap).toList) ∨ (x.1 = markId ∧ ∃ b g n, x.2 = [.map b] ∧ ρ b = some (g, n) ∧ d.target = .collected g)

/-- What an operation does. -/
inductive OpOk (P : Program) (E : Env) (call : CallT) (w0 : World) (M0 : Nat → Prop) (ρ : Rho) (st : St) (r : R) (w : World) (s : Sem Next) : Prop
  | val (n : Next) (c : Value) (w' : World) (h : s.run P w = .ok n w') (hn : n = .value c ∨ (n = .skip ∧ c = undef)) (hs : Stp E w0 M0 ρ st.nx r c w') (hd : r.df = none)
  | enter (f : FuncId) (vs : List V) (args : Array Value) (r' : R) (h : s.run P w = .ok (.enter f args) w) (hl : RL ρ vs args.toList) (hf : f < markId) (hc : call f vs st.hp st.nx = some r') (hr : r = ⟨r'.v, r'.hp, r'.nx, none⟩)
  | round (l : Nat) (vs : List V) (args : Array Value) (r' : R) (g : Nat) (n : Nat × Nat) (hg : ρ l = some (g, n)) (hl : RL ρ vs args.toList)
      (h : ∀ lr : Loop, w.heap[g]? = some (.loop lr) → args.size = lr.params.size → s.run P w = .ok (.round g lr.fn ((lr.params.zip args).foldl (fun tmps (t, a) => tmps.setIfInBounds t a) lr.tmps) lr.assign lr.body) w)
      (hc : call (Nat.add rdBase l) vs st.hp st.nx = some r') (hr : r = ⟨r'.v, r'.hp, r'.nx, none⟩)
  | later (f : FuncId) (vs : List V) (d : Deferred) (h : s.run P w = .ok (.defer d) w) (hd : DOk ρ (f, vs) d) (hr : r = ⟨.tup [], st.hp, st.nx, some (f, vs)⟩)

variable {w0 w : World} {M0 : Nat → Prop} {ρ : Rho} {st : St} {r : R}

theorem OpOk.ofVal {s : Sem Value} (h : ∃ c w', s.run P w = .ok c w' ∧ Stp E w0 M0 ρ st.nx r c w' ∧ r.df = none) : OpOk P E call w0 M0 ρ st r w (do pure (.value (← s))) := by
  obtain ⟨c, w', h1, h2, h3⟩ := h
  exact .val (.value c) c w' (by simp [h1]) (.inl rfl) h2 h3
theorem OpOk.ofPure {s : Sem Value} (hI : Inv E w0 M0 ρ st.hp st.nx w) {x : Option V} (h : pureR st x = some r) (k : ∀ v, x = some v → ∃ c, s.run P w = .ok c w ∧ RV ρ v c) : OpOk P E call w0 M0 ρ st r w (do pure (.value (← s))) := by
  obtain ⟨v, hv, rfl⟩ := pureR_some h
  obtain ⟨c, h1, h2⟩ := k v hv
  exact .ofVal ⟨c, w, h1, Stp.same hI h2 none, rfl⟩
theorem OpOk.ofUnit {s : Sem Unit} {x : Option Hp} (h : hpR st x = some r) (k : ∀ hp, x = some hp → ∃ w', s.run P w = .ok () w' ∧ Inv E w0 M0 ρ hp st.nx w') : OpOk P E call w0 M0 ρ st r w (do s; pure .skip) := by
  obtain ⟨hp, hv, rfl⟩ := hpR_some h
  obtain ⟨w', h1, h2⟩ := k hp hv
  exact .val .skip undef w' (by simp [h1]) (.inr ⟨rfl, rfl⟩) (Stp.same h2 (.tup .nil) none) rfl

theorem OpOk.congr {s s' : Sem Next} (h : OpOk P E call w0 M0 ρ st r w s) (e : s'.run P w = s.run P w) : OpOk P E call w0 M0 ρ st r w s' := by
  cases h with
  | val n c w' h hn hs hd => exact .val n c w' (e.trans h) hn hs hd
  | enter f vs args r' h hl hf hc hr => exact .enter f vs args r' (e.trans h) hl hf hc hr
  | round l vs args r' g n hg hl h hc hr => exact .round l vs args r' g n hg hl (fun lr h1 h2 => e.trans (h lr h1 h2)) hc hr
  | later f vs d h hd hr => exact .later f vs d (e.trans h) hd hr

theorem makeMap_ok (hI : Inv E w0 M0 ρ st.hp st.nx w) (t : TypeId) (h : xMakeMap st = some r) : ∃ c w', (Instr.makeMap t none).run P w = .ok c w' ∧ Stp E w0 M0 ρ st.nx r c w' ∧ r.df = none := by
  cases h
  obtain ⟨h1, h2⟩ := hI.new (.map []) (.map #[] 0) (0, 0) (w' := { w with heap := w.heap.push (.map #[] 0) }) rfl rfl rfl rfl (fun w'' hh => ⟨#[], hh, ⟨.nil, .nil⟩, fun i e h => by simp at h⟩)
  exact ⟨.map (some w.heap.size), _, rfl, ⟨_, h1, .map (Rho.put_same _ _ _), Nat.le_succ _, h2⟩, rfl⟩

theorem pick_ok {x y z v : V} {a b c : Value} (hx : RV ρ x a) (hy : RV ρ y b) (hz : RV ρ z c) (h : pickV x y z = some v) : ∃ u, (do pure (.value (if ← asBool a then b else c)) : Sem Next).run P w = .ok (.value u) w ∧ RV ρ v u := by
  unfold pickV at h
  split at h
  · cases h; cases hx; exact ⟨b, by simp [asBool], hy⟩
  · cases h; cases hx; exact ⟨c, by simp [asBool], hz⟩
  · cases h

theorem call_ok (hE : EOk P E) (hcall : ∀ f vs hp nx r, call f vs hp nx = some r → f < markId → ∃ fi, E.fn f = some fi) {x : V} {a : Value} {vs : List V} {as : Array Value} (hx : RV ρ x a) (hl : RL ρ vs as.toList)
    (h : callV call st x vs = some r) : ∀ s : Sem Deferred, s = Deferred.ofValue a as → OpOk P E call w0 M0 ρ st r w (do let d ← s; invoke d.target d.args) := by
  rintro _ rfl
  unfold callV at h
  split at h
  · cases hx with | @func _ _ _ f1 f2 g1 g2 =>
    obtain ⟨hlt, h⟩ := bif_some h
    have hlt' := Nat.blt_eq.mp hlt
    obtain ⟨r', hc, hr⟩ := bindO_some h
    obtain ⟨fi, hfi⟩ := hcall _ _ _ _ _ hc hlt'
    obtain ⟨fn, k1, k2, k3, k4, k5, _⟩ := hE.fn _ _ hfi
    cases hr
    refine .enter _ _ (f1 ++ as ++ f2) r' ?_ ?_ hlt' hc rfl
    · have k5' : ¬ fn.name = "runtime.NumGoroutine" := by simpa using k5
      simp [Deferred.ofValue, invoke, callFunc, k1, k2, k5']
    · simp only [Array.toList_append, List.append_assoc]
      exact g1.append (hl.append g2)
  · cases hx with | @yield b g n hg =>
    obtain ⟨r', hc, hr⟩ := bindO_some h
    cases hr
    refine .round _ vs as r' g n hg hl (fun lr h1 h2 => ?_) hc rfl
    have hy := run_yield (P := P) h1 h2
    simpa [Deferred.ofValue, invoke] using hy
  · cases h
theorem defer_ok {x : V} {a : Value} {vs : List V} {as : Array Value} (hx : RV ρ x a) (hl : RL ρ vs as.toList)
    (h : deferR st x vs = some r) : ∀ s : Sem Deferred, s = Deferred.ofValue a as → OpOk P E call w0 M0 ρ st r w (do pure (.defer (← s))) := by
  rintro _ rfl
  unfold deferR at h
  split at h
  · cases hx with | @func _ _ _ f1 f2 g1 g2 =>
    obtain ⟨hlt, h⟩ := bif_some h
    cases h
    refine .later _ _ _ (by simp [Deferred.ofValue]; rfl) (.inl ⟨Nat.blt_eq.mp hlt, _, rfl, ?_⟩) rfl
    simp only [Array.toList_append, List.append_assoc]
    exact g1.append (hl.append g2)
  · cases h

theorem callB_ok (hE : EOk P E) (hI : Inv E w0 M0 ρ st.hp st.nx w) {b : Builtin} {ts : Array TypeId} {ty : TypeId} {cs : Array Bool} {vs : List V} {as : Array Value} (hl : RL ρ vs as.toList)
    (h : callB E st b ts.toList vs = some r) : OpOk P E call w0 M0 ρ st r w (builtin b ts ty cs as) := by
  unfold callB at h
  split at h
  · rename_i t ts' x l hts
    obtain rfl : ts = (t :: ts').toArray := by rw [← hts]
    cases has : as.toList with
    | nil => rw [has] at hl; cases hl
    | cons a as' =>
      obtain rfl : as = (a :: as').toArray := by rw [← has]
      cases hl with | cons hx hl =>
      exact OpOk.ofPure hI h fun v hv => lenV_ok hE w hx hv
  · rename_i t u x y hts
    obtain rfl : ts = #[t, u] := by rw [← Array.toArray_toList (xs := ts), hts]
    cases has : as.toList with
    | nil => rw [has] at hl; cases hl
    | cons a as' =>
      rw [has] at hl
      cases hl with | cons hx hl =>
      cases as' with
      | nil => cases hl
      | cons b as' =>
        cases hl with | cons hy hl =>
        cases as' with
        | cons => cases hl
        | nil =>
          obtain rfl : as = #[a, b] := by rw [← Array.toArray_toList (xs := as), has]
          exact OpOk.ofVal (appendV_ok hE hI hx hy h)
  · rename_i x l
    cases has : as.toList with
    | nil => rw [has] at hl; cases hl
    | cons a as' =>
      obtain rfl : as = (a :: as').toArray := by rw [← has]
      cases hl with | cons hx hl =>
      exact OpOk.ofPure hI h fun v hv => foldV_ok (f := max2V) (g := Builtin.max2) (fun _ _ _ _ _ h1 h2 h3 => max2_ok h1 h2 h3) w l as' x a v hx hl hv
  · rename_i x l
    cases has : as.toList with
    | nil => rw [has] at hl; cases hl
    | cons a as' =>
      obtain rfl : as = (a :: as').toArray := by rw [← has]
      cases hl with | cons hx hl =>
      exact OpOk.ofPure hI h fun v hv => foldV_ok (f := min2V) (g := Builtin.min2) (fun _ _ _ _ _ h1 h2 h3 => min2_ok h1 h2 h3) w l as' x a v hx hl hv
  · rename_i t ts' x hts
    obtain rfl : ts = (t :: ts').toArray := by rw [← hts]
    cases has : as.toList with
    | nil => rw [has] at hl; cases hl
    | cons a as' =>
      obtain rfl : as = (a :: as').toArray := by rw [← has]
      cases hl with | cons hx hl =>
      exact OpOk.ofVal (clearV_ok hE hI hx h)
  · cases h

theorem evL_in {tm : T V} {a : Act} : ∀ {l : List Operand}, (∀ x ∈ l, RV ρ (ev E tm x) (a.eval x)) → RL ρ (evL E tm l) (l.map a.eval)
  | [], _ => .nil
  | x :: _, h => .cons (h x (List.mem_cons_self ..)) (evL_in fun y hy => h y (List.mem_cons_of_mem _ hy))
theorem evP_in {tm : T V} {a : Act} : ∀ {l : List (Nat × Operand)}, (∀ p ∈ l, RV ρ (ev E tm p.2) (a.eval p.2)) → RP ρ (evP E tm l) (l.map fun p => (p.1, a.eval p.2))
  | [], _ => trivial
  | p :: _, h => ⟨rfl, h p (List.mem_cons_self ..), evP_in fun y hy => h y (List.mem_cons_of_mem _ hy)⟩

theorem partV_ok (hE : EOk P E) {t : TypeId} {x v : V} {a : Value} {f : Nat} (hx : RV ρ x a) (h : partV E t x f = some v) (w : World) : ∃ c, (Instr.field t a f).run P w = .ok c w ∧ RV ρ v c := by
  unfold partV at h
  split at h
  · rename_i p cs hp
    obtain ⟨ti, hti, h⟩ := bindO_some h
    obtain ⟨fs, fd, h1, h2, rfl⟩ := hE.fld _ _ _ hp
    cases hx with | agg hl =>
    rw [dropN_eq] at h
    obtain ⟨c, r1, r2⟩ := part_ok (P := P) (hE.ty _ _ hti) w hl h
    refine ⟨c, ?_, r2⟩
    simp [Instr.field, run_underlying h1, h2, asAgg, r1]
  · cases h
theorem opx_ok (hE : EOk P E) (hcall : ∀ f vs hp nx r, call f vs hp nx = some r → f < markId → ∃ fi, E.fn f = some fi) (hI : Inv E w0 M0 ρ st.hp st.nx w) {a : Act} (o : Oper)
    (hev : ∀ x ∈ o.op.operands, RV ρ (ev E st.tm x) (a.eval x)) (h : opx E call st o.op = some r) : OpOk P E call w0 M0 ρ st r w (execOp a.eval o) := by
  have hevL : ∀ as : Array Operand, (∀ x ∈ as, RV ρ (ev E st.tm x) (a.eval x)) → RL ρ (evL E st.tm as.toList) (as.map a.eval).toList := fun as h => by rw [Array.toList_map]; exact evL_in fun x hx => h x (by simpa using hx)
  have hevP : ∀ ps : Array (Nat × Operand), (∀ p ∈ ps, RV ρ (ev E st.tm p.2) (a.eval p.2)) → RP ρ (evP E st.tm ps.toList) (ps.map fun (i, x) => (i, a.eval x)).toList := fun ps h => by rw [Array.toList_map]; exact evP_in fun x hx => h x (by simpa using hx)
  have hevO : ∀ x : Option Operand, (∀ y, x = some y → RV ρ (ev E st.tm y) (a.eval y)) → RO ρ (evO E st.tm x) (x.map a.eval) := fun x h => by
    cases x with
    | none => exact .none
    | some y => exact .some (h y rfl)
  unfold opx at h
  unfold execOp
  split at h <;> rename_i heq <;> simp only [heq] at hev ⊢
  · cases h; exact .val (.value _) _ w rfl (.inl rfl) (Stp.same hI (hev _ (by simp [Op.operands])) none) rfl
  · cases h; exact .val (.value _) _ w rfl (.inl rfl) (Stp.same hI (hev _ (by simp [Op.operands])) none) rfl
  · obtain ⟨v, hv, rfl⟩ := pureR_some h
    obtain ⟨u, h1, h2⟩ := pick_ok (P := P) (w := w) (hev _ (by simp [Op.operands])) (hev _ (by simp [Op.operands])) (hev _ (by simp [Op.operands])) hv
    exact .val (.value u) u w h1 (.inl rfl) (Stp.same hI h2 none) rfl
  · exact OpOk.ofPure hI h fun v hv => loadV_ok hE hI.hr (hev _ (by simp [Op.operands])) hv
  · obtain ⟨cs, hc, h⟩ := bindO_some h
    exact OpOk.ofUnit h fun hp hv => storeV_ok hE hI (hev _ (by simp [Op.operands])) (hev _ (by simp [Op.operands])) hc hv
  · obtain ⟨v, hv, rfl⟩ := pureR_some h
    rename_i x
    have hx := hev x (by simp [Op.operands])
    generalize a.eval x = c at hx
    unfold nilCheckV at hv
    split at hv
    · rename_i hvx
      cases hv
      rw [hvx] at hx
      cases hx with | @ptr _ _ g m hb =>
      exact .val _ _ w rfl (.inl rfl) (Stp.same hI (.ptr hb) none) rfl
    · rename_i hvx
      cases hv
      rw [hvx] at hx
      cases hx with | @func _ _ _ f1 f2 g1 g2 =>
      exact .val _ _ w rfl (.inl rfl) (Stp.same hI (.func g1 g2) none) rfl
    · rename_i hvx
      cases hv
      rw [hvx] at hx
      cases hx with | @yield b g n hg =>
      exact .val _ _ w rfl (.inl rfl) (Stp.same hI (.yield hg) none) rfl
    · cases hv
  · exact OpOk.ofPure hI h fun v hv => binV_ok hE (hev _ (by simp [Op.operands])) (hev _ (by simp [Op.operands])) hv _ _ w
  · exact OpOk.ofPure hI h fun v hv => unV_ok (hev _ (by simp [Op.operands])) hv w
  · obtain ⟨ti, hti, h⟩ := bindO_some h
    obtain ⟨d, hd, _⟩ := (hE.ty _ _ hti).under
    exact OpOk.ofPure hI h fun v hv => convV_ok hE (hev _ (by simp [Op.operands])) hv w hd
  · cases h
    exact OpOk.ofVal ⟨_, w, rfl, Stp.same hI (.func (hevL _ fun x hx => hev x (by simp [Op.operands, hx])) (hevL _ fun x hx => hev x (by simp [Op.operands, hx]))) none, rfl⟩
  · exact OpOk.ofPure hI h fun v hv => fieldV_ok hE (hev _ (by simp [Op.operands])) hv w
  · exact OpOk.ofPure hI h fun v hv => indexAddrV_ok hE (hev _ (by simp [Op.operands])) (hev _ (by simp [Op.operands])) hv w
  · exact OpOk.ofPure hI h fun v hv => indexV_ok hE (hev _ (by simp [Op.operands])) (hev _ (by simp [Op.operands])) hv w
  · exact OpOk.ofPure hI h fun v hv => sliceV_ok hE (hev _ (by simp [Op.operands])) (hevO _ fun y hy => hev y (by simp [Op.operands, hy])) (hevO _ fun y hy => hev y (by simp [Op.operands, hy])) (hevO _ fun y hy => hev y (by simp [Op.operands, hy])) hv w
  · exact OpOk.ofPure hI h fun v hv => extractV_ok (hev _ (by simp [Op.operands])) hv w
  · unfold xAlloc at h
    split at h
    · rename_i hti
      obtain ⟨z, hz, hz1, hz2, hz3⟩ := (hE.ty _ _ hti).zero
      exact OpOk.ofVal ⟨_, _, run_alloc hz w, newPtr_ok hI _ (hz1 ρ) h, by rw [newBlk_some h]⟩
    · cases h
  · obtain ⟨cs, hc, h⟩ := bindO_some h
    exact OpOk.ofVal ⟨_, _, run_box _ _ w, newPtr_ok hI _ ((hev _ (by simp [Op.operands])).cells hc) h, by rw [newBlk_some h]⟩
  · exact OpOk.ofPure hI h fun v hv => buildV_ok hE (hevP _ fun p hp => hev p.2 (by simp only [Op.operands, List.mem_toArray, List.mem_map]; exact ⟨p, by simpa using hp, rfl⟩)) hv w
  · exact OpOk.ofVal (NewR.ok hI <| xBuildSlice_new hE (hevP _ fun p hp => hev p.2 (by simp only [Op.operands, List.mem_toArray, List.mem_map]; exact ⟨p, by simpa using hp, rfl⟩)) h)
  · exact OpOk.ofVal (NewR.ok hI <| makeSliceR_new hE (hev _ (by simp [Op.operands])) (hev _ (by simp [Op.operands])) h)
  · exact OpOk.ofVal (makeMap_ok hI _ h)
  · exact OpOk.ofPure hI h fun v hv => lookupV_ok hE hI.hr (hev _ (by simp [Op.operands])) (hev _ (by simp [Op.operands])) hv
  · exact OpOk.ofUnit h fun hp hv => mapUpd_ok hE hI (hev _ (by simp [Op.operands])) (hev _ (by simp [Op.operands])) (hev _ (by simp [Op.operands])) hv
  · exact OpOk.ofUnit h fun hp hv => mapUpd_ok hE hI (hev _ (by simp [Op.operands])) (hev _ (by simp [Op.operands])) (hev _ (by simp [Op.operands])) hv
  · exact OpOk.ofVal (rangeMapV_ok hE hI (hev _ (by simp [Op.operands])) h)
  · exact OpOk.ofVal (nextV_ok hI (hev _ (by simp [Op.operands])) h)
  · exact OpOk.ofPure hI h fun v hv => entryV_ok hI.hr (hev _ (by simp [Op.operands])) hv
  · exact OpOk.ofPure hI h fun v hv => partV_ok hE (hev _ (by simp [Op.operands])) hv w
  · rename_i c
    unfold xCall at h
    split at h
    · rename_i b hb
      exact (callB_ok hE hI (hevL _ fun x hx => hev x (by simp [Op.operands, Call.operands, hx])) h (ty := o.type) (cs := c.args.map fun | .const _ => true | _ => false)).congr (by simp [resolve, hb, invoke]; rfl)
    · rename_i f hf
      exact (call_ok hE hcall (hev f (by simp [Op.operands, Call.operands, hf])) (hevL c.args fun x hx => hev x (by simp [Op.operands, Call.operands, hx])) h _ rfl).congr (by simp [resolve, hf])
    · cases h
  · rename_i c
    unfold xDefer at h
    split at h
    · rename_i f hf
      exact (defer_ok (hev f (by simp [Op.operands, Call.operands, hf])) (hevL c.args fun x hx => hev x (by simp [Op.operands, Call.operands, hx])) h _ rfl).congr (by simp [resolve, hf])
    · cases h
  · cases h

theorem opy_ok (hE : EOk P E) (hcall : ∀ f vs hp nx r, call f vs hp nx = some r → f < markId → ∃ fi, E.fn f = some fi) (hI : Inv E w0 M0 ρ st.hp st.nx w) {a : Act} (o : Oper)
    (hev : ∀ x ∈ o.op.operands, RV ρ (ev E st.tm x) (a.eval x)) (h : opy E call st o.op = some r) : OpOk P E call w0 M0 ρ st r w (execOp a.eval o) := by
  unfold opy at h
  split at h
  · rename_i r' hr
    cases h
    exact opx_ok hE hcall hI o hev hr
  · split at h
    · rename_i heq
      simp only [heq] at hev
      unfold execOp
      simp only [heq]
      exact OpOk.ofPure hI h fun v hv => strV_ok hE hI.hr (hev _ (by simp [Op.operands])) hv
    · cases h
end
end Go.Rf
