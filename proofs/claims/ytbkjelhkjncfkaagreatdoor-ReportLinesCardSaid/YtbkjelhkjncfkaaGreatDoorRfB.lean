/-
  The memory of the evaluator against the model's world ('HR', 'Inv'), and what keeps it: a new block, a store. No statement of the program is claimed here.
-/
import Derived.Test.YtbkjelhkjncfkaaGreatDoorRfA
import Derived.Test.YtbkjelhkjncfkaaGreatDoorRfP
namespace Go.Rf

def RM (ρ : Rho) (es : List (V × V)) (l : List MapEntry) : Prop := RL ρ (es.map (·.1)) (l.map (·.key)) ∧ RL ρ (es.map (·.2)) (l.map (·.val))
/-- How a loop's pending jump reads in the model. -/
def pendC : Option Out → Option Code
  | none => none
  | some .norm => none
  | some .ret => some .ret
  | some (.exit id) => some (.exit id)
structure LoopOk (ρ : Rho) (r : LoopR) (lr : Loop) : Prop where
  state : lr.state = r.state
  pend : lr.pending = pendC r.pending
  params : lr.params.toList = r.params
  assign : lr.assign = r.assign
  body : lr.body = r.body
  tm : ∀ i, RV ρ (tget r.tm i) (lr.tmps.getD i undef)
  sz : r.nt ≤ lr.tmps.size
  plan : plansOk r.pl r.body = true
  plain : plainC r.body = true
  plan0 : plansOk r.pl r.assign = true
  plain0 : plainC r.assign = true
theorem LoopOk.ext {ρ ρ' : Rho} (he : Ext ρ ρ') {r : LoopR} {lr : Loop} (h : LoopOk ρ r lr) : LoopOk ρ' r lr :=
  ⟨h.state, h.pend, h.params, h.assign, h.body, fun i => (h.tm i).ext he, h.sz, h.plan, h.plain, h.plan0, h.plain0⟩
def BR (ρ : Rho) (w : World) (g : Nat) (n : Nat × Nat) : Blk → Prop
  | .cells cs => ∃ arr el, w.heap[g]? = some (.cells arr el (0, 0)) ∧ arr.size = n.2 ∧ cs.length ≤ n.2 ∧ RL ρ cs (arr.toList.take cs.length) ∧ n.1 = 0
  | .ro cs => ∃ arr el fr, w.heap[g]? = some (.cells arr el fr) ∧ arr.size = n.2 ∧ n.1 + cs.length ≤ n.2 ∧ RL ρ cs ((arr.toList.drop n.1).take cs.length)
  | .map es => ∃ arr, w.heap[g]? = some (.map arr arr.size) ∧ RM ρ es arr.toList ∧ ∀ (i : Nat) (e : MapEntry), arr[i]? = some e → e.born = i
  | .loop r => ∃ lr, w.heap[g]? = some (.loop lr) ∧ LoopOk ρ r lr
  | .iter none _ _ => n.1 = 0 ∧ ∃ s se l, w.heap[g]? = some (.mapIter none s se l)
  | .iter (some b) k sn => n.1 = 0 ∧ ∃ g' nn, ρ b = some (g', nn) ∧ w.heap[g]? = some (.mapIter (some g') k (bif sn then #[0] else #[]) k)
  | .mark o => w.heap[g]? = some (.deferred (bif o then some [] else none))
theorem RM.ext {ρ ρ' : Rho} (he : Ext ρ ρ') {es : List (V × V)} {l : List MapEntry} (h : RM ρ es l) : RM ρ' es l := ⟨h.1.ext he, h.2.ext he⟩
theorem BR.ext {ρ ρ' : Rho} (he : Ext ρ ρ') {w w' : World} {g : Nat} {n : Nat × Nat} (hw : w'.heap[g]? = w.heap[g]?) : ∀ {x : Blk}, BR ρ w g n x → BR ρ' w' g n x
  | .cells _, ⟨arr, el, h1, h2, h3, h4, h5⟩ => ⟨arr, el, hw.trans h1, h2, h3, h4.ext he, h5⟩
  | .ro _, ⟨arr, el, fr, h1, h2, h3, h4⟩ => ⟨arr, el, fr, hw.trans h1, h2, h3, h4.ext he⟩
  | .map _, ⟨arr, h1, h2, h3⟩ => ⟨arr, hw.trans h1, h2.ext he, h3⟩
  | .iter none _ _, ⟨h0, s, se, l, h⟩ => ⟨h0, s, se, l, hw.trans h⟩
  | .iter (some _) _ _, ⟨h0, g', nn, h1, h2⟩ => ⟨h0, g', nn, he _ _ h1, hw.trans h2⟩
  | .loop _, ⟨lr, h1, h2⟩ => ⟨lr, hw.trans h1, h2.ext he⟩
  | .mark _, h => Eq.trans hw h

/-- A block that may be written. -/
def Blk.mut : Blk → Prop
  | .ro _ => False
  | _ => True

structure HR (ρ : Rho) (hp : Hp) (nx : Nat) (w : World) : Prop where
  dom : ∀ b, nx ≤ b → ρ b = none
  free : ∀ b, nx ≤ b → hp.get b = none
  bnd : ∀ b g n, ρ b = some (g, n) → g < w.heap.size
  inj : ∀ b b' x x' g n n', hp.get b = some x → hp.get b' = some x' → x.mut → ρ b = some (g, n) → ρ b' = some (g, n') → b = b'
  blk : ∀ b x g n, hp.get b = some x → ρ b = some (g, n) → BR ρ w g n x

/-- The model's blocks that the evaluator may write. -/
def Wr (ρ : Rho) (hp : Hp) (g : Nat) : Prop := ∃ b x n, hp.get b = some x ∧ x.mut ∧ ρ b = some (g, n)

/-- From one world to the next: nothing is lost, and of what was there only 'M' may have turned. -/
structure WF (M : Nat → Prop) (w w' : World) : Prop where
  os : w'.os = w.os
  tape : w'.tape = w.tape
  output : w'.output = w.output
  size : w.heap.size ≤ w'.heap.size
  block : ∀ k, k < w.heap.size → ¬ M k → w'.heap[k]? = w.heap[k]?
theorem WF.refl (M : Nat → Prop) (w : World) : WF M w w := ⟨rfl, rfl, rfl, Nat.le_refl _, fun _ _ _ => rfl⟩
theorem WF.trans {M : Nat → Prop} {a b c : World} (h : WF M a b) (k : WF M b c) : WF M a c :=
  ⟨k.os.trans h.os, k.tape.trans h.tape, k.output.trans h.output, Nat.le_trans h.size k.size, fun i hi hm => (k.block i (Nat.lt_of_lt_of_le hi h.size) hm).trans (h.block i hi hm)⟩
/-- The second step may write more, as long as that was not there at first. -/
theorem WF.then {M N : Nat → Prop} {a b c : World} (h : WF M a b) (k : WF N b c) (hn : ∀ g, N g → M g ∨ a.heap.size ≤ g) : WF M a c :=
  ⟨k.os.trans h.os, k.tape.trans h.tape, k.output.trans h.output, Nat.le_trans h.size k.size, fun i hi hm =>
    (k.block i (Nat.lt_of_lt_of_le hi h.size) fun hN => (hn i hN).elim hm fun hle => by omega).trans (h.block i hi hm)⟩

structure Inv (E : Env) (w0 : World) (M0 : Nat → Prop) (ρ : Rho) (hp : Hp) (nx : Nat) (w : World) : Prop where
  hr : HR ρ hp nx w
  wf : WF M0 w0 w
  wr : ∀ g, Wr ρ hp g → M0 g ∨ w0.heap.size ≤ g
  gl : ∀ g b, E.glob g = some b → ∃ n, ρ b = some (g, (0, n))

/-- What a step leaves: the memory, and its value. -/
def Stp (E : Env) (w0 : World) (M0 : Nat → Prop) (ρ : Rho) (nx : Nat) (r : R) (c : Value) (w' : World) : Prop :=
  ∃ ρ', Inv E w0 M0 ρ' r.hp r.nx w' ∧ RV ρ' r.v c ∧ nx ≤ r.nx ∧ ∀ b, b < nx → ρ' b = ρ b

theorem HR.ext_of {ρ ρ' : Rho} {hp : Hp} {nx : Nat} {w : World} (h : HR ρ hp nx w) (k : ∀ b, b < nx → ρ' b = ρ b) : Ext ρ ρ' := fun b x hx => by
  have hb : b < nx := by
    rcases Nat.lt_or_ge b nx with hb | hb
    · exact hb
    · rw [h.dom b hb] at hx; cases hx
  rw [k b hb]; exact hx

/-- Nothing but a value. -/
theorem Stp.same {E : Env} {w0 w : World} {M0 : Nat → Prop} {ρ : Rho} {hp : Hp} {nx : Nat} (h : Inv E w0 M0 ρ hp nx w) {v : V} {c : Value} (hv : RV ρ v c) (d : Option (FuncId × List V)) :
    Stp E w0 M0 ρ nx ⟨v, hp, nx, d⟩ c w := ⟨ρ, h, hv, Nat.le_refl _, fun _ _ => rfl⟩

/-! ### A new block -/
def Rho.put (ρ : Rho) (b : Nat) (x : Nat × (Nat × Nat)) : Rho := fun i => if i = b then some x else ρ i
theorem Rho.put_same (ρ : Rho) (b : Nat) (x : Nat × (Nat × Nat)) : ρ.put b x b = some x := if_pos rfl
theorem Rho.put_ne (ρ : Rho) (b : Nat) (x : Nat × (Nat × Nat)) (i : Nat) (h : i ≠ b) : ρ.put b x i = ρ i := if_neg h
theorem push_old {w w' : World} {o : Obj} (hw : w'.heap = w.heap.push o) (k : Nat) (h : k < w.heap.size) : w'.heap[k]? = w.heap[k]? := by
  rw [hw, Array.getElem?_push, if_neg (by omega)]
theorem push_new {w w' : World} {o : Obj} (hw : w'.heap = w.heap.push o) : w'.heap[w.heap.size]? = some o := by
  rw [hw, Array.getElem?_push, if_pos rfl]

/-- A block of the model's own size 'n', the first cells of which are 'cs'. -/
theorem Inv.new {E : Env} {w0 w w' : World} {M0 : Nat → Prop} {ρ : Rho} {hp : Hp} {nx : Nat} (h : Inv E w0 M0 ρ hp nx w) (x : Blk) (o : Obj) (n : Nat × Nat)
    (hw : w'.heap = w.heap.push o) (h1 : w'.os = w.os) (h2 : w'.tape = w.tape) (h3 : w'.output = w.output)
    (hx : ∀ w'' : World, w''.heap[w.heap.size]? = some o → BR ρ w'' w.heap.size n x) :
    Inv E w0 M0 (ρ.put nx (w.heap.size, n)) (hp.set nx (some x)) (nx + 1) w' ∧ ∀ b, b < nx → ρ.put nx (w.heap.size, n) b = ρ b := by
  have hsz : w'.heap.size = w.heap.size + 1 := by rw [hw, Array.size_push]
  have hlow : ∀ b, b < nx → ρ.put nx (w.heap.size, n) b = ρ b := fun b hb => Rho.put_ne _ _ _ _ (by omega)
  have hext : Ext ρ (ρ.put nx (w.heap.size, n)) := h.hr.ext_of hlow
  refine ⟨⟨⟨fun b hb => ?_, fun b hb => ?_, fun b g m hb => ?_, fun b b' y y' g m m' hb hb' hz hg hg' => ?_, fun b y g m hb hg => ?_⟩, ?_, fun g hg => ?_, fun g b hb => ?_⟩, hlow⟩
  · rw [Rho.put_ne _ _ _ _ (by omega)]; exact h.hr.dom b (by omega)
  · rw [T.get_ne _ _ _ _ (by omega)]; exact h.hr.free b (by omega)
  · rw [hsz]
    by_cases e : b = nx
    · subst e; rw [Rho.put_same] at hb; cases hb; omega
    · rw [Rho.put_ne _ _ _ _ e] at hb; have := h.hr.bnd b g m hb; omega
  · by_cases e : b = nx
    · by_cases e' : b' = nx
      · rw [e, e']
      · subst e
        rw [Rho.put_same] at hg; cases hg
        rw [Rho.put_ne _ _ _ _ e'] at hg'
        have := h.hr.bnd b' _ _ hg'
        omega
    · by_cases e' : b' = nx
      · subst e'
        rw [Rho.put_same] at hg'; cases hg'
        rw [Rho.put_ne _ _ _ _ e] at hg
        have := h.hr.bnd b _ _ hg
        omega
      · rw [Rho.put_ne _ _ _ _ e] at hg
        rw [Rho.put_ne _ _ _ _ e'] at hg'
        rw [T.get_ne _ _ _ _ e] at hb
        rw [T.get_ne _ _ _ _ e'] at hb'
        exact h.hr.inj b b' y y' g m m' hb hb' hz hg hg'
  · by_cases e : b = nx
    · subst e
      rw [Rho.put_same] at hg; cases hg
      rw [T.get_same] at hb; cases hb
      exact (hx w' (push_new hw)).ext hext rfl
    · rw [Rho.put_ne _ _ _ _ e] at hg
      rw [T.get_ne _ _ _ _ e] at hb
      exact (h.hr.blk b y g m hb hg).ext hext (push_old hw g (h.hr.bnd b g m hg))
  · refine ⟨h1.trans h.wf.os, h2.trans h.wf.tape, h3.trans h.wf.output, by rw [hsz]; have := h.wf.size; omega, fun k hk hm => ?_⟩
    rw [push_old hw k (Nat.lt_of_lt_of_le hk h.wf.size)]
    exact h.wf.block k hk hm
  · obtain ⟨b, y, m, hb, hy, hg⟩ := hg
    by_cases e : b = nx
    · subst e
      rw [Rho.put_same] at hg; cases hg
      exact .inr h.wf.size
    · rw [Rho.put_ne _ _ _ _ e] at hg
      rw [T.get_ne _ _ _ _ e] at hb
      exact h.wr g ⟨b, y, m, hb, hy, hg⟩
  · obtain ⟨m, hm⟩ := h.gl g b hb
    exact ⟨m, hext _ _ hm⟩

/-! ### A store -/
structure Chg (g : Nat) (w w' : World) : Prop where
  os : w'.os = w.os
  tape : w'.tape = w.tape
  output : w'.output = w.output
  size : w'.heap.size = w.heap.size
  other : ∀ k, k ≠ g → w'.heap[k]? = w.heap[k]?
theorem Chg.refl (g : Nat) (w : World) : Chg g w w := ⟨rfl, rfl, rfl, rfl, fun _ _ => rfl⟩

theorem Inv.put {E : Env} {w0 w w' : World} {M0 : Nat → Prop} {ρ : Rho} {hp : Hp} {nx : Nat} (h : Inv E w0 M0 ρ hp nx w) {b : Nat} {x y : Blk} {g : Nat} {n : Nat × Nat}
    (hb : hp.get b = some x) (hm : x.mut) (hg : ρ b = some (g, n)) (hc : Chg g w w') (hy : BR ρ w' g n y) :
    Inv E w0 M0 ρ (hp.set b (some y)) nx w' := by
  have hbn : b < nx := by
    rcases Nat.lt_or_ge b nx with h' | h'
    · exact h'
    · rw [h.hr.free b h'] at hb; cases hb
  have hget : ∀ i z, (hp.set b (some y)).get i = some z → ∃ z', hp.get i = some z' ∧ (z.mut → z'.mut) := fun i z hz => by
    by_cases e : i = b
    · exact ⟨x, e ▸ hb, fun _ => hm⟩
    · rw [T.get_ne _ _ _ _ e] at hz; exact ⟨z, hz, id⟩
  refine ⟨⟨h.hr.dom, fun i hi => ?_, fun i k m hi => by rw [hc.size]; exact h.hr.bnd i k m hi, fun i j z z' k m m' hi hj hz hk hk' => ?_, fun i z k m hi hk => ?_⟩, ?_, fun k hk => ?_, h.gl⟩
  · rw [T.get_ne _ _ _ _ (by omega)]; exact h.hr.free i hi
  · obtain ⟨u, hu, hum⟩ := hget i z hi
    obtain ⟨u', hu', _⟩ := hget j z' hj
    exact h.hr.inj i j u u' k m m' hu hu' (hum hz) hk hk'
  · by_cases e : i = b
    · subst e
      rw [T.get_same] at hi; cases hi
      rw [hg] at hk; cases hk
      exact hy
    · rw [T.get_ne _ _ _ _ e] at hi
      have hne : k ≠ g := fun ek => e (h.hr.inj b i x z g n m hb hi hm hg (ek ▸ hk)).symm
      exact (h.hr.blk i z k m hi hk).ext (Ext.refl ρ) (hc.other k hne)
  · refine ⟨hc.os.trans h.wf.os, hc.tape.trans h.wf.tape, hc.output.trans h.wf.output, by rw [hc.size]; exact h.wf.size, fun k hk hM => ?_⟩
    have hne : k ≠ g := fun e => by
      rcases h.wr g ⟨b, x, n, hb, hm, hg⟩ with hh | hh
      · exact hM (e ▸ hh)
      · omega
    rw [hc.other k hne]
    exact h.wf.block k hk hM
  · obtain ⟨i, z, m, hi, hz, hk⟩ := hk
    by_cases e : i = b
    · subst e
      exact h.wr k ⟨i, x, m, hb, hm, hk⟩
    · rw [T.get_ne _ _ _ _ e] at hi
      exact h.wr k ⟨i, z, m, hi, hz, hk⟩

/-- A block that is not looked at any more. -/
theorem Inv.drop {E : Env} {w0 w : World} {M0 : Nat → Prop} {ρ : Rho} {hp : Hp} {nx : Nat} (h : Inv E w0 M0 ρ hp nx w) (b : Nat) : Inv E w0 M0 ρ (hp.set b none) nx w := by
  have hget : ∀ i z, (hp.set b none).get i = some z → i ≠ b ∧ hp.get i = some z := fun i z hz => by
    by_cases e : i = b
    · subst e; rw [T.get_same] at hz; cases hz
    · rw [T.get_ne _ _ _ _ e] at hz; exact ⟨e, hz⟩
  refine ⟨⟨h.hr.dom, fun i hi => ?_, h.hr.bnd, fun i j z z' k m m' hi hj hz => h.hr.inj i j z z' k m m' (hget _ _ hi).2 (hget _ _ hj).2 hz, fun i z k m hi => h.hr.blk i z k m (hget _ _ hi).2⟩, h.wf, fun k hk => ?_, h.gl⟩
  · by_cases e : i = b
    · subst e; exact T.get_same _ _ _
    · rw [T.get_ne _ _ _ _ e]; exact h.hr.free i hi
  · obtain ⟨i, z, m, hi, hz, hk⟩ := hk
    exact h.wr k ⟨i, z, m, (hget _ _ hi).2, hz, hk⟩

/-- The world has drawn: nothing else. -/
theorem Inv.same {E : Env} {w0 w w' : World} {M0 : Nat → Prop} {ρ : Rho} {hp : Hp} {nx : Nat} (h : Inv E w0 M0 ρ hp nx w) (hh : w'.heap = w.heap) (h1 : w'.os = w.os) (h2 : w'.tape = w.tape) (h3 : w'.output = w.output) :
    Inv E w0 M0 ρ hp nx w' :=
  ⟨⟨h.hr.dom, h.hr.free, fun b g n hb => by rw [hh]; exact h.hr.bnd b g n hb, h.hr.inj, fun b x g n hb hg => (h.hr.blk b x g n hb hg).ext (Ext.refl ρ) (by rw [hh])⟩,
    ⟨h1.trans h.wf.os, h2.trans h.wf.tape, h3.trans h.wf.output, by rw [hh]; exact h.wf.size, fun k hk hm => by rw [hh]; exact h.wf.block k hk hm⟩, h.wr, h.gl⟩

/-! ### Reading -/
theorem add_at (g o i : Nat) : (⟨g, o, none⟩ : Addr).add i = ⟨g, o + i, none⟩ := Addr.add_mid g o i
theorem Blk.rd_some {x : Blk} {cs : List V} (h : x.rd = some cs) {ρ : Rho} {w : World} {g : Nat} {n : Nat × Nat} (hb : BR ρ w g n x) :
    ∃ arr el fr, w.heap[g]? = some (.cells arr el fr) ∧ RL ρ cs ((arr.toList.drop n.1).take cs.length) := by
  cases x with
  | cells l => cases h; obtain ⟨arr, el, h1, h2, h3, h4, h5⟩ := hb; exact ⟨arr, el, _, h1, by rw [h5]; exact h4⟩
  | ro l => cases h; obtain ⟨arr, el, fr, h1, h2, h3, h4⟩ := hb; exact ⟨arr, el, fr, h1, h4⟩
  | map es => cases h
  | loop r => cases h
  | mark o => cases h
  | iter m n sn => cases h
/-- What is read at an address. -/
theorem rdFrom_some {ρ : Rho} {hp : Hp} {nx : Nat} {w : World} (h : HR ρ hp nx w) {b o : Nat} {cs : List V} (hr : rdFrom hp b o = some cs) {g : Nat} {n : Nat × Nat} (hg : ρ b = some (g, n)) :
    ∃ ds : List Value, RL ρ cs ds ∧ ∀ j v, ds[j]? = some v → w.cell? ⟨g, o + n.1 + j, none⟩ = some v := by
  unfold rdFrom at hr
  cases hb : hp.get b with
  | none => rw [hb] at hr; cases hr
  | some x =>
    rw [hb] at hr
    cases hx : x.rd with
    | none => simp only [hx] at hr; cases hr
    | some l =>
      simp only [hx] at hr
      cases hr
      obtain ⟨arr, el, fr, h1, h4⟩ := Blk.rd_some hx (h.blk b x g n hb hg)
      refine ⟨((arr.toList.drop n.1).take l.length).drop o, by rw [dropN_eq]; exact h4.drop o, fun j v hv => ?_⟩
      have hv' : arr[o + n.1 + j]? = some v := by
        simp only [List.getElem?_drop, List.getElem?_take] at hv
        split at hv
        · rw [show o + n.1 + j = n.1 + (o + j) by omega]; simpa using hv
        · cases hv
      simp [World.cell?, h1, hv']

end Go.Rf
