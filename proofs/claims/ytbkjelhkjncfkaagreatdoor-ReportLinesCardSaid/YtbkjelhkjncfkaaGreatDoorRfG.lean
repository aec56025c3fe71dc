/-
  Slices that are made and grown, lengths, maps: the evaluator against the model. No statement of the program is claimed here.
-/
import Derived.Test.YtbkjelhkjncfkaaGreatDoorRfF
import Derived.Deep.AppendSrc
namespace Go.Rf
section
variable {P : Program} {E : Env}

theorem RV.sl_inv {ρ : Rho} {b o len cap : Nat} {ex : Bool} {v : Value} (h : RV ρ (.sl b o len cap ex) v) :
    ∃ g m c, v = .slice (some ⟨g, o + m.1, none⟩) len c ∧ ρ b = some (g, m) ∧ len ≤ c ∧ (ex = true → c = cap) ∧ (ex = false → o + c * cap ≤ m.2) := by
  cases h with
  | sl h hl he hf => exact ⟨_, _, _, rfl, h, hl, he, hf⟩
theorem range0 : Array.range 0 = #[] := rfl
theorem rep_length (n : Nat) (z : List V) : (rep n z).length = n * z.length := by
  induction n with
  | zero => simp [rep]
  | succ n ih => rw [rep, List.length_append, ih, Nat.succ_mul]; omega
/-- Zero cells, as the model lays them. -/
theorem rep_ok {ρ : Rho} {z : List V} {zc : Array Value} (h : RL ρ z zc.toList) (n : Nat) : RL ρ (rep n z) ((Array.range (n * zc.size)).map fun i => zc[i % zc.size]!).toList := by
  have hz : z.length = zc.size := by rw [h.length]; exact Array.length_toList
  have key : ∀ n, (List.range (n * zc.size)).map (fun i => zc[i % zc.size]!) = (List.replicate n zc.toList).flatten := by
    intro n
    induction n with
    | zero => simp
    | succ n ih =>
      rw [Nat.succ_mul, List.range_add, List.map_append, ih, List.replicate_succ', List.flatten_append, List.flatten_singleton]
      congr 1
      apply List.ext_getElem?
      intro i
      simp only [List.getElem?_map, List.map_map]
      by_cases hi : i < zc.size
      · rw [List.getElem?_range hi]
        simp [Nat.mod_eq_of_lt hi, hi]
      · rw [List.getElem?_eq_none (by simp; omega), List.getElem?_eq_none (by simp; omega)]
        rfl
  have hr : RL ρ (rep n z) (List.replicate n zc.toList).flatten := by
    clear key
    induction n with
    | zero => exact .nil
    | succ n ih => exact h.append ih
  simp only [Array.toList_map, Array.toList_range]
  rw [key n]
  exact hr

theorem xBuildSlice_new (hE : EOk P E) {w : World} {ρ : Rho} {st : St} {t : TypeId} {len : Nat} {ps : List (Nat × Operand)} {qs : Array (Nat × Value)} (hp : RP ρ (evP E st.tm ps) qs.toList)
    {r : R} (h : xBuildSlice E st t len ps = some r) : NewR P ρ w (Instr.buildSlice t len qs) st.hp st.nx r := by
  unfold xBuildSlice at h
  split at h
  · rename_i e _ _ _ _ hti
    obtain ⟨d, hd, hk⟩ := (hE.ty _ _ hti).under
    obtain rfl : d = .slice e := hk
    cases he : E.ty e with
    | none => simp only [he] at h; cases h
    | some te =>
      simp only [he] at h
      obtain ⟨q, h⟩ := bif_some h
      simp only [Nat.ble_eq] at q
      cases hfv : fillV (fun i => some (i * te.size, te.size)) (rep len te.zero) (evP E st.tm ps) with
      | none => rw [hfv] at h; cases h
      | some cs =>
        rw [hfv] at h
        simp only at h
        obtain ⟨z, hz, hz1, hz2, hz3⟩ := (hE.ty _ _ he).zero
        have hr := rep_ok (hz1 ρ) len
        rw [hz3] at hr
        obtain ⟨arr', h1, h2⟩ := fillV_ok (pl := fun i => some (i * te.size, te.size)) (fun _ _ h => h) _ qs.toList _ _ cs hp hr hfv
        refine ⟨cs, arr', e, fun id => .sl id 0 len len true, .slice (some ⟨w.heap.size, 0, none⟩) len len, newBlk_some h, ?_, h2, fun ρ' id hid => .sl hid (Nat.le_refl _) (fun _ => rfl) (fun e => by cases e)⟩
        have q' : ¬ 2 ^ 24 < len * te.size := by omega
        by_cases e0 : len * te.size = 0
        · have h1' : Instr.fill (fun i => some (i * te.size, te.size)) #[] qs.toList = some arr' := by rw [e0, range0] at h1; simpa using h1
          simp [Instr.buildSlice, run_underlying hd, (hE.ty _ _ he).size w, e0, range0, h1', newRow]
        · simp [Instr.buildSlice, run_underlying hd, (hE.ty _ _ he).size w, e0, q', hz, hz3, h1, newRow]
  · cases h

/-- make([]T, n). -/
theorem makeSliceR_new (hE : EOk P E) {w : World} {ρ : Rho} {st : St} {t : TypeId} {x y : V} {a b : Value} (hx : RV ρ x a) (hy : RV ρ y b)
    {r : R} (h : makeSliceR E st t (natOf x) (natOf y) = some r) : NewR P ρ w (Instr.makeSlice t a b) st.hp st.nx r := by
  unfold makeSliceR at h
  split at h
  · rename_i e _ _ _ _ hti
    obtain ⟨d, hd, hk⟩ := (hE.ty _ _ hti).under
    obtain rfl : d = .slice e := hk
    cases he : E.ty e with
    | none => simp only [he] at h; cases h
    | some te =>
      simp only [he] at h
      split at h
      · rename_i l c hl hc
        obtain ⟨q, h⟩ := bif_some h
        simp only [Bool.and_eq_true, Nat.ble_eq] at q
        obtain ⟨⟨q1, q2⟩, q3, q4⟩ := q
        obtain ⟨kl, rfl⟩ := natOf_some hx hl
        obtain ⟨kc, rfl⟩ := natOf_some hy hc
        obtain ⟨z, hz, hz1, hz2, hz3⟩ := (hE.ty _ _ he).zero
        obtain ⟨i, _, _, hi, _, _, hib, _⟩ := (hE.ty _ _ he).ex
        have hr := rep_ok (hz1 ρ) c
        rw [hz3] at hr
        refine ⟨_, _, e, fun id => .sl id 0 l c true, .slice (some ⟨w.heap.size, 0, none⟩) l c, newBlk_some h, ?_, hr, fun ρ' id hid => .sl hid q1 (fun _ => rfl) (fun e => by cases e)⟩
        have wl : IntKind.i64.wrap (l : Int) = l := by simp only [IntKind.wrap, IntKind.bits, IntKind.signed]; simp; omega
        have wc : IntKind.i64.wrap (c : Int) = c := by simp only [IntKind.wrap, IntKind.bits, IntKind.signed]; simp; omega
        have t1 : ¬ (281474976710656 < (te.bytes : Int) * (c : Int)) := by
          have : (te.bytes : Int) * (c : Int) = ((c * te.bytes : Nat) : Int) := by rw [Int.natCast_mul, Int.mul_comm]
          rw [this]
          omega
        have t2 : ¬ ((c : Int) < (l : Int)) := by omega
        have t3 : ¬ ((l : Int) < 0) := by omega
        have t4 : ¬ ((c : Int) < 0) := by omega
        by_cases e0 : c * te.size = 0
        · simp [Instr.makeSlice, run_underlying hd, (hE.ty _ _ he).size w, asInt, asIntOf, typeInfo, hi, hib, wl, wc, e0, t1, t2, t3, t4, range0, newRow]
        · simp [Instr.makeSlice, run_underlying hd, (hE.ty _ _ he).size w, asInt, asIntOf, typeInfo, hi, hib, wl, wc, e0, t1, t2, t3, t4, hz, hz3, newRow]
      · cases h
  · cases h

/-! ### append -/
theorem srcOf_ok {ρ : Rho} {hp : Hp} {nx : Nat} {w : World} (hr : HR ρ hp nx w) {size : Nat} {y : V} {b : Value} (hy : RV ρ y b) {n : Nat} {new : List V} (hns : ∀ s, y ≠ .str s) (h : srcOf hp size y = some (n, new)) :
    new.length = n * size ∧ ((b = .slice none 0 0 ∧ n = 0) ∨ ∃ a c ds, b = .slice (some a) n c ∧ RL ρ new ds ∧ ∀ j v, ds[j]? = some v → w.cell? (a.add j) = some v) := by
  unfold srcOf at h
  cases y with
  | nilSl =>
    cases h; cases hy
    exact ⟨by simp, .inl ⟨rfl, rfl⟩⟩
  | sl bb o len cap ex =>
    simp only at h
    obtain ⟨g, m, c, rfl, hb, hl, hex, hf⟩ := hy.sl_inv
    cases hrd : rdFrom hp bb o with
    | none => rw [hrd] at h; cases h
    | some cs =>
      rw [hrd] at h
      simp only at h
      cases ht : takeN (len * size) cs with
      | none => rw [ht] at h; cases h
      | some l =>
        rw [ht] at h; cases h
        obtain ⟨e1, e2⟩ := takeN_some ht
        obtain ⟨ds, h1, h2⟩ := rdFrom_some hr hrd hb
        refine ⟨e2, .inr ⟨_, _, ds.take (n * size), rfl, ?_, fun j v hv => ?_⟩⟩
        · have := h1.take (n * size)
          rwa [e1, ← e2, List.take_left, e2] at this
        · rw [add_at]
          refine h2 j v ?_
          rw [List.getElem?_take] at hv
          split at hv
          · exact hv
          · cases hv
  | str s => exact absurd rfl (hns s)
  | esl =>
    cases h; cases hy
    exact ⟨by simp, .inr ⟨_, _, [], rfl, .nil, fun j v hv => by simp at hv⟩⟩
  | _ => cases h
theorem bytesV_ok (ρ : Rho) : ∀ l : List UInt8, RL ρ (l.map fun b => V.int .u8 b.toNat) (l.map fun b => Value.int .u8 b.toNat)
  | [] => .nil
  | _ :: l => .cons (.int _ _) (bytesV_ok ρ l)
/-- What is appended, as the kit's laws have it. -/
theorem srcOf_src (hE : EOk P E) {ρ : Rho} {hp : Hp} {nx : Nat} {w : World} (hr : HR ρ hp nx w) {t u e : TypeId} (ht : P.underlying t = some (.slice e)) {size : Nat} {y : V} {b : Value} (hy : RV ρ y b) (hu : srcT E t u y = true) {n : Nat} {new : List V}
    (h : srcOf hp size y = some (n, new)) (hfl : allFlat new = true) : ∃ ds, RL ρ new ds ∧ Src P size u b n ds w := by
  have h0 := h
  cases y with
  | str s =>
    cases hy
    unfold srcOf at h
    obtain ⟨h1, h2⟩ := bif_some h
    obtain rfl := Nat.eq_of_beq_eq_true h1
    cases h2
    have hk : P.underlying u = some .string := by
      unfold srcT at hu
      simp only at hu
      split at hu
      · rename_i hti
        obtain ⟨d, hd, hk⟩ := (hE.ty _ _ hti).under
        obtain rfl : d = .string := hk
        exact hd
      · cases hu
    exact ⟨byteCells s, bytesV_ok ρ _, Src.ofString w hk s⟩
  | nilSl =>
    obtain rfl : t = u := Nat.eq_of_beq_eq_true hu
    cases h; cases hy
    exact ⟨[], .nil, Src.ofNil w ht 0⟩
  | sl bb o len cap ex =>
    obtain rfl : t = u := Nat.eq_of_beq_eq_true hu
    obtain ⟨hl, hyy⟩ := srcOf_ok hr hy (fun _ e => by cases e) h0
    rcases hyy with ⟨rfl, _⟩ | ⟨a, c, ds, rfl, hds, hcell⟩
    · cases hy
    · exact ⟨ds, hds, Src.ofSlice w ht a n c ds (by rw [← hds.length, hl]) hcell (hds.one hfl)⟩
  | esl =>
    obtain rfl : t = u := Nat.eq_of_beq_eq_true hu
    obtain ⟨hl, hyy⟩ := srcOf_ok hr hy (fun _ e => by cases e) h0
    rcases hyy with ⟨rfl, _⟩ | ⟨a, c, ds, rfl, hds, hcell⟩
    · cases hy
    · exact ⟨ds, hds, Src.ofSlice w ht a n c ds (by rw [← hds.length, hl]) hcell (hds.one hfl)⟩
  | _ => cases h
theorem run_append_zero {t tx e : TypeId} {i : TypeInfo} (ht : P.underlying t = some (.slice e)) (hi : P.info? e = some i) (ty : TypeId) (base : Option Addr) (n c : Nat) (hn : n ≤ c) {y : Value} {ds : List Value} {w : World} (hs : Src P i.size tx y 0 ds w) :
    (Builtin.append_ #[t, tx] ty #[.slice base n c, y]).run P w = .ok (.slice base n c) w := by
  have hds : ds = [] := List.eq_nil_of_length_eq_zero (by rw [hs.newsLen]; simp)
  have hc := hs.cells
  rw [hds] at hc
  rcases hs.kind with ⟨e', hk⟩ | hk <;> cases base <;> simp [Builtin.append_, run_underlying ht, run_underlying hk, sizeOf, typeInfo, hi, hs.len, hn, hc, storeCells]
theorem run_append_in {t tx e : TypeId} {i : TypeInfo} (ht : P.underlying t = some (.slice e)) (hi : P.info? e = some i) (ty : TypeId) {w : World} {g o sLen sCap : Nat} {cur : Array Value} {el : TypeId} (hg : w.heap[g]? = some (.cells cur el (0, 0)))
    {b : Value} {m : Nat} {news : List Value} (hs : Src P i.size tx b m news w) (hroom : sLen + m ≤ sCap) (hfit : o + sLen * i.size + news.length ≤ cur.size) :
    ∃ w', (Builtin.append_ #[t, tx] ty #[.slice (some ⟨g, o, none⟩) sLen sCap, b]).run P w = .ok (.slice (some ⟨g, o, none⟩) (sLen + m) sCap) w' ∧ (storeCells ⟨g, o + sLen * i.size, none⟩ news).run P w = .ok () w' := by
  obtain ⟨w', h2, _⟩ := storeCells_ok (P := P) hg (o := o + sLen * i.size) news hfit hs.one
  refine ⟨w', ?_, h2⟩
  rcases hs.kind with ⟨e', hk⟩ | hk <;> simp [Builtin.append_, run_underlying ht, run_underlying hk, sizeOf, typeInfo, hi, hs.len, hroom, hs.cells, add_at, h2]

/-- A row that grows in place: its block is another one of the evaluator's from here on. -/
theorem Inv.move {w0 w w' : World} {M0 : Nat → Prop} {ρ : Rho} {hp : Hp} {nx : Nat} (h : Inv E w0 M0 ρ hp nx w) {b : Nat} {x : Blk} {cs : List V} {g : Nat} {n : Nat × Nat}
    (hb : hp.get b = some x) (hm : x.mut) (hg : ρ b = some (g, n)) (hc : Chg g w w') (hy : BR ρ w' g n (.cells cs)) :
    Inv E w0 M0 (ρ.put nx (g, n)) ((hp.set b none).set nx (some (.cells cs))) (nx + 1) w' ∧ ∀ i, i < nx → ρ.put nx (g, n) i = ρ i := by
  have hbn : b < nx := by
    rcases Nat.lt_or_ge b nx with h' | h'
    · exact h'
    · rw [h.hr.free b h'] at hb; cases hb
  have hlow : ∀ i, i < nx → ρ.put nx (g, n) i = ρ i := fun i hi => Rho.put_ne _ _ _ _ (by omega)
  have hext : Ext ρ (ρ.put nx (g, n)) := h.hr.ext_of hlow
  have hget : ∀ i z, i ≠ nx → ((hp.set b none).set nx (some (.cells cs))).get i = some z → i ≠ b ∧ hp.get i = some z := fun i z hi hz => by
    rw [T.get_ne _ _ _ _ hi] at hz
    by_cases e : i = b
    · subst e; rw [T.get_same] at hz; cases hz
    · rw [T.get_ne _ _ _ _ e] at hz; exact ⟨e, hz⟩
  have hne : ∀ i z k m, i ≠ b → hp.get i = some z → ρ i = some (k, m) → k ≠ g := fun i z k m hi hz hk e => hi (h.hr.inj b i x z g n m hb hz hm hg (e ▸ hk)).symm
  refine ⟨⟨⟨fun i hi => ?_, fun i hi => ?_, fun i k m hi => ?_, fun i j z z' k m m' hi hj hz hk hk' => ?_, fun i z k m hi hk => ?_⟩, ?_, fun k hk => ?_, fun k i hi => ?_⟩, hlow⟩
  · rw [Rho.put_ne _ _ _ _ (by omega)]; exact h.hr.dom i (by omega)
  · rw [T.get_ne _ _ _ _ (by omega), T.get_ne _ _ _ _ (by omega)]; exact h.hr.free i (by omega)
  · rw [hc.size]
    by_cases e : i = nx
    · subst e; rw [Rho.put_same] at hi; cases hi; exact h.hr.bnd b _ _ hg
    · rw [Rho.put_ne _ _ _ _ e] at hi; exact h.hr.bnd i k m hi
  · by_cases e : i = nx
    · by_cases e' : j = nx
      · rw [e, e']
      · subst e
        rw [Rho.put_same] at hk; cases hk
        rw [Rho.put_ne _ _ _ _ e'] at hk'
        obtain ⟨q1, q2⟩ := hget j z' e' hj
        exact absurd rfl (hne j z' _ _ q1 q2 hk')
    · by_cases e' : j = nx
      · subst e'
        rw [Rho.put_same] at hk'; cases hk'
        rw [Rho.put_ne _ _ _ _ e] at hk
        obtain ⟨q1, q2⟩ := hget i z e hi
        exact absurd rfl (hne i z _ _ q1 q2 hk)
      · rw [Rho.put_ne _ _ _ _ e] at hk
        rw [Rho.put_ne _ _ _ _ e'] at hk'
        exact h.hr.inj i j z z' k m m' (hget i z e hi).2 (hget j z' e' hj).2 hz hk hk'
  · by_cases e : i = nx
    · subst e
      rw [Rho.put_same] at hk; cases hk
      rw [T.get_same] at hi; cases hi
      exact hy.ext hext rfl
    · rw [Rho.put_ne _ _ _ _ e] at hk
      obtain ⟨q1, q2⟩ := hget i z e hi
      exact (h.hr.blk i z k m q2 hk).ext hext (hc.other k (hne i z k m q1 q2 hk))
  · refine ⟨hc.os.trans h.wf.os, hc.tape.trans h.wf.tape, hc.output.trans h.wf.output, by rw [hc.size]; exact h.wf.size, fun k hk hM => ?_⟩
    have hne : k ≠ g := fun e => by
      rcases h.wr g ⟨b, x, n, hb, hm, hg⟩ with hh | hh
      · exact hM (e ▸ hh)
      · omega
    rw [hc.other k hne]
    exact h.wf.block k hk hM
  · obtain ⟨i, z, m, hi, hz, hk⟩ := hk
    by_cases e : i = nx
    · subst e
      rw [Rho.put_same] at hk; cases hk
      exact h.wr _ ⟨b, x, n, hb, hm, hg⟩
    · rw [Rho.put_ne _ _ _ _ e] at hk
      exact h.wr k ⟨i, z, m, (hget i z e hi).2, hz, hk⟩
  · obtain ⟨m, hm'⟩ := h.gl k i hi
    exact ⟨m, hext _ _ hm'⟩

/-- The block that a grown row lies in. -/
theorem grow_ok {w0 w : World} {M0 : Nat → Prop} {ρ : Rho} {hp : Hp} {nx : Nat} (hI : Inv E w0 M0 ρ hp nx w) {t tx e : TypeId} {i : TypeInfo} {z : Value} (hd : P.underlying t = some (.slice e)) (hi : P.info? e = some i) (hiz : i.zero = some z)
    (hzs : z.cells.size = i.size) {ty : TypeId} {base : Option Addr} {b : Value} {l n cc : Nat} {old new : List V} {ods ds : List Value} (hods : RL ρ old ods) (hds : RL ρ new ds) (hol : ods.length = l * i.size) (hs : Src P i.size tx b n ds w)
    (hold : (Builtin.firstCells i.size l (.slice base l cc)).run P w.drew = .ok ods.toArray w.drew)
    (q1 : (l + n) * i.bytes ≤ 140737488355328) (q2 : l + n ≤ 140737488355328) (hlt : cc < l + n) :
    ∃ c' w', (Builtin.append_ #[t, tx] ty #[.slice base l cc, b]).run P w = .ok c' w' ∧
      Stp E w0 M0 ρ nx ⟨.sl nx 0 (l + n) i.size false, hp.set nx (some (.cells (old ++ new))), nx + 1, none⟩ c' w' := by
  have hdl := hs.newsLen
  have hrun := run_append_grow_src (P := P) w t tx ty e i z hd hi hiz base l cc ods hold b n ds hs hlt (by omega) (growslice_fits hlt (by omega))
  refine ⟨_, _, hrun, ?_⟩
  have hcap := grownCap_ge w (l + n) cc e
  have hall := hods.append hds
  have hsz : ((ods ++ ds).toArray ++ Builtin.zeroCells z.cells (grownCap w (l + n) cc e - (l + n))).size = grownCap w (l + n) cc e * i.size := by
    rw [Array.size_append, size_zeroCells, List.size_toArray, List.length_append, hdl, hol, hzs, ← Nat.add_mul, ← Nat.add_mul]
    congr 1
    omega
  obtain ⟨k1, k2⟩ := new_ok hI (cs := old ++ new) (cells := (ods ++ ds).toArray ++ Builtin.zeroCells z.cells (grownCap w (l + n) cc e - (l + n))) (el := e)
    (w' := w.drew.alloc (.cells ((ods ++ ds).toArray ++ Builtin.zeroCells z.cells (grownCap w (l + n) cc e - (l + n))) e))
    (by rw [Array.size_append, List.size_toArray, hall.length]; omega)
    (by rw [Array.toList_append, hall.length, List.take_left']; exact hall; simp) rfl rfl rfl rfl
  exact ⟨_, k1, .sl (Rho.put_same _ _ _) hcap (fun e => by cases e) (fun _ => by rw [hsz]; omega), Nat.le_succ _, k2⟩

/-- A row that the model may grow in place, of which nothing is known but that its cells are there. -/
theorem inPlace_ok {w0 w : World} {M0 : Nat → Prop} {ρ : Rho} {hp : Hp} {nx : Nat} (hI : Inv E w0 M0 ρ hp nx w) {t e : TypeId} {i : TypeInfo} (hd : P.underlying t = some (.slice e)) (hi : P.info? e = some i)
    {tx ty : TypeId} {b : Value} {l n cc g bb : Nat} {m : Nat × Nat} {cs0 old new : List V} {ods ds : List Value} (hods : RL ρ old ods) (hds : RL ρ new ds) (hol : ods.length = l * i.size) (hs : Src P i.size tx b n ds w)
    (hocell : ∀ j v, ods[j]? = some v → w.cell? (Addr.add ⟨g, 0, none⟩ j) = some v)
    (hbk : hp.get bb = some (.cells cs0)) (hb : ρ bb = some (g, m)) (hfit : cc * i.size ≤ m.2) (hge : l + n ≤ cc) :
    ∃ c' w', (Builtin.append_ #[t, tx] ty #[.slice (some ⟨g, 0, none⟩) l cc, b]).run P w = .ok c' w' ∧
      Stp E w0 M0 ρ nx ⟨.sl nx 0 (l + n) i.size false, (hp.set bb none).set nx (some (.cells (old ++ new))), nx + 1, none⟩ c' w' := by
  have hdl := hs.newsLen
  have hone := hs.one
  obtain ⟨sh, sz⟩ := m
  obtain ⟨arr, el, k1, k2, k3, k4, k5⟩ := hI.hr.blk bb _ g (sh, sz) hbk hb
  obtain rfl : sh = 0 := k5
  simp only at k2 k3 hfit
  have hmul : (l + n) * i.size ≤ cc * i.size := Nat.mul_le_mul_right _ hge
  rw [Nat.add_mul] at hmul
  obtain ⟨w2, r1, r2⟩ := run_append_in hd hi ty k1 hs (o := 0) (sLen := l) (sCap := cc) hge (by omega)
  obtain ⟨w3, s1, s2, s3⟩ := storeCells_ok (P := P) k1 (o := 0 + l * i.size) ds (by omega) hone
  rw [s1] at r2
  cases r2
  have hpre : arr.toList.take (l * i.size) = ods := by
    apply List.ext_getElem?
    intro j
    have hoc := hocell j
    simp only [add_at, Nat.zero_add] at hoc
    rw [List.getElem?_take]
    split
    · have : ∃ v, ods[j]? = some v := ⟨_, List.getElem?_eq_getElem (by omega)⟩
      obtain ⟨v, hv⟩ := this
      have := hoc v hv
      rw [hv]
      simpa [World.cell?, k1] using this
    · rw [List.getElem?_eq_none (by omega)]
  have hall := hods.append hds
  obtain ⟨m1, m2⟩ := hI.move hbk trivial hb s2 (cs := old ++ new) ⟨_, el, s3, by
      simp only [List.size_toArray, List.length_append, List.length_take, List.length_drop, Array.length_toList]; omega, by
      rw [List.length_append, hods.length, hds.length]; simp only; omega, by
      refine ⟨?_, rfl⟩
      rw [hall.length]
      simp only [Nat.zero_add, hpre]
      rw [List.take_left']
      · exact hall
      · rfl⟩
  exact ⟨_, _, r1, _, m1, .sl (Rho.put_same _ _ _) hge (fun e => by cases e) (fun _ => by omega), Nat.le_succ _, m2⟩

theorem appendSl_ok {w0 w : World} {M0 : Nat → Prop} {ρ : Rho} {st : St} (hI : Inv E w0 M0 ρ st.hp st.nx w) {t e : TypeId} {i : TypeInfo} {z : Value} (hd : P.underlying t = some (.slice e)) (hi : P.info? e = some i) (hiz : i.zero = some z)
    (hzs : z.cells.size = i.size) {tx ty : TypeId} {b : Value} {len n cc g bb o cap : Nat} {m : Nat × Nat} {ex : Bool} {new : List V} {ds : List Value} (hds : RL ρ new ds) (hs : Src P i.size tx b n ds w) (hx : RV ρ (.sl bb o len cap ex) (.slice (some ⟨g, o + m.1, none⟩) len cc)) (hb : ρ bb = some (g, m)) (hl : len ≤ cc) (hex : ex = true → cc = cap) (hf : ex = false → o + cc * cap ≤ m.2)
    {r : R} (h : appendSl st i.size i.bytes n new bb o len cap ex = some r) :
    ∃ c' w', (Builtin.append_ #[t, tx] ty #[.slice (some ⟨g, o + m.1, none⟩) len cc, b]).run P w = .ok c' w' ∧ Stp E w0 M0 ρ st.nx r c' w' ∧ r.df = none := by
  have hdl : ds.length = n * i.size := hs.newsLen
  unfold appendSl at h
  cases hc1 : (ex && Nat.ble (len + n) cap) with
  | true =>
    simp only [hc1, cond_true] at h
    simp only [Bool.and_eq_true, Nat.ble_eq] at hc1
    obtain ⟨hfl, h⟩ := bif_some h
    unfold hpRV at h
    cases hst : storeTo st.hp bb (o + len * i.size) new with
    | none => rw [hst] at h; cases h
    | some hp' =>
      rw [hst] at h; cases h
      obtain ⟨w', s1, s2⟩ := storeTo_ok (P := P) hI hst hb hds (hds.one hfl)
      have hcc := hex hc1.1
      obtain ⟨cur, el, hgc, hfit, hsh⟩ : ∃ cur el, w.heap[g]? = some (.cells cur el (0, 0)) ∧ o + len * i.size + ds.length ≤ cur.size ∧ m.1 = 0 := by
        unfold storeTo at hst
        cases hbk : st.hp.get bb with
        | none => rw [hbk] at hst; cases hst
        | some x =>
          rw [hbk] at hst
          cases x with
          | ro l => cases hst
          | map l => cases hst
          | loop l => cases hst
          | mark l => cases hst
          | iter m n sn => cases hst
          | cells cs =>
            simp only at hst
            cases hp2 : putL cs (o + len * i.size) new with
            | none => rw [hp2] at hst; cases hst
            | some cs' =>
              obtain ⟨hft, _⟩ := putL_some hp2
              obtain ⟨arr, el, k1, k2, k3, _, k5⟩ := hI.hr.blk bb _ g m hbk hb
              exact ⟨arr, el, k1, by rw [← hds.length]; omega, k5⟩
      obtain ⟨sh, sz⟩ := m
      obtain rfl : sh = 0 := hsh
      have s1' : (storeCells ⟨g, o + len * i.size, none⟩ ds).run P w = .ok () w' := s1
      obtain ⟨w2, r1, r2⟩ := run_append_in hd hi ty hgc hs (sCap := cc) (by omega) hfit
      rw [s1'] at r2
      cases r2
      exact ⟨_, _, r1, ⟨ρ, s2, .sl hb (by omega) (fun _ => hcc) (fun e => by cases e), Nat.le_refl _, fun _ _ => rfl⟩, rfl⟩
  | false =>
    simp only [hc1, cond_false] at h
    obtain ⟨q, h⟩ := bif_some h
    simp only [roomy, Bool.and_eq_true, Nat.ble_eq] at q
    obtain ⟨⟨ol, old⟩, hold, h⟩ := bindO_some h
    obtain ⟨hol, hoo⟩ := srcOf_ok hI.hr hx (fun _ e => by cases e) hold
    have hol1 : ol = len := by
      unfold srcOf at hold
      simp only at hold
      split at hold
      · split at hold
        · cases hold; rfl
        · cases hold
      · cases hold
    subst hol1
    obtain ⟨ad2, c2, ods, he2, hods, hocell⟩ : ∃ a c ds, Value.slice (some ⟨g, o + m.1, none⟩) ol cc = .slice (some a) ol c ∧ RL ρ old ds ∧ ∀ j v, ds[j]? = some v → w.cell? (a.add j) = some v := by
      rcases hoo with ⟨h1, _⟩ | h1
      · cases h1
      · exact h1
    cases he2
    have hodl : ods.length = ol * i.size := by rw [← hods.length, hol]
    have hold' : (Builtin.firstCells i.size ol (.slice (some ⟨g, o + m.1, none⟩) ol cc)).run P w.drew = .ok ods.toArray w.drew :=
      run_firstCells_some w.drew i.size ol _ ol cc ods hodl (by simpa using hocell)
    unfold appendGrow at h
    cases ex with
    | true =>
      simp only [cond_true] at h
      obtain rfl := newBlk_some h
      have hcc := hex rfl
      have hlt : cc < ol + n := by
        simp only [Bool.true_and] at hc1
        rcases Nat.lt_or_ge cc (ol + n) with hh | hh
        · exact hh
        · rw [Nat.ble_eq_true_of_le (by omega : ol + n ≤ cap)] at hc1; cases hc1
      obtain ⟨c', w', r1, r2⟩ := grow_ok hI hd hi hiz hzs (ty := ty) hods hds hodl hs hold' q.1 q.2 hlt
      exact ⟨c', w', r1, r2, rfl⟩
    | false =>
      simp only [cond_false] at h
      obtain ⟨q2, h'⟩ := bif_some h
      clear h
      simp only [Bool.and_eq_true, Nat.beq_eq] at q2
      obtain ⟨⟨rfl, rfl⟩, hfl⟩ := q2
      split at h'
      · rename_i cs0 hbk
        obtain rfl := newBlk_some h'
        obtain ⟨_, _, _, _, _, _, k5⟩ := hI.hr.blk bb _ g m hbk hb
        obtain ⟨sh, sz⟩ := m
        obtain rfl : sh = 0 := k5
        rcases Nat.lt_or_ge cc (ol + n) with hlt | hge
        · obtain ⟨c', w', r1, r2⟩ := grow_ok (hI.drop bb) hd hi hiz hzs (ty := ty) hods hds hodl hs hold' q.1 q.2 hlt
          exact ⟨c', w', r1, r2, rfl⟩
        · obtain ⟨c', w', r1, r2⟩ := inPlace_ok hI hd hi (ty := ty) hods hds hodl hs hocell hbk hb (by have := hf rfl; simp only at this; simp only; omega) hge
          exact ⟨c', w', r1, r2, rfl⟩
      · cases h'

theorem appendV_ok (hE : EOk P E) {w0 w : World} {M0 : Nat → Prop} {ρ : Rho} {st : St} (hI : Inv E w0 M0 ρ st.hp st.nx w) {t u ty : TypeId} {x y : V} {a b : Value} (hx : RV ρ x a) (hy : RV ρ y b)
    {r : R} (h : appendV E st t u x y = some r) : ∃ c w', (Builtin.append_ #[t, u] ty #[a, b]).run P w = .ok c w' ∧ Stp E w0 M0 ρ st.nx r c w' ∧ r.df = none := by
  unfold appendV at h
  split at h
  · rename_i e _ _ _ _ hti
    obtain ⟨d, hd, hk⟩ := (hE.ty _ _ hti).under
    obtain rfl : d = .slice e := hk
    obtain ⟨te, hte, h⟩ := bindO_some h
    obtain ⟨⟨n, new⟩, hsrc, h⟩ := bindO_some h
    obtain ⟨hok, h⟩ := bif_some h
    rw [Bool.and_eq_true] at hok
    obtain ⟨i, _, z, hi, _, his, hib, hiz, hz1, hz2, _⟩ := (hE.ty _ _ hte).ex
    have hzs : z.cells.size = i.size := by
      have := (hz1 ρ).length
      rw [hz2] at this
      rw [his, this]; exact Array.length_toList.symm
    rw [← his] at hsrc
    obtain ⟨ds, hds, hs⟩ := srcOf_src hE hI.hr hd hy hok.1 hsrc hok.2
    rw [← his, ← hib] at h
    unfold appendTo at h
    cases x with
    | nilSl =>
      cases hx
      cases hn : Nat.beq n 0 with
      | true =>
        simp only [hn, cond_true] at h
        cases h
        obtain rfl := Nat.eq_of_beq_eq_true hn
        exact ⟨_, w, run_append_zero hd hi ty none 0 0 (Nat.le_refl _) hs, Stp.same hI .nilSl none, rfl⟩
      | false =>
        simp only [hn, cond_false] at h
        obtain ⟨q, h⟩ := bif_some h
        simp only [roomy, Bool.and_eq_true, Nat.ble_eq] at q
        have hn0 : 0 < n := by
          rcases Nat.eq_zero_or_pos n with e0 | e0
          · subst e0; cases hn
          · exact e0
        obtain rfl := newBlk_some h
        obtain ⟨c', w', r1, r2⟩ := grow_ok hI hd hi hiz hzs (ty := ty) (base := none) (l := 0) (cc := 0) (old := []) (ods := []) .nil hds (by simp) hs (run_firstCells_none w.drew i.size 0 0 0) (by rw [Nat.zero_add]; exact q.1) (by omega) (by omega)
        rw [Nat.zero_add] at r2
        exact ⟨c', w', r1, r2, rfl⟩
    | sl bb o len cap ex =>
      have hxx := hx
      obtain ⟨g, m, cc, rfl, hb, hl, hex, hf⟩ := hx.sl_inv
      cases hn : Nat.beq n 0 with
      | true =>
        simp only [hn, cond_true] at h
        cases h
        obtain rfl := Nat.eq_of_beq_eq_true hn
        exact ⟨_, w, run_append_zero hd hi ty _ len cc hl hs, Stp.same hI hxx none, rfl⟩
      | false =>
        simp only [hn, cond_false] at h
        exact appendSl_ok hI hd hi hiz hzs hds hs hxx hb hl hex hf h
    | _ => cases h
  · cases h
end
end Go.Rf
