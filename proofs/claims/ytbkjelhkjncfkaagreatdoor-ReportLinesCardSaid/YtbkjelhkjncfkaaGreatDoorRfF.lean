/-
  New blocks, literals, append, maps: the evaluator against the model. No statement of the program is claimed here.
-/
import Derived.Test.YtbkjelhkjncfkaaGreatDoorRfE
import Derived.Laws.AppendOwn
import Derived.Maps.AppendAt
namespace Go.Rf
section
variable {P : Program} {E : Env}

/-- A row of the model's that begins with these cells. -/
theorem new_ok {w0 w w' : World} {M0 : Nat → Prop} {ρ : Rho} {hp : Hp} {nx : Nat} (hI : Inv E w0 M0 ρ hp nx w) {cs : List V} {cells : Array Value} {el : TypeId} (hlen : cs.length ≤ cells.size) (hl : RL ρ cs (cells.toList.take cs.length))
    (hw : w'.heap = w.heap.push (.cells cells el)) (h1 : w'.os = w.os) (h2 : w'.tape = w.tape) (h3 : w'.output = w.output) :
    Inv E w0 M0 (ρ.put nx (w.heap.size, (0, cells.size))) (hp.set nx (some (.cells cs))) (nx + 1) w' ∧ ∀ b, b < nx → ρ.put nx (w.heap.size, (0, cells.size)) b = ρ b :=
  hI.new (.cells cs) _ (0, cells.size) hw h1 h2 h3 fun _ h => ⟨cells, el, h, rfl, hlen, hl, rfl⟩
theorem new_all {w0 w w' : World} {M0 : Nat → Prop} {ρ : Rho} {hp : Hp} {nx : Nat} (hI : Inv E w0 M0 ρ hp nx w) {cs : List V} {cells : Array Value} {el : TypeId} (hl : RL ρ cs cells.toList)
    (hw : w'.heap = w.heap.push (.cells cells el)) (h1 : w'.os = w.os) (h2 : w'.tape = w.tape) (h3 : w'.output = w.output) :
    Inv E w0 M0 (ρ.put nx (w.heap.size, (0, cells.size))) (hp.set nx (some (.cells cs))) (nx + 1) w' ∧ ∀ b, b < nx → ρ.put nx (w.heap.size, (0, cells.size)) b = ρ b :=
  new_ok hI (by rw [hl.length, Array.length_toList]; exact Nat.le_refl _) (by rw [hl.length, List.take_length]; exact hl) hw h1 h2 h3

theorem newBlk_some {st : St} {cs : List V} {v : V} {r : R} (h : newBlk st cs v = some r) : r = ⟨v, st.hp.set st.nx (some (.cells cs)), st.nx + 1, none⟩ := by cases h; rfl

/-- A row for the evaluator's pointer or slice. -/
theorem newPtr_ok {w0 w : World} {M0 : Nat → Prop} {ρ : Rho} {st : St} (hI : Inv E w0 M0 ρ st.hp st.nx w) {cs : List V} {cells : Array Value} (el : TypeId) (hl : RL ρ cs cells.toList) {r : R} (h : newBlk st cs (.ptr st.nx 0) = some r) :
    Stp E w0 M0 ρ st.nx r (.pointer (some ⟨w.heap.size, 0, none⟩)) { w with heap := w.heap.push (.cells cells el) } := by
  obtain rfl := newBlk_some h
  obtain ⟨h1, h2⟩ := new_all hI hl (w' := { w with heap := w.heap.push (.cells cells el) }) (el := el) rfl rfl rfl rfl
  exact ⟨_, h1, .ptr (Rho.put_same _ _ _), Nat.le_succ _, h2⟩
theorem newSl_ok {w0 w : World} {M0 : Nat → Prop} {ρ : Rho} {st : St} (hI : Inv E w0 M0 ρ st.hp st.nx w) {cs : List V} {cells : Array Value} (el : TypeId) (hl : RL ρ cs cells.toList) {len cap : Nat} (hlc : len ≤ cap) {r : R} (h : newBlk st cs (.sl st.nx 0 len cap true) = some r) :
    Stp E w0 M0 ρ st.nx r (.slice (some ⟨w.heap.size, 0, none⟩) len cap) { w with heap := w.heap.push (.cells cells el) } := by
  obtain rfl := newBlk_some h
  obtain ⟨h1, h2⟩ := new_all hI hl (w' := { w with heap := w.heap.push (.cells cells el) }) (el := el) rfl rfl rfl rfl
  exact ⟨_, h1, .sl (Rho.put_same _ _ _) hlc (fun _ => rfl) (fun e => by cases e), Nat.le_succ _, h2⟩

/-- A new row, of which nothing is asked but its cells. -/
def NewR (P : Program) (ρ : Rho) (w : World) (s : Sem Value) (hp : Hp) (nx : Nat) (r : R) : Prop :=
  ∃ (cs : List V) (cells : Array Value) (el : TypeId) (mk : Nat → V) (c : Value), r = ⟨mk nx, hp.set nx (some (.cells cs)), nx + 1, none⟩ ∧ s.run P w = .ok c { w with heap := w.heap.push (.cells cells el) } ∧ RL ρ cs cells.toList ∧
    ∀ (ρ' : Rho) (id : Nat), ρ' id = some (w.heap.size, (0, cells.size)) → RV ρ' (mk id) c
theorem NewR.ok {w0 w : World} {M0 : Nat → Prop} {ρ : Rho} {hp : Hp} {nx : Nat} (hI : Inv E w0 M0 ρ hp nx w) {s : Sem Value} {r : R} (h : NewR P ρ w s hp nx r) : ∃ c w', s.run P w = .ok c w' ∧ Stp E w0 M0 ρ nx r c w' ∧ r.df = none := by
  obtain ⟨cs, cells, el, mk, c, rfl, h1, h2, h3⟩ := h
  obtain ⟨k1, k2⟩ := new_all hI h2 (w' := { w with heap := w.heap.push (.cells cells el) }) (el := el) rfl rfl rfl rfl
  exact ⟨c, _, h1, ⟨_, k1, h3 _ _ (Rho.put_same _ _ _), Nat.le_succ _, k2⟩, rfl⟩

theorem run_alloc {t : TypeId} {z : Value} (hz : ∀ w, (zeroValue t).run P w = .ok z w) (w : World) :
    (Instr.alloc t true (.tuple #[])).run P w = .ok (.pointer (some ⟨w.heap.size, 0, none⟩)) { w with heap := w.heap.push (.cells z.cells t) } := by
  simp [Instr.alloc, hz, newVar, newRow]
theorem run_box (t : TypeId) (c : Value) (w : World) : (Instr.box t c).run P w = .ok (.pointer (some ⟨w.heap.size, 0, none⟩)) { w with heap := w.heap.push (.cells c.cells t) } := by
  simp [Instr.box, newVar, newRow]

/-! ### Literals -/
theorem fold_toList (o : Nat) : ∀ (l : List Value) (k : Nat) (a : Array Value), o + k + l.length ≤ a.size →
    ((l.zipIdx k).foldl (fun (a : Array Value) (p : Value × Nat) => a.setIfInBounds (o + p.2) p.1) a).toList = a.toList.take (o + k) ++ l ++ a.toList.drop (o + k + l.length)
  | [], k, a, _ => by simp
  | v :: l, k, a, h => by
    simp only [List.zipIdx_cons, List.foldl_cons]
    rw [fold_toList o l (k + 1) (a.setIfInBounds (o + k) v) (by simp at h ⊢; omega)]
    simp only [List.length_cons] at h
    have hk : o + k < a.toList.length := by rw [Array.length_toList]; omega
    rw [Array.toList_setIfInBounds]
    apply List.ext_getElem?
    intro i
    simp only [List.getElem?_append, List.getElem?_take, List.getElem?_drop, List.getElem?_set, List.length_append, List.length_take, List.length_set, List.length_cons]
    rw [Nat.min_eq_left (by omega : o + (k + 1) ≤ a.toList.length), Nat.min_eq_left (by omega : o + k ≤ a.toList.length)]
    by_cases h1 : i < o + k
    · rw [if_pos (by omega), if_pos (by omega), if_pos (by omega), if_neg (by omega), if_pos (by omega), if_pos (by omega), if_pos (by omega)]
    · by_cases h2 : i = o + k
      · subst h2
        rw [if_pos (by omega), if_pos (by omega), if_pos (by omega), if_pos rfl, if_pos hk, if_pos (by omega), if_neg (by omega)]
        simp
      · by_cases h3 : i < o + (k + 1) + l.length
        · rw [if_pos (by omega), if_neg (by omega), if_pos (by omega), if_neg (by omega)]
          rw [show i - (o + k) = (i - (o + (k + 1))) + 1 by omega, List.getElem?_cons_succ]
        · rw [if_neg (by omega), if_neg (by omega), if_neg (by omega)]
          congr 1
          omega

theorem fillV_ok {ρ : Rho} {place : Nat → Option (Nat × Nat)} {pl : Nat → Option (Nat × Nat)} (hpl : ∀ i x, place i = some x → pl i = some x) : ∀ (ps : List (Nat × V)) (qs : List (Nat × Value)) (cells : List V) (arr : Array Value) (r : List V),
    RP ρ ps qs → RL ρ cells arr.toList → fillV place cells ps = some r → ∃ arr', Instr.fill pl arr qs = some arr' ∧ RL ρ r arr'.toList
  | [], [], _, arr, _, _, hl, h => by cases h; exact ⟨arr, rfl, hl⟩
  | [], _ :: _, _, _, _, hp, _, _ => hp.elim
  | _ :: _, [], _, _, _, hp, _, _ => hp.elim
  | (i, v) :: ps, (j, c) :: qs, cells, arr, r, hp, hl, h => by
    obtain ⟨rfl, hv, hp⟩ := hp
    unfold fillV at h
    split at h
    · rename_i off size vs hpi hvs
      obtain ⟨q, h⟩ := bif_some h
      simp only [Nat.beq_eq] at q
      cases hput : putL cells off vs with
      | none => rw [hput] at h; cases h
      | some cs2 =>
        rw [hput] at h
        simp only at h
        obtain ⟨hfit, rfl⟩ := putL_some hput
        have hcs := hv.cells hvs
        have hlc : vs.length = c.cells.size := by rw [hcs.length]; exact Array.length_toList
        have hla : cells.length = arr.size := by rw [hl.length]; exact Array.length_toList
        have e1 : ¬ c.cells.size ≠ size := by omega
        have e2 : ¬ off + c.cells.size > arr.size := by omega
        have hcl : c.cells.toList.length = c.cells.size := Array.length_toList
        have hf := fold_toList off c.cells.toList 0 arr (by omega)
        have ez : (c.cells.zipIdx.foldl (fun cs (p : Value × Nat) => cs.setIfInBounds (off + p.2) p.1) arr) = ((c.cells.toList.zipIdx 0).foldl (fun (a : Array Value) (p : Value × Nat) => a.setIfInBounds (off + p.2) p.1) arr) := by
          rw [← Array.foldl_toList, Array.toList_zipIdx]
        obtain ⟨arr', h1, h2⟩ := fillV_ok hpl ps qs _ (c.cells.zipIdx.foldl (fun cs (p : Value × Nat) => cs.setIfInBounds (off + p.2) p.1) arr) r hp (by
          rw [ez, hf]
          simp only [Nat.add_zero]
          rw [hcl, ← hlc]
          exact ((hl.take off).append hcs).append (hl.drop (off + vs.length))) h
        refine ⟨arr', ?_, h2⟩
        simp only [Instr.fill, hpl _ _ hpi]
        rw [if_neg (by simp only [Bool.or_eq_true, decide_eq_true_eq, not_or]; exact ⟨e1, e2⟩)]
        exact h1
    · cases h

theorem run_places' (w : World) : ∀ (fs : List Field), (∀ f ∈ fs, ∃ j, P.info? f.type = some j) → (fs.mapM fun f => Prod.mk f.offset <$> sizeOf f.type).run P w = .ok (fs.map fun f => (f.offset, P.cellsOf f.type)) w
  | [], _ => rfl
  | f :: fs, h => by
    obtain ⟨j, hj⟩ := h f (by simp)
    have ih := run_places' w fs fun g hg => h g (by simp [hg])
    have hs : (sizeOf f.type).run P w = .ok (P.cellsOf f.type) w := by simp [sizeOf, typeInfo, hj, Program.cellsOf]
    simp [List.mapM_cons, hs, ih]
theorem buildV_ok (hE : EOk P E) {ρ : Rho} {t : TypeId} {ps : List (Nat × V)} {qs : Array (Nat × Value)} (hp : RP ρ ps qs.toList) {v : V} (h : buildV E (E.ty t) ps = some v) (w : World) :
    ∃ c, (Instr.build t qs).run P w = .ok c w ∧ RV ρ v c := by
  unfold buildV at h
  split at h
  · rename_i ti hti
    obtain ⟨z, hz, hz1, hz2, hz3⟩ := (hE.ty _ _ hti).zero
    obtain ⟨d, hd, hk⟩ := (hE.ty _ _ hti).under
    unfold KOk at hk
    split at h
    · rename_i offs hko
      simp only [hko] at hk
      obtain ⟨fs, rfl, ho, hf⟩ := hk
      cases hfv : fillV (placeS ti offs) ti.zero ps with
      | none => rw [hfv] at h; cases h
      | some cs =>
        rw [hfv] at h; cases h
        have hin : ∀ f ∈ fs.toList, ∃ j, P.info? f.type = some j := fun f hm => by
          obtain ⟨i, hi, he⟩ := List.getElem_of_mem hm
          obtain ⟨j, hj, _⟩ := hf i f (by rw [← Array.getElem?_toList, List.getElem?_eq_getElem hi, he])
          exact ⟨j, hj⟩
        have hpl : ∀ i x, placeS ti offs i = some x → (fs.toList.map fun f => (f.offset, P.cellsOf f.type)).toArray[i]? = some x := fun i x hx => by
          have hx' := hx
          unfold placeS at hx'
          cases ho2 : offs[i]? with
          | none => rw [ho2] at hx'; cases hx'
          | some d0 =>
            rw [← ho] at ho2
            obtain ⟨f, hfi, _⟩ : ∃ f, fs[i]? = some f ∧ f.offset = d0 := by simpa using ho2
            obtain ⟨j, hj, _, hpj⟩ := hf i f hfi
            rw [hpj] at hx
            cases hx
            simp [hfi, Program.cellsOf, hj]
        obtain ⟨arr', h1, h2⟩ := fillV_ok (pl := fun i => (fs.toList.map fun f => (f.offset, P.cellsOf f.type)).toArray[i]?) hpl ps qs.toList ti.zero z.cells cs hp (hz1 ρ) hfv
        refine ⟨.agg arr', ?_, .agg h2⟩
        have hm := run_places' (P := P) w fs.toList hin
        simp only [Instr.build, Sem.run_bind, hz, Result.andThen_ok, run_underlying hd]
        have hm' : (fs.mapM fun f => (do pure (f.offset, ← sizeOf f.type) : Sem (Nat × Nat))).run P w = .ok (fs.toList.map fun f => (f.offset, P.cellsOf f.type)).toArray w := by
          rw [Array.mapM_eq_mapM_toList]
          simp only [Sem.run_map]
          have : (fs.toList.mapM fun f => (do pure (f.offset, ← sizeOf f.type) : Sem (Nat × Nat))).run P w = .ok (fs.toList.map fun f => (f.offset, P.cellsOf f.type)) w := by simpa using hm
          rw [this]; rfl
        rw [hm', Result.andThen_ok, h1]
        rfl
    · rename_i n e hko
      simp only [hko] at hk
      subst hk
      cases he : E.ty e with
      | none => simp only [he] at h; cases h
      | some te =>
        simp only [he] at h
        cases hfv : fillV (fun i => some (i * te.size, te.size)) ti.zero ps with
        | none => rw [hfv] at h; cases h
        | some cs =>
          rw [hfv] at h; cases h
          obtain ⟨arr', h1, h2⟩ := fillV_ok (pl := fun i => some (i * te.size, te.size)) (fun _ _ h => h) ps qs.toList ti.zero z.cells cs hp (hz1 ρ) hfv
          refine ⟨.agg arr', ?_, .agg h2⟩
          simp only [Instr.build, Sem.run_bind, hz, Result.andThen_ok, run_underlying hd, (hE.ty _ _ he).size w, h1]
          rfl
    · cases h
  · cases h
end
end Go.Rf
