/-
  Maps with whole numbers as keys, lengths, greatest and least, clear: the evaluator against the model. No statement of the program is claimed here.
-/
import Derived.Test.YtkhadodoabjdoaaGreatDoorRfG
import Derived.MapKept
namespace Go.Rf
section
variable {P : Program} {E : Env}

theorem gom {w : World} {r : Nat} {es : Array MapEntry} {ck : Nat} (hb : w.heap[r]? = some (.map es ck)) : (getObj r).run P w = .ok (.map es ck) w := by simp [getObj, Sem.run, hb]
theorem som {w : World} {r : Nat} {es : Array MapEntry} {ck : Nat} (o : Obj) (hb : w.heap[r]? = some (.map es ck)) : (setObj r o).run P w = .ok () { w with heap := w.heap.setIfInBounds r o } := by simp [setObj, Sem.run, hb]
theorem ckInt {t : TypeId} {kk k : IntKind} {n : Int} (h : P.underlying t = some (.int kk)) (m : Nat) (em : Bool) (w : World) : (Instr.checkKey em (m + 1) t (.int k n)).run P w = .ok () w := by simp [Instr.checkKey, run_underlying h]
theorem sbInt (m : Nat) (k : IntKind) (n : Int) : Instr.sameBits m (.int k n) (.int k n) = true := by cases m <;> simp [Instr.sameBits]

theorem setM_key : ∀ {es : List (V × V)} {k v : V} {r : List (V × V)}, setM es k v = some r → ∃ j b, k = .int j b
  | [], k, _, _, h => by cases k <;> first | exact ⟨_, _, rfl⟩ | cases h
  | (e, _) :: _, k, _, _, h => by cases e <;> cases k <;> first | exact ⟨_, _, rfl⟩ | cases h
theorem lookM_key : ∀ {es : List (V × V)} {k : V} {r : Option V}, lookM es k = some r → ∃ j b, k = .int j b
  | [], k, _, h => by cases k <;> first | exact ⟨_, _, rfl⟩ | cases h
  | (e, _) :: _, k, _, h => by cases e <;> cases k <;> first | exact ⟨_, _, rfl⟩ | cases h

theorem findNow_ok {ρ : Rho} {k : IntKind} {kk : IntKind} {b : Int} : ∀ (es : List (V × V)) (l : List MapEntry) (i : Nat) (r : Option V), RM ρ es l → lookM es (.int k b) = some r →
    ∃ q, Instr.findNow (.int kk) (.int k b) l i = some q ∧ (match r, q with | none, none => True | some v, some (_, c) => RV ρ v c | _, _ => False)
  | [], [], i, r, _, h => by cases h; exact ⟨none, rfl, trivial⟩
  | [], _ :: _, _, _, hm, _ => by cases hm.1
  | _ :: _, [], _, _, hm, _ => by cases hm.1
  | (x, v) :: es, e :: l, i, r, hm, h => by
    cases hm with
    | intro m1 m2 =>
      simp only [List.map_cons] at m1 m2
      cases m1 with | cons a1 a2 =>
      cases m2 with | cons b1 b2 =>
      unfold lookM at h
      cases x with
      | int j a =>
        simp only at h
        obtain ⟨q, h⟩ := bif_some h
        obtain rfl := sameK_eq q
        cases a1' : e.key with
        | int j' a' =>
          rw [a1'] at a1
          cases a1
          by_cases hab : b = a
          · subst hab
            simp only [decide_true] at h
            cases h
            exact ⟨some (i, e.val), by simp [Instr.findNow, Instr.sameNow, a1'], b1⟩
          · simp only [hab, decide_false] at h
            obtain ⟨q', h1, h2⟩ := findNow_ok (kk := kk) es l (i + 1) r ⟨a2, b2⟩ h
            refine ⟨q', ?_, h2⟩
            have hne : (b == a) = false := by simpa using hab
            simp [Instr.findNow, Instr.sameNow, a1', hne, h1]
        | _ => rw [a1'] at a1; cases a1
      | _ => cases h

theorem lookupV_ok (hE : EOk P E) {ρ : Rho} {hp : Hp} {nx : Nat} {w : World} (hr : HR ρ hp nx w) {t : TypeId} {x y : V} {a b : Value} (hx : RV ρ x a) (hy : RV ρ y b) {v : V} (h : lookupV E hp (E.ty t) x y = some v) :
    ∃ c, (Instr.lookup t a b false).run P w = .ok c w ∧ RV ρ v c := by
  unfold lookupV at h
  split at h
  · rename_i kt e _ _ _ _ hti
    obtain ⟨d, hd, hk⟩ := (hE.ty _ _ hti).under
    obtain rfl : d = .map kt e := hk
    cases hx with | map hb =>
    split at h
    · rename_i es te hbk hte
      obtain ⟨arr, ck, h1, h2⟩ := hr.blk _ _ _ _ hbk hb
      cases hik : intKey (E.ty kt) with
      | false => simp only [hik, cond_false] at h; cases h
      | true =>
        simp only [hik, cond_true] at h
        unfold intKey at hik
        split at hik
        · rename_i kk _ _ _ _ htk
          obtain ⟨dk, hdk, hkk⟩ := (hE.ty _ _ htk).under
          obtain rfl : dk = .int kk := hkk
          obtain ⟨z, hz, hz1, hz2, hz3⟩ := (hE.ty _ _ hte).zero
          obtain ⟨i, _, z', hi, _, _, _, hiz, hz1', hz2', _⟩ := (hE.ty _ _ hte).ex
          cases hl : lookM es y with
          | none => rw [hl] at h; cases h
          | some r =>
            rw [hl] at h
            obtain ⟨k, n, rfl⟩ := lookM_key hl
            cases hy
            obtain ⟨q, q1, q2⟩ := findNow_ok (kk := kk) es arr.toList 0 r h2 hl
            have hck : ∀ em, (Instr.checkKey em 10000 kt (.int k n)).run P w = .ok () w := fun em => ckInt hdk 9999 em w
            cases r with
            | some u =>
              cases h
              cases q with
              | none => exact q2.elim
              | some q =>
                refine ⟨q.2, ?_, q2⟩
                simp [Instr.lookup, run_underlying hd, gom h1, hck, Instr.findKey, run_underlying hdk, q1]
            | none =>
              cases q with
              | some q => exact q2.elim
              | none =>
                simp only at h
                cases hag : te.agg with
                | true => rw [hag] at h; cases h
                | false =>
                  simp only [hag, cond_false] at h
                  rw [asVar_one hag] at h
                  have ho := (hE.ty _ _ hte).one hag i z' hi hiz
                  have hl1 := hz1' ρ
                  rw [ho] at hl1
                  cases hzz : te.zero with
                  | nil => rw [hzz] at h; cases h
                  | cons u us =>
                    rw [hzz] at h hl1
                    cases h
                    refine ⟨z', ?_, by cases hl1; assumption⟩
                    have hzv : (zeroValue e).run P w = .ok z' w := by simp [zeroValue, typeInfo, hi, hiz]
                    simp [Instr.lookup, run_underlying hd, gom h1, hck, Instr.findKey, run_underlying hdk, q1, hzv]
        · cases hik
    · cases h
  · cases h

theorem modify_toList (es : Array MapEntry) (i : Nat) (f : MapEntry → MapEntry) : (es.modify i f).toList = es.toList.modify i f := by simp

theorem setM_ok {ρ : Rho} {k : IntKind} {kk : IntKind} {b : Int} {v : V} {c : Value} (hv : RV ρ v c) : ∀ (es : List (V × V)) (l : List MapEntry) (i : Nat) (r : List (V × V)), RM ρ es l → setM es (.int k b) v = some r →
    (∃ j u, Instr.findNow (.int kk) (.int k b) l i = some (some (i + j, u)) ∧ (l[j]?).map (·.key) = some (.int k b) ∧ RM ρ r (l.modify j fun e => { e with key := .int k b, val := c })) ∨
    (Instr.findNow (.int kk) (.int k b) l i = some none ∧ ∀ ck, RM ρ r (l ++ [{ key := .int k b, val := c, born := ck }]))
  | [], [], i, r, _, h => by
    cases h
    exact .inr ⟨rfl, fun ck => ⟨.cons (.int _ _) .nil, .cons hv .nil⟩⟩
  | [], _ :: _, _, _, hm, _ => by cases hm.1
  | _ :: _, [], _, _, hm, _ => by cases hm.1
  | (x, u) :: es, e :: l, i, r, hm, h => by
    cases hm with
    | intro m1 m2 =>
      simp only [List.map_cons] at m1 m2
      cases m1 with | cons a1 a2 =>
      cases m2 with | cons b1 b2 =>
      unfold setM at h
      cases x with
      | int j a =>
        simp only at h
        obtain ⟨q, h⟩ := bif_some h
        obtain rfl := sameK_eq q
        cases a1' : e.key with
        | int j' a' =>
          rw [a1'] at a1
          cases a1
          by_cases hab : b = a
          · subst hab
            simp only [decide_true] at h
            cases h
            refine .inl ⟨0, e.val, by simp [Instr.findNow, Instr.sameNow, a1'], by simp [a1'], ?_⟩
            simp only [List.modify_zero_cons]
            exact ⟨.cons (.int _ _) a2, .cons hv b2⟩
          · simp only [hab, decide_false] at h
            cases hs : setM es (.int j b) v with
            | none => rw [hs] at h; cases h
            | some r' =>
              rw [hs] at h; cases h
              have hfn : Instr.findNow (.int kk) (.int j b) (e :: l) i = Instr.findNow (.int kk) (.int j b) l (i + 1) := by
                have hne : (b == a) = false := by simpa using hab
                simp [Instr.findNow, Instr.sameNow, a1', hne]
              rcases setM_ok (kk := kk) hv es l (i + 1) r' ⟨a2, b2⟩ hs with ⟨jj, uu, h1, h2, h3⟩ | ⟨h1, h2⟩
              · refine .inl ⟨jj + 1, uu, by rw [hfn, h1]; congr 3; omega, by simpa using h2, ?_⟩
                simp only [List.modify_succ_cons]
                refine ⟨.cons ?_ h3.1, .cons b1 h3.2⟩
                show RV ρ (.int j a) e.key
                rw [a1']; exact .int _ _
              · refine .inr ⟨by rw [hfn, h1], fun ck => ⟨.cons ?_ (h2 ck).1, .cons b1 (h2 ck).2⟩⟩
                show RV ρ (.int j a) e.key
                rw [a1']; exact .int _ _
        | _ => rw [a1'] at a1; cases a1
      | _ => cases h

theorem mapUpd_ok (hE : EOk P E) {w0 w : World} {M0 : Nat → Prop} {ρ : Rho} {hp hp' : Hp} {nx : Nat} (hI : Inv E w0 M0 ρ hp nx w) {t : TypeId} {x y z : V} {a b c : Value} (hx : RV ρ x a) (hy : RV ρ y b) (hz : RV ρ z c)
    (h : mapUpd E hp (E.ty t) x y z = some hp') : ∃ w', (Instr.mapUpdate t a b c).run P w = .ok () w' ∧ Inv E w0 M0 ρ hp' nx w' := by
  unfold mapUpd at h
  split at h
  · rename_i bb kt e _ _ _ _ hti
    obtain ⟨d, hd, hk⟩ := (hE.ty _ _ hti).under
    obtain rfl : d = .map kt e := hk
    cases hx with | @map _ g n hb =>
    split at h
    · rename_i es hbk
      obtain ⟨arr, ck, h1, h2⟩ := hI.hr.blk _ _ _ _ hbk hb
      obtain ⟨hik, h⟩ := bif_some h
      unfold intKey at hik
      split at hik
      · rename_i kk _ _ _ _ htk
        obtain ⟨dk, hdk, hkk⟩ := (hE.ty _ _ htk).under
        obtain rfl : dk = .int kk := hkk
        cases hs : setM es y z with
        | none => rw [hs] at h; cases h
        | some es' =>
            rw [hs] at h; cases h
            obtain ⟨k, n', rfl⟩ := setM_key hs
            cases hy
            have hck : ∀ em, (Instr.checkKey em 10000 kt (.int k n')).run P w = .ok () w := fun em => ckInt hdk 9999 em w
            have hg : g < w.heap.size := hI.hr.bnd _ _ _ hb
            have chg : ∀ o : Obj, Chg g w { w with heap := w.heap.set! g o } := fun o =>
              ⟨rfl, rfl, rfl, by simp, fun k hk => by simp [Ne.symm hk]⟩
            have hset : ∀ o : Obj, (w.heap.set! g o)[g]? = some o := fun o => by simp [hg]
            rcases setM_ok (kk := kk) hz es arr.toList 0 es' h2 hs with ⟨j, u, f1, f2, f3⟩ | ⟨f1, f2⟩
            · have hkey : ((arr[j]?).map (·.key)).getD (.int k n') = .int k n' := by
                rw [← Array.getElem?_toList, f2]; rfl
              refine ⟨{ w with heap := w.heap.set! g (.map (arr.modify j fun e => { e with key := .int k n', val := c }) ck) }, ?_, hI.put hbk trivial hb (chg _) ⟨arr.modify j fun e => { e with key := .int k n', val := c }, ck, hset _, by rw [modify_toList]; exact f3⟩⟩
              simp [Instr.mapUpdate, run_underlying hd, gom h1, hck, Instr.findKey, run_underlying hdk, f1, Instr.keyThatStays, hkey, sbInt, som _ h1]
            · refine ⟨{ w with heap := w.heap.set! g (.map (arr.push { key := .int k n', val := c, born := ck }) (ck + 1)) }, ?_, hI.put hbk trivial hb (chg _) ⟨arr.push { key := .int k n', val := c, born := ck }, ck + 1, hset _, by rw [Array.toList_push]; exact f2 ck⟩⟩
              simp [Instr.mapUpdate, run_underlying hd, gom h1, hck, Instr.findKey, run_underlying hdk, f1, som _ h1]
      · cases hik
    · cases h
  · cases h
end
end Go.Rf
