/-
  string(b): the evaluator against the model. No statement of the program is claimed here.
-/
import Derived.Test.YtbkjelhkjncfkaaGreatDoorRfI
import Derived.Laws.BytesString
namespace Go.Rf
section
variable {P : Program} {E : Env}

theorem bytesV_some {ρ : Rho} : ∀ {l : List V} {bs : List UInt8} {ds : List Value}, bytesV l = some bs → RL ρ l ds → ∃ ns : List Nat, ds = ns.map (fun n => Value.int .u8 (Int.ofNat n)) ∧ bs = ns.map UInt8.ofNat
  | [], bs, ds, h, hl => by cases h; cases hl; exact ⟨[], rfl, rfl⟩
  | x :: l, bs, ds, h, hl => by
    unfold bytesV at h
    split at h
    · rename_i heq; cases heq
    · rename_i n l' heq
      cases heq
      split at h
      · rename_i r hr
        cases h
        cases hl with | cons hx ht =>
        cases hx
        obtain ⟨ns, h1, h2⟩ := bytesV_some hr ht
        exact ⟨n :: ns, by rw [h1]; rfl, by rw [h2]; rfl⟩
      · cases h
    · cases h
theorem foldl_push : ∀ (ns : List Nat) (s : ByteArray), (ns.map (fun n => (Int.ofNat n))).foldl (fun r n => r.push (UInt8.ofNat n.toNat)) s = ⟨(s.data.toList ++ ns.map UInt8.ofNat).toArray⟩
  | [], s => by cases s; simp
  | n :: ns, s => by
    rw [List.map_cons, List.foldl_cons, foldl_push ns]
    congr 1
    simp [ByteArray.push]

theorem strSl_ok {ρ : Rho} {hp : Hp} {nx : Nat} {w : World} (hI : HR ρ hp nx w) {x v : V} {a : Value} (hx : RV ρ x a) (h : strSl hp x = some v) :
    (∃ c, (Conv.bytesToString a).run P w = .ok c w ∧ RV ρ v c) ∧ ∃ b l c, a = .slice b l c := by
  cases x with
  | nilSl =>
    cases h; cases hx
    exact ⟨⟨.string .empty, by simp [Conv.bytesToString], .str _⟩, _, _, _, rfl⟩
  | sl b o len cap ex =>
    unfold strSl at h
    simp only at h
    obtain ⟨g, m, c, rfl, hb, hl, hex, hf⟩ := hx.sl_inv
    cases hrd : rdFrom hp b o with
    | none => rw [hrd] at h; cases h
    | some cs =>
      rw [hrd] at h
      simp only at h
      cases ht : takeN len cs with
      | none => rw [ht] at h; cases h
      | some l =>
        rw [ht] at h
        simp only at h
        cases hbs : bytesV l with
        | none => rw [hbs] at h; cases h
        | some bs =>
          rw [hbs] at h
          cases h
          obtain ⟨e1, e2⟩ := takeN_some ht
          obtain ⟨ds, h1, h2⟩ := rdFrom_some hI hrd hb
          have h3 : RL ρ l (ds.take len) := by
            have := h1.take len
            rwa [e1, ← e2, List.take_left, e2] at this
          obtain ⟨ns, k1, k2⟩ := bytesV_some hbs h3
          have hcells := run_loadCells_list (P := P) w ⟨g, o + m.1, none⟩ (ds.take len) fun j v hv => by
            rw [add_at]
            refine h2 j v ?_
            rw [List.getElem?_take] at hv
            split at hv
            · exact hv
            · cases hv
          have hlen : (ds.take len).length = len := by rw [← h3.length, e2]
          rw [hlen] at hcells
          have hcells' : (loadCells ⟨g, o + m.1, none⟩ len).run P w = .ok ((ns.map (fun n => Int.ofNat n)).map (Value.int .u8)).toArray w := by
            rw [hcells, k1, List.map_map]; rfl
          refine ⟨⟨_, run_bytesToString w _ len c _ hcells', ?_⟩, _, _, _, rfl⟩
          rw [foldl_push, k2]
          exact .str _
  | _ => cases h

theorem strV_ok (hE : EOk P E) {ρ : Rho} {hp : Hp} {nx : Nat} {w : World} (hI : HR ρ hp nx w) {s t : TypeId} {x v : V} {a : Value} (hx : RV ρ x a) (h : strV E hp s t x = some v) : ∃ c, (convert s t a).run P w = .ok c w ∧ RV ρ v c := by
  unfold strV at h
  split at h
  · rename_i ht hs
    obtain ⟨d, hd, hk⟩ := (hE.ty _ _ ht).under
    obtain rfl : d = .string := hk
    obtain ⟨d', hd', hk'⟩ := (hE.ty _ _ hs).under
    obtain ⟨e, rfl⟩ : ∃ e, d' = .slice e := ⟨_, hk'⟩
    split at h
    · rename_i he
      obtain ⟨d2, hd2, hk2⟩ := (hE.ty _ _ he).under
      obtain rfl : d2 = .int .u8 := hk2
      cases hk'
      obtain ⟨⟨c, h1, h2⟩, b, l, cc, rfl⟩ := strSl_ok (P := P) hI hx h
      exact ⟨c, by rw [run_convert_bytes_string w s t _ b l cc hd' hd2 hd, h1], h2⟩
    · cases h
  · rename_i ht hs
    obtain ⟨d, hd, hk⟩ := (hE.ty _ _ ht).under
    obtain rfl : d = .string := hk
    obtain ⟨d', hd', hk'⟩ := (hE.ty _ _ hs).under
    obtain rfl : d' = .string := hk'
    split at h
    · cases h; cases hx
      exact ⟨_, by simp [convert, run_underlying hd, run_underlying hd'], .str _⟩
    · cases h
  · cases h
end
end Go.Rf
