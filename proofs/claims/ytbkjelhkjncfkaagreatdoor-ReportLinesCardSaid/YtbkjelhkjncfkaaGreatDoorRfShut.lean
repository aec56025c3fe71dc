/-
  A closed law: from the evaluator's answer to the row's end. No statement of the program is claimed here.
-/
import Derived.Test.YtbkjelhkjncfkaaGreatDoorRfLaid
import Derived.ChangeSame
namespace Go.Rf

/-! ### Blocks that are only read, laid one behind the other -/
noncomputable def layF : List (List V) → Nat → Hp → Hp
  | [], _, h => h
  | cs :: r, i, h => layF r (i + 1) (h.set i (some (.ro cs)))
theorem layF_get : ∀ (l : List (List V)) (i : Nat) (h : Hp) (b : Nat), (layF l i h).get b = if i ≤ b ∧ b < i + l.length then (l[b - i]?).map .ro else h.get b
  | [], i, h, b => by
    have : ¬ (i ≤ b ∧ b < i + ([] : List (List V)).length) := by simp only [List.length_nil]; omega
    rw [if_neg this]; rfl
  | cs :: r, i, h, b => by
    unfold layF
    rw [layF_get r (i + 1)]
    by_cases h1 : b = i
    · subst h1
      rw [if_neg (by omega), if_pos (by simp), T.get_same]
      simp
    · by_cases h2 : i + 1 ≤ b ∧ b < i + 1 + r.length
      · rw [if_pos h2, if_pos (by simp only [List.length_cons]; omega), show b - i = (b - (i + 1)) + 1 by omega, List.getElem?_cons_succ]
      · rw [if_neg h2, if_neg (by simp only [List.length_cons]; omega), T.get_ne _ _ _ _ h1]

theorem hr_lay {l : List (List V)} {rl : List (Nat × (Nat × Nat))} {W : World} (hlen : rl.length = l.length)
    (h : ∀ (i : Nat) (cs : List V), l[i]? = some cs → ∃ x : Nat × (Nat × Nat), rl[i]? = some x ∧ BR (fun b => rl[b]?) W x.1 x.2 (.ro cs)) : HR (fun b => rl[b]?) (layF l 0 .e) l.length W := by
  have hget : ∀ b x, (layF l 0 .e).get b = some x → ∃ cs, l[b]? = some cs ∧ x = .ro cs := fun b x hx => by
    rw [layF_get, T.get_e] at hx
    split at hx
    · obtain ⟨cs, h1, h2⟩ := Option.map_eq_some_iff.1 hx
      exact ⟨cs, h1, h2.symm⟩
    · cases hx
  refine ⟨fun b hb => List.getElem?_eq_none (by omega), fun b hb => ?_, fun b g n hb => ?_, fun b b' x x' g n n' hb hb' hm => ?_, fun b x g n hb hg => ?_⟩
  · rw [layF_get, if_neg (by omega), T.get_e]
  · have hlt : b < l.length := by rw [← hlen]; exact (List.getElem?_eq_some_iff.1 hb).1
    obtain ⟨x, h1, h2⟩ := h b _ (List.getElem?_eq_getElem hlt)
    rw [hb] at h1
    cases h1
    obtain ⟨arr, el, fr, h3, _⟩ := h2
    exact (Array.getElem?_eq_some_iff.1 h3).1
  · obtain ⟨cs, _, rfl⟩ := hget b x hb
    exact hm.elim
  · obtain ⟨cs, h1, rfl⟩ := hget b x hb
    obtain ⟨y, h2, h3⟩ := h b cs h1
    rw [hg] at h2
    cases h2
    exact h3

def R.flat : Option R → Option V := fun r => match r with | some r => some r.v | none => none

/-- THE CALL, at a world that holds what is laid. -/
theorem closed_good {P : Program} {E : Env} {call : CallT} (hG : Good P E call) {f : FuncId} (hf : f < markId) {l : List (List V)} {rl : List (Nat × (Nat × Nat))} {W : World} (hr : R.flat (call f [] (layF l 0 .e) l.length) = some (.bool true))
    (hI : HR (fun b => rl[b]?) (layF l 0 .e) l.length W) (hgl : ∀ g b, E.glob g = some b → ∃ n, rl[b]? = some (g, (0, n))) :
    Calls P f #[] W fun e W' => e = .returned (.bool true) ∧ WF (fun _ => False) W W' := by
  cases hx : call f [] (layF l 0 .e) l.length with
  | none => rw [hx] at hr; cases hr
  | some r =>
    rw [hx] at hr
    have hv : r.v = .bool true := by simpa [R.flat] using hr
    have hinv : Inv E W (fun _ => False) (fun b => rl[b]?) (layF l 0 .e) l.length W := by
      refine ⟨hI, WF.refl _ _, fun g hg => ?_, hgl⟩
      obtain ⟨b, x, n, hb, hm, _⟩ := hg
      rw [layF_get, T.get_e] at hb
      split at hb
      · obtain ⟨cs, _, rfl⟩ := Option.map_eq_some_iff.1 hb
        exact hm.elim
      · cases hb
    refine (hG.calls f [] _ _ r hx hf W _ _ #[] W .nil hinv).mono fun e W' ⟨c, he, ρ', h1, h2, _, _⟩ => ?_
    rw [hv] at h2
    cases h2
    exact ⟨he, h1.wf⟩

theorem closed_calls {P : Program} {E : Env} (hE : EOk P E) {n : Nat} {f : FuncId} (hf : f < markId) {l : List (List V)} {rl : List (Nat × (Nat × Nat))} {W : World} (hr : R.flat (evFun E n f [] (layF l 0 .e) l.length) = some (.bool true))
    (hI : HR (fun b => rl[b]?) (layF l 0 .e) l.length W) (hgl : ∀ g b, E.glob g = some b → ∃ n, rl[b]? = some (g, (0, n))) :
    Calls P f #[] W fun e W' => e = .returned (.bool true) ∧ WF (fun _ => False) W W' := closed_good (evFun_good hE n) hf hr hI hgl

/-! ### The row's end -/
theorem keptBut_of_WF {w w' : World} (h : WF (fun _ => False) w w') (may : MemPlace → Prop) : w.keptBut w' may := by
  refine ⟨h.os, h.output, fun i hi => ?_⟩
  rw [h.block i hi id]
  cases hx : w.heap[i]? with
  | none => rfl
  | some o => cases o <;> simp

open Go.ChangeShapes Go.WideShapes in
theorem post_of_wf {H : Type} {enc : TypeId × Value → H} {P : Program} {f : Func} {s : ChangeSpec} {apart fresh handsOn again : Bool} {W W' : World} {args : Array Value} {v : Value} {ds gs : List (DataW H)} {before pa pv : List MemPlace}
    (hW : DataW.Whole enc P f.params.toList s.vars apart W args.toList ds gs before)
    (hres : ∀ (b : Nat) (sp : Nat → Bool) (hd : Bool), DataW.TrodAll enc P W' b sp hd f.resultTypes.toList (v.resultList f.resultTypes.size) (s.fn H (ds ++ gs)).results [])
    (hargs : ∀ sp : Nat → Bool, (∀ p ∈ before, sp p.block = true) → DataW.TrodAll enc P W' 0 sp true f.params.toList args.toList (s.fn H (ds ++ gs)).args pa)
    (hvars : ∀ sp : Nat → Bool, (∀ p ∈ before, sp p.block = true) → DataW.TrodVars enc P W' sp s.vars (s.fn H (ds ++ gs)).vars pv)
    (hps : before = pa ++ pv) (hwf : WF (fun _ => False) W W')
    (hok : ∀ (j : Nat) (t : TypeId) (r : Value), f.resultTypes[j]? = some t → (v.resultList f.resultTypes.size)[j]? = some r → Value.okWide P W' .any 0 t r) :
    s.post enc P f apart fresh handsOn again W args v W' := by
  have hold : ∀ p ∈ before, (fun b => decide (b < W.heap.size)) p.block = true := fun p hp => by simpa using hW.lt p hp
  refine ⟨ds, gs, before, [], pa, pv, hW, hres _ _ _, hargs _ hold, hvars _ hold, World.keptBut_mono (fun p hp => ⟨hp, ?_⟩) (keptBut_of_WF hwf (· ∈ before)), fun _ => ?_⟩
  · rw [hps, List.mem_append] at hp
    exact Or.inr hp
  · have hlt := hW.lt
    obtain ⟨_, _, _, _, _, hz, hn⟩ := hW
    refine ⟨hok, _, _, ([] ++ pa) ++ pv, ⟨[] ++ pa, pv, trodAll_append (hargs _ (fun _ _ => rfl)) (hres _ _ _), hvars _ (fun _ _ => rfl), rfl, ?_, ?_⟩, ?_⟩
    · intro b off hp
      have hb : MemPlace.cell b off ∈ before := by rw [hps]; simpa using hp
      have h1 : b < W.heap.size := hlt _ hb
      have h2 : W'.frozen? ⟨b, off, none⟩ = W.frozen? ⟨b, off, none⟩ := by
        unfold World.frozen?
        rw [hwf.block b h1 id]
      rw [h2]
      exact hz b off hb
    · intro ha
      have := hn ha
      rw [hps] at this
      simpa using this
    · intro p hp _
      rw [hps]
      simpa using hp

/-! ### What a row lists -/
/-- One listed variable's reading. -/
def VarIs (P : Program) (w : World) (n : String) (d : DataW Unit) : Prop :=
  ∃ g t cs fuel p, P.globalNamed n = some g ∧ (P.globals[g]?).map (·.type) = some t ∧ w.var? P n = some cs ∧ DataW.trod (fun _ => ()) P w 0 (fun _ => true) false fuel t cs.toList = some (d, p)
theorem varIs_of {P : Program} {w : World} : ∀ {l : List (String × DataW Unit)} {ps : List MemPlace}, DataW.LaidVars P w l ps → ∀ n d, (n, d) ∈ l → VarIs P w n d
  | [], _, _, _, _, hm => by cases hm
  | (n', d') :: r, ps, h, n, d, hm => by
    obtain ⟨g, t, cs, fuel, p, q, h1, h2, h3, h4, h5, _⟩ := h
    rcases List.mem_cons.1 hm with e | e
    · cases e
      exact ⟨g, t, cs, fuel, p, h1, h2, h3, h4⟩
    · exact varIs_of h5 n d e

/-- A flat variable: its block. -/
theorem var_BR {P : Program} {W : World} {n : String} {d : DataW Unit} (h : VarIs P W n d) {g t k : Nat} (hg : P.globalNamed n = some g) (ht : (P.globals[g]?).map (·.type) = some t) (hf : flatT P k t = true)
    {vs : List V} (hv : dataV (fun _ => none) d = some vs) (ρ : Rho) : BR ρ W g (0, vs.length) (.ro vs) := by
  obtain ⟨g', t', cs, fuel, p, h1, h2, h3, h4⟩ := h
  obtain rfl := Option.some.inj (hg.symm.trans h1)
  obtain rfl := Option.some.inj (ht.symm.trans h2)
  obtain ⟨el, fr, h5⟩ := var_block h1 h3
  have h6 : RL ρ vs cs.toList := trod_RL (hd := fun _ => none) (fun _ _ _ _ _ _ _ _ _ _ _ h => by cases h) k fuel _ _ _ p vs hf h4 hv
  have h7 := h6.length
  simp only [Array.length_toList] at h7
  refine ⟨cs, el, fr, h5, h7.symm, by simp, ?_⟩
  rw [h7, List.drop_zero, List.take_of_length_le (by simp)]
  exact h6

/-- A variable that holds functions. -/
theorem funcs_BR {P : Program} {W : World} {n : String} {d : DataW Unit} (h : funcsAt P W n d) {g t k : Nat} (hg : P.globalNamed n = some g) (ht : (P.globals[g]?).map (·.type) = some t) (hf : flatT P k t = true)
    {tab : List (List UInt8 × FuncId)} (hone : ∀ x ∈ tab, x.1 ≠ [] ∧ ((List.range P.funcs.size).filter fun f => (P.funcs[f]?).any (·.name.toUTF8.data.toList == x.1)) = [x.2])
    {vs : List V} (hv : dataV (fun x => (tab.find? fun y => y.1 == x).map fun y => (.func (.func y.2) [] [] : V)) d.funcsOut = some vs) (ρ : Rho) : BR ρ W g (0, vs.length) (.ro vs) := by
  obtain ⟨g', t', cs, fuel, p, h1, h2, h3, h4⟩ := h
  obtain rfl := Option.some.inj (hg.symm.trans h1)
  obtain rfl := Option.some.inj (ht.symm.trans h2)
  obtain ⟨el, fr, h5⟩ := var_block h1 h3
  have h6 : RL ρ vs cs.toList := trod_RL (func_RV hone) k fuel _ _ _ p vs hf h4 hv
  have h7 := h6.length
  simp only [Array.length_toList] at h7
  refine ⟨cs, el, fr, h5, h7.symm, by simp, ?_⟩
  rw [h7, List.drop_zero, List.take_of_length_le (by simp)]
  exact h6

/-- A variable that holds a slice of flat elements: its own block, and the elements'. -/
theorem slice_BR {P : Program} {W : World} {n : String} {ds : List (DataW Unit)} (h : VarIs P W n (.slice ds [])) {g t e k : Nat} (hg : P.globalNamed n = some g) (ht : (P.globals[g]?).map (·.type) = some t) (hu : P.underlying t = some (.slice e))
    (hm : 0 < P.cellsOf e) (hds : ds ≠ []) (hf : flatT P k e = true) {vs : List V} (hv : dataVs (fun _ => none) ds = some vs) :
    ∃ b n, (∀ ρ : Rho, BR ρ W b n (.ro vs)) ∧ ∀ (ρ : Rho) i, ρ i = some (b, n) → BR ρ W g (0, 1) (.ro [.sl i 0 ds.length 0 false]) := by
  obtain ⟨g', t', cs, fuel, p, h1, h2, h3, h4⟩ := h
  obtain rfl := Option.some.inj (hg.symm.trans h1)
  obtain rfl := Option.some.inj (ht.symm.trans h2)
  obtain ⟨el, fr, h5⟩ := var_block h1 h3
  have key : ∀ ρ : Rho, ∃ b o cap c el fr, cs.toList = [.slice (some ⟨b, o, none⟩) ds.length cap] ∧ ds.length ≤ cap ∧ W.heap[b]? = some (.cells c el fr) ∧ o + vs.length ≤ c.size ∧ RL ρ vs ((c.toList.drop o).take vs.length) :=
    fun ρ => slice_RL (hd := fun _ => none) hu hm hds hf (fun _ _ _ _ _ _ _ _ _ _ _ h => by cases h) hv h4
  obtain ⟨b, o, cap, c, el', fr', k1, k2, k3, k4, _⟩ := key fun _ => none
  refine ⟨b, (o, c.size), fun ρ => ?_, fun ρ i hi => ?_⟩
  · obtain ⟨b', o', cap', c', el'', fr'', m1, m2, m3, m4, m5⟩ := key ρ
    rw [k1] at m1
    cases m1
    rw [k3] at m3
    cases m3
    exact ⟨c, el', fr', k3, rfl, k4, m5⟩
  · have hcs : cs = #[.slice (some ⟨b, o, none⟩) ds.length cap] := by
      have := congrArg List.toArray k1
      simpa using this
    refine ⟨cs, el, fr, h5, by rw [hcs]; rfl, by simp, ?_⟩
    rw [hcs]
    have hr : RV ρ (.sl i 0 ds.length 0 false) (.slice (some ⟨b, 0 + (o, c.size).1, none⟩) ds.length cap) := .sl hi k2 (fun h => by cases h) (fun _ => by simp)
    rw [Nat.zero_add] at hr
    exact .cons hr .nil

end Go.Rf
