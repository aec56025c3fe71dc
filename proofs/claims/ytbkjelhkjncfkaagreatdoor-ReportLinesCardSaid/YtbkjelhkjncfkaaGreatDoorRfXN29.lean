/-
  'lamplighterlaw29.ReportLines': for any vectors, verdict and lines the law returns true; the arguments read as they did. No condition beyond what the row lists (six package-level variables hold what the program's text lays).
-/
import Derived.Test.YtbkjelhkjncfkaaGreatDoorRfLives
import Derived.Test.YtbkjelhkjncfkaaGreatDoorRfLaid29
import Derived.Test.YtbkjelhkjncfkaaGreatDoorRfOpen29
import Derived.Test.YtbkjelhkjncfkaaGreatDoorRfS9
import Derived.Test.YtbkjelhkjncfkaaGreatDoorRfXW29
import Derived.Test.YtbkjelhkjncfkaaGreatDoorTie
import Derived.ProofKit
import Derived.OpenShut
import Derived.Carry
import Derived.Lib.SmallJoins
import Derived.Deep.DeepHandedRow
import Derived.Deep.DeepWitnessRowRef
namespace Go.Proofs.YtbkjelhkjncfkaaGreatDoor
open Go.Rf Go.ChangeShapes Go.WideShapes Go.ChangeAt Go.RowKit Go.Joins
set_option maxRecDepth 100000

theorem hr_up {ρ : Rho} {hp : Hp} {nx : Nat} {w w' : World} (h : HR ρ hp nx w) (hb : Below w.heap.size w w') : HR ρ hp nx w' :=
  ⟨h.dom, h.free, fun b g n hg => Nat.lt_of_lt_of_le (h.bnd b g n hg) hb.size, h.inj, fun b x g n hx hg => BR.ext (Ext.refl ρ) (hb.block g (h.bnd b g n hg)) (h.blk b x g n hx hg)⟩

theorem law_calls {W : World} (h : laidMetH Tryz.prog lst W) (k m e : Int) (al a2 a : Option Addr) (nA cA n2 c2 n c : Nat) (hm : I64 m) (he : I64 e) (hA : IntRow 6 W al nA) (hL : IntRow 1 W a2 n2) (hV : IntRow 3 W a n) :
    Calls Tryz.prog 3 #[.slice a n c, .agg (verOf k m e al nA cA), .slice a2 n2 c2] W fun r W' => r = .returned (.bool true) ∧ WF (fun _ => False) W W' := by
  obtain ⟨⟨rl, h1, h2⟩, hT⟩ := laid_hr h
  have h6 : 6 ≤ W.heap.size := by
    obtain ⟨n, hn⟩ := h2 5 5 rfl
    have := h1.bnd 5 5 (0, n) hn
    omega
  refine (law_ok k m e al a2 a nA cA n2 c2 n c W hm he hA hL hV (Lib.tabBelow_of_tabIs hT) h6 (fun w1 hb => (lives_calls (hr_up h1 hb) h2).mono ?_)).mono ?_
  · rintro r w2 ⟨hr, hw⟩
    exact ⟨hr, hw.os, hw.tape, hw.output, hw.size, fun k hk => hw.block k hk id⟩
  · rintro r w2 ⟨hr, hw⟩
    exact ⟨hr, hw.os, hw.tape, hw.output, hw.size, fun k hk _ => hw.block k hk⟩

theorem laidOut : laidOutB Tryz.prog = true := by kernel_rfl
theorem params3 : Tryz.f3.params = #[22, 26, 27] := by kernel_rfl
theorem cells26 : Tryz.prog.cellsOf 26 = 4 := by kernel_rfl

theorem lines_lifted (os : Os) (started : os.Started) (H : Type) (enc : TypeId × Value → H) (F : Stop.Interp) :
    ReturnsInHanded {} Tryz.checked os 3 .any ((OpenSpec.ofChange Rows.reportLinesSpec).preRow enc Tryz.prog Tryz.f3 Rows.reportLinesRow.domain false Rows.reportLinesRow.laid) (((OpenSpec.ofChange Rows.reportLinesSpec).at F).post enc Tryz.prog Tryz.f3 false true false false) := by
  refine returnsInHanded_of_row (C := Tryz.checked) (s := OpenSpec.ofChange Rows.reportLinesSpec) own started (by kernel_rfl) Tryz.func3
    (witness_row_atRef (enc := enc) (C := Tryz.checked) false (World.doorLaid Tryz.prog 600 os) wit rfl (wit_vars os) (wit_rest os) (wit_ok os) (wit_row os enc)) ?_
  intro W base args ds gs before hval0 hW _ _ _ hL _ _
  have hval : ∀ (j : Nat) t v, Tryz.f3.params[j]? = some t → args[j]? = some v → Value.okWide Tryz.prog W .any base t v := hval0
  have hW' := hW
  obtain ⟨p, q, hA0, hV, rfl, hfz, hnd⟩ := hW
  have hA : DataW.TrodAll enc Tryz.prog W 0 (fun _ => true) true Tryz.f3.params.toList args.toList ds p := hA0
  rw [params3] at hA hval
  obtain ⟨v0, v1, v2, d0, d1, d2, p0, p1, p2, rfl, rfl, rfl, h0, h1, h2⟩ := trodAll_three hA
  obtain ⟨rfl, rfl⟩ := trodVars_none hV
  have hlt := hW'.lt
  have hargs : ∀ W' : World, Below W.heap.size W W' → ∀ sp : Nat → Bool, (∀ x ∈ (p0 ++ p1 ++ p2) ++ [], sp x.block = true) → DataW.TrodAll enc Tryz.prog W' 0 sp true Tryz.f3.params.toList #[v0, v1, v2].toList [d0, d1, d2] (p0 ++ (p1 ++ p2)) := fun W' hb sp hsp => by
    have hs : ∀ x ∈ (p0 ++ p1 ++ p2) ++ [], W.sameAt W' x := fun x hx => hb.same (hlt x hx)
    rw [params3]
    exact trodAll_mk3 (WideElems.Trod_stays laidOut (by kernel_rfl) (of_decide_eq_true (by kernel_rfl)) h0 (fun x hx => hs x (by simp [hx])) (fun x hx => hsp x (by simp [hx])))
      (WideElems.Trod_stays laidOut (by kernel_rfl) (of_decide_eq_true (by kernel_rfl)) h1 (fun x hx => hs x (by simp [hx])) (fun x hx => hsp x (by simp [hx])))
      (WideElems.Trod_stays laidOut (by kernel_rfl) (of_decide_eq_true (by kernel_rfl)) h2 (fun x hx => hs x (by simp [hx])) (fun x hx => hsp x (by simp [hx])))
  obtain ⟨a, n, c, rfl⟩ := okWide_slice Tryz.underlying22 (hval 0 22 v0 rfl rfl)
  obtain ⟨a2, n2, c2, rfl⟩ := okWide_slice Tryz.underlying27 (hval 2 27 v2 rfl rfl)
  obtain ⟨k0, k1, k2, k3, y0, y1, y2, y3, nn, rfl, rfl, rfl, hy0, hy1, hy2, hy3⟩ := open_agg4 Tryz.underlying26 (by kernel_rfl) cells26 (hval 1 26 v1 rfl rfl) h1
  obtain ⟨k, e0, rfl, wk⟩ := DataW.trod_int Tryz.underlying3 hy0
  obtain ⟨m, e1, rfl, wm⟩ := DataW.trod_int Tryz.underlying3 hy1
  obtain ⟨e, e3, rfl, we⟩ := DataW.trod_int Tryz.underlying24 hy3
  simp only [List.cons.injEq, and_true] at e0 e1 e3
  subst e0 e1 e3
  obtain ⟨al, nA, cA, e2, rA⟩ := rows_open (k := 6) Tryz.underlying23 Tryz.underlying47 (by kernel_rfl) (by decide) (fun j hj => match j, hj with
    | 0, _ => ⟨_, rfl, rfl, Tryz.underlying3, by kernel_rfl⟩
    | 1, _ => ⟨_, rfl, rfl, Tryz.underlying3, by kernel_rfl⟩
    | 2, _ => ⟨_, rfl, rfl, Tryz.underlying3, by kernel_rfl⟩
    | 3, _ => ⟨_, rfl, rfl, Tryz.underlying3, by kernel_rfl⟩
    | 4, _ => ⟨_, rfl, rfl, Tryz.underlying3, by kernel_rfl⟩
    | 5, _ => ⟨_, rfl, rfl, Tryz.underlying3, by kernel_rfl⟩) hy2
  simp only [List.cons.injEq, and_true] at e2
  subst e2
  obtain ⟨fu0, hf0⟩ := h0
  obtain ⟨a', n', c', e4, rV⟩ := rows_open (k := 3) Tryz.underlying22 Tryz.underlying76 (by kernel_rfl) (by decide) (fun j hj => match j, hj with
    | 0, _ => ⟨_, rfl, rfl, Tryz.underlying3, by kernel_rfl⟩
    | 1, _ => ⟨_, rfl, rfl, Tryz.underlying3, by kernel_rfl⟩
    | 2, _ => ⟨_, rfl, rfl, Tryz.underlying3, by kernel_rfl⟩) hf0
  obtain ⟨rfl, rfl, rfl⟩ : a = a' ∧ n = n' ∧ c = c' := by simpa [Value.cells] using e4
  obtain ⟨fu2, hf2⟩ := h2
  obtain ⟨a'', n'', c'', e5, rL⟩ := ints_open Tryz.underlying27 Tryz.underlying3 (by kernel_rfl) hf2
  obtain ⟨rfl, rfl, rfl⟩ : a2 = a'' ∧ n2 = n'' ∧ c2 = c'' := by simpa [Value.cells] using e5
  refine (law_calls hL k m e al a2 a nA cA n2 c2 n c (bounds_i64 wm) (bounds_i64 we) rA rL rV).mono fun r W' ⟨hr, hg⟩ => ?_
  subst hr
  have hb : Below W.heap.size W W' := ⟨hg.os, hg.tape, hg.output, hg.size, fun k hk => hg.block k hk id⟩
  exact ⟨_, rfl, post_of_wf (pv := []) hW' (fun _ _ _ => trodAll_cons_mk (shut_bool Tryz.underlying4 _) trodAll_mk0) (fun sp hsp => hargs W' hb sp hsp) (fun _ _ => rfl) (by simp) hg (ok_one (by kernel_rfl) rfl (okWide_bool_mk Tryz.underlying4 _))⟩

theorem lines_said : Rows.ReportLinesSaid :=
  OpenClaim.holds_of_cond (p := Tryz.pinned) (s := OpenSpec.ofChange Rows.reportLinesSpec) (c := Rows.reportLinesRow) 3 Tryz.f3 rfl rfl rfl rfl rfl rfl rfl ⟨rfl, rfl, rfl, rfl, rfl⟩ rfl rfl rfl rfl rfl lines_func Tryz.func3 lines_facts
    lines_inst lines_wrap
    (fun os started H enc _ F => by rw [OpenClaim.pre_eq_preRow]; exact lines_lifted os started H enc F)
end Go.Proofs.YtbkjelhkjncfkaaGreatDoor
