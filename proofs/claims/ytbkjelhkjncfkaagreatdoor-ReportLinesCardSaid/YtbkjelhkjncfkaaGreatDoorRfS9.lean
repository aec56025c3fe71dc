/-
  report.Text by a contract of its own. No statement of the program is claimed here.
-/
import Derived.Test.YtbkjelhkjncfkaaGreatDoorRfS6
namespace Go.Proofs.YtbkjelhkjncfkaaGreatDoor
open Go.Proofs Go.Shelf Go.RowKit
set_option maxRecDepth 100000
def headOf (k m e : Int) : List UInt8 := ([] ++ (nameOf k ++ ⟨#[32]⟩).data.toList) ++ Lib.itoa (if k = 4 then e else m) ++ (⟨#[10]⟩ : ByteArray).data.toList

theorem text_ok (k m e : Int) (al a2 a : Option Addr) (nA cA n2 c2 n c : Nat) (w : World) (hm : I64 m) (he : I64 e) (hA : IntRow 6 w al nA) (hL : IntRow 1 w a2 n2) (hV : IntRow 3 w a n) (hn : nA ≤ 60)
    (hT : Tab w.heap.size w) (h6 : 6 ≤ w.heap.size) : Calls Tryz.prog 6 #[.agg (imOf a n c), .slice a2 n2 c2, .agg (verOf k m e al nA cA)] w fun r w' => ∃ rest : List UInt8,
      r = .returned (.string ⟨(headOf k m e ++ rest).toArray⟩) ∧ rest.count 10 = nA ∧ rest.length ≤ 200 * nA ∧ (rest = [] ∨ rest.getLast? = some 10) ∧ Below w.heap.size w w' := by
  have hsz : (nameOf k).size ≤ 5 := by unfold nameOf; repeat' (first | decide | split)
  have hl1 : ([] : List UInt8).length + (nameOf k ++ (⟨#[32]⟩ : ByteArray)).size ≤ 1000000 := by
    rw [ByteArray.size_append]; show 0 + ((nameOf k).size + 1) ≤ _; omega
  have hl2 : ([] ++ (nameOf k ++ (⟨#[32]⟩ : ByteArray)).data.toList).length ≤ 1000000 := by
    rw [List.nil_append, Array.length_toList]
    show (nameOf k ++ (⟨#[32]⟩ : ByteArray)).size ≤ 1000000
    rw [ByteArray.size_append]
    show (nameOf k).size + 1 ≤ 1000000
    omega
  have hS0 := St.first (k := k) (m := m) (e := e) (al := al) (nA := nA) (cA := cA) (a := a) (n := n) (c := c) hT
  go_enter Tryz.func6, Tryz.ntmps6
  go_wp2_with (first
    | (go_at_call 7; refine (name_ok k _).mono ?_; rintro e' w1 ⟨rfl, rfl⟩)
    | (go_at_call 11; refine (say_ok (w.heap.size + 2) [] _ _ hS0.b hl1).mono ?_; rintro e' w1 ⟨rfl, hb1, hf1⟩; refine Hid.out ?_))
  have hS1 := hS0.to hb1 hf1
  obtain ⟨v0, v1, v2, v3⟩ := hS1.vc
  clear hb1 hf1 hS0
  refine Lib.hid ?_
  have hl3 : ([] ++ (nameOf k ++ (⟨#[32]⟩ : ByteArray)).data.toList).length ≤ 6 := by
    rw [List.nil_append, Array.length_toList]
    show (nameOf k ++ (⟨#[32]⟩ : ByteArray)).size ≤ 6
    rw [ByteArray.size_append]
    show (nameOf k).size + 1 ≤ 6
    omega
  by_cases h4 : k = 4
  · subst h4
    have hx := Lib.itoa_length_le e he.1 he.2
    go_wp2_with (go_at_call 12; refine (number_ok (w.heap.size + 2) _ e he.1 he.2 _ hS1.b hS1.tab hl2).mono ?_; rintro e' w2 ⟨rfl, hb2, hf2⟩; refine Hid.out ?_)
    have hS2 := hS1.to hb2 hf2
    clear v0 v1 v2 v3 hb2 hf2 hS1
    obtain ⟨v0, v1, v2, v3⟩ := hS2.vc
    refine Lib.hid ?_
    go_wp2_with (go_at_call 11; refine (say_ok (w.heap.size + 2) _ _ _ hS2.b (by rw [List.length_append]; show _ + 1 ≤ _; omega)).mono ?_; rintro e' w3 ⟨rfl, hb3, hf3⟩; refine Hid.out ?_)
    have hS3 := hS2.to hb3 hf3
    clear v0 v1 v2 v3 hb3 hf3 hS2
    obtain ⟨v0, v1, v2, v3⟩ := hS3.vc
    refine Lib.hid ?_
    go_wp2
    have hlen : (([] ++ (nameOf 4 ++ (⟨#[32]⟩ : ByteArray)).data.toList) ++ Lib.itoa e ++ (⟨#[10]⟩ : ByteArray).data.toList).length ≤ 100 := by
      rw [List.length_append, List.length_append]; show _ + 1 ≤ _; omega
    refine loop_ok (w0 := w) (hd := ([] ++ (nameOf 4 ++ (⟨#[32]⟩ : ByteArray)).data.toList) ++ Lib.itoa e ++ (⟨#[10]⟩ : ByteArray).data.toList) (a := a) (n := n) (c := c) (m := m) (k := 4) (e := e) hlen hn hA hL hV h6 ⟨_, hS3, [], (List.append_nil _).symm, rfl, Nat.le_refl _, fun _ => .inl rfl⟩ ?_
    clear v0 v1 v2 v3 hS3
    intro z11 z12 z14 z40 z41 z42 z43 z44 z45 z46 z47 z48 z49 z50 z51 z52 z53 z54 z55 z56 z57 z58 z59 z60 z61 z62 z63 z64 z65 z66 z67 z68 z69 z70 z71 z72 z73 z74 z75 z76 z77 z78 z79 z80 z81 z82 z83 z84 z85 z86 z87 z88 z89 z90 z91 z92 z93 z94 z95 z96 z97 z98 z99 z100 z101 z102 z103 z104 z105 z106 z107 z108 z109 z110 z111 z112 w4 hS4
    obtain ⟨bs, hS5, rest, rfl, hr1, hr2, hr3⟩ := hS4
    obtain ⟨sv, hb4, hown⟩ := hS5.b
    have cb := cell_of_one hb4
    have hbel := hS5.bel
    clear hS5
    have hne : 0 < (([] ++ (nameOf 4 ++ (⟨#[32]⟩ : ByteArray)).data.toList) ++ Lib.itoa e ++ (⟨#[10]⟩ : ByteArray).data.toList ++ rest).length := by
      rw [List.length_append, List.length_append]; show 0 < _ + 1 + _; omega
    obtain ⟨l, hl⟩ : ∃ l, l = ([] ++ (nameOf 4 ++ (⟨#[32]⟩ : ByteArray)).data.toList) ++ Lib.itoa e ++ (⟨#[10]⟩ : ByteArray).data.toList ++ rest := ⟨_, rfl⟩
    rw [← hl] at hown hne
    have HL := Lib.hid hl
    clear hl
    rcases hown.2 with ⟨_, h0⟩ | ⟨g, cap, cur, rfl, _⟩
    · omega
    have hcv := run_convert_bytes_back (P := Tryz.prog) w4 42 9 5 ⟨g, 0, none⟩ cap l Tryz.underlying42 Tryz.underlying5 Tryz.underlying9 (fun j hj => hown.cells (g := g) rfl j _ (by simp [Lib.byteCells, hj]))
    go_wp2
    go_ret
    have hl := HL.out
    subst hl
    refine ⟨rest, ?_, hr1, hr2, hr3 (by trivial), hbel⟩
    simp [headOf]
  · skip
    have hx := Lib.itoa_length_le m hm.1 hm.2
    go_wp2_with (go_at_call 12; refine (number_ok (w.heap.size + 2) _ m hm.1 hm.2 _ hS1.b hS1.tab hl2).mono ?_; rintro e' w2 ⟨rfl, hb2, hf2⟩; refine Hid.out ?_)
    have hS2 := hS1.to hb2 hf2
    clear v0 v1 v2 v3 hb2 hf2 hS1
    obtain ⟨v0, v1, v2, v3⟩ := hS2.vc
    refine Lib.hid ?_
    go_wp2_with (go_at_call 11; refine (say_ok (w.heap.size + 2) _ _ _ hS2.b (by rw [List.length_append]; show _ + 1 ≤ _; omega)).mono ?_; rintro e' w3 ⟨rfl, hb3, hf3⟩; refine Hid.out ?_)
    have hS3 := hS2.to hb3 hf3
    clear v0 v1 v2 v3 hb3 hf3 hS2
    obtain ⟨v0, v1, v2, v3⟩ := hS3.vc
    refine Lib.hid ?_
    go_wp2
    have hlen : (([] ++ (nameOf k ++ (⟨#[32]⟩ : ByteArray)).data.toList) ++ Lib.itoa m ++ (⟨#[10]⟩ : ByteArray).data.toList).length ≤ 100 := by
      rw [List.length_append, List.length_append]; show _ + 1 ≤ _; omega
    refine loop_ok (w0 := w) (hd := ([] ++ (nameOf k ++ (⟨#[32]⟩ : ByteArray)).data.toList) ++ Lib.itoa m ++ (⟨#[10]⟩ : ByteArray).data.toList) (a := a) (n := n) (c := c) (m := m) (k := k) (e := e) hlen hn hA hL hV h6 ⟨_, hS3, [], (List.append_nil _).symm, rfl, Nat.le_refl _, fun _ => .inl rfl⟩ ?_
    clear v0 v1 v2 v3 hS3
    intro z11 z12 z14 z40 z41 z42 z43 z44 z45 z46 z47 z48 z49 z50 z51 z52 z53 z54 z55 z56 z57 z58 z59 z60 z61 z62 z63 z64 z65 z66 z67 z68 z69 z70 z71 z72 z73 z74 z75 z76 z77 z78 z79 z80 z81 z82 z83 z84 z85 z86 z87 z88 z89 z90 z91 z92 z93 z94 z95 z96 z97 z98 z99 z100 z101 z102 z103 z104 z105 z106 z107 z108 z109 z110 z111 z112 w4 hS4
    obtain ⟨bs, hS5, rest, rfl, hr1, hr2, hr3⟩ := hS4
    obtain ⟨sv, hb4, hown⟩ := hS5.b
    have cb := cell_of_one hb4
    have hbel := hS5.bel
    clear hS5
    have hne : 0 < (([] ++ (nameOf k ++ (⟨#[32]⟩ : ByteArray)).data.toList) ++ Lib.itoa m ++ (⟨#[10]⟩ : ByteArray).data.toList ++ rest).length := by
      rw [List.length_append, List.length_append]; show 0 < _ + 1 + _; omega
    obtain ⟨l, hl⟩ : ∃ l, l = ([] ++ (nameOf k ++ (⟨#[32]⟩ : ByteArray)).data.toList) ++ Lib.itoa m ++ (⟨#[10]⟩ : ByteArray).data.toList ++ rest := ⟨_, rfl⟩
    rw [← hl] at hown hne
    have HL := Lib.hid hl
    clear hl
    rcases hown.2 with ⟨_, h0⟩ | ⟨g, cap, cur, rfl, _⟩
    · omega
    have hcv := run_convert_bytes_back (P := Tryz.prog) w4 42 9 5 ⟨g, 0, none⟩ cap l Tryz.underlying42 Tryz.underlying5 Tryz.underlying9 (fun j hj => hown.cells (g := g) rfl j _ (by simp [Lib.byteCells, hj]))
    go_wp2
    go_ret
    have hl := HL.out
    subst hl
    refine ⟨rest, ?_, hr1, hr2, hr3 (by trivial), hbel⟩
    simp [headOf, h4]
end Go.Proofs.YtbkjelhkjncfkaaGreatDoor

/-
  ReportLines' count of line ends and blanks, in plain lists. No statement of the program is claimed here.
-/
namespace Go.Proofs.YtbkjelhkjncfkaaGreatDoor
open Go.Proofs Go.Shelf Go.RowKit
set_option maxRecDepth 100000

def cstep (p : Nat × Nat) (c : UInt8) : Nat × Nat := if c = 10 then (p.1 + 1, p.2) else if c = 32 ∧ p.1 = 0 then (p.1, p.2 + 1) else p
def scanB (l : List UInt8) : Nat × Nat := l.foldl cstep (0, 0)
theorem fold_plain : ∀ (l : List UInt8) (p : Nat × Nat), (∀ c ∈ l, c ≠ 10 ∧ c ≠ 32) → l.foldl cstep p = p
  | [], _, _ => rfl
  | c :: l, p, h => by
    obtain ⟨h1, h2⟩ := h c (.head _)
    rw [List.foldl_cons, show cstep p c = p by unfold cstep; rw [if_neg h1, if_neg (fun e => h2 e.1)]]
    exact fold_plain l p fun c hc => h c (.tail _ hc)
theorem fold_behind : ∀ (l : List UInt8) (a b : Nat), l.foldl cstep (a + 1, b) = (a + 1 + l.count 10, b)
  | [], _, _ => rfl
  | c :: l, a, b => by
    rw [List.foldl_cons]
    by_cases h : c = 10
    · subst h
      rw [show cstep (a + 1, b) 10 = (a + 1 + 1, b) from rfl, fold_behind l (a + 1) b, List.count_cons_self]
      exact Prod.ext (by show _ = _; omega) rfl
    · rw [show cstep (a + 1, b) c = (a + 1, b) by unfold cstep; rw [if_neg h, if_neg (fun e => absurd e.2 (Nat.succ_ne_zero a))], fold_behind l a b, List.count_cons_of_ne (fun e => h e)]
theorem scan_text (nm dg rest : List UInt8) (h1 : ∀ c ∈ nm, c ≠ 10 ∧ c ≠ 32) (h2 : ∀ c ∈ dg, c ≠ 10 ∧ c ≠ 32) : scanB (nm ++ [32] ++ dg ++ [10] ++ rest) = (rest.count 10 + 1, 1) := by
  unfold scanB
  rw [List.foldl_append, List.foldl_append, List.foldl_append, List.foldl_append, fold_plain nm _ h1]
  rw [show ([32] : List UInt8).foldl cstep (0, 0) = (0, 1) from rfl, fold_plain dg _ h2]
  rw [show ([10] : List UInt8).foldl cstep (0, 1) = (0 + 1, 1) from rfl, fold_behind]
  exact Prod.ext (by show _ = _; omega) rfl
theorem scan_succ (l : List UInt8) (i : Nat) (hi : i < l.length) : scanB (l.take (i + 1)) = cstep (scanB (l.take i)) l[i] := by
  unfold scanB
  rw [List.take_succ_eq_append_getElem hi, List.foldl_append]
  rfl
theorem scan_le : ∀ (l : List UInt8) (p : Nat × Nat), (l.foldl cstep p).1 ≤ p.1 + l.length ∧ (l.foldl cstep p).2 ≤ p.2 + l.length
  | [], _ => ⟨Nat.le_refl _, Nat.le_refl _⟩
  | c :: l, p => by
    have h := scan_le l (cstep p c)
    have hc : (cstep p c).1 ≤ p.1 + 1 ∧ (cstep p c).2 ≤ p.2 + 1 := by
      unfold cstep
      split
      · exact ⟨Nat.le_refl _, Nat.le_succ _⟩
      · split
        · exact ⟨Nat.le_succ _, Nat.le_refl _⟩
        · exact ⟨Nat.le_succ _, Nat.le_succ _⟩
    rw [List.foldl_cons, List.length_cons]
    omega
theorem name_plain (k : Int) : ∀ c ∈ (nameOf k).data.toList, c ≠ 10 ∧ c ≠ 32 := by
  intro c hc
  have h : ∀ x ∈ (nameOf k).data.toList, (x != 10 && x != 32) = true := by
    rw [← List.all_eq_true]
    unfold nameOf
    repeat' (first | decide | split)
  have := h c hc
  simpa using this
theorem itoa_plain (i : Int) : ∀ c ∈ Lib.itoa i, c ≠ 10 ∧ c ≠ 32 := by
  intro c hc
  have := itoa_sign i c hc
  constructor
  · rintro rfl; exact absurd this (by decide)
  · rintro rfl; exact absurd this (by decide)
theorem head_eq (k m e : Int) : headOf k m e = (nameOf k).data.toList ++ [32] ++ Lib.itoa (if k = 4 then e else m) ++ [10] := by
  unfold headOf
  rw [List.nil_append, ByteArray.data_append, Array.toList_append]
theorem head_scan (k m e : Int) (rest : List UInt8) : scanB (headOf k m e ++ rest) = (rest.count 10 + 1, 1) := by
  rw [head_eq]
  exact scan_text _ _ _ (name_plain k) (itoa_plain _)
theorem head_last (k m e : Int) (rest : List UInt8) (h : rest = [] ∨ rest.getLast? = some 10) : (headOf k m e ++ rest).getLast? = some 10 := by
  rcases h with rfl | h
  · rw [List.append_nil, head_eq, List.getLast?_append]; rfl
  · rw [List.getLast?_append, h]; rfl
theorem text_s (k m e : Int) (al a2 a : Option Addr) (nA cA n2 c2 n c : Nat) (w : World) (hm : I64 m) (he : I64 e) (hA : IntRow 6 w al nA) (hL : IntRow 1 w a2 n2) (hV : IntRow 3 w a n) (hn : nA ≤ 60)
    (hT : Tab w.heap.size w) (h6 : 6 ≤ w.heap.size) : Calls Tryz.prog 6 #[.agg (imOf a n c), .slice a2 n2 c2, .agg (verOf k m e al nA cA)] w fun r w' => ∃ s : ByteArray,
      r = .returned (.string s) ∧ scanB s.data.toList = (nA + 1, 1) ∧ s.size ≤ 20000 ∧ s.data.toList.getLast? = some 10 ∧ (∃ t, s.data.toList = (nameOf k ++ (⟨#[32]⟩ : ByteArray)).data.toList ++ t ∧ t ≠ []) ∧ Below w.heap.size w w' := by
  refine (text_ok k m e al a2 a nA cA n2 c2 n c w hm he hA hL hV hn hT h6).mono ?_
  rintro r w' ⟨rest, rfl, r1, r2, r3, hb⟩
  have hx := Lib.itoa_length_le (if k = 4 then e else m) (by split; exact he.1; exact hm.1) (by split; exact he.2; exact hm.2)
  have hsz : (nameOf k).size ≤ 5 := by unfold nameOf; repeat' (first | decide | split)
  refine ⟨_, rfl, ?_, ?_, ?_, ?_, hb⟩
  · rw [← r1]; exact head_scan k m e rest
  · show (headOf k m e ++ rest).toArray.size ≤ _
    rw [List.size_toArray, head_eq]
    simp only [List.length_append, List.length_cons, List.length_nil, Array.length_toList]
    have : (nameOf k).data.size ≤ 5 := hsz
    omega
  · exact head_last k m e rest r3
  · refine ⟨Lib.itoa (if k = 4 then e else m) ++ [10] ++ rest, ?_, by simp⟩
    show headOf k m e ++ rest = _
    rw [head_eq, ByteArray.data_append, Array.toList_append]
    simp
theorem extract_pre (s nm : ByteArray) (t : List UInt8) (h : s.data.toList = nm.data.toList ++ t) (n : Nat) (hn : n = nm.size) : s.extract 0 n = nm := by
  subst hn
  apply ByteArray.ext
  apply Array.ext'
  rw [ByteArray.data_extract, Array.toList_extract, h]
  show ((nm.data.toList ++ t).drop 0).take (nm.size - 0) = _
  rw [List.drop_zero, Nat.sub_zero]
  exact List.take_left' Array.length_toList
end Go.Proofs.YtbkjelhkjncfkaaGreatDoor

/-
  ReportLines by a contract of its own. No statement of the program is claimed here.
-/
namespace Go.Proofs.YtbkjelhkjncfkaaGreatDoor
open Go.Proofs Go.Shelf Go.RowKit
set_option maxRecDepth 100000

set_option maxHeartbeats 3000000 in
theorem law_ok (k m e : Int) (al a2 a : Option Addr) (nA cA n2 c2 n c : Nat) (w : World) (hm : I64 m) (he : I64 e) (hA : IntRow 6 w al nA) (hL : IntRow 1 w a2 n2) (hV : IntRow 3 w a n)
    (hT : Tab w.heap.size w) (h6 : 6 ≤ w.heap.size) (hlive : ∀ w1, Below w.heap.size w w1 → Calls Tryz.prog 4 #[] w1 fun r w2 => r = .returned (.bool true) ∧ Below w1.heap.size w1 w2) :
    Calls Tryz.prog 3 #[.slice a n c, .agg (verOf k m e al nA cA), .slice a2 n2 c2] w fun r w' => r = .returned (.bool true) ∧ Below w.heap.size w w' := by
  have hb0 : Below w.heap.size w (w.alloc (.cells (verOf k m e al nA cA) 26)) := (Below.refl _ _).alloc (Nat.le_refl _) _
  have hv0 : (w.alloc (.cells (verOf k m e al nA cA) 26)).heap[w.heap.size]? = some (.cells (verOf k m e al nA cA) 26 (0, 0)) := heap_alloc_new _ _
  go_enter Tryz.func3, Tryz.ntmps3
  go_wp2_with (go_at_call 4; refine (hlive _ hb0).mono ?_; rintro e' w1 ⟨rfl, hb1⟩; refine Hid.out ?_)
  have hB1 := hb0.trans (hb1.mono (by simp))
  have hv1 := (hb1.block _ (lt_of_block hv0)).trans hv0
  clear hb1 hv0 hb0 hlive
  have c0 := block_cell hv1 0
  have c1 := block_cell hv1 1
  have c2' := block_cell hv1 2
  have c3 := block_cell hv1 3
  refine Lib.hid ?_
  go_wp2_with (go_at_call 5; refine (light_ok k m e al nA cA _).mono ?_; rintro e' w2 ⟨rfl, hb2⟩; refine Hid.out ?_)
  have hB2 := hB1.trans (hb2.mono hB1.size)
  have hv2 := (hb2.block _ (lt_of_block hv1)).trans hv1
  clear hv1 c0 c1 c2' c3 hb2 hB1
  have c0 := block_cell hv2 0
  have c1 := block_cell hv2 1
  have c2' := block_cell hv2 2
  have c3 := block_cell hv2 3
  by_cases hn : ¬ nA ≤ 60
  · refine Lib.hid ?_
    go_wp2
    go_ret
    exact ⟨rfl, hB2⟩
  have hn : nA ≤ 60 := by omega
  by_cases hn2 : 60 < n2
  · refine Lib.hid ?_
    go_wp2
    go_ret
    exact ⟨rfl, hB2⟩
  by_cases hn1 : 60 < n
  · refine Lib.hid ?_
    go_wp2
    go_ret
    exact ⟨rfl, hB2⟩
  refine Lib.hid ?_
  go_wp2_with (go_at_call 6; refine (text_s k m e al a2 a nA cA n2 c2 n c _ hm he (hA.bel hB2) (hL.bel hB2) (hV.bel hB2) hn (tabBelow_up (Lib.TabBelow.on hT hB2) hB2.size) (Nat.le_trans h6 hB2.size)).mono ?_; rintro e' w3 ⟨s, rfl, s1, s2, s3, s4, hb3⟩; refine Hid.out ?_)
  have hB3 := hB2.trans (hb3.mono hB2.size)
  have hv3 := (hb3.block _ (lt_of_block hv2)).trans hv2
  clear hv2 c0 c1 c2' c3 hb3 hB2
  have c0 := block_cell hv3 0
  have c1 := block_cell hv3 1
  have c2' := block_cell hv3 2
  have c3 := block_cell hv3 3
  have S1 := Lib.hid s1
  have S3 := Lib.hid s3
  have S4 := Lib.hid s4
  clear s1 s3 s4
  refine Lib.hid ?_
  go_wp2
  go_loopw [8, 9, 10] (fun v8 v9 v10 wr => ∃ i E B : Nat, i ≤ s.size ∧ v10 = .int .i64 i ∧ v8 = .int .i64 E ∧ v9 = .int .i64 B ∧ Hid (scanB (s.data.toList.take i) = (E, B)) ∧ E ≤ i ∧ B ≤ i ∧ wr = w3) (fun _ _ v10 _ => s.size - (intOf v10).toNat)
  case atStart => exact ⟨0, 0, 0, Nat.zero_le _, rfl, rfl, rfl, Lib.hid rfl, Nat.le_refl _, Nat.le_refl _, rfl⟩
  case round =>
    obtain ⟨i, E, B, hi, rfl, rfl, rfl, hsc, hE, hB, rfl⟩ := hrel
    by_cases hik : ¬ i < s.size
    · obtain rfl : i = s.size := by omega
      have hEB : E = nA + 1 ∧ B = 1 := by
        have h1 := hsc.out
        rw [List.take_of_length_le (by rw [Array.length_toList]; exact Nat.le_refl _), S1.out] at h1
        cases h1
        exact ⟨rfl, rfl⟩
      obtain ⟨rfl, rfl⟩ := hEB
      clear hsc S1
      obtain ⟨t, ht, htn⟩ := S4.out
      have hnm : (nameOf k ++ (⟨#[32]⟩ : ByteArray)).size < s.size := by
        have h1 : s.data.toList.length = (nameOf k ++ (⟨#[32]⟩ : ByteArray)).data.toList.length + t.length := by rw [ht, List.length_append]
        rw [Array.length_toList, Array.length_toList] at h1
        have : 0 < t.length := List.length_pos_iff.2 htn
        show (nameOf k ++ (⟨#[32]⟩ : ByteArray)).data.size < s.data.size
        omega
      have hex : s.extract 0 ((nameOf k).size + 1) = nameOf k ++ (⟨#[32]⟩ : ByteArray) := by
        exact extract_pre s _ t ht _ (by rw [ByteArray.size_append]; rfl)
      have hex' := Lib.hid hex
      have hnm' : (nameOf k).size + 1 < s.size := by rw [ByteArray.size_append] at hnm; exact hnm
      have hlast : (s[s.size - 1]'(by omega)).toNat = 10 := by
        have h1 := S3.out
        rw [List.getLast?_eq_getElem?, Array.length_toList] at h1
        have h2 : s.data.toList[s.data.size - 1]? = some (s[s.size - 1]'(by omega)) := by
          rw [List.getElem?_eq_getElem (by rw [Array.length_toList]; show s.size - 1 < s.size; omega)]
          exact congrArg some (Array.getElem_toList _)
        rw [h2] at h1
        rw [Option.some.inj h1]
        rfl
      clear ht htn S4 S3 hex hnm
      go_wp2_with (go_at_call 7; refine (name_ok k _).mono ?_; rintro e' w' ⟨rfl, rfl⟩; refine Hid.out ?_)
      refine Lib.hid ?_
      go_wp2
      go_ret
      refine ⟨?_, hB3⟩
      have hex := hex'.out
      show Ending.returned (Value.bool ((s.extract 0 ((nameOf k).size + 1)).toList == (nameOf k ++ (⟨#[32]⟩ : ByteArray)).toList)) = _
      rw [hex, beq_self_eq_true]
    have hik : i < s.size := by omega
    have hnext : ∀ E' B' : Nat, cstep (E, B) s[i] = (E', B') → Hid (scanB (s.data.toList.take (i + 1)) = (E', B')) := fun E' B' h => by
      refine Lib.hid ?_
      rw [scan_succ _ i (by rw [Array.length_toList]; exact hik), hsc.out]
      exact h
    have hget : ∀ x : Nat, s[i].toNat = x → s[i] = UInt8.ofNat x := fun x h => by rw [← h]; simp
    rcases (show s[i].toNat = 10 ∨ (s[i].toNat = 32 ∧ E = 0) ∨ (s[i].toNat = 32 ∧ 0 < E) ∨ (s[i].toNat ≠ 10 ∧ s[i].toNat ≠ 32) by omega) with h | ⟨h, rfl⟩ | ⟨h, hE0⟩ | ⟨h, h'⟩
    · have hn1 := hnext (E + 1) B (by rw [hget _ h]; rfl)
      clear hnext hget hsc
      go_wp2
      go_roundw
      case rel => exact ⟨i + 1, E + 1, B, by omega, by simp, by simp, by simp, hn1, by omega, by omega, trivial⟩
      case measure => simp [intOf]; omega
    · have hn1 := hnext 0 (B + 1) (by rw [hget _ h]; rfl)
      clear hnext hget hsc
      go_wp2
      go_roundw
      case rel => exact ⟨i + 1, 0, B + 1, by omega, by simp, by simp, by simp, hn1, by omega, by omega, trivial⟩
      case measure => simp [intOf]; omega
    · have hn1 := hnext E B (by rw [hget _ h]; unfold cstep; rw [if_neg (by decide), if_neg (fun e => absurd e.2 (Nat.ne_of_gt hE0))])
      clear hnext hget hsc
      go_wp2
      go_roundw
      case rel => exact ⟨i + 1, E, B, by omega, by simp, by simp, by simp, hn1, by omega, by omega, trivial⟩
      case measure => simp [intOf]; omega
    · have hn1 := hnext E B (by unfold cstep; rw [if_neg (fun e => h (by rw [e]; rfl)), if_neg (fun e => h' (by rw [e.1]; rfl))])
      clear hnext hget hsc
      go_wp2
      go_roundw
      case rel => exact ⟨i + 1, E, B, by omega, by simp, by simp, by simp, hn1, by omega, by omega, trivial⟩
      case measure => simp [intOf]; omega
end Go.Proofs.YtbkjelhkjncfkaaGreatDoor
