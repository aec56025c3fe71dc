/-
  report.Text's loop over the alarms, by a contract over its frame. Printed in part by wip/tools/mkloop6.py. No statement of the program is claimed here.
-/
import Derived.Test.YtbkjelhkjncfkaaGreatDoorRfS5
namespace Go.Proofs.YtbkjelhkjncfkaaGreatDoor
open Go.Proofs Go.Shelf Go.RowKit
set_option maxRecDepth 100000
def firstLoop : Code → Option Code
  | .loop c => some c
  | .seq a b => match firstLoop a with
    | some c => some c
    | none => firstLoop b
  | .block _ c => firstLoop c
  | .scope c => firstLoop c
  | .cond _ a b => match firstLoop a with
    | some c => some c
    | none => firstLoop b
  | _ => none
noncomputable def body6 : Code := (Tryz.f6.body.bind firstLoop).getD .skip
/-- What stands behind the third part of the round's block; behind the sixth of that. -/
def restOf : Code → Code
  | .seq _ (.seq _ (.seq (.block _ (.seq _ (.seq _ (.seq _ r)))) _)) => r
  | _ => .skip
def rest2Of : Code → Code
  | .seq _ (.seq _ (.seq _ (.seq _ (.seq _ (.seq _ r))))) => r
  | _ => .skip
noncomputable def rest6 : Code := restOf body6
noncomputable def tail26 : Code := rest2Of rest6
theorem wp_seq_h {P : Program} {x y : Code} {Q : Exit → Act → World → Prop} {a : Act} {w : World} (h : ∀ K : Act → World → Prop, Hid (∀ a w, y.wp P Q a w → K a w) → x.wp P (Exit.then K Q) a w) : (Code.seq x y).wp P Q a w :=
  wp_seq_k fun K hK => h K (Lib.hid hK)

set_option maxHeartbeats 3000000 in
set_option maxRecDepth 1000000 in
theorem tail2_ok {al a2 a : Option Addr} {nA cA n2 c2 n c : Nat} {m k e : Int} {w0 : World} {hd : List UInt8} (hd60 : hd.length ≤ 100) (hn : nA ≤ 60) (hV : IntRow 3 w0 a n) {R : Exit → Act → World → Prop} {d0 d2 d4 d5 d6 d10 d13 d15 d16 d17 d18 d19 d20 d21 d22 d23 d24 d25 d26 d27 d28 d29 d30 d31 d32 d33 d34 d35 d36 d113 d114 : Value} {u12 u14 u40 u41 u42 u43 u44 u45 u46 u47 u48 u49 u50 u51 u52 u53 u54 u55 u56 u57 u58 u59 u60 u61 u62 u63 u64 u65 u66 u67 u68 u69 u70 u71 u72 u73 u74 u75 u76 u77 u78 u79 u80 u81 u82 u83 u84 u85 u86 u87 u88 u89 u90 u91 u92 u93 u94 u95 u96 u97 u98 u99 u100 u101 u102 u103 u104 u105 u106 u107 u108 u109 u110 u111 u112 : Value} {w : World} {q : Nat} (hqN : q ≠ w0.heap.size + 2) {x0 x1 x2 x3 x4 x5 : Int} (i0 : I64 x0) (_i1 : I64 x1) (_i2 : I64 x2) (i3 : I64 x3) (i4 : I64 x4) (_i5 : I64 x5) {j l : Nat} (hjn : j < nA) (hl : l ≤ 200 * j + 72)
    (hX : SX q x0 x1 x2 x3 x4 x5 w0.heap.size a n c (verOf k m e al nA cA) w0 hd j l false w) (hR : ∀ (v11 v12 v14 v40 v41 v42 v43 v44 v45 v46 v47 v48 v49 v50 v51 v52 v53 v54 v55 v56 v57 v58 v59 v60 v61 v62 v63 v64 v65 v66 v67 v68 v69 v70 v71 v72 v73 v74 v75 v76 v77 v78 v79 v80 v81 v82 v83 v84 v85 v86 v87 v88 v89 v90 v91 v92 v93 v94 v95 v96 v97 v98 v99 v100 v101 v102 v103 v104 v105 v106 v107 v108 v109 v110 v111 v112 : Value) (w' : World), Sx w0.heap.size (imOf a n c) (verOf k m e al nA cA) w0 hd (j + 1) (200 * (j + 1)) true w' → R .normal ⟨List.toArray (d0 :: (.slice a2 n2 c2) :: d2 :: (.pointer (some ⟨w0.heap.size, 0, none⟩)) :: d4 :: d5 :: d6 :: (.pointer (some ⟨w0.heap.size + 1 + 1, 0, none⟩)) :: (.func (.func 11) #[] #[.pointer (some ⟨w0.heap.size + 1 + 1, 0, none⟩)]) :: (.func (.func 12) #[] #[.pointer (some ⟨w0.heap.size + 1 + 1, 0, none⟩)]) :: d10 :: v11 :: v12 :: d13 :: v14 :: d15 :: d16 :: d17 :: d18 :: d19 :: d20 :: d21 :: d22 :: d23 :: d24 :: d25 :: d26 :: d27 :: d28 :: d29 :: d30 :: d31 :: d32 :: d33 :: d34 :: d35 :: d36 :: (.slice al nA cA) :: (.int .i64 nA) :: (.int .i64 j) :: v40 :: v41 :: v42 :: v43 :: v44 :: v45 :: v46 :: v47 :: v48 :: v49 :: v50 :: v51 :: v52 :: v53 :: v54 :: v55 :: v56 :: v57 :: v58 :: v59 :: v60 :: v61 :: v62 :: v63 :: v64 :: v65 :: v66 :: v67 :: v68 :: v69 :: v70 :: v71 :: v72 :: v73 :: v74 :: v75 :: v76 :: v77 :: v78 :: v79 :: v80 :: v81 :: v82 :: v83 :: v84 :: v85 :: v86 :: v87 :: v88 :: v89 :: v90 :: v91 :: v92 :: v93 :: v94 :: v95 :: v96 :: v97 :: v98 :: v99 :: v100 :: v101 :: v102 :: v103 :: v104 :: v105 :: v106 :: v107 :: v108 :: v109 :: v110 :: v111 :: v112 :: d113 :: d114 :: []), []⟩ w') :
    Code.wp Tryz.prog tail26 R ⟨List.toArray (d0 :: (.slice a2 n2 c2) :: d2 :: (.pointer (some ⟨w0.heap.size, 0, none⟩)) :: d4 :: d5 :: d6 :: (.pointer (some ⟨w0.heap.size + 1 + 1, 0, none⟩)) :: (.func (.func 11) #[] #[.pointer (some ⟨w0.heap.size + 1 + 1, 0, none⟩)]) :: (.func (.func 12) #[] #[.pointer (some ⟨w0.heap.size + 1 + 1, 0, none⟩)]) :: d10 :: (.pointer (some ⟨q, 0, none⟩)) :: u12 :: d13 :: u14 :: d15 :: d16 :: d17 :: d18 :: d19 :: d20 :: d21 :: d22 :: d23 :: d24 :: d25 :: d26 :: d27 :: d28 :: d29 :: d30 :: d31 :: d32 :: d33 :: d34 :: d35 :: d36 :: (.slice al nA cA) :: (.int .i64 nA) :: (.int .i64 j) :: u40 :: u41 :: u42 :: u43 :: u44 :: u45 :: u46 :: u47 :: u48 :: u49 :: u50 :: u51 :: u52 :: u53 :: u54 :: u55 :: u56 :: u57 :: u58 :: u59 :: u60 :: u61 :: u62 :: u63 :: u64 :: u65 :: u66 :: u67 :: u68 :: u69 :: u70 :: u71 :: u72 :: u73 :: u74 :: u75 :: u76 :: u77 :: u78 :: u79 :: u80 :: u81 :: u82 :: u83 :: u84 :: u85 :: u86 :: u87 :: u88 :: u89 :: u90 :: u91 :: u92 :: u93 :: u94 :: u95 :: u96 :: u97 :: u98 :: u99 :: u100 :: u101 :: u102 :: u103 :: u104 :: u105 :: u106 :: u107 :: u108 :: u109 :: u110 :: u111 :: u112 :: d113 :: d114 :: []), []⟩ w := by
  conv => arg 2; whnf
  refine wp_seq_h fun K hK => ?_
  obtain ⟨q0, q1, q2, q3, q4, q5⟩ := six_cells hX.2
  by_cases hk4 : x0 = 4
  · subst hk4
    have hR' := Lib.hid hR
    clear hR
    go_wp2
    clear q0 q1 q2 q3 q4 q5
    go_region_held3 (fun w' => w'.cell? ⟨q, 3, none⟩ = some (.int .i64 x3) ∧ w'.cell? ⟨q, 4, none⟩ = some (.int .i64 x4) ∧ w'.cell? ⟨q, 5, none⟩ = some (.int .i64 x5) ∧
        w'.cell? ⟨w0.heap.size, 0, none⟩ = some (.slice none 0 0) ∧ w'.cell? ⟨w0.heap.size, 1, none⟩ = some (.slice none 0 0) ∧ w'.cell? ⟨w0.heap.size, 2, none⟩ = some (.slice a n c) ∧ w'.cell? ⟨w0.heap.size, 3, none⟩ = some (.int .i64 0) ∧ w'.cell? ⟨w0.heap.size, 4, none⟩ = some (.slice none 0 0) ∧ w'.cell? ⟨w0.heap.size, 5, none⟩ = some (.slice none 0 0) ∧ w'.cell? ⟨w0.heap.size, 6, none⟩ = some (.int .i64 0) ∧ w'.cell? ⟨w0.heap.size, 7, none⟩ = some (.slice none 0 0) ∧
        SX q 4 x1 x2 x3 x4 x5 w0.heap.size a n c (verOf k m e al nA cA) w0 hd j l false w')
      ((go_split_ands; first | exact SX.all (by assumption) | exact SX.all (SX.drew (by assumption)) | exact SX.all (SX.up (by assumption) hbL) | exact SX.all (SX.alloc (by assumption) _)))
      ((go_at_call 15; refine (line_ok a n c _ _ ?_).mono ?_; (go_split_ands; exact hV.bel (SX.bel (by assumption))); rintro e' w' ⟨⟨yL, rfl, hyL⟩, hbL⟩))
    go_split_ands
    have hX1 : SX q 4 x1 x2 x3 x4 x5 w0.heap.size a n c (verOf k m e al nA cA) w0 hd j l false (w'.alloc (.cells #[.int .i64 x3, .int .i64 x4, .int .i64 yL] 3)) := by assumption
    have hrN : w'.heap.size ≠ w0.heap.size + 2 := by have := (hX.drew.up hbL).1.lt; omega
    have hrow := heap_alloc_new w' (.cells #[.int .i64 x3, .int .i64 x4, .int .i64 yL] 3)
    clear hX
    go_wp2
    go_loopw [100] (fun i wr => ∃ t : Nat, t ≤ 3 ∧ i = .int .i64 t ∧ SX q 4 x1 x2 x3 x4 x5 w0.heap.size a n c (verOf k m e al nA cA) w0 hd j (l + 22 * t) false wr ∧ wr.heap[w'.heap.size]? = some (.cells #[.int .i64 x3, .int .i64 x4, .int .i64 yL] 3 (0, 0))) (fun i _ => 3 - (intOf i).toNat)
    case atStart => exact ⟨0, Nat.zero_le _, rfl, hX1, hrow⟩
    case round =>
      obtain ⟨t, ht, rfl, hS0, hr0⟩ := hrel
      clear hX1 hrow
      by_cases ht3 : ¬ t < 3
      · obtain rfl : t = 3 := by omega
        go_wp2
        refine hK.out _ _ ?_
        have hR := hR'.out
        clear hK hR'
        go_wp2_with (go_at_call 11; refine (end_x hS0.1 (by omega)).mono ?_; rintro e' w1 ⟨rfl, hS1, hf1⟩)
        exact hS1.le (by omega)
      obtain ⟨z, hz, hz64⟩ : ∃ z : Int, wr.cell? ⟨w'.heap.size, t, none⟩ = some (.int .i64 z) ∧ I64 z := by
        have ht3 : t < 3 := by omega
        match t, ht3 with
        | 0, _ => exact ⟨x3, block_cell hr0 0, i3⟩
        | 1, _ => exact ⟨x4, block_cell hr0 1, i4⟩
        | 2, _ => exact ⟨yL, block_cell hr0 2, hyL⟩
      have ht3 : t < 3 := by omega
      clear hR' hK
      go_wp2_with (go_at_call 11; refine (say_x hS0.1 ⟨#[32]⟩ rfl 1 (Nat.le_refl _) (by omega)).mono ?_; rintro e' w1 ⟨rfl, hS1, hf1⟩; refine Hid.out ?_)
      have hr1 := hf1.box hr0 hrN (by decide)
      have hq1 := hf1.box hS0.2 hqN (by decide)
      clear hz hf1 hS0 hr0
      refine Lib.hid ?_
      go_wp2_with (go_at_call 12; refine (number_x hS1 z hz64 (by omega)).mono ?_; rintro e' w2 ⟨rfl, hS2, hf2⟩; refine Hid.out ?_)
      have hr2 := hf2.box hr1 hrN (by decide)
      have hq2 := hf2.box hq1 hqN (by decide)
      clear hf2 hS1 hr1 hq1
      refine Lib.hid ?_
      go_wp2
      go_roundw
      case rel => exact ⟨t + 1, by omega, by simp, ⟨hS2.le (by omega), hq2⟩, hr2⟩
      case measure => simp [intOf]; omega
  · go_wp2
    refine hK.out _ _ ?_
    clear hK
    go_wp2_with (go_at_call 11; refine (end_x hX.1 (by omega)).mono ?_; rintro e' w1 ⟨rfl, hS1, hf1⟩)
    exact hS1.le (by omega)
set_option maxHeartbeats 3000000 in
set_option maxRecDepth 1000000 in
theorem tail_ok {al a2 a : Option Addr} {nA cA n2 c2 n c : Nat} {m k e : Int} {w0 : World} {hd : List UInt8} (hd60 : hd.length ≤ 100) (hn : nA ≤ 60) (hV : IntRow 3 w0 a n) (h6 : 6 ≤ w0.heap.size) {R : Exit → Act → World → Prop} {d0 d2 d4 d5 d6 d10 d13 d15 d16 d17 d18 d19 d20 d21 d22 d23 d24 d25 d26 d27 d28 d29 d30 d31 d32 d33 d34 d35 d36 d113 d114 : Value} {u14 u40 u41 u42 u43 u44 u45 u46 u47 u48 u49 u50 u51 u52 u53 u54 u55 u56 u57 u58 u59 u60 u61 u62 u63 u64 u65 u66 u67 u68 u69 u70 u71 u72 u73 u74 u75 u76 u77 u78 u79 u80 u81 u82 u83 u84 u85 u86 u87 u88 u89 u90 u91 u92 u93 u94 u95 u96 u97 u98 u99 u100 u101 u102 u103 u104 u105 u106 u107 u108 u109 u110 u111 u112 : Value} {w : World} {q : Nat} (hqN : q ≠ w0.heap.size + 2) {x0 x1 x2 x3 x4 x5 : Int} (i0 : I64 x0) (i1 : I64 x1) (i2 : I64 x2) (i3 : I64 x3) (i4 : I64 x4) (i5 : I64 x5) {y : Int} (hy : I64 y) {j : Nat} (hjn : j < nA)
    (hX : SX q x0 x1 x2 x3 x4 x5 w0.heap.size a n c (verOf k m e al nA cA) w0 hd j (200 * j) true w) (hR : ∀ (v11 v12 v14 v40 v41 v42 v43 v44 v45 v46 v47 v48 v49 v50 v51 v52 v53 v54 v55 v56 v57 v58 v59 v60 v61 v62 v63 v64 v65 v66 v67 v68 v69 v70 v71 v72 v73 v74 v75 v76 v77 v78 v79 v80 v81 v82 v83 v84 v85 v86 v87 v88 v89 v90 v91 v92 v93 v94 v95 v96 v97 v98 v99 v100 v101 v102 v103 v104 v105 v106 v107 v108 v109 v110 v111 v112 : Value) (w' : World), Sx w0.heap.size (imOf a n c) (verOf k m e al nA cA) w0 hd (j + 1) (200 * (j + 1)) true w' → R .normal ⟨List.toArray (d0 :: (.slice a2 n2 c2) :: d2 :: (.pointer (some ⟨w0.heap.size, 0, none⟩)) :: d4 :: d5 :: d6 :: (.pointer (some ⟨w0.heap.size + 1 + 1, 0, none⟩)) :: (.func (.func 11) #[] #[.pointer (some ⟨w0.heap.size + 1 + 1, 0, none⟩)]) :: (.func (.func 12) #[] #[.pointer (some ⟨w0.heap.size + 1 + 1, 0, none⟩)]) :: d10 :: v11 :: v12 :: d13 :: v14 :: d15 :: d16 :: d17 :: d18 :: d19 :: d20 :: d21 :: d22 :: d23 :: d24 :: d25 :: d26 :: d27 :: d28 :: d29 :: d30 :: d31 :: d32 :: d33 :: d34 :: d35 :: d36 :: (.slice al nA cA) :: (.int .i64 nA) :: (.int .i64 j) :: v40 :: v41 :: v42 :: v43 :: v44 :: v45 :: v46 :: v47 :: v48 :: v49 :: v50 :: v51 :: v52 :: v53 :: v54 :: v55 :: v56 :: v57 :: v58 :: v59 :: v60 :: v61 :: v62 :: v63 :: v64 :: v65 :: v66 :: v67 :: v68 :: v69 :: v70 :: v71 :: v72 :: v73 :: v74 :: v75 :: v76 :: v77 :: v78 :: v79 :: v80 :: v81 :: v82 :: v83 :: v84 :: v85 :: v86 :: v87 :: v88 :: v89 :: v90 :: v91 :: v92 :: v93 :: v94 :: v95 :: v96 :: v97 :: v98 :: v99 :: v100 :: v101 :: v102 :: v103 :: v104 :: v105 :: v106 :: v107 :: v108 :: v109 :: v110 :: v111 :: v112 :: d113 :: d114 :: []), []⟩ w') :
    Code.wp Tryz.prog rest6 R ⟨List.toArray (d0 :: (.slice a2 n2 c2) :: d2 :: (.pointer (some ⟨w0.heap.size, 0, none⟩)) :: d4 :: d5 :: d6 :: (.pointer (some ⟨w0.heap.size + 1 + 1, 0, none⟩)) :: (.func (.func 11) #[] #[.pointer (some ⟨w0.heap.size + 1 + 1, 0, none⟩)]) :: (.func (.func 12) #[] #[.pointer (some ⟨w0.heap.size + 1 + 1, 0, none⟩)]) :: d10 :: (.pointer (some ⟨q, 0, none⟩)) :: (.int .i64 y) :: d13 :: u14 :: d15 :: d16 :: d17 :: d18 :: d19 :: d20 :: d21 :: d22 :: d23 :: d24 :: d25 :: d26 :: d27 :: d28 :: d29 :: d30 :: d31 :: d32 :: d33 :: d34 :: d35 :: d36 :: (.slice al nA cA) :: (.int .i64 nA) :: (.int .i64 j) :: u40 :: u41 :: u42 :: u43 :: u44 :: u45 :: u46 :: u47 :: u48 :: u49 :: u50 :: u51 :: u52 :: u53 :: u54 :: u55 :: u56 :: u57 :: u58 :: u59 :: u60 :: u61 :: u62 :: u63 :: u64 :: u65 :: u66 :: u67 :: u68 :: u69 :: u70 :: u71 :: u72 :: u73 :: u74 :: u75 :: u76 :: u77 :: u78 :: u79 :: u80 :: u81 :: u82 :: u83 :: u84 :: u85 :: u86 :: u87 :: u88 :: u89 :: u90 :: u91 :: u92 :: u93 :: u94 :: u95 :: u96 :: u97 :: u98 :: u99 :: u100 :: u101 :: u102 :: u103 :: u104 :: u105 :: u106 :: u107 :: u108 :: u109 :: u110 :: u111 :: u112 :: d113 :: d114 :: []), []⟩ w := by
  conv => arg 2; whnf
  have hR' := Lib.hid hR
  clear hR
  obtain ⟨hS0, hq0⟩ := hX
  have h6w : 6 ≤ w.heap.size := by have := hS0.lt; omega
  obtain ⟨q0_0, q1_0, q2_0, q3_0, q4_0, q5_0⟩ := six_cells hq0
  refine wp_seq_h fun K15 h15 => ?_
  go_wp2_with (go_at_call 14; refine (aname_ok x0 _ h6w).mono ?_; rintro e' w1 ⟨s, rfl, hs1, hs2, hb1⟩; refine Hid.out ?_)
  have hq1 := (hb1.block _ (lt_of_block hq0)).trans hq0
  have hS1 := hS0.up hb1
  have hs3 : (s ++ (⟨#[32]⟩ : ByteArray)).data.toList.count 10 = 0 := by rw [ByteArray.data_append, Array.toList_append, List.count_append, hs2]; rfl
  have hs4 : (s ++ (⟨#[32]⟩ : ByteArray)).size ≤ 7 := by rw [ByteArray.size_append]; show s.size + 1 ≤ 7; omega
  obtain ⟨q0_1, q1_1, q2_1, q3_1, q4_1, q5_1⟩ := six_cells hq1
  clear hb1 hq0 hS0 q0_0 q1_0 q2_0 q3_0 q4_0 q5_0
  refine Lib.hid ?_
  go_wp2_with (go_at_call 11; refine (say_x hS1 _ hs3 7 hs4 (by omega)).mono ?_; rintro e' w2 ⟨rfl, hS2, hf2⟩; refine Hid.out ?_)
  have hq2 := hf2.box hq1 hqN (by decide)
  obtain ⟨q0_2, q1_2, q2_2, q3_2, q4_2, q5_2⟩ := six_cells hq2
  clear hf2 hq1 hS1 q0_1 q1_1 q2_1 q3_1 q4_1 q5_1
  refine Lib.hid ?_
  go_wp2
  refine h15.out _ _ ?_
  clear h15
  clear hs1 hs2 hs3 hs4 h6w
  refine wp_seq_h fun K16 h16 => ?_
  go_wp2_with (go_at_call 12; refine (number_x hS2 y hy (by omega)).mono ?_; rintro e' w3 ⟨rfl, hS3, hf3⟩; refine Hid.out ?_)
  have hq3 := hf3.box hq2 hqN (by decide)
  obtain ⟨q0_3, q1_3, q2_3, q3_3, q4_3, q5_3⟩ := six_cells hq3
  clear hf3 hq2 hS2 q0_2 q1_2 q2_2 q3_2 q4_2 q5_2
  refine Lib.hid ?_
  go_wp2
  refine h16.out _ _ ?_
  clear h16
  refine wp_seq_h fun K17 h17 => ?_
  go_wp2_with (go_at_call 11; refine (say_x hS3 ⟨#[32]⟩ rfl 1 (Nat.le_refl _) (by omega)).mono ?_; rintro e' w4 ⟨rfl, hS4, hf4⟩; refine Hid.out ?_)
  have hq4 := hf4.box hq3 hqN (by decide)
  obtain ⟨q0_4, q1_4, q2_4, q3_4, q4_4, q5_4⟩ := six_cells hq4
  clear hf4 hq3 hS3 q0_3 q1_3 q2_3 q3_3 q4_3 q5_3
  refine Lib.hid ?_
  go_wp2
  refine h17.out _ _ ?_
  clear h17
  refine wp_seq_h fun K18 h18 => ?_
  go_wp2_with (go_at_call 12; refine (number_x hS4 _ i2 (by omega)).mono ?_; rintro e' w5 ⟨rfl, hS5, hf5⟩; refine Hid.out ?_)
  have hq5 := hf5.box hq4 hqN (by decide)
  obtain ⟨q0_5, q1_5, q2_5, q3_5, q4_5, q5_5⟩ := six_cells hq5
  clear hf5 hq4 hS4 q0_4 q1_4 q2_4 q3_4 q4_4 q5_4
  refine Lib.hid ?_
  go_wp2
  refine h18.out _ _ ?_
  clear h18
  refine wp_seq_h fun K19 h19 => ?_
  go_wp2_with (go_at_call 11; refine (say_x hS5 ⟨#[32]⟩ rfl 1 (Nat.le_refl _) (by omega)).mono ?_; rintro e' w6 ⟨rfl, hS6, hf6⟩; refine Hid.out ?_)
  have hq6 := hf6.box hq5 hqN (by decide)
  obtain ⟨q0_6, q1_6, q2_6, q3_6, q4_6, q5_6⟩ := six_cells hq6
  clear hf6 hq5 hS5 q0_5 q1_5 q2_5 q3_5 q4_5 q5_5
  refine Lib.hid ?_
  go_wp2
  refine h19.out _ _ ?_
  clear h19
  refine wp_seq_h fun K20 h20 => ?_
  by_cases hx1 : x1 = 0
  · subst hx1
    go_wp2_with (go_at_call 11; refine (say_x hS6 ⟨#[109, 97, 105, 110]⟩ rfl 4 (Nat.le_refl _) (by omega)).mono ?_; rintro e' w7 ⟨rfl, hS7, hf7⟩; refine Hid.out ?_)
    have hq7 := hf7.box hq6 hqN (by decide)
    obtain ⟨q0_7, q1_7, q2_7, q3_7, q4_7, q5_7⟩ := six_cells hq7
    clear hf7 hq6 hS6 q0_6 q1_6 q2_6 q3_6 q4_6 q5_6
    refine Lib.hid ?_
    go_wp2
    refine h20.out _ _ ?_
    clear h20
    exact tail2_ok hd60 hn hV hqN i0 i1 i2 i3 i4 i5 hjn (by omega) ⟨hS7, hq7⟩ hR'.out
  · obtain ⟨m0, m1, m2, m3, m4, m5, m6, m7⟩ := im_cells hS6.im
    go_wp2_with (go_at_call 15; refine (line_ok a n c _ _ (hV.bel hS6.bel)).mono ?_; rintro e' w7 ⟨⟨y7, rfl, hy7⟩, hb7⟩; refine Hid.out ?_)
    clear m0 m1 m2 m3 m4 m5 m6 m7
    have hq7 := (hb7.block _ (lt_of_block hq6)).trans hq6
    have hS7 := hS6.up hb7
    obtain ⟨q0_7, q1_7, q2_7, q3_7, q4_7, q5_7⟩ := six_cells hq7
    clear hb7 hq6 hS6 q0_6 q1_6 q2_6 q3_6 q4_6 q5_6
    refine Lib.hid ?_
    go_wp2_with (go_at_call 12; refine (number_x hS7 _ hy7 (by omega)).mono ?_; rintro e' w8 ⟨rfl, hS8, hf8⟩; refine Hid.out ?_)
    have hq8 := hf8.box hq7 hqN (by decide)
    obtain ⟨q0_8, q1_8, q2_8, q3_8, q4_8, q5_8⟩ := six_cells hq8
    clear hf8 hq7 hS7 q0_7 q1_7 q2_7 q3_7 q4_7 q5_7
    refine Lib.hid ?_
    go_wp2
    refine h20.out _ _ ?_
    clear h20
    exact tail2_ok hd60 hn hV hqN i0 i1 i2 i3 i4 i5 hjn (by omega) ⟨hS8, hq8⟩ hR'.out
set_option maxHeartbeats 3000000 in
set_option maxRecDepth 1000000 in
theorem loop_ok {al a2 a : Option Addr} {nA cA n2 c2 n c : Nat} {m k e : Int} {w0 : World} {hd : List UInt8} (hd60 : hd.length ≤ 100) (hn : nA ≤ 60) (hA : IntRow 6 w0 al nA) (hL : IntRow 1 w0 a2 n2) (hV : IntRow 3 w0 a n) (h6 : 6 ≤ w0.heap.size) {Q0 : Exit → Act → World → Prop} {d0 d2 d4 d5 d6 d10 d13 d15 d16 d17 d18 d19 d20 d21 d22 d23 d24 d25 d26 d27 d28 d29 d30 d31 d32 d33 d34 d35 d36 d113 d114 : Value} {u11 u12 u14 u40 u41 u42 u43 u44 u45 u46 u47 u48 u49 u50 u51 u52 u53 u54 u55 u56 u57 u58 u59 u60 u61 u62 u63 u64 u65 u66 u67 u68 u69 u70 u71 u72 u73 u74 u75 u76 u77 u78 u79 u80 u81 u82 u83 u84 u85 u86 u87 u88 u89 u90 u91 u92 u93 u94 u95 u96 u97 u98 u99 u100 u101 u102 u103 u104 u105 u106 u107 u108 u109 u110 u111 u112 : Value} {w : World} (hS : Sx w0.heap.size (imOf a n c) (verOf k m e al nA cA) w0 hd 0 0 true w)
    (hexit : ∀ (v11 v12 v14 v40 v41 v42 v43 v44 v45 v46 v47 v48 v49 v50 v51 v52 v53 v54 v55 v56 v57 v58 v59 v60 v61 v62 v63 v64 v65 v66 v67 v68 v69 v70 v71 v72 v73 v74 v75 v76 v77 v78 v79 v80 v81 v82 v83 v84 v85 v86 v87 v88 v89 v90 v91 v92 v93 v94 v95 v96 v97 v98 v99 v100 v101 v102 v103 v104 v105 v106 v107 v108 v109 v110 v111 v112 : Value) (w' : World), Sx w0.heap.size (imOf a n c) (verOf k m e al nA cA) w0 hd nA (200 * nA) true w' → Q0 (.exit 0) ⟨List.toArray (d0 :: (.slice a2 n2 c2) :: d2 :: (.pointer (some ⟨w0.heap.size, 0, none⟩)) :: d4 :: d5 :: d6 :: (.pointer (some ⟨w0.heap.size + 1 + 1, 0, none⟩)) :: (.func (.func 11) #[] #[.pointer (some ⟨w0.heap.size + 1 + 1, 0, none⟩)]) :: (.func (.func 12) #[] #[.pointer (some ⟨w0.heap.size + 1 + 1, 0, none⟩)]) :: d10 :: v11 :: v12 :: d13 :: v14 :: d15 :: d16 :: d17 :: d18 :: d19 :: d20 :: d21 :: d22 :: d23 :: d24 :: d25 :: d26 :: d27 :: d28 :: d29 :: d30 :: d31 :: d32 :: d33 :: d34 :: d35 :: d36 :: (.slice al nA cA) :: (.int .i64 nA) :: (.int .i64 nA) :: v40 :: v41 :: v42 :: v43 :: v44 :: v45 :: v46 :: v47 :: v48 :: v49 :: v50 :: v51 :: v52 :: v53 :: v54 :: v55 :: v56 :: v57 :: v58 :: v59 :: v60 :: v61 :: v62 :: v63 :: v64 :: v65 :: v66 :: v67 :: v68 :: v69 :: v70 :: v71 :: v72 :: v73 :: v74 :: v75 :: v76 :: v77 :: v78 :: v79 :: v80 :: v81 :: v82 :: v83 :: v84 :: v85 :: v86 :: v87 :: v88 :: v89 :: v90 :: v91 :: v92 :: v93 :: v94 :: v95 :: v96 :: v97 :: v98 :: v99 :: v100 :: v101 :: v102 :: v103 :: v104 :: v105 :: v106 :: v107 :: v108 :: v109 :: v110 :: v111 :: v112 :: d113 :: d114 :: []), []⟩ w') :
    Code.wp Tryz.prog (Code.loop body6) Q0 ⟨List.toArray (d0 :: (.slice a2 n2 c2) :: d2 :: (.pointer (some ⟨w0.heap.size, 0, none⟩)) :: d4 :: d5 :: d6 :: (.pointer (some ⟨w0.heap.size + 1 + 1, 0, none⟩)) :: (.func (.func 11) #[] #[.pointer (some ⟨w0.heap.size + 1 + 1, 0, none⟩)]) :: (.func (.func 12) #[] #[.pointer (some ⟨w0.heap.size + 1 + 1, 0, none⟩)]) :: d10 :: u11 :: u12 :: d13 :: u14 :: d15 :: d16 :: d17 :: d18 :: d19 :: d20 :: d21 :: d22 :: d23 :: d24 :: d25 :: d26 :: d27 :: d28 :: d29 :: d30 :: d31 :: d32 :: d33 :: d34 :: d35 :: d36 :: (.slice al nA cA) :: (.int .i64 nA) :: (.int .i64 0) :: u40 :: u41 :: u42 :: u43 :: u44 :: u45 :: u46 :: u47 :: u48 :: u49 :: u50 :: u51 :: u52 :: u53 :: u54 :: u55 :: u56 :: u57 :: u58 :: u59 :: u60 :: u61 :: u62 :: u63 :: u64 :: u65 :: u66 :: u67 :: u68 :: u69 :: u70 :: u71 :: u72 :: u73 :: u74 :: u75 :: u76 :: u77 :: u78 :: u79 :: u80 :: u81 :: u82 :: u83 :: u84 :: u85 :: u86 :: u87 :: u88 :: u89 :: u90 :: u91 :: u92 :: u93 :: u94 :: u95 :: u96 :: u97 :: u98 :: u99 :: u100 :: u101 :: u102 :: u103 :: u104 :: u105 :: u106 :: u107 :: u108 :: u109 :: u110 :: u111 :: u112 :: d113 :: d114 :: []), []⟩ w := by
  conv => arg 2; arg 1; whnf
  go_loopw [39] (fun i wr => ∃ j : Nat, j ≤ nA ∧ i = .int .i64 j ∧ Sx w0.heap.size (imOf a n c) (verOf k m e al nA cA) w0 hd j (200 * j) true wr) (fun i _ => nA - (intOf i).toNat)
  case atStart => exact ⟨0, Nat.zero_le _, rfl, hS⟩
  case round =>
    obtain ⟨j, hj, rfl, hS0⟩ := hrel
    by_cases hjn : ¬ j < nA
    · obtain rfl : j = nA := by omega
      go_wp2
      exact hS0
    have hjn : j < nA := by omega
    rcases hA with rfl | ⟨ad, rfl, hc⟩
    · omega
    obtain ⟨x0, e0, i0⟩ := hc (j * 6) (by omega)
    obtain ⟨x1, e1, i1⟩ := hc (j * 6 + 1) (by omega)
    obtain ⟨x2, e2, i2⟩ := hc (j * 6 + 2) (by omega)
    obtain ⟨x3, e3, i3⟩ := hc (j * 6 + 3) (by omega)
    obtain ⟨x4, e4, i4⟩ := hc (j * 6 + 4) (by omega)
    obtain ⟨x5, e5, i5⟩ := hc (j * 6 + 5) (by omega)
    have hlt0 := World.block_lt_of_cell? w0 _ e0
    have up : ∀ (i : Nat) (x : Value), w0.cell? (ad.add (j * 6 + i)) = some x → wr.cell? ⟨(ad.add (j * 6)).block, (ad.add (j * 6)).off + i, none⟩ = some x := fun i x hx => by
      rw [add_off ad (j * 6) i (World.cell?_spot e0)] at hx
      exact (hS0.bel.cell (p := ⟨(ad.add (j * 6)).block, (ad.add (j * 6)).off + i, none⟩) hlt0).trans hx
    have f00 := (hS0.bel.cell (p := ad.add (j * 6)) hlt0).trans e0
    have f0 := up 0 _ e0
    have f1 := up 1 _ e1
    have f2 := up 2 _ e2
    have f3 := up 3 _ e3
    have f4 := up 4 _ e4
    have f5 := up 5 _ e5
    clear e0 e1 e2 e3 e4 e5 up hlt0 hexit hS hc hj
    have hqN : wr.heap.size ≠ w0.heap.size + 2 := by have := hS0.lt; omega
    have hSa := hS0.up ((Below.refl wr.heap.size wr).alloc (Nat.le_refl _) (.cells #[.int .i64 x0, .int .i64 x1, .int .i64 x2, .int .i64 x3, .int .i64 x4, .int .i64 x5] 47))
    have hqa : (wr.alloc (.cells #[.int .i64 x0, .int .i64 x1, .int .i64 x2, .int .i64 x3, .int .i64 x4, .int .i64 x5] 47)).heap[wr.heap.size]? = some (.cells #[.int .i64 x0, .int .i64 x1, .int .i64 x2, .int .i64 x3, .int .i64 x4, .int .i64 x5] 47 (0, 0)) := heap_alloc_new _ _
    have wlt : w0.heap.size ≤ wr.heap.size := by have := hS0.lt; omega
    refine wp_seq_h fun K1 h1 => ?_
    go_wp2
    refine h1.out _ _ ?_
    clear h1
    refine wp_seq_h fun K2 h2 => ?_
    go_wp2
    refine h2.out _ _ ?_
    clear h2
    refine wp_seq_h fun K3 h3 => ?_
    refine wp_block ?_
    refine wp_seq_h fun K4 h4 => ?_
    go_wp2
    refine h4.out _ _ ?_
    clear h4
    refine wp_seq_h fun K5 h5 => ?_
    go_wp2
    refine h5.out _ _ ?_
    clear h5
    refine wp_seq_h fun K7 h7 => ?_
    clear f00 f0 f1 f2 f3 f4 f5
    obtain ⟨q0, q1, q2, q3, q4, q5⟩ := six_cells hqa
    rcases (show x2 < 0 ∨ (n2 : Int) ≤ x2 ∨ (0 ≤ x2 ∧ x2 < n2) by omega) with hx | hx | ⟨hx, hx'⟩
    · skip
      go_wp2
      refine h7.out _ _ ?_
      clear h7
      refine tail_ok hd60 hn hV h6 hqN i0 i1 i2 i3 i4 i5 (by unfold I64; omega) hjn ⟨hSa, hqa⟩ ?_
      intro v11 v12 v14 v40 v41 v42 v43 v44 v45 v46 v47 v48 v49 v50 v51 v52 v53 v54 v55 v56 v57 v58 v59 v60 v61 v62 v63 v64 v65 v66 v67 v68 v69 v70 v71 v72 v73 v74 v75 v76 v77 v78 v79 v80 v81 v82 v83 v84 v85 v86 v87 v88 v89 v90 v91 v92 v93 v94 v95 v96 v97 v98 v99 v100 v101 v102 v103 v104 v105 v106 v107 v108 v109 v110 v111 v112 w' hS'
      refine h3.out _ _ ?_
      go_wp2
      go_roundw
      case rel => exact ⟨j + 1, by omega, by simp, hS'⟩
      case measure => simp [intOf]; omega
    · skip
      go_wp2
      refine h7.out _ _ ?_
      clear h7
      refine tail_ok hd60 hn hV h6 hqN i0 i1 i2 i3 i4 i5 (by unfold I64; omega) hjn ⟨hSa, hqa⟩ ?_
      intro v11 v12 v14 v40 v41 v42 v43 v44 v45 v46 v47 v48 v49 v50 v51 v52 v53 v54 v55 v56 v57 v58 v59 v60 v61 v62 v63 v64 v65 v66 v67 v68 v69 v70 v71 v72 v73 v74 v75 v76 v77 v78 v79 v80 v81 v82 v83 v84 v85 v86 v87 v88 v89 v90 v91 v92 v93 v94 v95 v96 v97 v98 v99 v100 v101 v102 v103 v104 v105 v106 v107 v108 v109 v110 v111 v112 w' hS'
      refine h3.out _ _ ?_
      go_wp2
      go_roundw
      case rel => exact ⟨j + 1, by omega, by simp, hS'⟩
      case measure => simp [intOf]; omega
    · skip
      rcases hL with rfl | ⟨ad2, rfl, hc2⟩
      · omega
      obtain ⟨xn, rfl⟩ : ∃ xn : Nat, x2 = xn := ⟨x2.toNat, by omega⟩
      obtain ⟨y, hy, hy64⟩ := hc2 xn (by omega)
      have hy0 := (hS0.bel.cell (p := ad2.add xn) (World.block_lt_of_cell? w0 _ hy)).trans hy
      have hy1 := (wr.cell?_alloc_some _ (.cells #[.int .i64 x0, .int .i64 x1, .int .i64 xn, .int .i64 x3, .int .i64 x4, .int .i64 x5] 47) (by rw [hy0]; rfl)).trans hy0
      clear hc2 hy
      go_wp2
      refine h7.out _ _ ?_
      clear h7
      refine tail_ok hd60 hn hV h6 hqN i0 i1 i2 i3 i4 i5 hy64 hjn ⟨hSa, hqa⟩ ?_
      intro v11 v12 v14 v40 v41 v42 v43 v44 v45 v46 v47 v48 v49 v50 v51 v52 v53 v54 v55 v56 v57 v58 v59 v60 v61 v62 v63 v64 v65 v66 v67 v68 v69 v70 v71 v72 v73 v74 v75 v76 v77 v78 v79 v80 v81 v82 v83 v84 v85 v86 v87 v88 v89 v90 v91 v92 v93 v94 v95 v96 v97 v98 v99 v100 v101 v102 v103 v104 v105 v106 v107 v108 v109 v110 v111 v112 w' hS'
      refine h3.out _ _ ?_
      go_wp2
      go_roundw
      case rel => exact ⟨j + 1, by omega, by simp, hS'⟩
      case measure => simp [intOf]; omega
end Go.Proofs.YtbkjelhkjncfkaaGreatDoor
