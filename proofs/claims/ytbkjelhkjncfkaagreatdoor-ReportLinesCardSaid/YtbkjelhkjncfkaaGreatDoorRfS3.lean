/-
  strconv.AppendInt at base 10, laid at this translation (the shelf's contract, in plain words as the shelf's own tool prints it). No statement of the program is claimed here.
-/
import Derived.Shelf.Strconv.AppendIntPublic10
import Derived.Ground.NamesProg
import Derived.Test.YtbkjelhkjncfkaaGreatDoorProg
import Derived.Lib.AppendStr
import Derived.Lib.AppendIntMem
import Derived.Lib.ItoaLen
import Derived.Lib.Hide
import Derived.Lib.OthersKept
import Derived.Laws.IdiomStrings
import Derived.OwnWalk
import Derived.WalkKit
import Derived.BigCall
import Derived.KernelRfl
import Derived.Test.YtbkjelhkjncfkaaGreatDoorRfGlob
import Derived.Deep.RegionHeld3
namespace Go.Proofs.YtbkjelhkjncfkaaGreatDoor
open Go.Proofs Go.Shelf
def laysAI_ren : Go.Shelf.Ren := ⟨fun | 176 => 13 | 249 => 20 | 288 => 33 | 283 => 57 | 284 => 58 | 285 => 59 | 286 => 60 | 129 => 87 | 317 => 86 | 318 => 88 | 319 => 89 | 320 => 90 | 337 => 135 | 338 => 136 | n => n, fun | 37 => 42 | 2 => 2 | 3 => 3 | 53 => 95 | 4 => 4 | 9 => 9 | 171 => 165 | 0 => 0 | 173 => 168 | 212 => 203 | 51 => 71 | 5 => 5 | 20 => 20 | 213 => 204 | 46 => 201 | 232 => 310 | 233 => 311 | n => n, fun | 17 => 0 | 18 => 3 | 19 => 4 | n => n⟩
theorem laysAI : Go.Proofs.LaysM.n176 Tryz.prog laysAI_ren := {
  mixed := by kernel_rfl
  f129 := Tryz.func87.trans (congrArg some (by kernel_rfl))
  f176 := Tryz.func13.trans (congrArg some (by kernel_rfl))
  f249 := Tryz.func20.trans (congrArg some (by kernel_rfl))
  f283 := Tryz.func57.trans (congrArg some (by kernel_rfl))
  f284 := Tryz.func58.trans (congrArg some (by kernel_rfl))
  f285 := Tryz.func59.trans (congrArg some (by kernel_rfl))
  f286 := Tryz.func60.trans (congrArg some (by kernel_rfl))
  f288 := Tryz.func33.trans (congrArg some (by kernel_rfl))
  f317 := Tryz.func86.trans (congrArg some (by kernel_rfl))
  f318 := Tryz.func88.trans (congrArg some (by kernel_rfl))
  f319 := Tryz.func89.trans (congrArg some (by kernel_rfl))
  f320 := Tryz.func90.trans (congrArg some (by kernel_rfl))
  f337 := Tryz.func135.trans (congrArg some (by kernel_rfl))
  f338 := Tryz.func136.trans (congrArg some (by kernel_rfl))
  t0 := Tryz.underlying0
  a0 := Tryz.isAgg0
  z0 := Tryz.sizeOf0
  v0 := Tryz.zeroValue0
  t2 := Tryz.underlying2
  a2 := Tryz.isAgg2
  z2 := Tryz.sizeOf2
  v2 := Tryz.zeroValue2
  t3 := Tryz.underlying3
  a3 := Tryz.isAgg3
  z3 := Tryz.sizeOf3
  v3 := Tryz.zeroValue3
  t4 := Tryz.underlying4
  a4 := Tryz.isAgg4
  z4 := Tryz.sizeOf4
  v4 := Tryz.zeroValue4
  t5 := Tryz.underlying5
  a5 := Tryz.isAgg5
  z5 := Tryz.sizeOf5
  v5 := Tryz.zeroValue5
  t9 := Tryz.underlying9
  a9 := Tryz.isAgg9
  z9 := Tryz.sizeOf9
  v9 := Tryz.zeroValue9
  t20 := Tryz.underlying20
  a20 := Tryz.isAgg20
  z20 := Tryz.sizeOf20
  v20 := Tryz.zeroValue20
  t37 := Tryz.underlying42
  a37 := Tryz.isAgg42
  z37 := Tryz.sizeOf42
  v37 := Tryz.zeroValue42
  t46 := Tryz.underlying201
  a46 := Tryz.isAgg201
  z46 := Tryz.sizeOf201
  v46 := Tryz.zeroValue201
  t51 := Tryz.underlying71
  a51 := Tryz.isAgg71
  z51 := Tryz.sizeOf71
  v51 := Tryz.zeroValue71
  t53 := Tryz.underlying95
  a53 := Tryz.isAgg95
  z53 := Tryz.sizeOf95
  v53 := Tryz.zeroValue95
  t171 := Tryz.underlying165
  a171 := Tryz.isAgg165
  z171 := Tryz.sizeOf165
  v171 := Tryz.zeroValue165
  t173 := Tryz.underlying168
  a173 := Tryz.isAgg168
  z173 := Tryz.sizeOf168
  v173 := Tryz.zeroValue168
  t212 := Tryz.underlying203
  a212 := Tryz.isAgg203
  z212 := Tryz.sizeOf203
  v212 := Tryz.zeroValue203
  t213 := Tryz.underlying204
  a213 := Tryz.isAgg204
  z213 := Tryz.sizeOf204
  t232 := Tryz.underlying310
  a232 := Tryz.isAgg310
  z232 := Tryz.sizeOf310
  v232 := Tryz.zeroValue310
  t233 := Tryz.underlying311
  a233 := Tryz.isAgg311
  z233 := Tryz.sizeOf311
  v233 := Tryz.zeroValue311
  g17 := by kernel_rfl
  g18 := by kernel_rfl
  g19 := by kernel_rfl
  i0 := by kernel_rfl
  i2 := by kernel_rfl
  i3 := by kernel_rfl
  i4 := by kernel_rfl
  i5 := by kernel_rfl
  i9 := by kernel_rfl
  i20 := by kernel_rfl
  i37 := by kernel_rfl
  i46 := by kernel_rfl
  i51 := by kernel_rfl
  i53 := by kernel_rfl
  i171 := by kernel_rfl
  i173 := by kernel_rfl
  i212 := by kernel_rfl
  i232 := by kernel_rfl
  i233 := by kernel_rfl
  m17 := by kernel_rfl
  m18 := by kernel_rfl
  m19 := by kernel_rfl }
theorem appendInt (B n : Nat) (i : Int) (h0 : -9223372036854775808 ≤ i) (h1 : i ≤ 9223372036854775807) (sv : Value) (xs : List Value) (w : World) (hown : w.ownsRow B 5 1 sv n xs) (hBw : B ≤ w.heap.size) (hlim : n + 21 ≤ 140737488355328)
    (htab : Lib.TabBelow Tryz.prog B w "internal/strconv.uint64pow10" .u64 Lib.pow10Tab) :
    Calls Tryz.prog 13 #[sv, .int .i64 i, .int .i64 10] w fun e w' => ∃ v', e = .returned v' ∧ w'.ownsRow B 5 1 v' (n + (Lib.itoa i).length) (xs ++ Lib.byteCells (Lib.itoa i)) ∧ RowKit.Below B w w' ∧ Lib.OthersKept 5 none w w' :=
  Any.strconv_AppendInt_10 laysAI B n i h0 h1 sv xs w hown hBw hlim htab
end Go.Proofs.YtbkjelhkjncfkaaGreatDoor

/-
  report.Text's two closures by contracts of their own: what they append. No statement of the program is claimed here.
-/
namespace Go.Proofs.YtbkjelhkjncfkaaGreatDoor
open Go.Proofs Go.Shelf Go.RowKit
set_option maxRecDepth 100000

/-- The captured 'b' lies in block β; it holds these bytes. -/
def Buf (β : Nat) (bs : List UInt8) (w : World) : Prop :=
  ∃ sv, w.heap[β]? = some (.cells #[sv] 42 (0, 0)) ∧ w.ownsRow (β + 1) 5 1 sv bs.length (Lib.byteCells bs)
/-- What is kept: the blocks below β; those from there on that are neither β nor a row of bytes. -/
def Fr (β : Nat) (w w' : World) : Prop := Below β w w' ∧ Lib.OthersKept 5 (some β) w w'
theorem Fr.refl (β : Nat) (w : World) : Fr β w w := ⟨Below.refl _ _, Lib.OthersKept.refl _ _ _⟩
theorem Fr.trans {β : Nat} {a b c : World} (h : Fr β a b) (k : Fr β b c) : Fr β a c := ⟨h.1.trans k.1, h.2.trans k.2⟩
theorem infoByte : (Tryz.prog.info? 5).map (fun i => (i.zero, i.size, i.bytes)) = some (some (.int .u8 0), 1, 1) := by kernel_rfl
theorem strCells_eq (s : ByteArray) : Lib.strCells s = Lib.byteCells s.data.toList := by simp [Lib.strCells, Lib.byteCells]

theorem say_ok (β : Nat) (bs : List UInt8) (s : ByteArray) (w : World) (h : Buf β bs w) (hl : bs.length + s.size ≤ 1000000) :
    Calls Tryz.prog 11 #[.string s, .pointer (some ⟨β, 0, none⟩)] w fun e w' => e = .returned (.tuple #[]) ∧ Buf β (bs ++ s.data.toList) w' ∧ Fr β w w' := by
  obtain ⟨i0, hi, hz0, hz1, hz2⟩ := info_parts infoByte
  obtain ⟨sv, hv, hown⟩ := h
  have cW := cell_of_one hv
  have fW := free_of_one hv
  have hlt := lt_of_block hv
  go_enter Tryz.func11, Tryz.ntmps11
  go_wp2_with (at_builtin; refine Lib.wpList_append_own_string _ rfl _ _ 42 9 rfl (β + 1) 5 i0 Tryz.underlying42 Tryz.underlying9 hi hz0 hz1 hz2 _ _ _ rfl hown s rfl (by unfold maxLen; omega) (by omega) (by omega) ?_)
  intro v' w' hown' hgrow hnil
  have hb : w'.heap[β]? = some (.cells #[sv] 42 (0, 0)) := (hgrow.block β hlt (fun e => by have := (hown.lt β e.symm).1; omega)).trans hv
  have cW' := cell_of_one hb
  have fW' := free_of_one hb
  have hsl : ∃ a n c, v' = .slice a n c := by
    rcases hown'.2 with ⟨rfl, _⟩ | ⟨g, cap, cur, rfl, _⟩
    · exact ⟨_, _, _, rfl⟩
    · exact ⟨_, _, _, rfl⟩
  obtain ⟨a, n, c, rfl⟩ := hsl
  clear hnil
  go_wp2
  go_end0
  refine ⟨rfl, ⟨_, one_setCell hb, ?_⟩, ?_, ?_⟩
  · have e1 : (bs ++ s.data.toList).length = bs.length + s.size := by
      rw [List.length_append, Array.length_toList]; rfl
    rw [e1, Lib.byteCells_append, ← strCells_eq]
    exact ownsRow_setCell_below hown' (by show β < β + 1; omega) _
  · exact ((Below.refl β w).grown hgrow (by omega) (fun k hk => by have := (hown.lt k hk).1; omega)).setCell (Nat.le_refl _) _
  · exact ((Lib.OthersKept.refl 5 (some β) w).grown hgrow (fun g hg => by
      rcases hown.2 with ⟨rfl, _⟩ | ⟨g', cap, cur, rfl, _, hh, _⟩
      · cases hg
      · cases hg; exact ⟨_, _, hh⟩)).setCell _ rfl _

/-- The table of powers, whatever is done from β on. -/
def Tab (β : Nat) (w : World) : Prop := Lib.TabBelow Tryz.prog β w "internal/strconv.uint64pow10" .u64 Lib.pow10Tab
theorem Tab.fr {β : Nat} {w w' : World} (h : Tab β w) (k : Fr β w w') : Tab β w' := Lib.TabBelow.on h k.1
theorem tabBelow_up {P : Program} {B B' : Nat} {w : World} {n : String} {k : IntKind} {l : List Int} (h : Lib.TabBelow P B w n k l) (hB : B ≤ B') : Lib.TabBelow P B' w n k l :=
  fun w' hb => h w' ⟨hb.os, hb.tape, hb.output, hb.size, fun k hk => hb.block k (by omega)⟩

theorem number_ok (β : Nat) (bs : List UInt8) (i : Int) (h0 : -9223372036854775808 ≤ i) (h1 : i ≤ 9223372036854775807) (w : World) (h : Buf β bs w) (hT : Tab β w) (hl : bs.length ≤ 1000000) :
    Calls Tryz.prog 12 #[.int .i64 i, .pointer (some ⟨β, 0, none⟩)] w fun e w' => e = .returned (.tuple #[]) ∧ Buf β (bs ++ Lib.itoa i) w' ∧ Fr β w w' := by
  obtain ⟨sv, hv, hown⟩ := h
  have cW := cell_of_one hv
  have fW := free_of_one hv
  have hlt := lt_of_block hv
  go_enter Tryz.func12, Tryz.ntmps12
  go_wp2_with (go_at_call 13; refine (appendInt (β + 1) bs.length i h0 h1 sv _ w hown (by omega) (by omega) (tabBelow_up hT (by omega))).mono ?_; rintro e w1 ⟨v1, rfl, hown1, hnx1, hk1⟩; refine Hid.out ?_)
  refine Lib.hid ?_
  have hb : w1.heap[β]? = some (.cells #[sv] 42 (0, 0)) := (hnx1.block β (by omega)).trans hv
  have cW' := cell_of_one hb
  have fW' := free_of_one hb
  have hsl : ∃ a n c, v1 = .slice a n c := by
    rcases hown1.2 with ⟨rfl, _⟩ | ⟨g, cap, cur, rfl, _⟩
    · exact ⟨_, _, _, rfl⟩
    · exact ⟨_, _, _, rfl⟩
  obtain ⟨a, n, c, rfl⟩ := hsl
  go_wp2
  go_end0
  refine ⟨rfl, ⟨_, one_setCell hb, ?_⟩, ?_, ?_⟩
  · rw [List.length_append, Lib.byteCells_append]
    exact ownsRow_setCell_below hown1 (by show β < β + 1; omega) _
  · exact (show Below β w w1 from ⟨hnx1.os, hnx1.tape, hnx1.output, hnx1.size, fun k hk => hnx1.block k (by omega)⟩).setCell (Nat.le_refl _) _
  · have hk2 : Lib.OthersKept 5 (some β) w w1 := fun k o hk _ ho => hk1 k o hk (by simp) ho
    exact hk2.setCell _ rfl _
end Go.Proofs.YtbkjelhkjncfkaaGreatDoor

/-
  report.Name, alarm.Name, light, report.line by contracts of their own. No statement of the program is claimed here.
-/
namespace Go.Proofs.YtbkjelhkjncfkaaGreatDoor
open Go.Proofs Go.Shelf Go.RowKit
set_option maxRecDepth 100000

/-- A verdict's name. -/
def nameOf (k : Int) : ByteArray := if k = 1 then ⟨#[99, 108, 101, 97, 110]⟩ else if k = 2 then ⟨#[97, 108, 97, 114, 109]⟩ else if k = 3 then ⟨#[115, 116, 97, 99, 107]⟩ else if k = 4 then ⟨#[110, 111, 110, 101]⟩ else ⟨#[]⟩
theorem name_ok (k : Int) (w : World) : Calls Tryz.prog 7 #[.int .i64 k] w fun e w' => e = .returned (.string (nameOf k)) ∧ w' = w := by
  by_cases h1 : k = 1
  · subst h1; go_enter Tryz.func7, Tryz.ntmps7; go_wp2; go_ret; exact ⟨rfl, rfl⟩
  by_cases h2 : k = 2
  · subst h2; go_enter Tryz.func7, Tryz.ntmps7; go_wp2; go_ret; exact ⟨rfl, rfl⟩
  by_cases h3 : k = 3
  · subst h3; go_enter Tryz.func7, Tryz.ntmps7; go_wp2; go_ret; exact ⟨rfl, rfl⟩
  by_cases h4 : k = 4
  · subst h4; go_enter Tryz.func7, Tryz.ntmps7; go_wp2; go_ret; exact ⟨rfl, rfl⟩
  go_enter Tryz.func7, Tryz.ntmps7
  go_wp2
  go_ret
  exact ⟨by simp [nameOf, h1, h2, h3, h4], rfl⟩

theorem light_ok (k m e : Int) (a : Option Addr) (n c : Nat) (w : World) : Calls Tryz.prog 5 #[.agg #[.int .i64 k, .int .i64 m, .slice a n c, .int .i64 e]] w fun r w' => r = .returned (.bool (decide (n ≤ 60))) ∧ Below w.heap.size w w' := by
  go_enter Tryz.func5, Tryz.ntmps5
  go_wp2
  go_ret
  refine ⟨?_, (Below.refl _ _).alloc (Nat.le_refl _) _⟩
  have e : decide ((n : Int) ≤ 60) = decide (n ≤ 60) := by simp only [decide_eq_decide]; omega
  show Ending.returned (Value.bool (decide ((n : Int) ≤ 60))) = _
  rw [e]

/-- A whole number of 64 bits. -/
def I64 (x : Int) : Prop := -9223372036854775808 ≤ x ∧ x ≤ 9223372036854775807
/-- A row of structs of k ints each. -/
def IntRow (k : Nat) (w : World) (a : Option Addr) (n : Nat) : Prop := n = 0 ∨ ∃ ad, a = some ad ∧ ∀ i, i < n * k → ∃ x : Int, w.cell? (ad.add i) = some (.int .i64 x) ∧ I64 x

abbrev imOf (a : Option Addr) (n c : Nat) : Array Value := #[.slice none 0 0, .slice none 0 0, .slice a n c, .int .i64 0, .slice none 0 0, .slice none 0 0, .int .i64 0, .slice none 0 0]
theorem line_ok (a : Option Addr) (n c : Nat) (j : Int) (w : World) (hr : IntRow 3 w a n) : Calls Tryz.prog 15 #[.agg (imOf a n c), .int .i64 j] w fun r w' => (∃ x : Int, r = .returned (.int .i64 x) ∧ I64 x) ∧ Below w.heap.size w w' := by
  have hb : ∀ o, Below w.heap.size w (w.alloc o) := fun o => (Below.refl _ _).alloc (Nat.le_refl _) _
  by_cases h0 : j < 0
  · go_enter Tryz.func15, Tryz.ntmps15
    go_wp2
    go_ret
    exact ⟨⟨_, rfl, by unfold I64; omega⟩, hb _⟩
  by_cases h1 : (n : Int) ≤ j
  · go_enter Tryz.func15, Tryz.ntmps15
    go_wp2
    go_ret
    exact ⟨⟨_, rfl, by unfold I64; omega⟩, hb _⟩
  rcases hr with rfl | ⟨ad, rfl, hc⟩
  · omega
  obtain ⟨jn, rfl⟩ : ∃ jn : Nat, j = jn := ⟨j.toNat, by omega⟩
  obtain ⟨x, hx, hx64⟩ := hc (jn * 3) (by omega)
  have hx1 := (w.cell?_alloc_some _ (.cells (imOf (some ad) n c) 37) (by rw [hx]; rfl)).trans hx
  go_enter Tryz.func15, Tryz.ntmps15
  go_wp2
  go_ret
  exact ⟨⟨_, rfl, hx64⟩, hb _⟩

/-! ### alarm.Name: reckoned by the evaluator -/
open Go.Rf
theorem an0 : (match evFun E1 2 14 [.int .i64 (.ofNat 0)] .e 6 with | some r => some (r.v, r.df) | none => none) = some (.str ⟨#[]⟩, none) := by kernel_rfl
theorem an1 : (match evFun E1 2 14 [.int .i64 (.ofNat 1)] .e 6 with | some r => some (r.v, r.df) | none => none) = some (.str ⟨#[122, 101, 114, 111]⟩, none) := by kernel_rfl
theorem an2 : (match evFun E1 2 14 [.int .i64 (.ofNat 2)] .e 6 with | some r => some (r.v, r.df) | none => none) = some (.str ⟨#[98, 111, 117, 110, 100]⟩, none) := by kernel_rfl
theorem an3 : (match evFun E1 2 14 [.int .i64 (.ofNat 3)] .e 6 with | some r => some (r.v, r.df) | none => none) = some (.str ⟨#[112, 111, 114, 116]⟩, none) := by kernel_rfl
theorem an4 : (match evFun E1 2 14 [.int .i64 (.ofNat 4)] .e 6 with | some r => some (r.v, r.df) | none => none) = some (.str ⟨#[97, 116, 111, 109, 105, 99]⟩, none) := by kernel_rfl
theorem an5 (n : Nat) : (match evFun E1 2 14 [.int .i64 (.ofNat (n + 5))] .e 6 with | some r => some (r.v, r.df) | none => none) = some (.str ⟨#[]⟩, none) := by kernel_rfl
theorem an6 (n : Nat) : (match evFun E1 2 14 [.int .i64 (.negSucc n)] .e 6 with | some r => some (r.v, r.df) | none => none) = some (.str ⟨#[]⟩, none) := by kernel_rfl
theorem anAny (k : Int) : ∃ r s, evFun E1 2 14 [.int .i64 k] .e 6 = some r ∧ r.v = .str s ∧ s.size ≤ 6 ∧ s.data.toList.count 10 = 0 := by
  have mk : ∀ (o : Option R) (s : ByteArray), (match o with | some r => some (r.v, r.df) | none => none) = some (.str s, none) → s.size ≤ 6 → s.data.toList.count 10 = 0 → ∃ r s, o = some r ∧ r.v = .str s ∧ s.size ≤ 6 ∧ s.data.toList.count 10 = 0 := by
    intro o s h h1 h2
    cases o with
    | none => cases h
    | some r => simp only [Option.some.injEq, Prod.mk.injEq] at h; exact ⟨r, s, rfl, h.1, h1, h2⟩
  match k with
  | .ofNat 0 => exact mk _ _ an0 (by decide) (by decide)
  | .ofNat 1 => exact mk _ _ an1 (by decide) (by decide)
  | .ofNat 2 => exact mk _ _ an2 (by decide) (by decide)
  | .ofNat 3 => exact mk _ _ an3 (by decide) (by decide)
  | .ofNat 4 => exact mk _ _ an4 (by decide) (by decide)
  | .ofNat (n + 5) => exact mk _ _ (an5 n) (by decide) (by decide)
  | .negSucc n => exact mk _ _ (an6 n) (by decide) (by decide)

theorem aname_ok (k : Int) (w : World) (h6 : 6 ≤ w.heap.size) : Calls Tryz.prog 14 #[.int .i64 k] w fun r w' => ∃ s : ByteArray, r = .returned (.string s) ∧ s.size ≤ 6 ∧ s.data.toList.count 10 = 0 ∧ Below w.heap.size w w' := by
  obtain ⟨r, s, h1, h2, h3, h4⟩ := anAny k
  have hI : Inv E1 w (fun _ => False) (fun b => if b < 6 then some (b, (0, 0)) else none) .e 6 w := by
    refine ⟨⟨fun b hb => if_neg (by omega), fun b _ => T.get_e _, fun b g n hb => ?_, fun b b' x x' g n n' hb => ?_, fun b x g n hb => ?_⟩, WF.refl _ _, fun g hg => ?_, fun g b hg => ?_⟩
    · by_cases h : b < 6
      · simp only [if_pos h, Option.some.injEq, Prod.mk.injEq] at hb
        omega
      · simp only [if_neg h] at hb; cases hb
    · rw [T.get_e] at hb; cases hb
    · rw [T.get_e] at hb; cases hb
    · obtain ⟨b, x, n, hb, _⟩ := hg
      rw [T.get_e] at hb; cases hb
    · have h' : (bif Nat.blt g 6 then some g else none) = some b := hg
      obtain ⟨h1, h2⟩ := bif_some h'
      cases h2
      exact ⟨0, if_pos (Nat.blt_eq.mp h1)⟩
  refine (((evFun_good envOk 2).calls 14 _ .e 6 r h1 (by decide) w (fun _ => False) _ #[.int .i64 k] w (.cons (.int _ _) .nil) hI).mono ?_)
  rintro e w' ⟨c, rfl, ρ', hI', hv, _, _⟩
  rw [h2] at hv
  cases hv
  exact ⟨s, rfl, h3, h4, hI'.wf.os, hI'.wf.tape, hI'.wf.output, hI'.wf.size, fun b hb => hI'.wf.block b hb id⟩
end Go.Proofs.YtbkjelhkjncfkaaGreatDoor
