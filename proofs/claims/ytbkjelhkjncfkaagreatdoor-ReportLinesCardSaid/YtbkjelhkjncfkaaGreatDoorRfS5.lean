/-
  report.Text's frame: what it holds from call to call. No statement of the program is claimed here.
-/
import Derived.Test.YtbkjelhkjncfkaaGreatDoorRfS3
namespace Go.Proofs.YtbkjelhkjncfkaaGreatDoor
open Go.Proofs Go.Shelf Go.RowKit
set_option maxRecDepth 100000

theorem ownsRow_up {w w' : World} {base : Nat} {e : TypeId} {size : Nat} {v : Value} {n : Nat} {xs : List Value} (h : w.ownsRow base e size v n xs) (hb : Below w.heap.size w w') : w'.ownsRow base e size v n xs := by
  refine ⟨h.1, h.2.imp id ?_⟩
  rintro ⟨g, cap, cur, h1, h2, h3, h4⟩
  exact ⟨g, cap, cur, h1, h2, (hb.block g (Array.getElem?_eq_some_iff.1 h3).1).trans h3, h4⟩
theorem Buf.up {β : Nat} {bs : List UInt8} {w w' : World} (h : Buf β bs w) (hb : Below w.heap.size w w') : Buf β bs w' := by
  obtain ⟨sv, h1, h2⟩ := h
  exact ⟨sv, (hb.block β (lt_of_block h1)).trans h1, ownsRow_up h2 hb⟩

/-- The frame: the image's box, the verdict's box, the text so far; what was there stands. -/
structure St (N : Nat) (imC vC : Array Value) (w0 : World) (bs : List UInt8) (w : World) : Prop where
  im : w.heap[N]? = some (.cells imC 37 (0, 0))
  v : w.heap[N + 1]? = some (.cells vC 26 (0, 0))
  b : Buf (N + 2) bs w
  tab : Tab (N + 2) w
  bel : Below N w0 w
section
variable {N : Nat} {imC vC : Array Value} {w0 w w' : World} {bs bs' : List UInt8}
theorem St.lt (h : St N imC vC w0 bs w) : N + 2 < w.heap.size := by obtain ⟨_, h1, _⟩ := h.b; exact lt_of_block h1
theorem St.to (h : St N imC vC w0 bs w) (hb : Buf (N + 2) bs' w') (hf : Fr (N + 2) w w') : St N imC vC w0 bs' w' :=
  ⟨(hf.1.block N (by omega)).trans h.im, (hf.1.block (N + 1) (by omega)).trans h.v, hb, h.tab.fr hf, h.bel.trans (hf.1.mono (by omega))⟩
theorem St.up (h : St N imC vC w0 bs w) (hb : Below w.heap.size w w') : St N imC vC w0 bs w' :=
  ⟨(hb.block N (lt_of_block h.im)).trans h.im, (hb.block (N + 1) (lt_of_block h.v)).trans h.v, h.b.up hb, Lib.TabBelow.on h.tab (hb.mono (Nat.le_of_lt h.lt)), h.bel.trans (hb.mono (by have := h.lt; omega))⟩
end
theorem block_cell {w : World} {g : Nat} {C : Array Value} {t : TypeId} {fr : Nat × Nat} (h : w.heap[g]? = some (.cells C t fr)) (i : Nat) : w.cell? ⟨g, i, none⟩ = C[i]? := by simp [World.cell?, h]
abbrev verOf (k m e : Int) (al : Option Addr) (nA cA : Nat) : Array Value := #[.int .i64 k, .int .i64 m, .slice al nA cA, .int .i64 e]
section
variable {N : Nat} {imC : Array Value} {k m e : Int} {al a : Option Addr} {nA cA n c : Nat} {w0 w : World} {bs : List UInt8}
theorem St.vc (h : St N imC (verOf k m e al nA cA) w0 bs w) : w.cell? ⟨N + 1, 0, none⟩ = some (.int .i64 k) ∧ w.cell? ⟨N + 1, 1, none⟩ = some (.int .i64 m) ∧ w.cell? ⟨N + 1, 2, none⟩ = some (.slice al nA cA) ∧ w.cell? ⟨N + 1, 3, none⟩ = some (.int .i64 e) :=
  ⟨block_cell h.v 0, block_cell h.v 1, block_cell h.v 2, block_cell h.v 3⟩
theorem St.first (hT : Tab w.heap.size w) : St w.heap.size (imOf a n c) (verOf k m e al nA cA) w [] (((w.alloc (.cells (imOf a n c) 37)).alloc (.cells (verOf k m e al nA cA) 26)).alloc (.cells #[.slice none 0 0] 42)) := by
  have b1 : Below w.heap.size w (((w.alloc (.cells (imOf a n c) 37)).alloc (.cells (verOf k m e al nA cA) 26)).alloc (.cells #[.slice none 0 0] 42)) :=
    (((Below.refl _ _).alloc (Nat.le_refl _) _).alloc (by simp) _).alloc (by simp; omega) _
  refine ⟨?_, ?_, ⟨.slice none 0 0, ?_, rfl, .inl ⟨rfl, rfl⟩⟩, tabBelow_up (Lib.TabBelow.on hT b1) (by omega), b1⟩
  · rw [Below.heap_alloc _ _ _ (by simp; omega), Below.heap_alloc _ _ _ (by simp)]; exact heap_alloc_new _ _
  · rw [Below.heap_alloc _ _ _ (by simp)]
    have := heap_alloc_new (w.alloc (.cells (imOf a n c) 37)) (.cells (verOf k m e al nA cA) 26)
    simpa using this
  · have := heap_alloc_new ((w.alloc (.cells (imOf a n c) 37)).alloc (.cells (verOf k m e al nA cA) 26)) (.cells #[.slice none 0 0] 42)
    simpa using this
end
end Go.Proofs.YtbkjelhkjncfkaaGreatDoor

/-
  report.Text's frame with the text known by its line ends and its length alone. No statement of the program is claimed here.
-/
namespace Go.Proofs.YtbkjelhkjncfkaaGreatDoor
open Go.Proofs Go.Shelf Go.RowKit
set_option maxRecDepth 100000

/-- Behind the head: so many line ends, at most so long; nothing is begun ('done'). -/
def Go10 (hd : List UInt8) (c l : Nat) (done : Bool) (bs : List UInt8) : Prop :=
  ∃ rest : List UInt8, bs = hd ++ rest ∧ rest.count 10 = c ∧ rest.length ≤ l ∧ (done = true → rest = [] ∨ rest.getLast? = some 10)
theorem Go10.more {hd : List UInt8} {c l : Nat} {d : Bool} {bs : List UInt8} (h : Go10 hd c l d bs) (s : List UInt8) (hs : s.count 10 = 0) (k : Nat) (hk : s.length ≤ k) : Go10 hd c (l + k) false (bs ++ s) := by
  obtain ⟨rest, rfl, h1, h2, _⟩ := h
  exact ⟨rest ++ s, List.append_assoc _ _ _, by rw [List.count_append, h1, hs, Nat.add_zero], by rw [List.length_append]; omega, fun e => by cases e⟩
theorem Go10.ends {hd : List UInt8} {c l : Nat} {d : Bool} {bs : List UInt8} (h : Go10 hd c l d bs) : Go10 hd (c + 1) (l + 1) true (bs ++ [10]) := by
  obtain ⟨rest, rfl, h1, h2, _⟩ := h
  exact ⟨rest ++ [10], List.append_assoc _ _ _, by rw [List.count_append, h1]; rfl, by rw [List.length_append]; simp; omega, fun _ => .inr (by simp)⟩
theorem Go10.len {hd : List UInt8} {c l : Nat} {d : Bool} {bs : List UInt8} (h : Go10 hd c l d bs) : bs.length ≤ hd.length + l := by
  obtain ⟨rest, rfl, h1, h2, _⟩ := h
  rw [List.length_append]; omega

def Sx (N : Nat) (imC vC : Array Value) (w0 : World) (hd : List UInt8) (c l : Nat) (d : Bool) (w : World) : Prop := ∃ bs, St N imC vC w0 bs w ∧ Go10 hd c l d bs
theorem Fr.box {β q : Nat} {w w' : World} {C : Array Value} {t : TypeId} {fr : Nat × Nat} (h : Fr β w w') (hb : w.heap[q]? = some (.cells C t fr)) (hq : q ≠ β) (ht : t ≠ 5) : w'.heap[q]? = some (.cells C t fr) :=
  h.2 q _ hb (fun e => hq (Option.some.inj e)) (fun c fz e => by cases e; exact ht rfl)

/-- A number's signs: digits, and a '-'. -/
theorem dec_digit : ∀ (u : Nat), ∀ c ∈ Lib.decDigits u, 48 ≤ c.toNat
  | u, c, hc => by
    have e : ∀ i : Nat, i < 10 → 48 ≤ (UInt8.ofNat (48 + i)).toNat := fun i hi => by
      rw [UInt8.toNat_ofNat']
      omega
    rw [Lib.decDigits] at hc
    split at hc
    · rename_i h
      rw [List.mem_singleton] at hc
      rw [hc]
      exact e u h
    · rename_i h
      rcases List.mem_append.1 hc with hc | hc
      · exact dec_digit (u / 10) c hc
      · rw [List.mem_singleton] at hc
        rw [hc]
        exact e _ (by omega)
  termination_by u => u
  decreasing_by omega
theorem itoa_sign (i : Int) : ∀ c ∈ Lib.itoa i, 45 ≤ c.toNat := by
  intro c hc
  unfold Lib.itoa at hc
  split at hc
  · rcases List.mem_cons.1 hc with rfl | hc
    · decide
    · have := dec_digit _ c hc; omega
  · have := dec_digit _ c hc; omega
theorem itoa_count (i : Int) (b : UInt8) (hb : b.toNat < 45) : (Lib.itoa i).count b = 0 := by
  rw [List.count_eq_zero]
  intro h
  have := itoa_sign i b h
  omega

section
variable {N : Nat} {imC vC : Array Value} {w0 w : World} {hd : List UInt8} {c l : Nat} {d : Bool}
theorem say_x (h : Sx N imC vC w0 hd c l d w) (s : ByteArray) (hs : s.data.toList.count 10 = 0) (k : Nat) (hk : s.size ≤ k) (hl : hd.length + l + k ≤ 1000000) :
    Calls Tryz.prog 11 #[.string s, .pointer (some ⟨N + 2, 0, none⟩)] w fun e w' => e = .returned (.tuple #[]) ∧ Sx N imC vC w0 hd c (l + k) false w' ∧ Fr (N + 2) w w' := by
  obtain ⟨bs, h1, h2⟩ := h
  have := h2.len
  refine (say_ok (N + 2) bs s w h1.b (by omega)).mono ?_
  rintro e w' ⟨rfl, hb, hf⟩
  exact ⟨rfl, ⟨_, h1.to hb hf, h2.more _ hs k (by rw [Array.length_toList]; exact hk)⟩, hf⟩
theorem end_x (h : Sx N imC vC w0 hd c l d w) (hl : hd.length + l ≤ 900000) :
    Calls Tryz.prog 11 #[.string ⟨#[10]⟩, .pointer (some ⟨N + 2, 0, none⟩)] w fun e w' => e = .returned (.tuple #[]) ∧ Sx N imC vC w0 hd (c + 1) (l + 1) true w' ∧ Fr (N + 2) w w' := by
  obtain ⟨bs, h1, h2⟩ := h
  have := h2.len
  refine (say_ok (N + 2) bs ⟨#[10]⟩ w h1.b (by show _ + 1 ≤ _; omega)).mono ?_
  rintro e w' ⟨rfl, hb, hf⟩
  exact ⟨rfl, ⟨_, h1.to hb hf, h2.ends⟩, hf⟩
theorem number_x (h : Sx N imC vC w0 hd c l d w) (i : Int) (hi : I64 i) (hl : hd.length + l ≤ 900000) :
    Calls Tryz.prog 12 #[.int .i64 i, .pointer (some ⟨N + 2, 0, none⟩)] w fun e w' => e = .returned (.tuple #[]) ∧ Sx N imC vC w0 hd c (l + 21) false w' ∧ Fr (N + 2) w w' := by
  obtain ⟨bs, h1, h2⟩ := h
  have := h2.len
  refine (number_ok (N + 2) bs i hi.1 hi.2 w h1.b h1.tab (by omega)).mono ?_
  rintro e w' ⟨rfl, hb, hf⟩
  exact ⟨rfl, ⟨_, h1.to hb hf, h2.more _ (itoa_count i 10 (by decide)) 21 (Lib.itoa_length_le i hi.1 hi.2)⟩, hf⟩
theorem Sx.up (h : Sx N imC vC w0 hd c l d w) {w' : World} (hb : Below w.heap.size w w') : Sx N imC vC w0 hd c l d w' := by
  obtain ⟨bs, h1, h2⟩ := h
  exact ⟨bs, h1.up hb, h2⟩
theorem Sx.bel (h : Sx N imC vC w0 hd c l d w) : Below N w0 w := by obtain ⟨_, h1, _⟩ := h; exact h1.bel
theorem Sx.lt (h : Sx N imC vC w0 hd c l d w) : N + 2 < w.heap.size := by obtain ⟨_, h1, _⟩ := h; exact h1.lt
theorem Sx.im (h : Sx N imC vC w0 hd c l d w) : w.heap[N]? = some (.cells imC 37 (0, 0)) := by obtain ⟨_, h1, _⟩ := h; exact h1.im
end
theorem im_cells {w : World} {N : Nat} {a : Option Addr} {n c : Nat} (h : w.heap[N]? = some (.cells (imOf a n c) 37 (0, 0))) :
    w.cell? ⟨N, 0, none⟩ = some (.slice none 0 0) ∧ w.cell? ⟨N, 1, none⟩ = some (.slice none 0 0) ∧ w.cell? ⟨N, 2, none⟩ = some (.slice a n c) ∧ w.cell? ⟨N, 3, none⟩ = some (.int .i64 0) ∧ w.cell? ⟨N, 4, none⟩ = some (.slice none 0 0) ∧ w.cell? ⟨N, 5, none⟩ = some (.slice none 0 0) ∧ w.cell? ⟨N, 6, none⟩ = some (.int .i64 0) ∧ w.cell? ⟨N, 7, none⟩ = some (.slice none 0 0) :=
  ⟨block_cell h 0, block_cell h 1, block_cell h 2, block_cell h 3, block_cell h 4, block_cell h 5, block_cell h 6, block_cell h 7⟩
theorem six_cells {w : World} {q : Nat} {x0 x1 x2 x3 x4 x5 : Value} {t : TypeId} (h : w.heap[q]? = some (.cells #[x0, x1, x2, x3, x4, x5] t (0, 0))) :
    w.cell? ⟨q, 0, none⟩ = some x0 ∧ w.cell? ⟨q, 1, none⟩ = some x1 ∧ w.cell? ⟨q, 2, none⟩ = some x2 ∧ w.cell? ⟨q, 3, none⟩ = some x3 ∧ w.cell? ⟨q, 4, none⟩ = some x4 ∧ w.cell? ⟨q, 5, none⟩ = some x5 :=
  ⟨block_cell h 0, block_cell h 1, block_cell h 2, block_cell h 3, block_cell h 4, block_cell h 5⟩
theorem add_off (ad : Addr) (j i : Nat) (hs : (ad.add j).spot = none) : ad.add (j + i) = ⟨(ad.add j).block, (ad.add j).off + i, none⟩ := by
  obtain ⟨b, o, p⟩ := ad
  simp only [Addr.add] at hs ⊢
  by_cases h0 : j = 0
  · subst h0
    simp only [if_true] at hs ⊢
    by_cases hi : i = 0
    · subst hi; simp only [Nat.add_zero, if_true]; exact congrArg _ hs
    · rw [if_neg (by omega)]; simp only [Nat.zero_add]
  · rw [if_neg (by omega), if_neg h0]
    simp only [Nat.add_assoc]
theorem Sx.le {N : Nat} {imC vC : Array Value} {w0 w : World} {hd : List UInt8} {c l l' : Nat} {d : Bool} (h : Sx N imC vC w0 hd c l d w) (hl : l ≤ l') : Sx N imC vC w0 hd c l' d w := by
  obtain ⟨bs, h1, rest, h2, h3, h4, h5⟩ := h
  exact ⟨bs, h1, rest, h2, h3, by omega, h5⟩
theorem IntRow.bel {k : Nat} {w w' : World} {a : Option Addr} {n : Nat} (h : IntRow k w a n) (hb : Below w.heap.size w w') : IntRow k w' a n := by
  rcases h with h | ⟨ad, rfl, hc⟩
  · exact .inl h
  · refine .inr ⟨ad, rfl, fun i hi => ?_⟩
    obtain ⟨x, h1, h2⟩ := hc i hi
    exact ⟨x, (hb.cell (World.block_lt_of_cell? w _ h1)).trans h1, h2⟩
/-- The frame, with the alarm's box and the image's cells laid open. -/
def SX (q : Nat) (x0 x1 x2 x3 x4 x5 : Int) (N : Nat) (a : Option Addr) (n c : Nat) (vC : Array Value) (w0 : World) (hd : List UInt8) (k l : Nat) (d : Bool) (w : World) : Prop :=
  Sx N (imOf a n c) vC w0 hd k l d w ∧ w.heap[q]? = some (.cells #[.int .i64 x0, .int .i64 x1, .int .i64 x2, .int .i64 x3, .int .i64 x4, .int .i64 x5] 47 (0, 0))
section
variable {q : Nat} {x0 x1 x2 x3 x4 x5 : Int} {N : Nat} {a : Option Addr} {n c : Nat} {vC : Array Value} {w0 : World} {hd : List UInt8} {k l : Nat} {d : Bool} {w w' : World}
theorem SX.all (h : SX q x0 x1 x2 x3 x4 x5 N a n c vC w0 hd k l d w) :
    w.cell? ⟨q, 3, none⟩ = some (.int .i64 x3) ∧ w.cell? ⟨q, 4, none⟩ = some (.int .i64 x4) ∧ w.cell? ⟨q, 5, none⟩ = some (.int .i64 x5) ∧
    w.cell? ⟨N, 0, none⟩ = some (.slice none 0 0) ∧ w.cell? ⟨N, 1, none⟩ = some (.slice none 0 0) ∧ w.cell? ⟨N, 2, none⟩ = some (.slice a n c) ∧ w.cell? ⟨N, 3, none⟩ = some (.int .i64 0) ∧ w.cell? ⟨N, 4, none⟩ = some (.slice none 0 0) ∧ w.cell? ⟨N, 5, none⟩ = some (.slice none 0 0) ∧ w.cell? ⟨N, 6, none⟩ = some (.int .i64 0) ∧ w.cell? ⟨N, 7, none⟩ = some (.slice none 0 0) ∧
    SX q x0 x1 x2 x3 x4 x5 N a n c vC w0 hd k l d w := by
  obtain ⟨m0, m1, m2, m3, m4, m5, m6, m7⟩ := im_cells h.1.im
  obtain ⟨_, _, _, q3, q4, q5⟩ := six_cells h.2
  exact ⟨q3, q4, q5, m0, m1, m2, m3, m4, m5, m6, m7, h⟩
theorem SX.up (h : SX q x0 x1 x2 x3 x4 x5 N a n c vC w0 hd k l d w) (hb : Below w.heap.size w w') : SX q x0 x1 x2 x3 x4 x5 N a n c vC w0 hd k l d w' :=
  ⟨h.1.up hb, (hb.block q (lt_of_block h.2)).trans h.2⟩
theorem SX.bel (h : SX q x0 x1 x2 x3 x4 x5 N a n c vC w0 hd k l d w) : Below N w0 w := h.1.bel
theorem SX.drew (h : SX q x0 x1 x2 x3 x4 x5 N a n c vC w0 hd k l d w) : SX q x0 x1 x2 x3 x4 x5 N a n c vC w0 hd k l d w.drew := h.up (Below.refl _ _).drew
theorem SX.alloc (h : SX q x0 x1 x2 x3 x4 x5 N a n c vC w0 hd k l d w) (o : Obj) : SX q x0 x1 x2 x3 x4 x5 N a n c vC w0 hd k l d (w.alloc o) := h.up ((Below.refl _ _).alloc (Nat.le_refl _) o)
end
end Go.Proofs.YtbkjelhkjncfkaaGreatDoor
