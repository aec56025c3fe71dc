/-
  Maps with whole numbers as keys, lengths, greatest and least, clear: the evaluator against the model. No statement of the program is claimed here.
-/
import Derived.Test.YtbkjelhkjncfkaaGreatDoorRfG
import Derived.MapKept
namespace Go.Rf
section
variable {P : Program} {E : Env}

theorem gom {w : World} {r : Nat} {es : Array MapEntry} {ck : Nat} (hb : w.heap[r]? = some (.map es ck)) : (getObj r).run P w = .ok (.map es ck) w := by simp [getObj, Sem.run, hb]
theorem som {w : World} {r : Nat} {es : Array MapEntry} {ck : Nat} (o : Obj) (hb : w.heap[r]? = some (.map es ck)) : (setObj r o).run P w = .ok () { w with heap := w.heap.setIfInBounds r o } := by simp [setObj, Sem.run, hb]
theorem ckInt {t : TypeId} {kk k : IntKind} {n : Int} (h : P.underlying t = some (.int kk)) (m : Nat) (em : Bool) (w : World) : (Instr.checkKey em (m + 1) t (.int k n)).run P w = .ok () w := by simp [Instr.checkKey, run_underlying h]
theorem sbInt (m : Nat) (k : IntKind) (n : Int) : Instr.sameBits m (.int k n) (.int k n) = true := by cases m <;> simp [Instr.sameBits]

theorem setM_key : ∀ {es : List (V × V)} {k v : V} {r : List (V × V)}, setM es k v = some r → ∃ j b, k = .int j b
  | [], k, _, _, h => by cases k <;> first | exact ⟨_, _, rfl⟩ | cases h
  | (e, _) :: _, k, _, _, h => by cases e <;> cases k <;> first | exact ⟨_, _, rfl⟩ | cases h
theorem lookM_key : ∀ {es : List (V × V)} {k : V} {r : Option V}, lookM es k = some r → ∃ j b, k = .int j b
  | [], k, _, h => by cases k <;> first | exact ⟨_, _, rfl⟩ | cases h
  | (e, _) :: _, k, _, h => by cases e <;> cases k <;> first | exact ⟨_, _, rfl⟩ | cases h

/-- What was looked for, and what was found. -/
def LR (ρ : Rho) : Option V → Option (Nat × Value) → Prop
  | none, none => True
  | some v, some x => RV ρ v x.2
  | _, _ => False
theorem findNow_ok {ρ : Rho} {k : IntKind} {kk : IntKind} {b : Int} : ∀ (es : List (V × V)) (l : List MapEntry) (i : Nat) (r : Option V), RM ρ es l → lookM es (.int k b) = some r →
    ∃ q, Instr.findNow (.int kk) (.int k b) l i = some q ∧ LR ρ r q
  | [], [], i, r, _, h => by cases h; exact ⟨none, rfl, trivial⟩
  | [], _ :: _, _, _, hm, _ => by cases hm.1
  | _ :: _, [], _, _, hm, _ => by cases hm.1
  | (x, v) :: es, e :: l, i, r, hm, h => by
    cases hm with
    | intro m1 m2 =>
      simp only [List.map_cons] at m1 m2
      cases m1 with | cons a1 a2 =>
      cases m2 with | cons b1 b2 =>
      unfold lookM at h
      cases x with
      | int j a =>
        simp only at h
        obtain ⟨q, h⟩ := bif_some h
        obtain rfl := sameK_eq q
        cases a1' : e.key with
        | int j' a' =>
          rw [a1'] at a1
          cases a1
          rw [eqQ_eq] at h
          by_cases hab : b = a
          · subst hab
            simp only [decide_true] at h
            cases h
            exact ⟨some (i, e.val), by simp [Instr.findNow, Instr.sameNow, a1'], b1⟩
          · simp only [hab, decide_false] at h
            obtain ⟨q', h1, h2⟩ := findNow_ok (kk := kk) es l (i + 1) r ⟨a2, b2⟩ h
            refine ⟨q', ?_, h2⟩
            have hne : (b == a) = false := by simpa using hab
            simp [Instr.findNow, Instr.sameNow, a1', hne, h1]
        | _ => rw [a1'] at a1; cases a1
      | _ => cases h

/-! ### Keys that are rows of whole numbers -/
theorem eqInts_inv {z xs ys : List V} {r : Bool} (h : eqInts z xs ys = some r) : (z = [] ∧ xs = [] ∧ ys = [] ∧ r = true) ∨
    ∃ k m z' a x b y r', z = .int k m :: z' ∧ xs = .int k a :: x ∧ ys = .int k b :: y ∧ eqInts z' x y = some r' ∧ r = (decide (a = b) && r') := by
  unfold eqInts at h
  split at h
  · cases h; exact .inl ⟨rfl, rfl, rfl, rfl⟩
  · rename_i k m z' j a x i b y
    obtain ⟨q, h2⟩ := bif_some h
    clear h
    rw [Bool.and_eq_true] at q
    obtain rfl := sameK_eq q.1
    obtain rfl := sameK_eq q.2
    cases hr : eqInts z' x y with
    | none => simp [hr] at h2
    | some r' =>
      simp only [hr, Option.some.injEq] at h2
      subst h2
      exact .inr ⟨_, m, z', a, x, b, y, r', rfl, rfl, rfl, hr, by rw [eqQ_eq]⟩
  · cases h
theorem eqInts_RL {ρ : Rho} : ∀ (n : Nat) {z xs ys : List V} {r : Bool} {as bs : List Value}, z.length = n → eqInts z xs ys = some r → RL ρ xs as → RL ρ ys bs → (r = true ↔ as = bs) := by
  intro n
  induction n with
  | zero =>
    intro z xs ys r as bs hn h hx hy
    rcases eqInts_inv h with ⟨_, rfl, rfl, rfl⟩ | ⟨k, m, z', a, x, b, y, r', rfl, _⟩
    · cases hx; cases hy; simp
    · simp at hn
  | succ n ih =>
    intro z xs ys r as bs hn h hx hy
    rcases eqInts_inv h with ⟨rfl, _⟩ | ⟨k, m, z', a, x, b, y, r', rfl, rfl, rfl, h', rfl⟩
    · simp at hn
    · cases hx with | cons h1 h2 =>
      cases hy with | cons g1 g2 =>
      cases h1; cases g1
      have := ih (by simpa using hn) h' h2 g2
      by_cases hab : a = b
      · subst hab; simp [this]
      · simp [hab]
theorem lookA_ok {P : Program} {kt : TypeId} {ρ : Rho} {z : List V} (hkey : ∀ (xs : List V) (a : Array Value), intsIn z xs = true → RL ρ xs a.toList → ∃ l, keyOf P kt (.agg a) = some l)
    {ks : List V} {b : Array Value} (hk : RL ρ ks b.toList) : ∀ (es : List (V × V)) (l : List MapEntry) (r : Option V), RM ρ es l → lookA z ks es = some r →
    (∀ e ∈ l, ∃ q, keyOf P kt e.key = some q) ∧ (r = none → ∀ e ∈ l, e.key ≠ .agg b) ∧ (∀ v, r = some v → ∃ (i : Nat) (e : MapEntry), l[i]? = some e ∧ e.key = .agg b ∧ RV ρ v e.val ∧ ∀ (j : Nat) e', l[j]? = some e' → e'.key = .agg b → j = i)
  | [], [], r, _, h => by
    cases h
    exact ⟨fun e he => (by cases he), fun _ e he => (by cases he), fun v hv => (by cases hv)⟩
  | [], _ :: _, _, hm, _ => by cases hm.1
  | _ :: _, [], _, hm, _ => by cases hm.1
  | (x, u) :: es, e :: l, r, hm, h => by
    cases hm with
    | intro m1 m2 =>
      simp only [List.map_cons] at m1 m2
      cases m1 with | cons a1 a2 =>
      cases m2 with | cons b1 b2 =>
      unfold lookA at h
      split at h
      case h_1 hh => cases hh
      case h_3 => cases h
      rename_i xs v l' heq
      cases heq
      obtain ⟨hin, h⟩ := bif_some h
      generalize hek : e.key = ek at a1
      cases a1 with | @agg _ a hxs =>
      have hke := hkey xs a hin hxs
      cases heq : eqInts z ks xs with
      | none => rw [heq] at h; cases h
      | some t =>
        cases hl : lookA z ks es with
        | none => rw [heq, hl] at h; cases t <;> cases h
        | some rr =>
          obtain ⟨i1, i2, i3⟩ := lookA_ok hkey hk es l rr ⟨a2, b2⟩ hl
          have hiff := eqInts_RL _ rfl heq hk hxs
          have hall : ∀ e' ∈ e :: l, ∃ q, keyOf P kt e'.key = some q := fun e' he' => by
            cases he' with
            | head => rw [hek]; exact hke
            | tail _ he' => exact i1 e' he'
          rw [heq, hl] at h
          cases t with
          | true =>
            have hab : b = a := by simpa using hiff.1 rfl
            subst hab
            cases rr with
            | some _ => cases h
            | none =>
              cases h
              refine ⟨hall, fun hn => (by cases hn), fun v' hv' => ?_⟩
              cases hv'
              refine ⟨0, e, rfl, hek, b1, fun j e' hj hk' => ?_⟩
              cases j with
              | zero => rfl
              | succ j => exact absurd hk' (i2 rfl e' (List.mem_of_getElem? (by simpa using hj)))
          | false =>
            have hab : ¬ (Value.agg a = .agg b) := fun he => by
              have : false = true := hiff.2 (by injection he with he; rw [he])
              cases this
            cases h
            refine ⟨hall, fun hn e' he' => ?_, fun v' hv' => ?_⟩
            · cases he' with
              | head => rw [hek]; exact hab
              | tail _ he' => exact i2 hn e' he'
            · obtain ⟨i, e', q1, q2, q3, q4⟩ := i3 v' hv'
              refine ⟨i + 1, e', by simpa using q1, q2, q3, fun j e2 hj hk' => ?_⟩
              cases j with
              | zero =>
                simp only [List.getElem?_cons_zero, Option.some.injEq] at hj
                subst hj
                rw [hek] at hk'; exact absurd hk' hab
              | succ j => rw [q4 j e2 (by simpa using hj) hk']

theorem lookK_ok (hE : EOk P E) {ρ : Rho} {kt : TypeId} {k : V} {b : Value} (hk : RV ρ k b) {es : List (V × V)} {l : List MapEntry} (hm : RM ρ es l) {r : Option V} (h : lookK (E.key kt) (E.ty kt) es k = some r) (w : World) :
    (∀ em, (Instr.checkKey em 10000 kt b).run P w = .ok () w) ∧ ∃ q, (Instr.findKey kt b l).run P w = .ok q w ∧ LR ρ r q := by
  unfold lookK at h
  cases hik : intKey (E.ty kt) with
  | true =>
    rw [hik, cond_true] at h
    unfold intKey at hik
    split at hik
    · rename_i kk _ _ _ _ htk
      obtain ⟨dk, hdk, hkk⟩ := (hE.ty _ _ htk).under
      obtain rfl : dk = .int kk := hkk
      obtain ⟨k', n, rfl⟩ := lookM_key h
      cases hk
      obtain ⟨q, q1, q2⟩ := findNow_ok (kk := kk) es l 0 r hm h
      exact ⟨fun em => ckInt hdk 9999 em w, q, by simp [Instr.findKey, run_underlying hdk, q1], q2⟩
    · cases hik
  | false =>
    rw [hik, cond_false] at h
    cases hkey : E.key kt with
    | false => rw [hkey] at h; cases h
    | true =>
    cases htk : E.ty kt with
    | none => simp [hkey, htk] at h
    | some tk =>
    cases k <;> simp only [hkey, htk] at h <;> first | cases h | skip
    · rename_i ks
      obtain ⟨hin, h⟩ := bif_some h
      obtain ⟨law, hlit⟩ := hE.key kt tk htk hkey
      cases hk with | agg hks =>
      obtain ⟨lk, hlk⟩ := hlit ks _ ρ hin hks
      obtain ⟨i1, i2, i3⟩ := lookA_ok (fun xs a => hlit xs a ρ) hks es l r hm h
      refine ⟨fun em => law.check w em hlk, ?_⟩
      rcases law.find w hlk l i1 with ⟨f1, f2⟩ | ⟨j, e, f1, f2, f3⟩
      · refine ⟨none, f1, ?_⟩
        cases r with
        | none => trivial
        | some v =>
          obtain ⟨i, e, q1, q2, _⟩ := i3 v rfl
          exact absurd q2 (f2 e (List.mem_of_getElem? q1))
      · refine ⟨some (j, e.val), f1, ?_⟩
        cases r with
        | none => exact absurd f3 (i2 rfl e (List.mem_of_getElem? f2))
        | some v =>
          obtain ⟨i, e', q1, q2, q3, q4⟩ := i3 v rfl
          obtain rfl := q4 j e f2 f3
          rw [q1] at f2
          cases f2
          exact q3

theorem zeroT_ok (hE : EOk P E) {e : TypeId} {te : TI} (hte : E.ty e = some te) {z : V} (h : zeroT te = some z) : ∃ zc, (∀ w, (zeroValue e).run P w = .ok zc w) ∧ ∀ ρ, RV ρ z zc := by
  obtain ⟨i, _, z', hi, _, _, _, hiz, hz1', hz2', _⟩ := (hE.ty _ _ hte).ex
  refine ⟨z', fun w => by simp [zeroValue, typeInfo, hi, hiz], fun ρ => ?_⟩
  unfold zeroT at h
  split at h
  · rename_i hag
    cases h
    obtain ⟨a, rfl⟩ := (hE.ty _ _ hte).agg hag i z' hi hiz
    exact .agg (hz1' ρ)
  · rename_i hag
    have ho := (hE.ty _ _ hte).one hag i z' hi hiz
    have hl1 := hz1' ρ
    rw [ho] at hl1
    cases hzz : te.zero with
    | nil => rw [hzz] at h; cases h
    | cons u us =>
      rw [hzz] at h hl1
      cases h
      cases hl1; assumption
theorem okV_ok {ρ : Rho} {v : V} {c : Value} (hv : RV ρ v c) (ok b : Bool) : RV ρ (okV ok v b) (if ok = true then .tuple #[c, .bool b] else c) := by
  cases ok with
  | true => exact .tup (.cons hv (.cons (.bool b) .nil))
  | false => exact hv

theorem lookupV_ok (hE : EOk P E) {ρ : Rho} {hp : Hp} {nx : Nat} {w : World} (hr : HR ρ hp nx w) {t : TypeId} {x y : V} {a b : Value} (hx : RV ρ x a) (hy : RV ρ y b) {ok : Bool} {v : V} (h : lookupV E hp (E.ty t) x y ok = some v) :
    ∃ c, (Instr.lookup t a b ok).run P w = .ok c w ∧ RV ρ v c := by
  unfold lookupV at h
  split at h
  · rename_i kt e _ _ _ _ hti
    obtain ⟨d, hd, hk⟩ := (hE.ty _ _ hti).under
    obtain rfl : d = .map kt e := hk
    cases hx with | map hb =>
    split at h
    · rename_i es te hbk hte
      obtain ⟨arr, h1, h2, _⟩ := hr.blk _ _ _ _ hbk hb
      cases hl : lookK (E.key kt) (E.ty kt) es y with
      | none => rw [hl] at h; cases h
      | some r =>
        rw [hl] at h
        obtain ⟨hck, q, q1, q2⟩ := lookK_ok hE hy h2 hl w
        cases r with
        | some u =>
          cases h
          cases q with
          | none => exact q2.elim
          | some q =>
            refine ⟨_, ?_, okV_ok q2 ok true⟩
            cases ok <;> simp [Instr.lookup, run_underlying hd, gom h1, hck, q1]
        | none =>
          cases q with
          | some q => exact q2.elim
          | none =>
            simp only at h
            cases hz : zeroT te with
            | none => rw [hz] at h; cases h
            | some z =>
              rw [hz] at h; cases h
              obtain ⟨zc, z1, z2⟩ := zeroT_ok hE hte hz
              refine ⟨_, ?_, okV_ok (z2 ρ) ok false⟩
              cases ok <;> simp [Instr.lookup, run_underlying hd, gom h1, hck, q1, z1]
    · cases h
  · cases h

theorem modify_toList (es : Array MapEntry) (i : Nat) (f : MapEntry → MapEntry) : (es.modify i f).toList = es.toList.modify i f := by simp

theorem setM_ok {ρ : Rho} {k : IntKind} {kk : IntKind} {b : Int} {v : V} {c : Value} (hv : RV ρ v c) : ∀ (es : List (V × V)) (l : List MapEntry) (i : Nat) (r : List (V × V)), RM ρ es l → setM es (.int k b) v = some r →
    (∃ j u, Instr.findNow (.int kk) (.int k b) l i = some (some (i + j, u)) ∧ (l[j]?).map (·.key) = some (.int k b) ∧ RM ρ r (l.modify j fun e => { e with key := .int k b, val := c })) ∨
    (Instr.findNow (.int kk) (.int k b) l i = some none ∧ ∀ ck, RM ρ r (l ++ [{ key := .int k b, val := c, born := ck }]))
  | [], [], i, r, _, h => by
    cases h
    exact .inr ⟨rfl, fun ck => ⟨.cons (.int _ _) .nil, .cons hv .nil⟩⟩
  | [], _ :: _, _, _, hm, _ => by cases hm.1
  | _ :: _, [], _, _, hm, _ => by cases hm.1
  | (x, u) :: es, e :: l, i, r, hm, h => by
    cases hm with
    | intro m1 m2 =>
      simp only [List.map_cons] at m1 m2
      cases m1 with | cons a1 a2 =>
      cases m2 with | cons b1 b2 =>
      unfold setM at h
      cases x with
      | int j a =>
        simp only at h
        obtain ⟨q, h⟩ := bif_some h
        obtain rfl := sameK_eq q
        cases a1' : e.key with
        | int j' a' =>
          rw [a1'] at a1
          cases a1
          rw [eqQ_eq] at h
          by_cases hab : b = a
          · subst hab
            simp only [decide_true] at h
            cases h
            refine .inl ⟨0, e.val, by simp [Instr.findNow, Instr.sameNow, a1'], by simp [a1'], ?_⟩
            simp only [List.modify_zero_cons]
            exact ⟨.cons (.int _ _) a2, .cons hv b2⟩
          · simp only [hab, decide_false] at h
            cases hs : setM es (.int j b) v with
            | none => rw [hs] at h; cases h
            | some r' =>
              rw [hs] at h; cases h
              have hfn : Instr.findNow (.int kk) (.int j b) (e :: l) i = Instr.findNow (.int kk) (.int j b) l (i + 1) := by
                have hne : (b == a) = false := by simpa using hab
                simp [Instr.findNow, Instr.sameNow, a1', hne]
              rcases setM_ok (kk := kk) hv es l (i + 1) r' ⟨a2, b2⟩ hs with ⟨jj, uu, h1, h2, h3⟩ | ⟨h1, h2⟩
              · refine .inl ⟨jj + 1, uu, by rw [hfn, h1]; congr 3; omega, by simpa using h2, ?_⟩
                simp only [List.modify_succ_cons]
                refine ⟨.cons ?_ h3.1, .cons b1 h3.2⟩
                show RV ρ (.int j a) e.key
                rw [a1']; exact .int _ _
              · refine .inr ⟨by rw [hfn, h1], fun ck => ⟨.cons ?_ (h2 ck).1, .cons b1 (h2 ck).2⟩⟩
                show RV ρ (.int j a) e.key
                rw [a1']; exact .int _ _
        | _ => rw [a1'] at a1; cases a1
      | _ => cases h

theorem born_push {arr : Array MapEntry} (h : ∀ (i : Nat) (e : MapEntry), arr[i]? = some e → e.born = i) (k v : Value) : ∀ (i : Nat) (e : MapEntry), (arr.push { key := k, val := v, born := arr.size })[i]? = some e → e.born = i := fun i e hi => by
  rw [Array.getElem?_push] at hi
  split at hi
  · rename_i he
    cases hi; exact he.symm
  · exact h i e hi
theorem born_modify {arr : Array MapEntry} (h : ∀ (i : Nat) (e : MapEntry), arr[i]? = some e → e.born = i) (j : Nat) (f : MapEntry → MapEntry) (hf : ∀ e, (f e).born = e.born) : ∀ (i : Nat) (e : MapEntry), (arr.modify j f)[i]? = some e → e.born = i := fun i e hi => by
  rw [← Array.getElem?_toList, modify_toList, List.getElem?_modify] at hi
  cases hx : arr.toList[i]? with
  | none => rw [hx] at hi; cases hi
  | some e0 =>
    rw [hx] at hi
    have h0 := h i e0 (by rw [← Array.getElem?_toList]; exact hx)
    have hi' : (if j = i then f e0 else e0) = e := by simpa using hi
    subst hi'
    split
    · rw [hf]; exact h0
    · exact h0
theorem chg_set (w : World) (g : Nat) (o : Obj) : Chg g w { w with heap := w.heap.set! g o } :=
  ⟨rfl, rfl, rfl, by simp, fun k hk => by simp [Ne.symm hk]⟩

theorem mapUpd_ok (hE : EOk P E) {w0 w : World} {M0 : Nat → Prop} {ρ : Rho} {hp hp' : Hp} {nx : Nat} (hI : Inv E w0 M0 ρ hp nx w) {t : TypeId} {x y z : V} {a b c : Value} (hx : RV ρ x a) (hy : RV ρ y b) (hz : RV ρ z c)
    (h : mapUpd E hp (E.ty t) x y z = some hp') : ∃ w', (Instr.mapUpdate t a b c).run P w = .ok () w' ∧ Inv E w0 M0 ρ hp' nx w' := by
  unfold mapUpd at h
  split at h
  · rename_i bb kt e _ _ _ _ hti
    obtain ⟨d, hd, hk⟩ := (hE.ty _ _ hti).under
    obtain rfl : d = .map kt e := hk
    cases hx with | @map _ g n hb =>
    split at h
    · rename_i es hbk
      obtain ⟨arr, h1, h2, h3⟩ := hI.hr.blk _ _ _ _ hbk hb
      have hg : g < w.heap.size := hI.hr.bnd _ _ _ hb
      have hset : ∀ o : Obj, (w.heap.set! g o)[g]? = some o := fun o => by simp [hg]
      cases hs : setK (E.key kt) (E.ty kt) es y z with
      | none => rw [hs] at h; cases h
      | some es' =>
        rw [hs] at h; cases h
        have hpush : RM ρ es' (arr.toList ++ [{ key := b, val := c, born := arr.size }]) → Inv E w0 M0 ρ (hp.set bb (some (.map es'))) nx { w with heap := w.heap.set! g (.map (arr.push { key := b, val := c, born := arr.size }) (arr.size + 1)) } := fun f2 =>
          hI.put hbk trivial hb (chg_set w g _) ⟨arr.push { key := b, val := c, born := arr.size }, by rw [Array.size_push]; exact hset _, by rw [Array.toList_push]; exact f2, born_push h3 _ _⟩
        unfold setK at hs
        cases hik : intKey (E.ty kt) with
        | true =>
          rw [hik, cond_true] at hs
          unfold intKey at hik
          split at hik
          · rename_i kk _ _ _ _ htk
            obtain ⟨dk, hdk, hkk⟩ := (hE.ty _ _ htk).under
            obtain rfl : dk = .int kk := hkk
            obtain ⟨k, n', rfl⟩ := setM_key hs
            cases hy
            have hck : ∀ em, (Instr.checkKey em 10000 kt (.int k n')).run P w = .ok () w := fun em => ckInt hdk 9999 em w
            rcases setM_ok (kk := kk) hz es arr.toList 0 es' h2 hs with ⟨j, u, f1, f2, f3⟩ | ⟨f1, f2⟩
            · have hkey : ((arr[j]?).map (·.key)).getD (.int k n') = .int k n' := by
                rw [← Array.getElem?_toList, f2]; rfl
              refine ⟨{ w with heap := w.heap.set! g (.map (arr.modify j fun e => { e with key := .int k n', val := c }) arr.size) }, ?_, hI.put hbk trivial hb (chg_set w g _) ⟨arr.modify j fun e => { e with key := .int k n', val := c }, by rw [Array.size_modify]; exact hset _, by rw [modify_toList]; exact f3, born_modify h3 _ _ fun _ => rfl⟩⟩
              simp [Instr.mapUpdate, run_underlying hd, gom h1, hck, Instr.findKey, run_underlying hdk, f1, Instr.keyThatStays, hkey, sbInt, som _ h1]
            · refine ⟨_, ?_, hpush (f2 _)⟩
              simp [Instr.mapUpdate, run_underlying hd, gom h1, hck, Instr.findKey, run_underlying hdk, f1, som _ h1]
          · cases hik
        | false =>
          rw [hik, cond_false] at hs
          cases hkey : E.key kt with
          | false => rw [hkey] at hs; cases hs
          | true =>
          cases htk : E.ty kt with
          | none => simp [hkey, htk] at hs
          | some tk =>
          cases y <;> simp only [hkey, htk] at hs <;> first | cases hs | skip
          rename_i ks
          obtain ⟨hin, hs⟩ := bif_some hs
          split at hs
          case h_2 => cases hs
          rename_i hl
          cases hs
          have hlk : lookK (E.key kt) (E.ty kt) es (.agg ks) = some none := by
            have hik' : intKey (some tk) = false := by rw [← htk]; exact hik
            unfold lookK
            rw [hkey, htk, hik', cond_false]
            simp only [hin, cond_true, hl]
          obtain ⟨hck, q, q1, q2⟩ := lookK_ok hE hy h2 hlk w
          cases q with
          | some q => exact q2.elim
          | none =>
            refine ⟨_, ?_, hpush ?_⟩
            · simp [Instr.mapUpdate, run_underlying hd, gom h1, hck, q1, som _ h1]
            · simp only [RM, List.map_append, List.map_cons, List.map_nil]
              exact ⟨h2.1.append (.cons hy .nil), h2.2.append (.cons hz .nil)⟩
    · cases h
  · cases h

/-! ### Ranges over a map -/
theorem rangeMapV_ok (hE : EOk P E) {w0 w : World} {M0 : Nat → Prop} {ρ : Rho} {st : St} (hI : Inv E w0 M0 ρ st.hp st.nx w) {t : TypeId} {x : V} {a : Value} (hx : RV ρ x a) {r : R} (h : rangeMapV E st (E.ty t) x = some r) :
    ∃ c w', (Instr.range t a).run P w = .ok c w' ∧ Stp E w0 M0 ρ st.nx r c w' ∧ r.df = none := by
  unfold rangeMapV at h
  split at h
  · rename_i b kt e _ _ _ _ hti
    obtain ⟨d, hd, hk⟩ := (hE.ty _ _ hti).under
    obtain rfl : d = .map kt e := hk
    cases hx with | @map _ g n hb =>
    split at h
    · rename_i es hbk
      cases h
      obtain ⟨arr, h1, h2, h3⟩ := hI.hr.blk _ _ _ _ hbk hb
      have hsz : es.length = arr.size := by have := h2.1.length; simpa using this
      obtain ⟨i1, e1⟩ := hI.new (.iter (some b) es.length false) (.mapIter (some g) arr.size #[] arr.size) (0, 0) (w' := w.alloc (.mapIter (some g) arr.size #[] arr.size)) rfl rfl rfl rfl
        fun w'' hh => ⟨rfl, g, n, hb, by rw [hsz]; exact hh⟩
      refine ⟨.pointer (some ⟨w.heap.size, 0, none⟩), _, ?_, ⟨_, i1, .ptr (Rho.put_same _ _ _), Nat.le_succ _, e1⟩, rfl⟩
      simp [Instr.range, run_underlying hd, gom h1]
    · cases h
  · rename_i kt e _ _ _ _ hti
    obtain ⟨d, hd, hk⟩ := (hE.ty _ _ hti).under
    obtain rfl : d = .map kt e := hk
    cases hx
    cases h
    obtain ⟨i1, e1⟩ := hI.new (.iter none 0 false) (.mapIter none 0 #[] 0) (0, 0) (w' := w.alloc (.mapIter none 0 #[] 0)) rfl rfl rfl rfl fun w'' hh => ⟨rfl, _, _, _, hh⟩
    refine ⟨.pointer (some ⟨w.heap.size, 0, none⟩), _, ?_, ⟨_, i1, .ptr (Rho.put_same _ _ _), Nat.le_succ _, e1⟩, rfl⟩
    simp [Instr.range, run_underlying hd]
  · cases h

theorem iter_next {w : World} {ty : TypeId} {r g' : Nat} {n : Nat} {sn : Bool} {arr : Array MapEntry} (hr : w.heap[r]? = some (.mapIter (some g') n (bif sn then #[0] else #[]) n)) (hb : w.heap[g']? = some (.map arr arr.size))
    (hn : arr.size = n) (h3 : ∀ (i : Nat) (e : MapEntry), arr[i]? = some e → e.born = i) :
    ((leftOf arr (bif sn then #[0] else #[])).size = 0 ∧ (Instr.next (.pointer (some ⟨r, 0, none⟩)) false ty).run P w = .ok (.tuple #[.bool false]) w) ∨
    ∃ e ∈ (leftOf arr (bif sn then #[0] else #[])).toList, ∃ w1 : World, (w1 = w ∨ w1 = w.drew) ∧ (Instr.next (.pointer (some ⟨r, 0, none⟩)) false ty).run P w = .ok (.tuple #[.bool true, e.key, e.val]) (ChangeMaps.setBlock w1 r (.mapIter (some g') n ((bif sn then #[0] else #[]).push e.born) n)) := by
  have hold : ∀ x ∈ arr.toList, x.born < n := fun x hx => by
    obtain ⟨i, hi, hix⟩ := List.getElem_of_mem hx
    have := h3 i x (by rw [← Array.getElem?_toList, List.getElem?_eq_getElem hi, hix])
    rw [this, ← hn]; simpa using hi
  have := run_next_at (P := P) w ty r g' n n (bif sn then #[0] else #[]) arr arr.size hr hb hold (Nat.le_refl _)
  rwa [hn] at this

theorem putObj_chg' (w : World) (g : Nat) (o : Obj) : Chg g w (ChangeMaps.setBlock w g o) := ⟨rfl, rfl, rfl, by simp [ChangeMaps.setBlock], fun k h => by simp [ChangeMaps.setBlock, Array.getElem?_setIfInBounds_ne (Ne.symm h)]⟩
theorem nextV_ok {w0 w : World} {M0 : Nat → Prop} {ρ : Rho} {st : St} (hI : Inv E w0 M0 ρ st.hp st.nx w) {ty : TypeId} {x : V} {a : Value} (hx : RV ρ x a) {r : R} (h : nextV st x = some r) :
    ∃ c w', (Instr.next a false ty).run P w = .ok c w' ∧ Stp E w0 M0 ρ st.nx r c w' ∧ r.df = none := by
  unfold nextV at h
  split at h
  case h_2 => cases h
  rename_i q
  cases hx with | @ptr _ _ g m hb =>
  have over : r = ⟨.tup [.bool false], st.hp, st.nx, none⟩ → (Instr.next (.pointer (some ⟨g, 0, none⟩)) false ty).run P w = .ok (.tuple #[.bool false]) w →
      ∃ c w', (Instr.next (.pointer (some ⟨g, 0, none⟩)) false ty).run P w = .ok c w' ∧ Stp E w0 M0 ρ st.nx r c w' ∧ r.df = none := fun hr hrun => by
    subst hr
    exact ⟨_, w, hrun, Stp.same hI (.tup (.cons (.bool _) .nil)) none, rfl⟩
  split at h
  · rename_i hq
    obtain ⟨h0, s, se, l, hg⟩ := hI.hr.blk _ _ g m hq hb
    rw [h0]
    cases h
    refine over rfl ?_
    simp [Instr.next, getObj, Sem.run, hg]
  · rename_i b n seen hq
    obtain ⟨h0, g', nn, hb', hg⟩ := hI.hr.blk _ _ g m hq hb
    rw [h0]
    have key : ∀ es, st.hp.get b = some (.map es) → ∃ arr : Array MapEntry, w.heap[g']? = some (.map arr arr.size) ∧ RM ρ es arr.toList ∧ (∀ (i : Nat) (e : MapEntry), arr[i]? = some e → e.born = i) ∧ arr.size = es.length := fun es hes => by
      obtain ⟨arr, h1, h2, h3⟩ := hI.hr.blk _ _ _ _ hes hb'
      exact ⟨arr, h1, h2, h3, by have := h2.1.length; simpa using this.symm⟩
    split at h
    · rename_i hes
      obtain ⟨hn, h⟩ := bif_some h
      obtain rfl := Nat.eq_of_beq_eq_true hn
      cases h
      obtain ⟨arr, k1, k2, k3, k4⟩ := key _ hes
      rcases iter_next (P := P) (ty := ty) (sn := false) hg k1 k4 k3 with ⟨_, hrun⟩ | ⟨e, he, _⟩
      · exact over rfl hrun
      · have : arr = #[] := Array.eq_empty_of_size_eq_zero k4
        subst this
        simp [leftOf] at he
    · rename_i k v hes
      obtain ⟨hn, h⟩ := bif_some h
      obtain rfl := Nat.eq_of_beq_eq_true hn
      cases h
      obtain ⟨arr, k1, k2, k3, k4⟩ := key _ hes
      obtain ⟨e, rfl⟩ : ∃ e, arr = #[e] := by
        obtain ⟨l⟩ := arr
        match l, k4 with
        | [e], _ => exact ⟨e, rfl⟩
      have hborn : e.born = 0 := k3 0 e rfl
      rcases iter_next (P := P) (ty := ty) (sn := false) hg k1 k4 k3 with ⟨hz, hrun⟩ | ⟨e', he, w1, hw1, hrun⟩
      · simp [leftOf] at hz
      · obtain rfl : e' = e := by simpa [leftOf] using he
        refine ⟨_, _, hrun, ⟨ρ, ?_, ?_, Nat.le_refl _, fun _ _ => rfl⟩, rfl⟩
        · have hI1 : Inv E w0 M0 ρ st.hp st.nx w1 := by
            rcases hw1 with rfl | rfl
            · exact hI
            · exact hI.same rfl rfl rfl rfl
          have hgs : g < w1.heap.size := hI1.hr.bnd _ _ _ hb
          refine hI1.put hq trivial hb (putObj_chg' w1 g _) ⟨h0, g', nn, hb', ?_⟩
          show (w1.heap.setIfInBounds g _)[g]? = _
          simp [hgs, hborn]
        · obtain ⟨m1, m2⟩ := k2
          simp only [List.map_cons, List.map_nil] at m1 m2
          cases m1 with | cons a1 _ =>
          cases m2 with | cons b1 _ =>
          exact .tup (.cons (.bool _) (.cons a1 (.cons b1 .nil)))
    · rename_i k v hes
      obtain ⟨hn, h⟩ := bif_some h
      obtain rfl := Nat.eq_of_beq_eq_true hn
      cases h
      obtain ⟨arr, k1, k2, k3, k4⟩ := key _ hes
      obtain ⟨e, rfl⟩ : ∃ e, arr = #[e] := by
        obtain ⟨l⟩ := arr
        match l, k4 with
        | [e], _ => exact ⟨e, rfl⟩
      have hborn : e.born = 0 := k3 0 e rfl
      rcases iter_next (P := P) (ty := ty) (sn := true) hg k1 k4 k3 with ⟨_, hrun⟩ | ⟨e', he, _⟩
      · exact over rfl hrun
      · simp [leftOf, hborn] at he
    · cases h
  · cases h

theorem entryV_ok {ρ : Rho} {hp : Hp} {nx : Nat} {w : World} (hr : HR ρ hp nx w) {x : V} {a : Value} (hx : RV ρ x a) {v : V} (h : entryV hp x = some v) : ∃ c, (Instr.entry a).run P w = .ok c w ∧ RV ρ v c := by
  unfold entryV at h
  split at h
  case h_2 => cases h
  cases hx with | @ptr _ _ g m hb =>
  split at h
  case h_2 => cases h
  rename_i b n hq
  obtain ⟨h0, g', nn, hb', hg⟩ := hr.blk _ _ g m hq hb
  rw [h0]
  split at h
  case h_2 => cases h
  rename_i k v' hes
  obtain ⟨hn, h⟩ := bif_some h
  obtain rfl := Nat.eq_of_beq_eq_true hn
  cases h
  obtain ⟨arr, k1, k2, k3⟩ := hr.blk _ _ _ _ hes hb'
  have k4 : arr.size = 1 := by have := k2.1.length; simpa using this.symm
  obtain ⟨e, rfl⟩ : ∃ e, arr = #[e] := by
    obtain ⟨l⟩ := arr
    match l, k4 with
    | [e], _ => exact ⟨e, rfl⟩
  have hborn : e.born = 0 := k3 0 e rfl
  have hg' : w.heap[g]? = some (.mapIter (some g') 1 ((#[] : Array Nat).push e.born) 1) := by rw [hborn]; exact hg
  refine ⟨_, run_entry_at w g g' 1 #[] #[e] 1 e hg' k1 (by simp) (by simp), ?_⟩
  obtain ⟨m1, m2⟩ := k2
  simp only [List.map_cons, List.map_nil] at m1 m2
  cases m1 with | cons a1 _ =>
  cases m2 with | cons b1 _ =>
  exact .tup (.cons a1 (.cons b1 .nil))
end
end Go.Rf
