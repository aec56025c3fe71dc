/-
  Regions that draw, joined: every order. And so every function. No statement of the program is claimed here.
-/
import Derived.Test.YtbkjelhkjncfkaaGreatDoorRfT
import Derived.OrdersIn
namespace Go.Rf
section
variable {P : Program} {E : Env} {call : CallT} {nt : Nat} {w0 : World} {M0 : Nat → Prop}
variable {ops : Array Oper} {pl : Plan} {l : List Oper} {S : Nat → St}

/-- The heavy operation at the segment's end is done. -/
theorem KI.heavy (R : Run E call nt ops pl l S) {ρ0 ρ ρ' : Rho} {listed : Array Bool} {q : Nat} {a a0 : Act} {w w' : World} (h : KI E nt w0 M0 ops pl l S ρ0 listed ρ q a w) {i : Nat} {o : Oper} (hp : pl.ord[q]? = some i) (hi : ops[i]? = some o) (ho : l[q]? = some o)
    (hr : ∀ e ∈ bindsOf o, listed.getD e false = true) (ha : a0.tmps = a.tmps) (had : DR ρ' (S (q + 1)).df a0.defers) {c : Value} (hv : ∀ d, o.dst = some d → d < nt ∧ RV ρ' (tget (S (q + 1)).tm d) c)
    (hI : Inv E w0 M0 ρ' (S (q + 1)).hp (S (q + 1)).nx w') (hnx : (S q).nx ≤ (S (q + 1)).nx) (hb : ∀ b, b < (S q).nx → ρ' b = ρ b) :
    ∃ q', KI E nt w0 M0 ops pl l S ρ0 (listed.setIfInBounds i true) ρ' q' (a0.put o.dst c) w' := by
  have hqn : q < ops.size := (R.ord_of ho).choose_spec.2.2
  have hext : Ext ρ ρ' := h.inv.hr.ext_of hb
  obtain ⟨t1, t2⟩ := h.tmps R hp ho hext ha hv
  have sd := R.set_done h.sz hp
  obtain ⟨q', n1, n2, n3, n4⟩ := nextSeg (l := l) (q + 1) _ rfl (by rw [R.pp.llen]; omega)
  rw [R.pp.llen] at n2
  obtain ⟨p1, p2, p3⟩ := R.pads (q + 1) hI (q' - (q + 1)) (by omega) fun r x y => n4 r x (by omega)
  rw [show q + 1 + (q' - (q + 1)) = q' by omega] at p1 p2 p3
  exact ⟨q', {
    sz := by rw [Array.size_setIfInBounds]; exact h.sz
    qn := n2
    seg := n3
    hv := fun r hrq hh => by
      rcases Nat.lt_trichotomy r q with hlt | rfl | hgt
      · exact (sd r).2 (.inl (h.hv r hlt hh))
      · exact (sd _).2 (.inr rfl)
      · rw [n4 r (by omega) hrq] at hh; cases hh
    lt := fun r hD => by
      rcases (sd r).1 hD with hD | rfl
      · have := h.lt r hD; omega
      · omega
    down := down_set h.down hi hr
    tsz := by rw [put_size, ha]; exact h.tsz
    inv := p1
    df := by rw [put_defers, p2]; exact had
    done := t1
    undone := t2
    pend := fun r o' hrq hl hD hal hw => by
      rcases Nat.lt_trichotomy r q with hlt | rfl | hgt
      · have hold := h.pend r o' hlt hl (fun hD' => hD ((sd r).2 (.inl hD'))) hal hw
        obtain ⟨cs, _, e2⟩ := alloc_nx hal hw (R.step r o' hl)
        have := mono_le' h.mono (r := r + 1) (s := q) (by omega) (Nat.le_refl _)
        rw [hb _ (by omega)]; exact hold
      · exact absurd ((sd _).2 (.inr rfl)) hD
      · exact hI.hr.dom _ (by
          have : ∀ k, q + 1 + k ≤ r → (S (q + 1)).nx ≤ (S (q + 1 + k)).nx := fun k => by
            induction k with
            | zero => intro _; exact Nat.le_refl _
            | succ k ih => intro hk; exact Nat.le_trans (ih (by omega)) (p3 (q + 1 + k) (by omega) (by omega))
          have := this (r - (q + 1)) (by omega)
          rwa [show q + 1 + (r - (q + 1)) = r by omega] at this)
    mono := fun r hrq => by
      rcases Nat.lt_trichotomy r q with hlt | rfl | hgt
      · exact h.mono r hlt
      · exact hnx
      · exact p3 r (by omega) hrq
    base := fun b hb' => (hb b (Nat.lt_of_lt_of_le hb' (mono_le' h.mono (Nat.zero_le q) (Nat.le_refl _)))).trans (h.base b hb') }⟩

/-- One operation, in whatever order it comes. -/
theorem KI.one (hE : EOk P E) (hG : Good P E call) {rd : Option Nat} (R : Run E call nt ops pl l S) {ρ0 ρ : Rho} {listed : Array Bool} {q : Nat} {a : Act} {w : World} (h : KI E nt w0 M0 ops pl l S ρ0 listed ρ q a w) {p i : Nat} {o : Oper} (hp : pl.ord[p]? = some i) (hi : ops[i]? = some o) (ho : l[p]? = some o)
    (hn : ¬ Dn pl listed p) (hr : ∀ e ∈ bindsOf o, listed.getD e false = true) (hpl : rd = none ∨ plainOp o.op = true) {K : Act → World → Prop} {Q : Exit → Act → World → Prop}
    (hK : ∀ (ρ' : Rho) (q' : Nat) (a' : Act) (w' : World), KI E nt w0 M0 ops pl l S ρ0 (listed.setIfInBounds i true) ρ' q' a' w' → K a' w') :
    if Region.wanted o (yielded ops a.tmps) then o.wpIn (FW rd) 0 P a w K Q else K (a.put o.dst undef) w := by
  have hstep := R.step p o ho
  have hpn : p < ops.size := (R.ord_of ho).choose_spec.2.2
  have hops := h.operands R hp ho hn hr
  rcases evOp1_cases hstep with ⟨hw, hs⟩ | ⟨hw, r, hx, hs⟩
  · rw [h.guards R hp ho hn hr hw]
    obtain ⟨tm, h1, h2⟩ := skipR_form hs
    have hval : ∀ d, o.dst = some d → d < nt ∧ RV ρ (tget (S (p + 1)).tm d) undef := fun d hd => by
      rw [hd] at h1
      obtain ⟨k1, k2⟩ := putT_at h1
      rw [h2]
      exact ⟨k2, by rw [k1]; exact .tup .nil⟩
    rcases h.place R hp ho hn hr with ⟨hpq, _⟩ | ⟨rfl, _⟩
    · exact hK ρ q _ w (h.float R hp hi ho hr hpq (Ext.refl ρ) rfl h.df hval h.inv (fun _ _ _ _ _ _ _ hx => hx) fun _ _ => rfl)
    · obtain ⟨q', hk⟩ := h.heavy R hp hi ho hr rfl (by rw [h2]; exact h.df) hval (by rw [h2]; exact h.inv) (by rw [h2]; exact Nat.le_refl _) (fun _ _ => rfl)
      exact hK ρ q' _ w hk
  · rw [h.guards R hp ho hn hr hw]
    simp only [if_true]
    obtain ⟨tm, h1, h2⟩ := stepR_form hs
    have hval : ∀ (ρ' : Rho) (c : Value), RV ρ' r.v c → ∀ d, o.dst = some d → d < nt ∧ RV ρ' (tget (S (p + 1)).tm d) c := fun ρ' c hv d hd => by
      rw [hd] at h1
      obtain ⟨k1, k2⟩ := putT_at h1
      rw [h2]
      exact ⟨k2, by rw [k1]; exact hv⟩
    rcases h.place R hp ho hn hr with ⟨hpq, hh⟩ | ⟨rfl, _⟩
    · -- a light one: it is run in the memory of its segment's end
      have quiet : opx E call ⟨(S p).tm, (S q).hp, (S q).nx, (S q).df⟩ o.op = some ⟨r.v, (S q).hp, (S q).nx, none⟩ → o.wpIn (FW rd) 0 P a w K Q := fun hq => by
        have hok := opx_ok hE hG.known (st := ⟨(S p).tm, (S q).hp, (S q).nx, (S q).df⟩) h.inv o hops hq
        refine upon2 hG hok h.inv h.df hpl fun ρ' c a0 w' ha hI hv _ hb hdf => ?_
        have hext : Ext ρ ρ' := h.inv.hr.ext_of hb
        refine hK ρ' q _ w' (h.float R hp hi ho hr hpq hext ha hdf (hval ρ' c hv) hI (fun r' o' hrq _ hl hal hw' hx => ?_) fun b hb' => hb b ?_)
        · obtain ⟨cs, _, e2⟩ := alloc_nx hal hw' (R.step r' o' hl)
          have := mono_le' h.mono (r := r' + 1) (s := q) (by omega) (Nat.le_refl _)
          rw [hb _ (by show (S r').nx < (S q).nx; omega)]; exact hx
        · exact Nat.lt_of_lt_of_le hb' (mono_le' h.mono (Nat.zero_le q) (Nat.le_refl _))
      cases hl : lightO o.op with
      | false => exact quiet ((opx_pure hh hl hx).2 _ rfl)
      | true =>
        have hlate : (p, q) ∈ pl.late := R.pp.late p q hpn (by unfold lightAt; rw [ho]; exact hl) hpq h.qn h.seg fun r' i' j' h3 h4 h5 h6 h7 => by
          cases hA : isAnc pl j' i' with
          | false => rfl
          | true =>
            obtain ⟨j2, h8, h9⟩ := h.hv r' h4 h5
            rw [h6] at h8; cases h8
            exact absurd ⟨i', h7, R.anc_done h.down r' j' i' h6 h9 hA⟩ hn
        have hchk := R.late p q o hlate ho h.qn
        unfold lateO at hchk
        rw [hw] at hchk
        simp only at hchk
        rcases light_cases hl with hal | ⟨t, x, hop⟩
        · obtain ⟨s, hs1, cs, cells, el, mk, c, e1, e2, e3, e4⟩ := alloc_run hE (w := w) hal hops hx
          have hsame : sameBlk ((S (p + 1)).hp.get (S p).nx) ((S q).hp.get (S p).nx) = true := by
            split at hchk
            · rename_i hop _
              rw [hop] at hal; cases hal
            · rw [hal] at hchk; exact hchk
          have hget : (S q).hp.get (S p).nx = some (.cells cs) := by
            rw [h2, e1] at hsame
            simp only [T.get_same] at hsame
            unfold sameBlk at hsame
            split at hsame
            · rename_i l1 l2 q1 q2
              cases q1
              rw [q2, eqL0_eq hsame]
            · cases hsame
          have hid : (S p).nx < (S q).nx := by
            obtain ⟨cs', _, e5⟩ := alloc_nx hal hw hstep
            have := mono_le' h.mono (r := p + 1) (s := q) (by omega) (Nat.le_refl _)
            omega
          have hnone := h.pend p o hpq ho hn hal hw
          obtain ⟨f1, f2⟩ := h.inv.fill hid hnone hget e3 (el := el) rfl
          refine ⟨fun _ _ => trivial, ?_⟩
          rw [plainOp_sem hpl, hs1]
          simp only [Sem.run_bind, e2]
          refine hK _ q _ _ (h.float R hp hi ho hr hpq f2 rfl (h.df.ext f2) (hval _ c (by rw [e1]; exact e4 _ _ (Rho.put_same _ _ _))) f1 (fun r' o' hrq hrp hl' hal' hw' hx' => ?_) fun b hb' => ?_)
          · rw [Rho.put_ne _ _ _ _ ?_]
            · exact hx'
            · obtain ⟨_, _, e5⟩ := alloc_nx hal hw hstep
              obtain ⟨_, _, e6⟩ := alloc_nx hal' hw' (R.step r' o' hl')
              rcases Nat.lt_or_ge r' p with hlt | hge
              · have := mono_le' h.mono (r := r' + 1) (s := p) (by omega) (by omega); omega
              · have := mono_le' h.mono (r := p + 1) (s := r') (by omega) (by omega); omega
          · rw [Rho.put_ne _ _ _ _ ?_]
            have := mono_le' h.mono (r := 0) (s := p) (by omega) (by omega); omega
        · refine quiet ?_
          rw [hop] at hchk hx ⊢
          cases hd : o.dst with
          | none => rw [hd] at hchk; cases hchk
          | some d =>
            rw [hd] at hchk
            simp only at hchk
            unfold sameLoad at hchk
            cases hld : loadV (S q).hp (ev E (S p).tm x) (E.ty t) with
            | none => rw [hld] at hchk; cases hchk
            | some u =>
              rw [hld] at hchk
              simp only at hchk
              have hu : u = r.v := by
                rw [eq1_eq hchk, h2]
                rw [hd] at h1
                exact (putT_at h1).1
              show pureR _ (loadV (S q).hp (ev E (S p).tm x) (E.ty t)) = _
              rw [hld, hu]
              rfl
    · -- the heavy one
      have hok := opx_ok hE hG.known (st := S p) h.inv o hops hx
      refine upon2 hG hok h.inv h.df hpl fun ρ' c a0 w' ha hI hv hnx hb hdf => ?_
      obtain ⟨q', hk⟩ := h.heavy R hp hi ho hr ha (by rw [h2]; exact hdf) (hval ρ' c hv) (by rw [h2]; exact hI) (by rw [h2]; exact hnx) hb
      exact hK ρ' q' _ w' hk

/-! ### All of them -/
def cntF : List Bool → Nat
  | [] => 0
  | b :: l => (if b then 0 else 1) + cntF l
theorem cntF_set : ∀ (l : List Bool) (i : Nat), l[i]? = some false → cntF (l.set i true) + 1 = cntF l
  | [], i, h => by simp at h
  | b :: l, 0, h => by
    simp at h; subst h
    simp [cntF]; omega
  | b :: l, i + 1, h => by
    have := cntF_set l i (by simpa using h)
    simp only [List.set_cons_succ, cntF]; omega
theorem cntF_zero : ∀ (l : List Bool) (i : Nat), cntF l = 0 → l[i]? ≠ some false
  | [], i, _ => by simp
  | b :: l, 0, h => by
    cases b with
    | true => simp
    | false => simp [cntF] at h
  | b :: l, i + 1, h => by
    simp only [List.getElem?_cons_succ]
    exact cntF_zero l i (by simp only [cntF] at h; omega)

theorem mem_bindsOf {o : Oper} {e : Nat} : e ∈ bindsOf o ↔ ∃ x ∈ o.after, Region.binds .any x = true ∧ x.on = e := by
  unfold bindsOf
  rw [List.mem_filterMap]
  constructor
  · rintro ⟨x, hx, h⟩
    cases hb : Region.binds .any x with
    | false => rw [hb] at h; cases h
    | true => rw [hb] at h; cases h; exact ⟨x, by simpa using hx, hb, rfl⟩
  · rintro ⟨x, hx, hb, rfl⟩
    exact ⟨x, by simpa using hx, by rw [hb]; rfl⟩

theorem any_ok (hE : EOk P E) (hG : Good P E call) {rd : Option Nat} (hpl : rd = none ∨ ops.toList.all (fun o => plainOp o.op) = true) (R : Run E call nt ops pl l S) {ρ0 : Rho} {Q : Exit → Act → World → Prop}
    (hQ : ∀ (listed : Array Bool) (ρ : Rho) (q : Nat) (a : Act) (w : World), KI E nt w0 M0 ops pl l S ρ0 listed ρ q a w → (∀ p, p < ops.size → Dn pl listed p) → Q .normal a w) :
    ∀ (fuel : Nat) (listed : Array Bool) (ρ : Rho) (q : Nat) (a : Act) (w : World), KI E nt w0 M0 ops pl l S ρ0 listed ρ q a w → cntF listed.toList ≤ fuel → wpAnyIn (FW rd) 0 P .any ops Q fuel listed a w := by
  have hall : ∀ (listed : Array Bool) (ρ : Rho) (q : Nat) (a : Act) (w : World), KI E nt w0 M0 ops pl l S ρ0 listed ρ q a w → Region.ready .any ops listed = [] → ∀ p, p < ops.size → Dn pl listed p := by
    intro listed ρ q a w h hr p
    induction p using Nat.strongRecOn with
    | _ p ih =>
      intro hp
      have hlt : p < l.length := by rw [R.pp.llen]; exact hp
      have ho := List.getElem?_eq_getElem hlt
      obtain ⟨i, hi, hio, _⟩ := R.ord_of ho
      have his : i < listed.size := by rw [h.sz]; exact (Array.getElem?_eq_some_iff.1 hio).1
      refine ⟨i, hi, ?_⟩
      cases hl : listed.getD i false with
      | true => rfl
      | false =>
        have hm : i ∈ Region.ready .any ops listed := mem_ready.2 ⟨by simpa [his] using hl, _, hio, fun e he hb => by
          obtain ⟨r, hr1, hr2⟩ := R.pp.bnd p i _ hi ho e.on (mem_bindsOf.2 ⟨e, he, hb, rfl⟩)
          obtain ⟨j, hj, hlj⟩ := ih r hr1 (by omega)
          rw [hr2] at hj; cases hj
          exact hlj⟩
        rw [hr] at hm; cases hm
  intro fuel
  induction fuel with
  | zero =>
    intro listed ρ q a w h hc
    have hr : Region.ready .any ops listed = [] := by
      cases hx : Region.ready .any ops listed with
      | nil => rfl
      | cons i is =>
        have hm : i ∈ Region.ready .any ops listed := by rw [hx]; exact List.mem_cons_self ..
        obtain ⟨h1, o, h2, _⟩ := mem_ready.1 hm
        have his : i < listed.size := by rw [h.sz]; exact (Array.getElem?_eq_some_iff.1 h2).1
        have := cntF_zero listed.toList i (by omega)
        refine absurd ?_ this
        rw [Array.getElem?_toList, Array.getElem?_eq_getElem his]
        simp [his] at h1
        rw [h1]
    exact ⟨hr, hQ listed ρ q a w h (hall listed ρ q a w h hr)⟩
  | succ fuel ih =>
    intro listed ρ q a w h hc
    refine ⟨fun hr => hQ listed ρ q a w h (hall listed ρ q a w h hr), fun i hi => ?_⟩
    obtain ⟨h1, o, h2, h3⟩ := mem_ready.1 hi
    have hin : i < ops.size := (Array.getElem?_eq_some_iff.1 h2).1
    have his : i < listed.size := by rw [h.sz]; exact hin
    obtain ⟨p, hp⟩ := R.pp.all i hin
    obtain ⟨o', h4, ho⟩ := R.pp.get p i hp
    rw [h2] at h4; cases h4
    have hlf : listed[i]? = some false := by
      rw [Array.getElem?_eq_getElem his]
      simp [his] at h1
      rw [h1]
    have hn : ¬ Dn pl listed p := by
      rintro ⟨j, hj, hl⟩
      rw [hp] at hj; cases hj
      rw [Array.getD_eq_getD_getElem?, hlf] at hl
      cases hl
    have hr : ∀ e ∈ bindsOf o, listed.getD e false = true := fun e he => by
      obtain ⟨x, hx, hb, rfl⟩ := mem_bindsOf.1 he
      exact h3 x hx hb
    have hcnt := cntF_set listed.toList i (by rw [Array.getElem?_toList]; exact hlf)
    have hplo : rd = none ∨ plainOp o.op = true := hpl.imp (fun h => h) fun h => List.all_eq_true.1 h o (Array.mem_toList_iff.2 (Array.mem_of_getElem? h2))
    have hone := h.one hE hG R hp h2 ho hn hr hplo (K := wpAnyIn (FW rd) 0 P .any ops Q fuel (listed.setIfInBounds i true)) (Q := Q) fun ρ' q' a' w' hk =>
      ih _ ρ' q' a' w' hk (by rw [Array.toList_setIfInBounds]; omega)
    unfold wpOpIn
    rw [h2]
    simp only
    split
    · rename_i hw
      rw [if_pos hw] at hone
      exact hone
    · rename_i hw
      rw [if_neg hw] at hone
      exact ⟨fun _ _ => trivial, hone⟩

theorem lateAll_spec {ops : List Oper} {tr : List St} : ∀ (ps : List (Nat × Nat)), lateAll E ops l tr ps = true → ∀ x ∈ ps, late1 E ops l tr x.1 x.2 = true
  | [], _, x, hx => by cases hx
  | p :: ps, h, x, hx => by
    have h' : (bif late1 E ops l tr p.1 p.2 then lateAll E ops l tr ps else false) = true := h
    cases hp : late1 E ops l tr p.1 p.2 with
    | false => rw [hp] at h'; cases h'
    | true =>
      rw [hp] at h'
      cases hx with
      | head => exact hp
      | tail _ hx => exact lateAll_spec ps h' x hx

theorem run_of {ops : Array Oper} {pl : Plan} {st st' : St} {out : Out} (hp : planOk ops pl = true) (h : mixS E call nt ops.toList (some pl) st = some (out, st')) :
    out = .norm ∧ ∃ S : Nat → St, Run E call nt ops pl (pickL ops.toList pl.ord) S ∧ S 0 = st ∧ S ops.size = st' := by
  have pp := planOk_spec hp
  have h' : bindS (evTrace E call nt ops.toList (pickL ops.toList pl.ord) st) (fun tr => bif lateAll E ops.toList (pickL ops.toList pl.ord) tr pl.late then bindS (tr[pl.ord.length]?) (fun st' => some (.norm, st')) else none) = some (out, st') := h
  obtain ⟨tr, htr, h1⟩ := bindS_some h'
  obtain ⟨hla, h2⟩ := bif_some h1
  obtain ⟨sN, h3, h4⟩ := bindS_some h2
  cases h4
  obtain ⟨e1, e2, e3⟩ := evTrace_spec _ _ _ htr
  refine ⟨rfl, fun p => (tr[p]?).getD st, {
    pp := pp
    step := fun p o ho => by
      obtain ⟨o', s, s', m1, m2, m3, m4⟩ := e3 p (List.getElem?_eq_some_iff.1 ho).1
      rw [ho] at m1; cases m1
      simp only [m2, m3, Option.getD_some]
      exact m4
    late := fun p q o hpq ho hq => by
      have hx := lateAll_spec _ hla _ hpq
      obtain ⟨o', s, s', m1, m2, m3, m4⟩ := e3 p (List.getElem?_eq_some_iff.1 ho).1
      have hqt : q < tr.length := by rw [e1, pp.llen]; omega
      have m5 := List.getElem?_eq_getElem hqt
      unfold late1 at hx
      simp only [Nat.succ_eq_add_one, ho, m2, m3, m5] at hx
      simp only [m2, m3, m5, Option.getD_some]
      exact hx }, by simp only [e2, Option.getD_some], by
    rw [pp.len] at h3
    simp only [h3, Option.getD_some]⟩

theorem mix_ok (hE : EOk P E) (call : CallT) (hG : Good P E call) : MixOk P E call := by
  intro rd w0 M0 nt id ops pl ρ st st' a w out hp hpl h hs
  obtain ⟨rfl, S, R, hS0, hSn⟩ := run_of hp h
  refine wpIn_region_any hE.mixed ?_
  have hl : (pickL ops.toList pl.ord).length = ops.size := R.pp.llen
  have hI : Inv E w0 M0 ρ (S 0).hp (S 0).nx { w with drawn := w.drawn + 1 } := by rw [hS0]; exact hs.inv.same rfl rfl rfl rfl
  obtain ⟨q, n1, n2, n3, n4⟩ := nextSeg (l := pickL ops.toList pl.ord) 0 _ rfl (Nat.zero_le _)
  rw [hl] at n2
  obtain ⟨p1, p2, p3⟩ := R.pads 0 hI q (by omega) fun r _ hr => n4 r (Nat.zero_le _) (by omega)
  simp only [Nat.zero_add] at p1 p2 p3
  have hno : ∀ r, ¬ Dn pl (Array.replicate ops.size false) r := by
    rintro r ⟨i, _, hi⟩
    rw [Array.getD_eq_getD_getElem?, Array.getElem?_replicate] at hi
    split at hi <;> cases hi
  have hK : KI E nt w0 M0 ops pl (pickL ops.toList pl.ord) S ρ (Array.replicate ops.size false) ρ q a { w with drawn := w.drawn + 1 } := {
    sz := by simp
    qn := n2
    seg := n3
    hv := fun r hr hh => by rw [n4 r (Nat.zero_le _) hr] at hh; cases hh
    lt := fun r hD => absurd hD (hno r)
    down := fun i o hi => by
      rw [Array.getD_eq_getD_getElem?, Array.getElem?_replicate] at hi
      split at hi <;> cases hi
    tsz := hs.sz
    inv := p1
    df := by rw [p2, hS0]; exact hs.df
    done := fun p o d _ _ hD => absurd hD (hno p)
    undone := fun t _ => by rw [hS0]; exact hs.tr t
    pend := fun r o hrq hlr hD hal hw => hI.hr.dom _ (mono_le' (q := q) (fun p hp => p3 p (Nat.zero_le _) hp) (Nat.zero_le r) (by omega))
    mono := fun p hp => p3 p (Nat.zero_le _) hp
    base := fun b _ => rfl }
  refine any_ok hE hG hpl R (fun listed ρ' q' a' w' hk hD => ?_) ops.size _ ρ q a _ hK ?_
  · have hqn : q' = ops.size := by
      rcases Nat.lt_or_ge q' ops.size with hlt | hge
      · have := hk.lt q' (hD q' hlt); omega
      · have := hk.qn; omega
    subst hqn
    have hmono := mono_le' hk.mono (Nat.zero_le ops.size) (Nat.le_refl _)
    subst hSn
    subst hS0
    refine ⟨rfl, ρ', ⟨fun t => ?_, hk.tsz, hk.inv, hk.df⟩, hk.base, hmono⟩
    by_cases hw : ∃ (r : Nat) (o : Oper), (pickL ops.toList pl.ord)[r]? = some o ∧ o.dst = some t
    · obtain ⟨r, o, hr, hd⟩ := hw
      exact hk.done r o t hr hd (hD r (R.ord_of hr).choose_spec.2.2)
    · rw [R.tm_first (q := ops.size) (t := t) (Nat.le_refl _) fun r o _ hr hd => hw ⟨r, o, hr, hd⟩]
      exact hk.undone t fun r o hr _ hd => hw ⟨r, o, hr, hd⟩
  · rw [Array.toList_replicate]
    have : ∀ k, cntF (List.replicate k false) = k := fun k => by
      induction k with
      | zero => rfl
      | succ k ih => simp only [List.replicate_succ, cntF, ih]; simp; omega
    rw [this]
    exact Nat.le_refl _

/-- THE EVALUATOR's CALLS ARE THE MODEL's. -/
theorem evFun_good (hE : EOk P E) (n : Nat) : Good P E (evFun E n) := good_all hE (fun call hG => mix_ok hE call hG) n
end
end Go.Rf
