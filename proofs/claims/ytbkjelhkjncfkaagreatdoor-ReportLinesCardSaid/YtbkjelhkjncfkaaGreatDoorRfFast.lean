/-
  The evaluator once more, made ready operation by operation (what the kernel has made ready once it keeps). No statement of the program is claimed here.
-/
import Derived.Test.YtbkjelhkjncfkaaGreatDoorRfMemo
namespace Go.Rf

/-- A box: the kernel keeps what a box comes to. -/
structure Cl (α : Type) where
  run : α

noncomputable def optC {α β : Type} (x : Option α) (no : β) (yes : α → β) : β := Option.rec no yes x
theorem optC_none {α β : Type} (no : β) (yes : α → β) : optC none no yes = no := rfl
theorem optC_some {α β : Type} (a : α) (no : β) (yes : α → β) : optC (some a) no yes = yes a := rfl
def ptrO : V → Option (Nat × Nat)
  | .ptr b o => some (b, o)
  | _ => none
def intO : V → Option (IntKind × Int)
  | .int k n => some (k, n)
  | _ => none
def boolO : V → Option Bool
  | .bool b => some b
  | _ => none
def slO : V → Option (Nat × (Nat × Nat))
  | .sl b o len _ _ => some (b, (o, len))
  | _ => none
def kNum : IntKind → Nat
  | .u8 => 0 | .u16 => 1 | .u32 => 2 | .u64 => 3 | .i8 => 4 | .i16 => 5 | .i32 => 6 | .i64 => 7
def sameKQ (k k' : IntKind) : Bool := Nat.beq (kNum k) (kNum k')
theorem sameKQ_eq (k k' : IntKind) : sameKQ k k' = sameK k k' := by cases k <;> cases k' <;> rfl

/-! ### Operands -/
noncomputable def evK (E : Env) (x : Operand) : Cl (T V → V) :=
  match x with
  | .tmp t => ⟨fun tm => optC (tm.get t) .dead fun v => v⟩
  | .const v => ⟨fun _ => cv v⟩
  | .global g => ⟨fun _ => match E.glob g with | some b => .ptr b 0 | none => .dead⟩
  | .func f => ⟨fun _ => .func (.func f) [] []⟩
theorem evK_eq (E : Env) (x : Operand) (tm : T V) : (evK E x).run tm = ev E tm x := by
  cases x with
  | tmp t =>
    show optC (tm.get t) .dead (fun v => v) = match tm.get t with | some v => v | none => .dead
    cases tm.get t <;> rfl
  | _ => rfl
noncomputable def evLK (E : Env) : List Operand → Cl (T V → List V)
  | [] => ⟨fun _ => []⟩
  | x :: l => ⟨fun tm => (evK E x).run tm :: (evLK E l).run tm⟩
theorem evLK_eq (E : Env) (tm : T V) : ∀ l : List Operand, (evLK E l).run tm = evL E tm l
  | [] => rfl
  | x :: l => by
    show (evK E x).run tm :: (evLK E l).run tm = _
    rw [evK_eq, evLK_eq E tm l]; rfl

/-! ### Numbers -/
noncomputable def intK (op : BinOp) : Cl (IntKind → Int → IntKind → Int → Option V) :=
  match op with
  | .shl => ⟨fun k a _ b => iShl k a b⟩
  | .shr => ⟨fun k a _ b => iShr k a b⟩
  | .add => ⟨fun k a k' b => bif sameKQ k k' then iAdd k a b else none⟩
  | .sub => ⟨fun k a k' b => bif sameKQ k k' then iSub k a b else none⟩
  | .eql => ⟨fun k a k' b => bif sameKQ k k' then some (.bool (eqQ a b)) else none⟩
  | .neq => ⟨fun k a k' b => bif sameKQ k k' then some (.bool (!eqQ a b)) else none⟩
  | .lss => ⟨fun k a k' b => bif sameKQ k k' then some (.bool (ltQ a b)) else none⟩
  | .leq => ⟨fun k a k' b => bif sameKQ k k' then some (.bool (leQ a b)) else none⟩
  | .gtr => ⟨fun k a k' b => bif sameKQ k k' then some (.bool (ltQ b a)) else none⟩
  | .geq => ⟨fun k a k' b => bif sameKQ k k' then some (.bool (leQ b a)) else none⟩
  | op => ⟨fun k a k' b => binI op k a k' b⟩
theorem intK_eq (op : BinOp) (k k' : IntKind) (a b : Int) : (intK op).run k a k' b = binI op k a k' b := by
  cases op <;> first | rfl | (simp only [intK, sameKQ_eq]; rfl)
noncomputable def binK (E : Env) (op : BinOp) (t : TypeId) : Cl (V → V → Option V) :=
  ⟨fun x y => optC (intO x) (binV E op t x y) fun a => optC (intO y) (binV E op t x y) fun b => (intK op).run a.1 a.2 b.1 b.2⟩
theorem binK_eq (E : Env) (op : BinOp) (t : TypeId) (x y : V) : (binK E op t).run x y = binV E op t x y := by
  unfold binK
  cases x with
  | int k a =>
    cases y with
    | int k' b => exact intK_eq op k k' a b
    | _ => rfl
  | _ => rfl
noncomputable def convK (E : Env) (t : TypeId) : Cl (V → Option V) :=
  match E.ty t with
  | some { k := .int k, .. } => ⟨fun x => optC (intO x) none fun a => some (.int k (wrapQ k a.2))⟩
  | _ => ⟨fun x => convV E t x⟩
theorem convK_eq (E : Env) (t : TypeId) (x : V) : (convK E t).run x = convV E t x := by
  unfold convK
  split
  · rename_i hti
    cases x <;> simp [convV, hti, intO, optC]
  · rfl

/-! ### Places -/
noncomputable def fieldK (ti : Option TI) (f : Nat) : Cl (V → Option V) :=
  match ti with
  | some { k := .struct offs, .. } => (match offs[f]? with
    | some d => ⟨fun x => optC (ptrO x) none fun p => some (.ptr p.1 (p.2 + d))⟩
    | none => ⟨fun _ => none⟩)
  | _ => ⟨fun _ => none⟩
theorem fieldK_eq (ti : Option TI) (f : Nat) (x : V) : (fieldK ti f).run x = fieldV x ti f := by
  cases ti with
  | none => cases x <;> rfl
  | some ti =>
    obtain ⟨k, s, b, z, e⟩ := ti
    cases k with
    | struct offs =>
      show (match offs[f]? with | some d => (⟨fun x => optC (ptrO x) none fun p => some (.ptr p.1 (p.2 + d))⟩ : Cl (V → Option V)) | none => ⟨fun _ => none⟩).run x = fieldV x (some ⟨.struct offs, s, b, z, e⟩) f
      cases ho : offs[f]? with
      | none => cases x <;> simp [fieldV, ho]
      | some d => cases x <;> simp [fieldV, ho, ptrO, optC]
    | _ => cases x <;> rfl
noncomputable def asVarK (ti : TI) : Cl (List V → Option V) :=
  match ti.agg with
  | true => ⟨fun cs => optC (takeN ti.size cs) none fun l => some (.agg l)⟩
  | false => ⟨fun cs => match cs with | v :: _ => some v | [] => none⟩
theorem asVarK_eq (ti : TI) (cs : List V) : (asVarK ti).run cs = asVar ti cs := by
  unfold asVarK
  cases ha : ti.agg with
  | true =>
    rw [asVar_agg ha]
    show optC (takeN ti.size cs) none (fun l => some (V.agg l)) = _
    cases takeN ti.size cs <;> rfl
  | false => rw [asVar_one ha]; rfl
noncomputable def rdK (hp : Hp) (b o : Nat) : Option (List V) := optC (hp.get b) none fun blk => optC blk.rd none fun cs => some (dropN o cs)
theorem rdK_eq (hp : Hp) (b o : Nat) : rdK hp b o = rdFrom hp b o := by
  unfold rdK rdFrom
  cases hp.get b with
  | none => rfl
  | some blk =>
    show optC blk.rd none _ = _
    cases h : blk.rd with
    | none => simp only [h]; rfl
    | some cs => simp only [h]; rfl
noncomputable def loadK (ti : Option TI) : Cl (Hp → V → Option V) :=
  match ti with
  | some ti => ⟨fun hp a => optC (ptrO a) none fun p => optC (rdK hp p.1 p.2) none fun cs => (asVarK ti).run cs⟩
  | none => ⟨fun _ _ => none⟩
theorem loadK_eq (ti : Option TI) (hp : Hp) (a : V) : (loadK ti).run hp a = loadV hp a ti := by
  cases ti with
  | none => cases a <;> rfl
  | some ti =>
    cases a with
    | ptr b o =>
      show optC (rdK hp b o) none (fun cs => (asVarK ti).run cs) = match rdFrom hp b o with | some cs => asVar ti cs | none => none
      rw [rdK_eq]
      cases rdFrom hp b o with
      | none => rfl
      | some cs => exact asVarK_eq ti cs
    | _ => rfl
noncomputable def storeK (ti : Option TI) : Cl (Hp → V → List V → Option Hp) :=
  match ti with
  | some ti => ⟨fun hp a cs => optC (ptrO a) none fun p => bif Nat.beq cs.length ti.size && allFlat cs then storeTo hp p.1 p.2 cs else none⟩
  | none => ⟨fun _ _ _ => none⟩
theorem storeK_eq (ti : Option TI) (hp : Hp) (a : V) (cs : List V) : (storeK ti).run hp a cs = storeV hp a ti cs := by
  cases ti <;> cases a <;> rfl
noncomputable def idxK (E : Env) (t : TypeId) : Cl (V → V → Option V) :=
  match E.ty t with
  | some { k := .array n e, .. } => (match E.ty e with
    | some te => ⟨fun x i => optC (natOf i) none fun i => optC (ptrO x) none fun p => bif Nat.blt i n then some (.ptr p.1 (p.2 + i * te.size)) else none⟩
    | none => ⟨fun _ _ => none⟩)
  | some { k := .slice e, .. } => (match E.ty e with
    | some te => ⟨fun x i => optC (natOf i) none fun i => optC (slO x) none fun p => bif Nat.blt i p.2.2 then some (.ptr p.1 (p.2.1 + i * te.size)) else none⟩
    | none => ⟨fun _ _ => none⟩)
  | _ => ⟨fun x i => indexAddrV E t x i⟩
theorem idxK_eq (E : Env) (t : TypeId) (x i : V) : (idxK E t).run x i = indexAddrV E t x i := by
  unfold idxK
  split
  · rename_i n e _ _ _ _ hti
    unfold indexAddrV
    cases he : E.ty e with
    | none => cases natOf i <;> cases x <;> simp [hti, he]
    | some te => cases hn : natOf i <;> cases x <;> simp [hti, he, hn, optC, ptrO]
  · rename_i e _ _ _ _ hti
    unfold indexAddrV
    cases he : E.ty e with
    | none => cases natOf i <;> cases x <;> simp [hti, he]
    | some te => cases hn : natOf i <;> cases x <;> simp [hti, he, hn, optC, slO]
  · rfl
noncomputable def lenK (ti : Option TI) : Cl (V → Option V) :=
  match ti with
  | some { k := .slice _, .. } => ⟨lenSl⟩
  | some { k := .str, .. } => ⟨lenStr⟩
  | _ => ⟨fun _ => none⟩

/-! ### Operations -/
noncomputable def callK (E : Env) (c : Call) : Cl (CallT → St → Option R) :=
  match c.callee with
  | .value (.func k) => ⟨fun call st => bif Nat.blt k markId then optC (call k ((evLK E c.args.toList).run st.tm) st.hp st.nx) none (fun r => some ⟨r.v, r.hp, r.nx, none⟩) else none⟩
  | .value f => ⟨fun call st => callV call st ((evK E f).run st.tm) ((evLK E c.args.toList).run st.tm)⟩
  | _ => ⟨fun call st => xCall E call st c⟩
theorem callK_eq (E : Env) (call : CallT) (st : St) (c : Call) : (callK E c).run call st = xCall E call st c := by
  unfold callK xCall
  split
  · rename_i k hc
    simp only [hc]
    rw [evLK_eq]
    show _ = bif Nat.blt k markId then bindO (call k ([] ++ (evL E st.tm c.args.toList ++ [])) st.hp st.nx) _ else none
    rw [List.nil_append, List.append_nil]
    rfl
  · rename_i f _ hc
    simp only [hc]
    rw [evLK_eq, evK_eq]
  · rfl
noncomputable def opK (E : Env) (op : Op) : Cl (CallT → St → Option R) :=
  match op with
  | .move x => ⟨fun _ st => some ⟨(evK E x).run st.tm, st.hp, st.nx, none⟩⟩
  | .assign x => ⟨fun _ st => some ⟨(evK E x).run st.tm, st.hp, st.nx, none⟩⟩
  | .pick c a b => ⟨fun _ st => pureR st (pickV ((evK E c).run st.tm) ((evK E a).run st.tm) ((evK E b).run st.tm))⟩
  | .load t a => ⟨fun _ st => pureR st ((loadK (E.ty t)).run st.hp ((evK E a).run st.tm))⟩
  | .store t a x => ⟨fun _ st => bindO ((evK E x).run st.tm).cellsO fun cs => hpR st ((storeK (E.ty t)).run st.hp ((evK E a).run st.tm) cs)⟩
  | .binOp op t x y _ => ⟨fun _ st => pureR st ((binK E op t).run ((evK E x).run st.tm) ((evK E y).run st.tm))⟩
  | .fieldAddr s x f => ⟨fun _ st => pureR st ((fieldK (E.ty s) f).run ((evK E x).run st.tm))⟩
  | .indexAddr t x i => ⟨fun _ st => pureR st ((idxK E t).run ((evK E x).run st.tm) ((evK E i).run st.tm))⟩
  | .extract t i => ⟨fun _ st => pureR st (extractV ((evK E t).run st.tm) i)⟩
  | .call c => ⟨fun call st => (callK E c).run call st⟩
  | op => ⟨fun call st => opx E call st op⟩
theorem opK_eq (E : Env) (call : CallT) (st : St) (op : Op) : (opK E op).run call st = opx E call st op := by
  cases op <;> try rfl
  case move x => simp only [opK, opx, xMove, evK_eq]
  case assign x => simp only [opK, opx, xMove, evK_eq]
  case pick c a b => simp only [opK, opx, xPick, evK_eq]
  case load t a => simp only [opK, opx, xLoad, evK_eq, loadK_eq]
  case store t a x => simp only [opK, opx, xStore, evK_eq, storeK_eq]
  case binOp op t x y g => simp only [opK, opx, xBin, evK_eq, binK_eq]
  case fieldAddr s x f => simp only [opK, opx, xField, evK_eq, fieldK_eq]
  case indexAddr t x i => simp only [opK, opx, xIndexAddr, evK_eq, idxK_eq]
  case extract t i => simp only [opK, opx, xExtract, evK_eq]
  case call c => simp only [opK, opx, callK_eq]
noncomputable def opyK (E : Env) (op : Op) : Cl (CallT → St → Option R) :=
  match op with
  | .convert s t x => (match E.ty s, E.ty t with
    | some _, some { k := .int _, .. } => ⟨fun _ st => pureR st ((convK E t).run ((evK E x).run st.tm))⟩
    | _, _ => ⟨fun call st => opy E call st (.convert s t x)⟩)
  | op => opK E op
theorem opyK_eq (E : Env) (call : CallT) (st : St) (op : Op) : (opyK E op).run call st = opy E call st op := by
  have other : (∀ s t x, op ≠ .convert s t x) → (opK E op).run call st = opy E call st op := fun hn => by
    unfold opy
    rw [opK_eq]
    cases opx E call st op with
    | some r => rfl
    | none => cases op <;> first | rfl | exact absurd rfl (hn _ _ _)
  cases op <;> try exact other (fun _ _ _ h => by cases h)
  case convert s t x =>
    unfold opyK
    simp only
    split
    · rename_i ts _ _ _ _ _ hs ht
      show pureR st ((convK E t).run ((evK E x).run st.tm)) = _
      rw [convK_eq, evK_eq]
      unfold opy
      simp only [opx, xConv, hs, bindO]
      cases hc : convV E t (ev E st.tm x) with
      | some v => rfl
      | none =>
        simp only [pureR, strV, ht]
    · rfl

/-! ### Regions, code -/
noncomputable def putK (nt : Nat) (dst : Option Tmp) : Cl (T V → V → Option (T V)) :=
  match dst with
  | none => ⟨fun tm _ => some tm⟩
  | some d => (match Nat.blt d nt with | true => ⟨fun tm v => some (tm.set d (some v))⟩ | false => ⟨fun _ _ => none⟩)
theorem putK_eq (nt : Nat) (dst : Option Tmp) (tm : T V) (v : V) : (putK nt dst).run tm v = putT nt tm dst v := by
  cases dst with
  | none => rfl
  | some d =>
    unfold putK
    simp only [putT]
    cases Nat.blt d nt <;> rfl
noncomputable def operK (E : Env) (nt : Nat) (ops : List Oper) (o : Oper) : Cl (CallT → St → Option St) :=
  match o.guard with
  | none => ⟨fun call st => optC ((opyK E o.op).run call st) none fun r => optC ((putK nt o.dst).run st.tm r.v) none fun tm => some ⟨tm, r.hp, r.nx, optC r.df st.df fun d => d :: st.df⟩⟩
  | some _ => ⟨fun call st => evOp1y E call nt ops o st⟩
theorem operK_eq (E : Env) (nt : Nat) (ops : List Oper) (o : Oper) (call : CallT) (st : St) : (operK E nt ops o).run call st = evOp1y E call nt ops o st := by
  unfold operK
  split
  · rename_i hg
    show optC ((opyK E o.op).run call st) none _ = _
    rw [opyK_eq]
    unfold evOp1y wants
    simp only [hg]
    cases opy E call st o.op with
    | none => rfl
    | some r =>
      show optC ((putK nt o.dst).run st.tm r.v) none _ = _
      rw [putK_eq]
      simp only [stepR]
      cases putT nt st.tm o.dst r.v with
      | none => rfl
      | some tm =>
        show some _ = some _
        cases r.df <;> rfl
  · rfl
noncomputable def opsK (E : Env) (nt : Nat) (ops : List Oper) : List Oper → Cl (CallT → St → Option St)
  | [] => ⟨fun _ st => some st⟩
  | o :: l => ⟨fun call st => optC ((operK E nt ops o).run call st) none ((opsK E nt ops l).run call)⟩
theorem opsK_eq (E : Env) (nt : Nat) (ops : List Oper) (call : CallT) : ∀ (l : List Oper) (st : St), (opsK E nt ops l).run call st = evOps E call nt ops l st
  | [], _ => rfl
  | o :: l, st => by
    show optC ((operK E nt ops o).run call st) none ((opsK E nt ops l).run call) = bindS (evOp1y E call nt ops o st) (evOps E call nt ops l)
    rw [operK_eq]
    cases evOp1y E call nt ops o st with
    | none => rfl
    | some s => exact opsK_eq E nt ops call l s
noncomputable def codeK (E : Env) (nt : Nat) (pl : Nat → Option Plan) (c : Code) : Cl (CallT → St → Option (Out × St)) :=
  Code.rec (motive := fun _ => Cl (CallT → St → Option (Out × St)))
    ⟨fun _ st => some (.norm, st)⟩
    (fun id ops draw => match draw with
      | true => ⟨fun call st => mixS E call nt ops.toList (pl id) st⟩
      | false => ⟨fun call st => optC ((opsK E nt ops.toList ops.toList).run call st) none fun st => some (.norm, st)⟩)
    (fun _ _ a b => ⟨fun call st => optC (a.run call st) none fun r => bif r.1.isNorm then b.run call r.2 else some r⟩)
    (fun c _ _ a b => ⟨fun call st => optC (boolO ((evK E c).run st.tm)) none fun t => bif t then a.run call st else b.run call st⟩)
    (fun id _ a => ⟨fun call st => blockS id (a.run call st)⟩)
    (fun _ a => ⟨fun call st => evLoop (a.run call) E.fuel st⟩)
    (fun g ps x c _ _ => ⟨fun call st => rangeS call nt pl ((evK E g).run st.tm) ps.toList x c st⟩)
    (fun id => ⟨fun _ st => some (.exit id, st)⟩)
    (fun _ a => a)
    (fun _ => ⟨fun _ st => some (.norm, st)⟩)
    (fun _ => ⟨fun _ _ => none⟩)
    ⟨fun _ st => some (.ret, st)⟩
    (fun _ => ⟨fun _ _ => none⟩) c
theorem codeK_eq (E : Env) (nt : Nat) (pl : Nat → Option Plan) (call : CallT) : ∀ (c : Code) (st : St), (codeK E nt pl c).run call st = evCode E call nt pl c st
  | .skip, _ => rfl
  | .region id ops draw, st => by
    cases draw with
    | true => rfl
    | false =>
      show optC ((opsK E nt ops.toList ops.toList).run call st) none _ = regionS (evOps E call nt ops.toList ops.toList st)
      rw [opsK_eq]
      rfl
  | .seq a b, st => by
    show optC ((codeK E nt pl a).run call st) none _ = seqS (evCode E call nt pl a st) (evCode E call nt pl b)
    rw [codeK_eq E nt pl call a]
    cases evCode E call nt pl a st with
    | none => rfl
    | some r =>
      show (bif r.1.isNorm then (codeK E nt pl b).run call r.2 else some r) = (bif r.1.isNorm then evCode E call nt pl b r.2 else some r)
      rw [codeK_eq E nt pl call b]
  | .cond c a b, st => by
    show optC (boolO ((evK E c).run st.tm)) none (fun t => bif t then (codeK E nt pl a).run call st else (codeK E nt pl b).run call st) = condS (ev E st.tm c) (evCode E call nt pl a) (evCode E call nt pl b) st
    rw [codeK_eq E nt pl call a, codeK_eq E nt pl call b, evK_eq]
    cases ev E st.tm c <;> rfl
  | .block id a, st => by
    show blockS id ((codeK E nt pl a).run call st) = blockS id (evCode E call nt pl a st)
    rw [codeK_eq E nt pl call a]
  | .loop a, st => by
    show evLoop ((codeK E nt pl a).run call) E.fuel st = evLoop (evCode E call nt pl a) E.fuel st
    rw [show (codeK E nt pl a).run call = evCode E call nt pl a from funext fun st => codeK_eq E nt pl call a st]
  | .rangeFunc g ps x c, st => by
    show rangeS call nt pl ((evK E g).run st.tm) ps.toList x c st = rangeS call nt pl (ev E st.tm g) ps.toList x c st
    rw [evK_eq]
  | .exit _, _ => rfl
  | .scope a, st => codeK_eq E nt pl call a st
  | .label _, _ => rfl
  | .goto _, _ => rfl
  | .ret, _ => rfl
  | .refuse _, _ => rfl

noncomputable def evBodyK (E : Env) (call : CallT) (fi : FI) (args : List V) (hp : Hp) (nx : Nat) : Option R :=
  optC ((codeK E fi.nt fi.plan fi.body).run call ⟨initT args 0 .e, hp, nx, []⟩) none fun r =>
    match r.1 with
    | .exit _ => none
    | _ => bindS (evDefs call r.2.df r.2.hp r.2.nx) fun h =>
      bindS (mapO (resV E r.2.tm h.1) fi.results) fun vs => some ⟨retV vs, h.1, h.2, r.2.df.head?⟩
theorem evBodyK_eq (E : Env) (call : CallT) (fi : FI) (args : List V) (hp : Hp) (nx : Nat) : evBodyK E call fi args hp nx = evBody E call fi args hp nx := by
  unfold evBodyK evBody
  rw [codeK_eq]
  rfl
/-- The evaluator made ready. -/
noncomputable def evFunK (E : Env) (tb : CallT) (n : Nat) : CallT :=
  Nat.rec (motive := fun _ => CallT) (fun _ _ _ _ => none)
    (fun _ ih f args hp nx => bif Nat.blt f markId then optC (tb f args hp nx) (optC (E.fn f) none fun fi => evBodyK E ih fi args hp nx) (fun r => some r) else evRound E ih (Nat.sub f rdBase) args hp nx) n
theorem evFunK_eq (E : Env) (tb : CallT) : ∀ n, evFunK E tb n = evFunT E tb n
  | 0 => rfl
  | n + 1 => by
    funext f args hp nx
    show (bif Nat.blt f markId then optC (tb f args hp nx) (optC (E.fn f) none fun fi => evBodyK E (evFunK E tb n) fi args hp nx) (fun r => some r) else evRound E (evFunK E tb n) (Nat.sub f rdBase) args hp nx) =
      bif Nat.blt f markId then (match tb f args hp nx with | some r => some r | none => bindS (E.fn f) fun fi => evBody E (evFunT E tb n) fi args hp nx) else evRound E (evFunT E tb n) (Nat.sub f rdBase) args hp nx
    rw [evFunK_eq E tb n]
    cases Nat.blt f markId with
    | false => rfl
    | true =>
    simp only [cond_true]
    cases tb f args hp nx with
    | some r => rfl
    | none =>
      show optC (E.fn f) none _ = bindS (E.fn f) _
      cases E.fn f with
      | none => rfl
      | some fi => exact evBodyK_eq E _ fi args hp nx
theorem evFunK_good {P : Program} {E : Env} (hE : EOk P E) {tb : CallT} (hT : Good P E tb) (n : Nat) : Good P E (evFunK E tb n) := by
  rw [evFunK_eq]
  exact evFunT_good hE hT n
end Go.Rf
