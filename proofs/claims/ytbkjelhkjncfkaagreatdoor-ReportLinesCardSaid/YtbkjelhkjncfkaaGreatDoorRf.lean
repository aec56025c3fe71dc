/-
  An evaluator of the model's code over values of its own ('V') and a memory of its own ('T Blk'), which asks the tape nothing: what it comes to is proved elsewhere to be what every run comes to. No statement of the program is claimed here.
-/
import Derived.Calls
import Derived.Orders
namespace Go.Rf

/-! ### A tree keyed by numbers -/
inductive T (α : Type) where
  | e
  | n (l : T α) (v : Option α) (r : T α)

/-- A way down such a tree. -/
inductive W where
  | z
  | l (p : W)
  | r (p : W)
noncomputable def wayF (f : Nat) : Nat → W :=
  Nat.rec (motive := fun _ => Nat → W) (fun _ => .z)
    (fun _ ih i => bif Nat.beq i 0 then .z else bif Nat.beq (Nat.mod i 2) 1 then .l (ih (Nat.div i 2)) else .r (ih (Nat.sub (Nat.div i 2) 1))) f
noncomputable def way (i : Nat) : W := wayF (Nat.succ i) i
noncomputable def T.getW {α : Type} (p : W) : T α → Option α :=
  W.rec (motive := fun _ => T α → Option α)
    (fun t => T.casesOn t none fun _ v _ => v)
    (fun _ ih t => T.casesOn t none fun l _ _ => ih l)
    (fun _ ih t => T.casesOn t none fun _ _ r => ih r) p
noncomputable def T.setW {α : Type} (x : Option α) (p : W) : T α → T α :=
  W.rec (motive := fun _ => T α → T α)
    (fun t => T.casesOn t (.n .e x .e) fun l _ r => .n l x r)
    (fun _ ih t => T.casesOn t (.n (ih .e) none .e) fun l v r => .n (ih l) v r)
    (fun _ ih t => T.casesOn t (.n .e none (ih .e)) fun l v r => .n l v (ih r)) p
noncomputable def T.get {α : Type} (t : T α) (i : Nat) : Option α := T.getW (way i) t
noncomputable def T.set {α : Type} (t : T α) (i : Nat) (x : Option α) : T α := T.setW x (way i) t

/-! ### Values, blocks, states -/
inductive V where
  | bool (b : Bool)
  | int (k : IntKind) (n : Int)
  | str (s : ByteArray)
  | nilPtr
  | ptr (b o : Nat)
  | nilSl
  | sl (b o len cap : Nat) (exact : Bool)
  | esl
  | nilFunc
  | func (fn : Fn) (first captured : List V)
  | nilMap
  | map (b : Nat)
  | yield (l : Nat)
  | agg (cs : List V)
  | tup (vs : List V)
  | dead
  deriving Inhabited

inductive Out where
  | norm | ret | exit (id : Nat)

def Out.is (o : Out) (id : Nat) : Bool := match o with | .exit id' => Nat.beq id' id | _ => false
def Out.isNorm (o : Out) : Bool := match o with | .norm => true | _ => false

/-- How a region that draws is run: the order, and what must be looked at again later on. -/
structure Plan where
  ord : List Nat
  late : List (Nat × Nat)
  anc : List Nat

/-- A range over a function that goes on: its rounds. -/
structure LoopR where
  state : LoopState
  pending : Option Out
  nt : Nat
  pl : Nat → Option Plan
  tm : T V
  params : List Tmp
  assign : Code
  body : Code

inductive Blk where
  | cells (cs : List V)
  | ro (cs : List V)
  | map (es : List (V × V))
  | loop (r : LoopR)
  | mark (open_ : Bool)
  | iter (m : Option Nat) (n : Nat) (seen : Bool)

abbrev Hp := T Blk

structure St where
  tm : T V
  hp : Hp
  nx : Nat
  df : List (FuncId × List V)

/-- What is known of a type. -/
inductive TK where
  | bool | int (k : IntKind) | str | ptr (e : TypeId) | slice (e : TypeId) | array (n : Nat) (e : TypeId) | struct (offs : List Nat) | func | map (k e : TypeId) | tuple
structure TI where
  k : TK
  size : Nat
  bytes : Nat
  zero : List V
  eq : Bool

def TI.agg (ti : TI) : Bool := match ti.k with | .struct _ | .array _ _ => true | _ => false

structure FI where
  nt : Nat
  results : List ResultVar
  body : Code
  plan : Nat → Option Plan

structure Env where
  ty : TypeId → Option TI
  fn : FuncId → Option FI
  glob : Nat → Option Nat
  key : TypeId → Bool
  fld : TypeId → Nat → Option (Nat × TypeId)
  fuel : Nat

def cvSl (a : Option Addr) (n c : Nat) : V := match a with | some _ => .dead | none => bif Nat.beq n 0 && Nat.beq c 0 then .nilSl else .dead
def cvPtr (a : Option Addr) : V := match a with | some _ => .dead | none => .nilPtr
def cvMap (a : Option Nat) : V := match a with | some _ => .dead | none => .nilMap
def cvTup (a : List Value) : V := match a with | [] => .tup [] | _ => .dead
def cv : Value → V
  | .int k n => .int k n
  | .bool b => .bool b
  | .string s => .str s
  | .slice a n c => cvSl a n c
  | .nilFunc => .nilFunc
  | .pointer a => cvPtr a
  | .map a => cvMap a
  | .tuple a => cvTup a.toList
  | _ => .dead

noncomputable def tget (tm : T V) (i : Nat) : V := match tm.get i with | some v => v | none => .dead

noncomputable def ev (E : Env) (tm : T V) : Operand → V
  | .tmp t => tget tm t
  | .const v => cv v
  | .global g => match E.glob g with | some b => .ptr b 0 | none => .dead
  | .func f => .func (.func f) [] []

/-- A value's cells; not of what is not known. -/
def V.cellsO : V → Option (List V)
  | .agg cs => some cs
  | .dead => none
  | .tup _ => none
  | v => some [v]
/-- One cell's value, known as such. -/
def V.flat : V → Bool
  | .agg _ | .tup _ | .dead => false
  | _ => true
noncomputable def bindO {α β : Type} (x : Option α) (k : α → Option β) : Option β := Option.rec none k x
noncomputable def allFlat (l : List V) : Bool := List.rec true (fun v _ ih => bif v.flat then ih else false) l

noncomputable def takeN (n : Nat) : List V → Option (List V) :=
  Nat.rec (motive := fun _ => List V → Option (List V)) (fun _ => some [])
    (fun _ ih l => match l with | [] => none | v :: l => match ih l with | some r => some (v :: r) | none => none) n
noncomputable def dropN (n : Nat) : List V → List V :=
  Nat.rec (motive := fun _ => List V → List V) (fun l => l) (fun _ ih l => match l with | [] => [] | _ :: l => ih l) n
noncomputable def nth (l : List V) : Nat → Option V :=
  List.rec (motive := fun _ => Nat → Option V) (fun _ => none) (fun v _ ih i => bif Nat.beq i 0 then some v else ih (Nat.pred i)) l
/-- Writes 'vs' over the first cells; all must be there. -/
noncomputable def overL (vs : List V) : List V → Option (List V) :=
  List.rec (motive := fun _ => List V → Option (List V)) (fun cs => some cs)
    (fun v _ ih cs => match cs with | [] => none | _ :: cs => match ih cs with | some r => some (v :: r) | none => none) vs
/-- Writes 'vs' from place 'o' on; all must lie inside. -/
noncomputable def putL (cs : List V) (o : Nat) (vs : List V) : Option (List V) :=
  Nat.rec (motive := fun _ => List V → Option (List V)) (fun cs => overL vs cs)
    (fun _ ih cs => match cs with | [] => none | c :: cs => match ih cs with | some r => some (c :: r) | none => none) o cs

def Blk.rd : Blk → Option (List V)
  | .cells cs => some cs
  | .ro cs => some cs
  | _ => none

/-- A variable of a type as a value: 'cs' begins at it. -/
noncomputable def asVar (ti : TI) (cs : List V) : Option V :=
  match ti.k with
  | .struct _ | .array _ _ => match takeN ti.size cs with | some l => some (.agg l) | none => none
  | _ => match cs with | v :: _ => some v | [] => none

def sameK : IntKind → IntKind → Bool
  | .u8, .u8 | .u16, .u16 | .u32, .u32 | .u64, .u64 | .i8, .i8 | .i16, .i16 | .i32, .i32 | .i64, .i64 => true
  | _, _ => false
/-! Whole numbers, by what the kernel reckons at once. -/
def eqQ : Int → Int → Bool
  | .ofNat m, .ofNat n => Nat.beq m n
  | .negSucc m, .negSucc n => Nat.beq m n
  | _, _ => false
def ltQ : Int → Int → Bool
  | .ofNat m, .ofNat n => Nat.blt m n
  | .ofNat _, .negSucc _ => false
  | .negSucc _, .ofNat _ => true
  | .negSucc m, .negSucc n => Nat.blt n m
def leQ : Int → Int → Bool
  | .ofNat m, .ofNat n => Nat.ble m n
  | .ofNat _, .negSucc _ => false
  | .negSucc _, .ofNat _ => true
  | .negSucc m, .negSucc n => Nat.ble n m
def addQ : Int → Int → Int
  | .ofNat m, .ofNat n => .ofNat (Nat.add m n)
  | a, b => Int.add a b
def subQ : Int → Int → Int
  | .ofNat m, .ofNat n => bif Nat.ble n m then .ofNat (Nat.sub m n) else Int.sub (.ofNat m) (.ofNat n)
  | a, b => Int.sub a b
def mulQ : Int → Int → Int
  | .ofNat m, .ofNat n => .ofNat (Nat.mul m n)
  | a, b => Int.mul a b
/-- '==' of two values, where it is known. -/
def eqCells : List V → List V → Option Bool
  | [], [] => some true
  | .int k a :: x, .int k' b :: y => bif sameK k k' then (match eqQ a b with | true => eqCells x y | false => some false) else none
  | .bool a :: x, .bool b :: y => match a == b with | true => eqCells x y | false => some false
  | .str a :: x, .str b :: y => match a.data.toList == b.data.toList with | true => eqCells x y | false => some false
  | _, _ => none
/-- '==' of two rows of whole numbers, of the kinds that the zero value shows. -/
def eqInts : List V → List V → List V → Option Bool
  | [], [], [] => some true
  | .int k _ :: z, .int j a :: x, .int i b :: y => bif sameK k j && sameK k i then (match eqInts z x y with | some r => some (eqQ a b && r) | none => none) else none
  | _, _, _ => none
def eqK (ti : TI) (x y : V) : Option Bool :=
  match ti.k, x, y with
  | .bool, .bool a, .bool b => some (a == b)
  | .slice _, .nilSl, .nilSl => some true
  | .slice _, .nilSl, .sl .. => some false
  | .slice _, .sl .., .nilSl => some false
  | .slice _, .nilSl, .esl => some false
  | .slice _, .esl, .nilSl => some false
  | .func, .nilFunc, .nilFunc => some true
  | .func, .nilFunc, .func .. => some false
  | .func, .func .., .nilFunc => some false
  | .struct _, .agg xs, .agg ys => bif ti.eq then eqInts ti.zero xs ys else none
  | _, _, _ => none
noncomputable def eqV (E : Env) (t : TypeId) (x y : V) : Option Bool := bindO (E.ty t) fun ti => eqK ti x y

/-- The model's 'wrap', its numbers written out. -/
def wrapF : IntKind → Int → Int
  | .u8, n => Int.emod n 256
  | .u16, n => Int.emod n 65536
  | .u32, n => Int.emod n 4294967296
  | .u64, n => Int.emod n 18446744073709551616
  | .i8, n => bif decide (128 ≤ Int.emod n 256) then Int.emod n 256 - 256 else Int.emod n 256
  | .i16, n => bif decide (32768 ≤ Int.emod n 65536) then Int.emod n 65536 - 65536 else Int.emod n 65536
  | .i32, n => bif decide (2147483648 ≤ Int.emod n 4294967296) then Int.emod n 4294967296 - 4294967296 else Int.emod n 4294967296
  | .i64, n => bif decide (9223372036854775808 ≤ Int.emod n 18446744073709551616) then Int.emod n 18446744073709551616 - 18446744073709551616 else Int.emod n 18446744073709551616
def wrapQ : IntKind → Int → Int
  | .u8, .ofNat m => bif Nat.blt m 256 then .ofNat m else .ofNat (Nat.mod m 256)
  | .u16, .ofNat m => bif Nat.blt m 65536 then .ofNat m else .ofNat (Nat.mod m 65536)
  | .u32, .ofNat m => bif Nat.blt m 4294967296 then .ofNat m else .ofNat (Nat.mod m 4294967296)
  | .u64, .ofNat m => bif Nat.blt m 18446744073709551616 then .ofNat m else .ofNat (Nat.mod m 18446744073709551616)
  | .i64, .ofNat m => bif Nat.blt m 9223372036854775808 then .ofNat m else wrapF .i64 (.ofNat m)
  | .i64, .negSucc m => bif Nat.blt m 9223372036854775808 then .negSucc m else wrapF .i64 (.negSucc m)
  | k, n => wrapF k n
/-- A number's bits, as a natural number. -/
def bitsN : IntKind → Int → Nat
  | .u8, n | .i8, n => (Int.emod n 256).toNat
  | .u16, n | .i16, n => (Int.emod n 65536).toNat
  | .u32, n | .i32, n => (Int.emod n 4294967296).toNat
  | .u64, n | .i64, n => (Int.emod n 18446744073709551616).toNat
def fullN : IntKind → Nat
  | .u8 | .i8 => 255
  | .u16 | .i16 => 65535
  | .u32 | .i32 => 4294967295
  | .u64 | .i64 => 18446744073709551615
def bitsQ (k : IntKind) (n : Int) : Nat := match n with
  | .ofNat m => Nat.mod m (Nat.succ (fullN k))
  | .negSucc m => bitsN k (.negSucc m)
def fdivQ (a : Int) (n : Nat) : Int := match a with
  | .ofNat m => .ofNat (Nat.div m n)
  | .negSucc m => Int.fdiv (.negSucc m) (.ofNat n)
def iShl (k : IntKind) (a b : Int) : Option V := bif leQ (.ofNat 0) b then some (.int k (wrapQ k (mulQ a (.ofNat (Nat.pow 2 (min b.toNat k.bits)))))) else none
def iShr (k : IntKind) (a b : Int) : Option V := bif leQ (.ofNat 0) b then some (.int k (fdivQ a (Nat.pow 2 (min b.toNat k.bits)))) else none
def iAdd (k : IntKind) (a b : Int) : Option V := some (.int k (wrapQ k (addQ a b)))
def iSub (k : IntKind) (a b : Int) : Option V := some (.int k (wrapQ k (subQ a b)))
def iMul (k : IntKind) (a b : Int) : Option V := some (.int k (wrapQ k (mulQ a b)))
def iQuo (k : IntKind) (a b : Int) : Option V := bif eqQ b (.ofNat 0) then none else some (.int k (wrapQ k (Int.tdiv a b)))
def iRem (k : IntKind) (a b : Int) : Option V := bif eqQ b (.ofNat 0) then none else some (.int k (Int.tmod a b))
def iAnd (k : IntKind) (a b : Int) : Option V := some (.int k (wrapQ k (.ofNat (Nat.land (bitsQ k a) (bitsQ k b)))))
def iOr (k : IntKind) (a b : Int) : Option V := some (.int k (wrapQ k (.ofNat (Nat.lor (bitsQ k a) (bitsQ k b)))))
def iXor (k : IntKind) (a b : Int) : Option V := some (.int k (wrapQ k (.ofNat (Nat.xor (bitsQ k a) (bitsQ k b)))))
def iAndNot (k : IntKind) (a b : Int) : Option V := some (.int k (wrapQ k (.ofNat (Nat.land (bitsQ k a) (Nat.sub (fullN k) (bitsQ k b))))))
def binI2 (op : BinOp) (k : IntKind) (a b : Int) : Option V :=
  match op with
  | .add => iAdd k a b
  | .sub => iSub k a b
  | .mul => iMul k a b
  | .quo => iQuo k a b
  | .rem => iRem k a b
  | .and => iAnd k a b
  | .or => iOr k a b
  | .xor => iXor k a b
  | .andNot => iAndNot k a b
  | .eql => some (.bool (eqQ a b))
  | .neq => some (.bool (!eqQ a b))
  | .lss => some (.bool (ltQ a b))
  | .leq => some (.bool (leQ a b))
  | .gtr => some (.bool (ltQ b a))
  | .geq => some (.bool (leQ b a))
  | _ => none
def binI (op : BinOp) (k : IntKind) (a : Int) (k' : IntKind) (b : Int) : Option V :=
  match op with
  | .shl => iShl k a b
  | .shr => iShr k a b
  | _ => bif sameK k k' then binI2 op k a b else none

noncomputable def eqOp (E : Env) (op : BinOp) (t : TypeId) (x y : V) : Option V :=
  match op with
  | .eql => (match eqV E t x y with | some b => some (.bool b) | none => none)
  | .neq => (match eqV E t x y with | some b => some (.bool !b) | none => none)
  | _ => none
noncomputable def binV (E : Env) (op : BinOp) (t : TypeId) (x y : V) : Option V :=
  match x, y with
  | .int k a, .int k' b => binI op k a k' b
  | .str a, .str b =>
    match op with
    | .add => bif Nat.ble (Nat.add a.size b.size) 9223372036854775807 then some (.str (a ++ b)) else none
    | .eql => some (.bool (a.data.toList == b.data.toList))
    | .neq => some (.bool (!(a.data.toList == b.data.toList)))
    | _ => none
  | x, y => eqOp E op t x y

def unV (op : UnOp) : V → Option V
  | .int k n =>
    match op with
    | .neg => some (.int k (wrapQ k (subQ (.ofNat 0) n)))
    | .xor => some (.int k (wrapQ k (.ofNat (Nat.sub (fullN k) (bitsQ k n)))))
    | _ => none
  | .bool b => match op with | .not => some (.bool !b) | _ => none
  | _ => none

def convV (E : Env) (dst : TypeId) : V → Option V
  | .int _ n => match E.ty dst with
    | some { k := .int k, .. } => some (.int k (wrapQ k n))
    | _ => none
  | _ => none

def mapO {α β : Type} (f : α → Option β) : List α → Option (List β)
  | [] => some []
  | x :: l => match f x with
    | some y => (match mapO f l with | some r => some (y :: r) | none => none)
    | none => none

/-- Fills a literal: the parts laid into zero cells. -/
noncomputable def fillV (place : Nat → Option (Nat × Nat)) (cells : List V) : List (Nat × V) → Option (List V)
  | [] => some cells
  | (i, v) :: rest => match place i, v.cellsO with
    | some (off, size), some vs => bif Nat.beq vs.length size then (match putL cells off vs with | some cs => fillV place cs rest | none => none) else none
    | _, _ => none

noncomputable def rep (n : Nat) (z : List V) : List V := match n with | 0 => [] | n + 1 => z ++ rep n z

noncomputable def offSize (E : Env) (fs : List (Nat × TypeId)) (i : Nat) : Option (Nat × Nat) :=
  match fs[i]? with
  | some (o, t) => match E.ty t with | some ti => some (o, ti.size) | none => none
  | none => none

/-- A slice's bounds. -/
def natOf : V → Option Nat
  | .int _ n => (match n with | .ofNat m => some m | .negSucc _ => none)
  | _ => none

structure R where
  v : V
  hp : Hp
  nx : Nat
  df : Option (FuncId × List V) := none

noncomputable def pureR (st : St) (v : Option V) : Option R := match v with | some v => some ⟨v, st.hp, st.nx, none⟩ | none => none
noncomputable def newBlk (st : St) (cs : List V) (v : V) : Option R := some ⟨v, st.hp.set st.nx (some (.cells cs)), Nat.succ st.nx, none⟩

noncomputable def hpR (st : St) (h : Option Hp) : Option R := match h with | some hp => some ⟨.tup [], hp, st.nx, none⟩ | none => none
noncomputable def hpRV (st : St) (h : Option Hp) (v : V) : Option R := match h with | some hp => some ⟨v, hp, st.nx, none⟩ | none => none
noncomputable def rdFrom (hp : Hp) (b o : Nat) : Option (List V) :=
  match hp.get b with
  | some blk => (match blk.rd with | some cs => some (dropN o cs) | none => none)
  | none => none

noncomputable def storeTo (hp : Hp) (b o : Nat) (vs : List V) : Option Hp :=
  match hp.get b with
  | some (.cells cs) => (match putL cs o vs with | some cs' => some (hp.set b (some (.cells cs'))) | none => none)
  | _ => none

/-- A bound that may be left out. -/
def bound (x : Option V) (d : Nat) : Option Nat := match x with | some v => natOf v | none => some d
noncomputable def sliceStr (s : ByteArray) (lo hi : Option V) : Option V :=
  bindO (bound hi s.size) fun h => bindO (bound lo 0) fun l => bif Nat.ble l h && Nat.ble h s.size then some (.str (s.extract l h)) else none
noncomputable def sliceNil (lo hi mx : Option V) : Option V :=
  bindO (bound hi 0) fun h => bindO (bound lo 0) fun l => bindO (bound mx 0) fun m => bif Nat.beq h 0 && Nat.beq l 0 && Nat.beq m 0 && (mx.isNone || hi.isSome) then some .nilSl else none
/-- 'top': as far as is known that it goes; 'cap' of one that is not exact is the size of an element. -/
noncomputable def sliceSl (size b o len cap : Nat) (ex : Bool) (lo hi mx : Option V) : Option V :=
  bindO (bound hi len) fun h => bindO (bound lo 0) fun l =>
    bif Nat.ble l h && Nat.ble h (bif ex then cap else len) then
      match mx with
      | none =>
        bif ex then (bif Nat.beq l 0 || Nat.blt l cap then some (.sl b (o + l * size) (h - l) (cap - l) true) else none)
        else (bif Nat.beq l 0 || (Nat.blt l len && Nat.beq size cap) then some (.sl b (o + l * size) (h - l) cap false) else (bif Nat.ble len l then some .esl else none))
      | some m => bindO (natOf m) fun m =>
        bif Nat.ble h m && Nat.ble m (bif ex then cap else len) && (Nat.beq l 0 || Nat.blt l m) && hi.isSome then some (.sl b (o + l * size) (h - l) (m - l) true) else none
    else none
noncomputable def sliceV (E : Env) (t : TypeId) (x : V) (lo hi mx : Option V) : Option V :=
  match x, E.ty t with
  | .str s, some { k := .str, .. } => (match mx with | none => sliceStr s lo hi | some _ => none)
  | .nilSl, some { k := .slice e, .. } => bindO (E.ty e) fun _ => sliceNil lo hi mx
  | .sl b o len cap ex, some { k := .slice e, .. } => bindO (E.ty e) fun te => sliceSl te.size b o len cap ex lo hi mx
  | _, _ => none

noncomputable def indexAddrV (E : Env) (t : TypeId) (x i : V) : Option V :=
  match natOf i with
  | none => none
  | some i =>
    match x, E.ty t with
    | .ptr b o, some { k := .array n e, .. } => (match E.ty e with | some te => bif Nat.blt i n then some (.ptr b (o + i * te.size)) else none | none => none)
    | .sl b o len _ _, some { k := .slice e, .. } => (match E.ty e with | some te => bif Nat.blt i len then some (.ptr b (o + i * te.size)) else none | none => none)
    | _, _ => none

noncomputable def indexV (E : Env) (t : TypeId) (x i : V) : Option V :=
  match natOf i with
  | none => none
  | some i =>
    match x, E.ty t with
    | .agg cs, some { k := .array n e, .. } => (match E.ty e with | some te => bif Nat.blt i n then asVar te (dropN (i * te.size) cs) else none | none => none)
    | .str s, some { k := .str, .. } => (match s.data[i]? with | some b => some (.int .u8 b.toNat) | none => none)
    | _, _ => none

/-- The cells of what is appended. -/
noncomputable def srcOf (hp : Hp) (size : Nat) : V → Option (Nat × List V)
  | .nilSl => some (0, [])
  | .esl => some (0, [])
  | .sl b o len _ _ => match rdFrom hp b o with
    | some cs => (match takeN (len * size) cs with | some l => some (len, l) | none => none)
    | none => none
  | .str s => bif Nat.beq size 1 then some (s.size, s.data.toList.map fun b => .int .u8 b.toNat) else none
  | _ => none
/-- A source of this type may be appended to a row of that one. -/
def srcT (E : Env) (t u : TypeId) : V → Bool
  | .str _ => (match E.ty u with | some { k := .str, .. } => true | _ => false)
  | _ => Nat.beq t u

/-- Within the bounds that the model asks of a grown row. -/
def roomy (n bytes : Nat) : Bool := Nat.ble (n * bytes) 140737488355328 && Nat.ble n 140737488355328
noncomputable def appendGrow (st : St) (size n : Nat) (new : List V) (b o len : Nat) (cap : Nat) (ex : Bool) (old : List V) : Option R :=
  bif ex then newBlk st (old ++ new) (.sl st.nx 0 (len + n) size false)
  else bif Nat.beq o 0 && Nat.beq cap size && allFlat new then
    (match st.hp.get b with
    | some (.cells _) => newBlk { st with hp := st.hp.set b none } (old ++ new) (.sl st.nx 0 (len + n) size false)
    | _ => none)
  else none
noncomputable def appendSl (st : St) (size bytes n : Nat) (new : List V) (b o len cap : Nat) (ex : Bool) : Option R :=
  bif ex && Nat.ble (len + n) cap then (bif allFlat new then hpRV st (storeTo st.hp b (o + len * size) new) (.sl b o (len + n) cap true) else none)
  else bif roomy (len + n) bytes then bindO (srcOf st.hp size (.sl b o len cap ex)) fun old => appendGrow st size n new b o len cap ex old.2
  else none
noncomputable def appendTo (st : St) (size bytes : Nat) (x : V) (src : Nat × List V) : Option R :=
  match x with
  | .nilSl => bif Nat.beq src.1 0 then some ⟨.nilSl, st.hp, st.nx, none⟩
    else bif roomy src.1 bytes then newBlk st src.2 (.sl st.nx 0 src.1 size false) else none
  | .sl b o len cap ex => bif Nat.beq src.1 0 then some ⟨.sl b o len cap ex, st.hp, st.nx, none⟩ else appendSl st size bytes src.1 src.2 b o len cap ex
  | _ => none
noncomputable def appendV (E : Env) (st : St) (t u : TypeId) (x y : V) : Option R :=
  match E.ty t with
  | some { k := .slice e, .. } => bindO (E.ty e) fun te => bindO (srcOf st.hp te.size y) fun src => bif srcT E t u y && allFlat src.2 then appendTo st te.size te.bytes x src else none
  | _ => none

def lenSl : V → Option V
  | .nilSl => some (.int .i64 0)
  | .sl _ _ n _ _ => some (.int .i64 n)
  | .esl => some (.int .i64 0)
  | _ => none
def lenStr : V → Option V
  | .str s => some (.int .i64 s.size)
  | _ => none
def lenMap : V → Option V
  | .nilMap => some (.int .i64 0)
  | _ => none
noncomputable def lenV (E : Env) (ti : Option TI) (x : V) : Option V :=
  match ti with
  | some { k := .slice _, .. } => lenSl x
  | some { k := .str, .. } => lenStr x
  | some { k := .ptr a, .. } => (match E.ty a with | some { k := .array n _, .. } => some (.int .i64 n) | _ => none)
  | some { k := .array n _, .. } => some (.int .i64 n)
  | some { k := .map _ _, .. } => lenMap x
  | _ => none

noncomputable def foldV (f : V → V → Option V) (x : V) : List V → Option V
  | [] => some x
  | y :: l => match f x y with | some z => foldV f z l | none => none
def max2V : V → V → Option V
  | .int k x, .int _ y => some (.int k (if y > x then y else x))
  | _, _ => none
def min2V : V → V → Option V
  | .int k x, .int _ y => some (.int k (if y < x then y else x))
  | _, _ => none

noncomputable def clearSl (st : St) (te : TI) : V → Option R
  | .nilSl => some ⟨.tup [], st.hp, st.nx, none⟩
  | .sl b o len _ _ => bif Nat.beq len 0 then some ⟨.tup [], st.hp, st.nx, none⟩ else bif allFlat te.zero then hpR st (storeTo st.hp b o (rep len te.zero)) else none
  | _ => none
noncomputable def clearV (E : Env) (st : St) (ti : Option TI) (x : V) : Option R :=
  match ti with
  | some { k := .slice e, .. } => bindO (E.ty e) fun te => clearSl st te x
  | _ => none

noncomputable def callB (E : Env) (st : St) (b : Builtin) (ts : List TypeId) (args : List V) : Option R :=
  match b, ts, args with
  | .len, t :: _, x :: _ => pureR st (lenV E (E.ty t) x)
  | .append, [t, u], [x, y] => appendV E st t u x y
  | .max, _, x :: l => pureR st (foldV max2V x l)
  | .min, _, x :: l => pureR st (foldV min2V x l)
  | .clear, t :: _, [x] => clearV E st (E.ty t) x
  | _, _, _ => none

/-! maps with whole numbers as keys -/
def lookM : List (V × V) → V → Option (Option V)
  | [], .int _ _ => some none
  | (.int j a, v) :: l, .int k b => bif sameK j k then (match eqQ b a with | true => some (some v) | false => lookM l (.int k b)) else none
  | _, _ => none
def setM : List (V × V) → V → V → Option (List (V × V))
  | [], .int k b, v => some [(.int k b, v)]
  | (.int j a, u) :: l, .int k b, v => bif sameK j k then (match eqQ b a with
    | true => some ((.int k b, v) :: l)
    | false => (match setM l (.int k b) v with | some r => some ((.int j a, u) :: r) | none => none)) else none
  | _, _, _ => none
def intKey : Option TI → Bool
  | some { k := .int _, .. } => true
  | _ => false

/-! maps with rows of whole numbers as keys -/
def loQ : IntKind → Int
  | .i8 => -128 | .i16 => -32768 | .i32 => -2147483648 | .i64 => -9223372036854775808
  | _ => 0
def hiQ : IntKind → Int
  | .u8 => 255 | .u16 => 65535 | .u32 => 4294967295 | .u64 => 18446744073709551615
  | .i8 => 127 | .i16 => 32767 | .i32 => 2147483647 | .i64 => 9223372036854775807
/-- Whole numbers of the kinds that the zero value shows, each of its size. -/
def intsIn : List V → List V → Bool
  | [], [] => true
  | .int k _ :: z, .int j a :: x => bif sameK k j && (leQ (loQ k) a && leQ a (hiQ k)) then intsIn z x else false
  | _, _ => false
/-- The one entry of that key; none: not known. -/
def lookA (z : List V) (ks : List V) : List (V × V) → Option (Option V)
  | [] => some none
  | (.agg xs, v) :: l => bif intsIn z xs then (match eqInts z ks xs, lookA z ks l with
    | some true, some none => some (some v)
    | some false, some r => some r
    | _, _ => none) else none
  | _ => none
/-- What a map has at a key. -/
def lookK (key : Bool) (kt : Option TI) (es : List (V × V)) (k : V) : Option (Option V) :=
  bif intKey kt then lookM es k else
  match key, kt, k with
  | true, some tk, .agg ks => bif intsIn tk.zero ks then lookA tk.zero ks es else none
  | _, _, _ => none
def setK (key : Bool) (kt : Option TI) (es : List (V × V)) (k v : V) : Option (List (V × V)) :=
  bif intKey kt then setM es k v else
  match key, kt, k with
  | true, some tk, .agg ks => bif intsIn tk.zero ks then (match lookA tk.zero ks es with | some none => some (es ++ [(.agg ks, v)]) | _ => none) else none
  | _, _, _ => none

abbrev CallT := FuncId → List V → Hp → Nat → Option R
/-! Rounds are called by numbers from 'rdBase' on; 'markId' marks a block for the rounds' deferred calls. -/
def rdBase : Nat := 1099511627776
def markId : Nat := 1099511627775

noncomputable def xMove (E : Env) (st : St) (x : Operand) : Option R := some ⟨ev E st.tm x, st.hp, st.nx, none⟩
def pickV (c a b : V) : Option V := match c with | .bool true => some a | .bool false => some b | _ => none
noncomputable def xPick (E : Env) (st : St) (c a b : Operand) : Option R := pureR st (pickV (ev E st.tm c) (ev E st.tm a) (ev E st.tm b))
noncomputable def loadV (hp : Hp) (a : V) (ti : Option TI) : Option V :=
  match a, ti with
  | .ptr b o, some ti => (match rdFrom hp b o with | some cs => asVar ti cs | none => none)
  | _, _ => none
noncomputable def xLoad (E : Env) (st : St) (t : TypeId) (a : Operand) : Option R := pureR st (loadV st.hp (ev E st.tm a) (E.ty t))
noncomputable def storeV (hp : Hp) (a : V) (ti : Option TI) (cs : List V) : Option Hp :=
  match a, ti with
  | .ptr b o, some ti => bif Nat.beq cs.length ti.size && allFlat cs then storeTo hp b o cs else none
  | _, _ => none
noncomputable def xStore (E : Env) (st : St) (t : TypeId) (a x : Operand) : Option R := bindO (ev E st.tm x).cellsO fun cs => hpR st (storeV st.hp (ev E st.tm a) (E.ty t) cs)
noncomputable def nilCheckV (x : V) : Option V :=
  match x with
  | .ptr b o => some (.ptr b o)
  | .func (.func f) x y => some (.func (.func f) x y)
  | .yield l => some (.yield l)
  | _ => none
noncomputable def xNilCheck (E : Env) (st : St) (x : Operand) : Option R := pureR st (nilCheckV (ev E st.tm x))
noncomputable def xBin (E : Env) (st : St) (op : BinOp) (t : TypeId) (x y : Operand) : Option R := pureR st (binV E op t (ev E st.tm x) (ev E st.tm y))
noncomputable def xUn (E : Env) (st : St) (op : UnOp) (x : Operand) : Option R := pureR st (unV op (ev E st.tm x))
/-- Cells that are bytes. -/
def bytesV : List V → Option (List UInt8)
  | [] => some []
  | .int .u8 (.ofNat n) :: l => (match bytesV l with | some r => some (UInt8.ofNat n :: r) | none => none)
  | _ => none
noncomputable def strSl (hp : Hp) : V → Option V
  | .nilSl => some (.str ByteArray.empty)
  | .sl b o len _ _ => (match rdFrom hp b o with
    | some cs => (match takeN len cs with
      | some l => (match bytesV l with | some bs => some (.str ⟨bs.toArray⟩) | none => none)
      | none => none)
    | none => none)
  | _ => none
/-- string(b). -/
noncomputable def strV (E : Env) (hp : Hp) (s t : TypeId) (x : V) : Option V :=
  match E.ty t, E.ty s with
  | some { k := .str, .. }, some { k := .slice e, .. } => (match E.ty e with | some { k := .int .u8, .. } => strSl hp x | _ => none)
  | some { k := .str, .. }, some { k := .str, .. } => (match x with | .str a => some (.str a) | _ => none)
  | _, _ => none
noncomputable def xConv (E : Env) (st : St) (s t : TypeId) (x : Operand) : Option R := bindO (E.ty s) fun _ => pureR st (convV E t (ev E st.tm x))
noncomputable def evL (E : Env) (tm : T V) : List Operand → List V
  | [] => []
  | x :: l => ev E tm x :: evL E tm l
noncomputable def xMakeFunc (E : Env) (st : St) (fn : Fn) (a b : Array Operand) : Option R := some ⟨.func fn (evL E st.tm a.toList) (evL E st.tm b.toList), st.hp, st.nx, none⟩
noncomputable def fieldV (x : V) (ti : Option TI) (f : Nat) : Option V :=
  match x, ti with
  | .ptr b o, some { k := .struct offs, .. } => (match offs[f]? with | some d => some (.ptr b (o + d)) | none => none)
  | _, _ => none
noncomputable def xField (E : Env) (st : St) (s : TypeId) (x : Operand) (f : Nat) : Option R := pureR st (fieldV (ev E st.tm x) (E.ty s) f)
noncomputable def xIndexAddr (E : Env) (st : St) (t : TypeId) (x i : Operand) : Option R := pureR st (indexAddrV E t (ev E st.tm x) (ev E st.tm i))
noncomputable def xIndex (E : Env) (st : St) (t : TypeId) (x i : Operand) : Option R := pureR st (indexV E t (ev E st.tm x) (ev E st.tm i))
noncomputable def evO (E : Env) (tm : T V) : Option Operand → Option V
  | none => none
  | some x => some (ev E tm x)
noncomputable def xSlice (E : Env) (st : St) (t : TypeId) (x : Operand) (lo hi mx : Option Operand) : Option R :=
  pureR st (sliceV E t (ev E st.tm x) (evO E st.tm lo) (evO E st.tm hi) (evO E st.tm mx))
noncomputable def extractV (x : V) (i : Nat) : Option V := match x with | .tup vs => nth vs i | _ => none
noncomputable def xExtract (E : Env) (st : St) (t : Operand) (i : Nat) : Option R := pureR st (extractV (ev E st.tm t) i)
noncomputable def xAlloc (E : Env) (st : St) (e : TypeId) : Option R := match E.ty e with | some ti => newBlk st ti.zero (.ptr st.nx 0) | none => none
noncomputable def xBox (E : Env) (st : St) (x : Operand) : Option R := bindO (ev E st.tm x).cellsO fun cs => newBlk st cs (.ptr st.nx 0)
noncomputable def evP (E : Env) (tm : T V) : List (Nat × Operand) → List (Nat × V)
  | [] => []
  | (i, x) :: l => (i, ev E tm x) :: evP E tm l
def placeS (ti : TI) (offs : List Nat) (i : Nat) : Option (Nat × Nat) :=
  match offs[i]? with
  | some d => some (d, (match offs[i + 1]? with | some d' => d' | none => ti.size) - d)
  | none => none
noncomputable def buildV (E : Env) (ti : Option TI) (ps : List (Nat × V)) : Option V :=
  match ti with
  | some ti => (match ti.k with
    | .struct offs => (match fillV (placeS ti offs) ti.zero ps with | some cs => some (.agg cs) | none => none)
    | .array _ e => (match E.ty e with | some te => (match fillV (fun i => some (i * te.size, te.size)) ti.zero ps with | some cs => some (.agg cs) | none => none) | none => none)
    | _ => none)
  | none => none
noncomputable def xBuild (E : Env) (st : St) (t : TypeId) (ps : List (Nat × Operand)) : Option R := pureR st (buildV E (E.ty t) (evP E st.tm ps))
noncomputable def xBuildSlice (E : Env) (st : St) (t : TypeId) (len : Nat) (ps : List (Nat × Operand)) : Option R :=
  match E.ty t with
  | some { k := .slice e, .. } => (match E.ty e with
    | some te => bif Nat.ble (len * te.size) 65536 then (match fillV (fun i => some (i * te.size, te.size)) (rep len te.zero) (evP E st.tm ps) with | some cs => newBlk st cs (.sl st.nx 0 len len true) | none => none) else none
    | none => none)
  | _ => none
noncomputable def makeSliceR (E : Env) (st : St) (t : TypeId) (l c : Option Nat) : Option R :=
  match E.ty t with
  | some { k := .slice e, .. } => (match E.ty e with
    | some te => (match l, c with
      | some l, some c => bif (Nat.ble l c && Nat.ble c 1048576) && (Nat.ble (c * te.size) 1048576 && Nat.ble (c * te.bytes) 16777216) then newBlk st (rep c te.zero) (.sl st.nx 0 l c true) else none
      | _, _ => none)
    | none => none)
  | _ => none
noncomputable def xMakeSlice (E : Env) (st : St) (t : TypeId) (l c : Operand) : Option R := makeSliceR E st t (natOf (ev E st.tm l)) (natOf (ev E st.tm c))
noncomputable def xMakeMap (st : St) : Option R := some ⟨.map st.nx, st.hp.set st.nx (some (.map [])), Nat.succ st.nx, none⟩
/-- What is not there. -/
def zeroT (te : TI) : Option V := match te.agg with | true => some (.agg te.zero) | false => (match te.zero with | v :: _ => some v | [] => none)
def okV (ok : Bool) (v : V) (b : Bool) : V := match ok with | true => .tup [v, .bool b] | false => v
noncomputable def lookupV (E : Env) (hp : Hp) (ti : Option TI) (m k : V) (ok : Bool) : Option V :=
  match m, ti with
  | .map b, some { k := .map kt e, .. } => (match hp.get b, E.ty e with
    | some (.map es), some te => (match lookK (E.key kt) (E.ty kt) es k with
      | some (some v) => some (okV ok v true)
      | some none => (match zeroT te with | some z => some (okV ok z false) | none => none)
      | none => none)
    | _, _ => none)
  | _, _ => none
noncomputable def xLookup (E : Env) (st : St) (t : TypeId) (m k : Operand) (ok : Bool) : Option R := pureR st (lookupV E st.hp (E.ty t) (ev E st.tm m) (ev E st.tm k) ok)
noncomputable def mapUpd (E : Env) (hp : Hp) (ti : Option TI) (m k x : V) : Option Hp :=
  match m, ti with
  | .map b, some { k := .map kt _, .. } => (match hp.get b with
    | some (.map es) => (match setK (E.key kt) (E.ty kt) es k x with | some es' => some (hp.set b (some (.map es'))) | none => none)
    | _ => none)
  | _, _ => none
/-- A range over a map begins. -/
noncomputable def rangeMapV (_E : Env) (st : St) (ti : Option TI) (m : V) : Option R :=
  match m, ti with
  | .map b, some { k := .map _ _, .. } => (match st.hp.get b with
    | some (.map es) => some ⟨.ptr st.nx 0, st.hp.set st.nx (some (.iter (some b) es.length false)), Nat.succ st.nx, none⟩
    | _ => none)
  | .nilMap, some { k := .map _ _, .. } => some ⟨.ptr st.nx 0, st.hp.set st.nx (some (.iter none 0 false)), Nat.succ st.nx, none⟩
  | _, _ => none
/-- Its next entry: of a map of one entry at most. -/
noncomputable def nextV (st : St) (x : V) : Option R :=
  match x with
  | .ptr r 0 => (match st.hp.get r with
    | some (.iter none _ _) => some ⟨.tup [.bool false], st.hp, st.nx, none⟩
    | some (.iter (some b) n seen) => (match st.hp.get b, seen with
      | some (.map []), false => bif Nat.beq n 0 then some ⟨.tup [.bool false], st.hp, st.nx, none⟩ else none
      | some (.map [(k, v)]), false => bif Nat.beq n 1 then some ⟨.tup [.bool true, k, v], st.hp.set r (some (.iter (some b) 1 true)), st.nx, none⟩ else none
      | some (.map [(_, _)]), true => bif Nat.beq n 1 then some ⟨.tup [.bool false], st.hp, st.nx, none⟩ else none
      | _, _ => none)
    | _ => none)
  | _ => none
noncomputable def entryV (hp : Hp) (x : V) : Option V :=
  match x with
  | .ptr r 0 => (match hp.get r with
    | some (.iter (some b) n true) => (match hp.get b with
      | some (.map [(k, v)]) => bif Nat.beq n 1 then some (.tup [k, v]) else none
      | _ => none)
    | _ => none)
  | _ => none
noncomputable def xMapUpdate (E : Env) (st : St) (t : TypeId) (m k x : Operand) : Option R := hpR st (mapUpd E st.hp (E.ty t) (ev E st.tm m) (ev E st.tm k) (ev E st.tm x))
noncomputable def callV (call : CallT) (st : St) (f : V) (args : List V) : Option R :=
  match f with
  | .func (.func k) first captured => bif Nat.blt k markId then bindO (call k (first ++ (args ++ captured)) st.hp st.nx) fun r => some ⟨r.v, r.hp, r.nx, none⟩ else none
  | .yield l => bindO (call (Nat.add rdBase l) args st.hp st.nx) fun r => some ⟨r.v, r.hp, r.nx, none⟩
  | _ => none
noncomputable def xCall (E : Env) (call : CallT) (st : St) (c : Call) : Option R :=
  match c.callee with
  | .builtin b => callB E st b c.argTypes.toList (evL E st.tm c.args.toList)
  | .value f => callV call st (ev E st.tm f) (evL E st.tm c.args.toList)
  | .invoke _ _ => none
noncomputable def deferR (st : St) (f : V) (args : List V) : Option R :=
  match f with
  | .func (.func k) first captured => bif Nat.blt k markId then some ⟨.tup [], st.hp, st.nx, some (k, first ++ (args ++ captured))⟩ else none
  | _ => none
noncomputable def xDefer (E : Env) (st : St) (c : Call) : Option R :=
  match c.callee with
  | .value f => deferR st (ev E st.tm f) (evL E st.tm c.args.toList)
  | _ => none

/-- A field of a struct that is no variable. -/
noncomputable def partV (E : Env) (t : TypeId) (x : V) (f : Nat) : Option V :=
  match E.fld t f, x with
  | some p, .agg cs => bindO (E.ty p.2) fun ti => asVar ti (dropN p.1 cs)
  | _, _ => none
noncomputable def opx (E : Env) (call : CallT) (st : St) (op : Op) : Option R :=
  match op with
  | .move x => xMove E st x
  | .assign x => xMove E st x
  | .pick c a b => xPick E st c a b
  | .load t a => xLoad E st t a
  | .store t a x => xStore E st t a x
  | .nilCheck x => xNilCheck E st x
  | .binOp op t x y _ => xBin E st op t x y
  | .unOp op _ x => xUn E st op x
  | .convert src dst x => xConv E st src dst x
  | .makeFunc fn a b => xMakeFunc E st fn a b
  | .fieldAddr s x f => xField E st s x f
  | .indexAddr t x i => xIndexAddr E st t x i
  | .index t x i => xIndex E st t x i
  | .slice t x lo hi mx => xSlice E st t x lo hi mx
  | .extract t i => xExtract E st t i
  | .alloc e => xAlloc E st e
  | .box _ x => xBox E st x
  | .build t ps => xBuild E st t ps.toList
  | .buildSlice t len ps => xBuildSlice E st t len ps.toList
  | .makeSlice t l c => xMakeSlice E st t l c
  | .makeMap _ none => xMakeMap st
  | .lookup t m k ok => xLookup E st t m k ok
  | .mapUpdate t m k x => xMapUpdate E st t m k x
  | .insert t m k x => xMapUpdate E st t m k x
  | .range t x => rangeMapV E st (E.ty t) (ev E st.tm x)
  | .next x false => nextV st (ev E st.tm x)
  | .entry x => pureR st (entryV st.hp (ev E st.tm x))
  | .field t x f => pureR st (partV E t (ev E st.tm x) f)
  | .call c => xCall E call st c
  | .defer c => xDefer E st c
  | _ => none

/-- The same, and string(b): where the operations come in their order. -/
noncomputable def opy (E : Env) (call : CallT) (st : St) (op : Op) : Option R :=
  match opx E call st op with
  | some r => some r
  | none => (match op with | .convert s t x => pureR st (strV E st.hp s t (ev E st.tm x)) | _ => none)

/-- Does an operation run? None: not known. -/
noncomputable def wants (ops : List Oper) (tm : T V) (o : Oper) : Option Bool :=
  match o.guard with
  | none => some true
  | some (j, want) => match ops[j]? with
    | some p => (match p.dst with
      | some d => (match tget tm d with
        | .bool b => some (b == want)
        | .dead => none
        | _ => some false)
      | none => some false)
    | none => some false

noncomputable def putT (nt : Nat) (tm : T V) : Option Tmp → V → Option (T V)
  | none, _ => some tm
  | some d, v => bif Nat.blt d nt then some (tm.set d (some v)) else none

noncomputable def stepR (nt : Nat) (st : St) (dst : Option Tmp) : Option R → Option St
  | none => none
  | some r => match putT nt st.tm dst r.v with
    | some tm => some ⟨tm, r.hp, r.nx, match r.df with | some d => d :: st.df | none => st.df⟩
    | none => none
noncomputable def skipR (nt : Nat) (st : St) (dst : Option Tmp) : Option St :=
  match putT nt st.tm dst (.tup []) with
  | some tm => some { st with tm := tm }
  | none => none

noncomputable def evOp1 (E : Env) (call : CallT) (nt : Nat) (ops : List Oper) (o : Oper) (st : St) : Option St :=
  match wants ops st.tm o with
  | none => none
  | some false => skipR nt st o.dst
  | some true => stepR nt st o.dst (opx E call st o.op)
noncomputable def evOp1y (E : Env) (call : CallT) (nt : Nat) (ops : List Oper) (o : Oper) (st : St) : Option St :=
  match wants ops st.tm o with
  | none => none
  | some false => skipR nt st o.dst
  | some true => stepR nt st o.dst (opy E call st o.op)
noncomputable def bindS {α β : Type} (x : Option α) (k : α → Option β) : Option β := Option.rec none k x
noncomputable def evOps (E : Env) (call : CallT) (nt : Nat) (ops : List Oper) (l : List Oper) : St → Option St :=
  List.rec (motive := fun _ => St → Option St) (fun st => some st) (fun o _ ih st => bindS (evOp1y E call nt ops o st) ih) l


noncomputable def evLoop (body : St → Option (Out × St)) (n : Nat) : St → Option (Out × St) :=
  Nat.rec (motive := fun _ => St → Option (Out × St)) (fun _ => none)
    (fun _ ih st => bindS (body st) fun r => bif r.1.isNorm then ih r.2 else some r) n

noncomputable def seqS (r : Option (Out × St)) (k : St → Option (Out × St)) : Option (Out × St) :=
  bindS r fun r => bif r.1.isNorm then k r.2 else some r
noncomputable def condS (c : V) (a b : St → Option (Out × St)) (st : St) : Option (Out × St) :=
  match c with
  | .bool t => bif t then a st else b st
  | _ => none
noncomputable def blockS (id : Nat) (r : Option (Out × St)) : Option (Out × St) :=
  bindS r fun r => bif r.1.is id then some (.norm, r.2) else some r
noncomputable def regionS (r : Option St) : Option (Out × St) := bindS r fun st => some (.norm, st)

/-! A region that draws: one order is run; what another order could see is looked at afterwards. -/
noncomputable def evTrace (E : Env) (call : CallT) (nt : Nat) (ops : List Oper) (l : List Oper) : St → Option (List St) :=
  List.rec (motive := fun _ => St → Option (List St)) (fun st => some [st])
    (fun o _ ih st => bindS (evOp1 E call nt ops o st) fun st' => bindS (ih st') fun tr => some (st :: tr)) l
def pickL (ops : List Oper) : List Nat → List Oper
  | [] => []
  | i :: l => match ops[i]? with | some o => o :: pickL ops l | none => pickL ops l
def eq0 : V → V → Bool
  | .bool a, .bool b => a == b
  | .int j a, .int k b => sameK j k && eqQ a b
  | .nilPtr, .nilPtr | .nilSl, .nilSl | .nilFunc, .nilFunc | .nilMap, .nilMap => true
  | .ptr b o, .ptr b' o' => Nat.beq b b' && Nat.beq o o'
  | .sl b o n c e, .sl b' o' n' c' e' => (Nat.beq b b' && Nat.beq o o') && (Nat.beq n n' && Nat.beq c c' && (e == e'))
  | .map b, .map b' => Nat.beq b b'
  | .func (.func f) [] [], .func (.func g) [] [] => Nat.beq f g
  | _, _ => false
def eqL0 : List V → List V → Bool
  | [], [] => true
  | x :: l, y :: m => bif eq0 x y then eqL0 l m else false
  | _, _ => false
def eq1 : V → V → Bool
  | .agg l, .agg m => eqL0 l m
  | .func (.func f) a b, .func (.func g) c d => Nat.beq f g && (eqL0 a c && eqL0 b d)
  | x, y => eq0 x y
noncomputable def heapOf (tr : List St) (p : Nat) : Option St := tr[p]?
def isAlloc : Op → Bool
  | .alloc _ | .box _ _ | .buildSlice _ _ _ | .makeSlice _ _ _ => true
  | _ => false
noncomputable def sameBlk (x y : Option Blk) : Bool :=
  match x, y with
  | some (.cells l), some (.cells m) => eqL0 l m
  | _, _ => false
noncomputable def sameLoad (x : Option V) (v : V) : Bool := match x with | some u => eq1 u v | none => false
/-- The load or the new row at place 'p', seen from place 'q'. -/
noncomputable def lateO (E : Env) (ops : List Oper) (o : Oper) (s s1 sq : St) : Bool :=
  match wants ops s.tm o with
  | some false => true
  | some true => (match o.op, o.dst with
    | .load t a, some d => sameLoad (loadV sq.hp (ev E s.tm a) (E.ty t)) (tget s1.tm d)
    | op, _ => bif isAlloc op then sameBlk (s1.hp.get s.nx) (sq.hp.get s.nx) else false)
  | none => false
noncomputable def late1 (E : Env) (ops : List Oper) (l : List Oper) (tr : List St) (p q : Nat) : Bool :=
  match l[p]?, tr[p]?, tr[Nat.succ p]?, tr[q]? with
  | some o, some s, some s1, some sq => lateO E ops o s s1 sq
  | _, _, _, _ => false
noncomputable def lateAll (E : Env) (ops : List Oper) (l : List Oper) (tr : List St) (ps : List (Nat × Nat)) : Bool :=
  List.rec true (fun p _ ih => bif late1 E ops l tr p.1 p.2 then ih else false) ps
noncomputable def mixS (E : Env) (call : CallT) (nt : Nat) (ops : List Oper) (pl : Option Plan) (st : St) : Option (Out × St) :=
  bindS pl fun pl => bindS (evTrace E call nt ops (pickL ops pl.ord) st) fun tr =>
    bif lateAll E ops (pickL ops pl.ord) tr pl.late then bindS (tr[pl.ord.length]?) fun st' => some (.norm, st') else none

/-- Behind the function that was ranged over: the jump that a round has left. -/
noncomputable def rangeEnd (st : St) (b l : Nat) (r : R) : Option (Out × St) :=
  match r.hp.get l with
  | some (.loop lr) => (match lr.state with
    | .busy => none
    | _ => (match lr.pending with
      | none => some (.norm, ⟨st.tm, r.hp.set l (some (.loop { lr with state := .exhausted })), r.nx, (markId, [.map b]) :: st.df⟩)
      | some o => some (o, ⟨st.tm, r.hp.set l (some (.loop { lr with state := .exhausted })), r.nx, (markId, [.map b]) :: st.df⟩)))
  | _ => none
noncomputable def rangeHp (nt : Nat) (pl : Nat → Option Plan) (ps : List Tmp) (assign body : Code) (st : St) : Hp :=
  (st.hp.set st.nx (some (.mark true))).set (Nat.succ st.nx) (some (.loop ⟨.ready, none, nt, pl, st.tm, ps, assign, body⟩))
/-- A range over a function. -/
noncomputable def rangeS (call : CallT) (nt : Nat) (pl : Nat → Option Plan) (g : V) (ps : List Tmp) (assign body : Code) (st : St) : Option (Out × St) :=
  match g with
  | .func (.func k) first captured => bif Nat.blt k markId then
      bindS (call k (first ++ ([.yield (Nat.succ st.nx)] ++ captured)) (rangeHp nt pl ps assign body st) (Nat.succ (Nat.succ st.nx))) fun r => rangeEnd st st.nx (Nat.succ st.nx) r
    else none
  | _ => none

noncomputable def evCode (E : Env) (call : CallT) (nt : Nat) (pl : Nat → Option Plan) (c : Code) : St → Option (Out × St) :=
  Code.rec (motive := fun _ => St → Option (Out × St))
    (fun st => some (.norm, st))
    (fun id ops draw st => bif draw then mixS E call nt ops.toList (pl id) st else regionS (evOps E call nt ops.toList ops.toList st))
    (fun _ _ a b st => seqS (a st) b)
    (fun c _ _ a b st => condS (ev E st.tm c) a b st)
    (fun id _ a st => blockS id (a st))
    (fun _ a st => evLoop a E.fuel st)
    (fun g ps x c _ _ st => rangeS call nt pl (ev E st.tm g) ps.toList x c st)
    (fun id st => some (.exit id, st))
    (fun _ a st => a st)
    (fun _ st => some (.norm, st))
    (fun _ _ => none)
    (fun st => some (.ret, st))
    (fun _ _ => none) c

noncomputable def resV (E : Env) (tm : T V) (hp : Hp) : ResultVar → Option V
  | .tmp t => some (tget tm t)
  | .cell a t => match tget tm a, E.ty t with
    | .ptr b o, some ti => (match rdFrom hp b o with | some cs => asVar ti cs | none => none)
    | _, _ => none

noncomputable def initT (l : List V) : Nat → T V → T V :=
  List.rec (motive := fun _ => Nat → T V → T V) (fun _ tm => tm) (fun v _ ih i tm => ih (Nat.succ i) (tm.set i (some v))) l

/-- A block for rounds' deferred calls: it has none, and is shut. -/
noncomputable def shutMark (vs : List V) (hp : Hp) : Option Hp :=
  match vs with
  | [.map b] => (match hp.get b with
    | some (.mark true) => some (hp.set b (some (.mark false)))
    | _ => none)
  | _ => none
/-- The deferred calls, the last one laid first. -/
noncomputable def evDefs (call : CallT) (l : List (FuncId × List V)) : Hp → Nat → Option (Hp × Nat) :=
  List.rec (motive := fun _ => Hp → Nat → Option (Hp × Nat)) (fun hp nx => some (hp, nx))
    (fun d _ ih hp nx => bif Nat.blt d.1 markId then (bindS (call d.1 d.2 hp nx) fun r => bif r.df.isNone then ih r.hp r.nx else none) else (bindS (shutMark d.2 hp) fun hp' => ih hp' nx)) l

def retV (vs : List V) : V := match vs with | [v] => v | vs => .tup vs

noncomputable def evBody (E : Env) (call : CallT) (fi : FI) (args : List V) (hp : Hp) (nx : Nat) : Option R :=
  bindS (evCode E call fi.nt fi.plan fi.body ⟨initT args 0 .e, hp, nx, []⟩) fun r =>
    match r.1 with
    | .exit _ => none
    | _ => bindS (evDefs call r.2.df r.2.hp r.2.nx) fun h =>
      bindS (mapO (resV E r.2.tm h.1) fi.results) fun vs => some ⟨retV vs, h.1, h.2, r.2.df.head?⟩

/-- yield's arguments go to the loop's variables. -/
noncomputable def setPs (nt : Nat) (tm : T V) : List Tmp → List V → Option (T V)
  | [], [] => some tm
  | t :: ps, v :: vs => bif Nat.blt t nt then setPs nt (tm.set t (some v)) ps vs else none
  | _, _ => none
noncomputable def roundEnd (l : Nat) (r : Out × St) : Option R :=
  match r.2.df, r.2.hp.get l with
  | [], some (.loop lr) => some ⟨.bool r.1.isNorm, r.2.hp.set l (some (.loop { lr with state := bif r.1.isNorm then .ready else .done, pending := bif r.1.isNorm then none else some r.1 })), r.2.nx, none⟩
  | _, _ => none
/-- A round begins: the record is busy. -/
noncomputable def roundBegin (l : Nat) (st : St) : Option (LoopR × St) :=
  match st.hp.get l with
  | some (.loop lr) => (match lr.state with
    | .ready => some (lr, { st with hp := st.hp.set l (some (.loop { lr with state := .busy })) })
    | _ => none)
  | _ => none
/-- A round. -/
noncomputable def evRound (E : Env) (call : CallT) (l : Nat) (vs : List V) (hp : Hp) (nx : Nat) : Option R :=
  match hp.get l with
  | some (.loop lr) => (match setPs lr.nt lr.tm lr.params vs with
    | some tm => bindS (evCode E call lr.nt lr.pl lr.assign ⟨tm, hp, nx, []⟩) fun r => bif r.1.isNorm then
        bindS (roundBegin l r.2) fun s => bindS (evCode E call lr.nt lr.pl lr.body s.2) (roundEnd l)
      else none
    | none => none)
  | _ => none

noncomputable def evFun (E : Env) (n : Nat) : CallT :=
  Nat.rec (motive := fun _ => CallT) (fun _ _ _ _ => none)
    (fun _ ih f args hp nx => bif Nat.blt f markId then (bindS (E.fn f) fun fi => evBody E ih fi args hp nx) else evRound E ih (Nat.sub f rdBase) args hp nx) n

end Go.Rf
