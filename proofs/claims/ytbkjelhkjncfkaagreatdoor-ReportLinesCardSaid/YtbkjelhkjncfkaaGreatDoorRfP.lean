/-
  What a region's plan must say so that the one order stands for all of them: checked once for each function. No statement of the program is claimed here.
-/
import Derived.Test.YtbkjelhkjncfkaaGreatDoorRf
import Derived.Orders
namespace Go.Rf

/-- An operation that may change the memory, or that looks at more of it than one variable. -/
def heavyO : Op → Bool
  | .move _ | .assign _ | .pick _ _ _ | .nilCheck _ | .binOp _ _ _ _ _ | .unOp _ _ _ | .convert _ _ _ | .makeFunc _ _ _ | .fieldAddr _ _ _ | .indexAddr _ _ _ | .index _ _ _ | .slice _ _ _ _ _ | .extract _ _ | .build _ _ => false
  | .load _ _ | .alloc _ | .box _ _ | .buildSlice _ _ _ | .makeSlice _ _ _ => false
  | .call c => (match c.callee with | .builtin .len => false | .builtin .max => false | .builtin .min => false | _ => true)
  | _ => true
/-- An operation whose value another order may see otherwise. -/
def lightO : Op → Bool
  | .load _ _ | .alloc _ | .box _ _ | .buildSlice _ _ _ | .makeSlice _ _ _ => true
  | _ => false
def bindsOf (o : Oper) : List Nat := o.after.toList.filterMap fun e => bif Region.binds .any e then some e.on else none
def ancAt (pl : Plan) (i : Nat) : Nat := match pl.anc[i]? with | some m => m | none => 0
def isAnc (pl : Plan) (i j : Nat) : Bool := Nat.testBit (ancAt pl i) j
def ancOf (pl : Plan) : List Nat → Nat
  | [] => 0
  | e :: l => Nat.lor (Nat.lor (Nat.shiftLeft 1 e) (ancAt pl e)) (ancOf pl l)
def segEnd (l : List Oper) (p : Nat) : Bool := match l[p]? with | some o => heavyO o.op | none => true
def heavyAt (l : List Oper) (p : Nat) : Bool := match l[p]? with | some o => heavyO o.op | none => false
def lightAt (l : List Oper) (p : Nat) : Bool := match l[p]? with | some o => lightO o.op | none => false
def dstNe (x y : Option Tmp) : Bool := match x, y with | some a, some b => !(Nat.beq a b) | _, _ => true
/-- Two operations of which the second, at 'q', comes earlier in the order. -/
def pairOk (ops : Array Oper) (pl : Plan) (i j : Nat) (oi oj : Oper) : Bool :=
  (!(heavyO oj.op) || isAnc pl i j) && (((isAnc pl i j || oj.apart ops oi) && dstNe oi.dst oj.dst) && !(Nat.beq i j))
def rowOk (ops : Array Oper) (pl : Plan) (l : List Oper) (p : Nat) : Bool :=
  match pl.ord[p]?, l[p]? with
  | some i, some oi => (Nat.beq (ancAt pl i) (ancOf pl (bindsOf oi)) && (bindsOf oi).all fun e => (pl.ord.take p).contains e) &&
    (List.range p).all fun q => match pl.ord[q]?, l[q]? with | some j, some oj => pairOk ops pl i j oi oj | _, _ => false
  | _, _ => false
def lateOk (pl : Plan) (l : List Oper) (n p : Nat) : Bool :=
  !(lightAt l p) || (List.range (n + 1)).all fun q => (!(Nat.blt p q) || !(segEnd l q)) ||
    (pl.late.contains (p, q) || (List.range q).any fun r => (Nat.blt p r && heavyAt l r) && (match pl.ord[r]?, pl.ord[p]? with | some j, some i => isAnc pl j i | _, _ => false))
def planOk (ops : Array Oper) (pl : Plan) : Bool :=
  (Nat.beq pl.ord.length ops.size && (List.range ops.size).all fun i => pl.ord.contains i) &&
  ((Region.noSelect ops && pl.ord.all fun i => Nat.blt i ops.size) && (List.range ops.size).all fun p => rowOk ops pl (pickL ops.toList pl.ord) p && lateOk pl (pickL ops.toList pl.ord) ops.size p)
def plainOp : Op → Bool
  | .defer _ => false
  | _ => true
/-- No deferred call, no range over a function, no jump but out. -/
noncomputable def plainC (c : Code) : Bool :=
  Code.rec (motive := fun _ => Bool)
    true
    (fun _ ops _ => ops.toList.all fun o => plainOp o.op)
    (fun _ _ a b => bif a then b else false)
    (fun _ _ _ a b => bif a then b else false)
    (fun _ _ a => a)
    (fun _ a => a)
    (fun _ _ _ _ _ _ => false)
    (fun _ => true)
    (fun _ _ => false)
    (fun _ => true)
    (fun _ => false)
    true
    (fun _ => false) c
noncomputable def plansOk (pl : Nat → Option Plan) (c : Code) : Bool :=
  Code.rec (motive := fun _ => Bool)
    true
    (fun id ops draw => bif draw then (match pl id with | some p => planOk ops p | none => true) else true)
    (fun _ _ a b => bif a then b else false)
    (fun _ _ _ a b => bif a then b else false)
    (fun _ _ a => a)
    (fun _ a => a)
    (fun _ _ a c ia ic => bif plainC a && plainC c then (bif ia then ic else false) else false)
    (fun _ => true)
    (fun _ a => a)
    (fun _ => true)
    (fun _ => true)
    true
    (fun _ => true) c
end Go.Rf
