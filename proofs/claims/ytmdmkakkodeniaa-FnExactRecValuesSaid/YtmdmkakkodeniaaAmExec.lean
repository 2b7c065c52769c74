/- Regions and code. -/
import Derived.Test.YtmdmkakkodeniaaAmStep
import Derived.OrdersHeld
set_option linter.unusedVariables false
namespace Go.Am

def dstOf (all : Array Oper) (j : Nat) : Option Nat :=
  match all[j]? with
  | some o => o.dst
  | none => none

def lookB : List (Nat × Bool) → Nat → Option Bool
  | [], _ => none
  | x :: r, n => match Nat.beq x.1 n with
    | true => some x.2
    | false => lookB r n

/-- those ahead of the operation that picks by slot s, it, and those behind it -/
def splitPick (s : Nat) : List Oper → Option (List Oper × Oper × List Oper)
  | [] => none
  | o :: r => match (match o.op with
      | .pick (.tmp t) _ _ => Nat.beq t s
      | _ => false) with
    | true => some ([], o, r)
    | false => match splitPick s r with
      | some (g, p, q) => some (o :: g, p, q)
      | none => none

def evB (C : Ctx) (st : St) (x : Operand) : Option Bool :=
  match ev C st 0 x with
  | some (.ro none ⟨.bool, b⟩) => some b
  | _ => none

def bdead (o : Oper) (st : St) : St :=
  match o.dst with
  | some d => { st with sl := upd st.sl d .dead }
  | none => st

/-- left out: its slot holds the value that stands for none -/
def udead (o : Oper) (st : St) : St :=
  match o.dst with
  | some d => { st with sl := upd st.sl d (.tup .nil) }
  | none => st

def deadAll : List Oper → St → St
  | [], st => st
  | o :: r, st => bdead o (deadAll r st)

/-- a slot that is written is decided no longer -/
def rmB : Option Nat → List (Nat × Bool) → List (Nat × Bool)
  | none, l => l
  | some _, [] => []
  | some d, x :: r => match Nat.beq x.1 d with
    | true => rmB (some d) r
    | false => x :: rmB (some d) r

def rmL : List Oper → List (Nat × Bool) → List (Nat × Bool)
  | [], l => l
  | o :: r, l => rmB o.dst (rmL r l)

def isD : Option Nat → Nat → Bool
  | some d, s => Nat.beq d s
  | none, _ => false

def consO : Option Nat → List Nat → List Nat
  | some d, l => d :: l
  | none, l => l

/-- all of them are left out where slot s is not as wanted; none writes s -/
def skipB (all : Array Oper) (s : Nat) (want : Bool) : List Nat → List Oper → Bool
  | _, [] => true
  | acc, o :: r => !isD o.dst s && ((match o.guard with
    | some (j, w) => match dstOf all j with
      | some s' => (Nat.beq s' s && w == want) || (!Nat.beq s' s && elemN s' acc)
      | none => false
    | none => false) && skipB all s want (consO o.dst acc) r)
where
  elemN (n : Nat) : List Nat → Bool
    | [] => false
    | x :: r => match Nat.beq n x with
      | true => true
      | false => elemN n r

/-- the pick itself is wanted -/
def pkOk (all : Array Oper) (dec : List (Nat × Bool)) (pk : Oper) : Bool :=
  match pk.guard with
  | none => true
  | some (j, w) => match dstOf all j with
    | some s => match lookB dec s with
      | some v => v == w
      | none => false
    | none => false

/-- a pick that is decided: what it picks -/
def pickD (dec : List (Nat × Bool)) (o : Oper) : Option Operand :=
  match o.op with
  | .pick (.tmp s) x y => match lookB dec s with
    | some true => some x
    | some false => some y
    | none => none
  | _ => none

def opD (C : Ctx) {R : Type} (pure : Bool) (dec : List (Nat × Bool)) (o : Oper) (st : St) (k : St → Option R) : Option R :=
  match pickD dec o with
  | some z => match ev C st o.type z with
    | some c => putK C o c st k
    | none => none
  | none => opK C pure o st k

/-- operations in order; a guarded group is one bool -/
def regK (C : Ctx) (all : Array Oper) : (R : Type) → Nat → Bool → List (Nat × Bool) → List Oper → St → (St → Option R) → Option R
  | _, 0, _, _, _, _, _ => none
  | _, _ + 1, _, _, [], st, k => k st
  | R, n + 1, pure, dec, o :: r, st, k =>
    match o.guard with
    | none => opD C pure dec o st fun s1 => regK C all R n pure (rmB o.dst dec) r s1 k
    | some (j, want) => match dstOf all j with
      | none => none
      | some s => match lookB dec s with
        | some v => match v == want with
          | true => opD C pure dec o st fun s1 => regK C all R n pure (rmB o.dst dec) r s1 k
          | false => regK C all R n pure (rmB o.dst dec) r (udead o st) k
        | none => match st.sl s with
          | .ro none ⟨.bool, b⟩ => match C.br s with
           | true => cond b (regK C all R n pure ((s, true) :: dec) (o :: r) st k) (regK C all R n pure ((s, false) :: dec) (o :: r) st k)
           | false => match splitPick s (o :: r) with
            | some (grp, pk, rest) => match pk.op with
              | .pick _ x y => match pk.dst with
                | some d => match Nat.blt d C.N && (skipB all s want [] grp && pkOk all (rmL grp dec) pk) with
                  | true =>
                    (cond b
                      (match want with
                        | true => regK C all Bool n true ((s, true) :: dec) grp st fun s1 => evB C s1 x
                        | false => evB C (deadAll grp st) x)
                      (match want with
                        | true => evB C (deadAll grp st) y
                        | false => regK C all Bool n true ((s, false) :: dec) grp st fun s1 => evB C s1 y)).bind
                    fun v => regK C all R n pure (rmB (some d) (rmL grp dec)) rest { (deadAll grp st) with sl := upd (deadAll grp st).sl d (.ro none ⟨.bool, v⟩) } k
                  | false => none
                | none => none
              | _ => none
            | none => none
          | .tup .nil => regK C all R n pure (rmB o.dst dec) r (udead o st) k
          | _ => none

/-- operations that answer a value and leave the world alone -/
def still (C : Ctx) (o : Oper) : Bool :=
  match o.op with
  | .convert _ t _ => match C.tt t with
    | some (.int _) => true
    | some .str => true
    | _ => false
  | .move _ | .assign _ | .load _ _ | .binOp _ _ _ _ _ | .unOp _ _ _ | .fieldAddr _ _ _ | .indexAddr _ _ _ | .index _ _ _ | .slice _ _ _ _ _ | .extract _ _ | .nilCheck _ | .build _ _ | .makeFunc _ _ _ => true
  | .pick _ _ _ => true
  | .call c => match c.callee with
    | .builtin .len | .builtin .min | .builtin .max => true
    | _ => false
  | _ => false

def isLd (o : Oper) : Bool :=
  match o.op with
  | .load _ _ => true
  | .convert _ _ _ => true
  | _ => false

/-- no other operation that may come ahead of i turns the world -/
def ldFree (C : Ctx) (ops : Array Oper) (listed : Array Bool) (i : Nat) : Bool :=
  (List.range ops.size).all fun j => j == i || listed.getD j true || match ops[j]? with
    | some oj => oj.after.any (fun e => Region.binds .any e && e.on == i) || still C oj
    | none => true

/-- in a drawn region: the operations may be taken in this order -/
def drawOk (C : Ctx) (ops : Array Oper) : Array Bool → List Nat → Bool
  | listed, [] => (Region.ready .any ops listed).isEmpty
  | listed, i :: r => (match ops[i]? with
      | some o => (still C o && (Region.free .any ops listed i && ((Region.ready .any ops listed).contains i && (!isLd o || ldFree C ops listed i)))) ||
          (match Region.ready .any ops listed with
            | [j] => Nat.beq j i
            | _ => false)
      | none => false) && drawOk C ops (listed.setIfInBounds i true) r

/-- the number of the first region of a piece of code -/
def key : Code → Nat
  | .region id _ _ => id
  | .seq a _ => key a
  | .cond _ a _ => key a
  | .block _ a => key a
  | .loop a => key a
  | .scope a => key a
  | _ => 0

structure Cut (R : Type) where
  s : SS
  J : s.Den → Option R

def Cut.go {R : Type} (c : Cut R) (st : St) : Option R :=
  match matchSt false false c.s st with
  | some (x, _) => c.J x
  | none => none

def condB (C : Ctx) (st : St) (x : Operand) : Option Bool := evB C st x

/-- an operation whose guard is decided -/
def stepG (C : Ctx) {R : Type} (dec : List (Nat × Bool)) (v want : Bool) (o : Oper) (st : St) (k : List (Nat × Bool) → St → Option R) : Option R :=
  match v == want with
  | true => opD C false dec o st (k (rmB o.dst dec))
  | false => k (rmB o.dst dec) (udead o st)

/-- one operation -/
def stepK (C : Ctx) {R : Type} (ops : Array Oper) (dec : List (Nat × Bool)) (o : Oper) (st : St) (k : List (Nat × Bool) → St → Option R) : Option R :=
  match o.guard with
  | none => opD C false dec o st (k (rmB o.dst dec))
  | some (j, want) => match dstOf ops j with
    | none => none
    | some s => match lookB dec s with
      | some v => stepG C dec v want o st k
      | none => match st.sl s with
        | .ro none ⟨.bool, b⟩ => cond b (stepG C ((s, true) :: dec) true want o st k) (stepG C ((s, false) :: dec) false want o st k)
        | .tup .nil => k (rmB o.dst dec) (udead o st)
        | _ => none

/-- operations one by one, in this order -/
def runD (C : Ctx) {R : Type} (ops : Array Oper) : List Nat → List (Nat × Bool) → St → (St → Option R) → Option R
  | [], _, st, k => k st
  | i :: r, dec, st, k => match ops[i]? with
    | some o => stepK C ops dec o st fun dec' st' => runD C ops r dec' st' k
    | none => none
def runK (C : Ctx) {R : Type} (ops : Array Oper) (ord : List Nat) (st : St) (k : St → Option R) : Option R := runD C ops ord [] st k

def takeable (C : Ctx) (ops : Array Oper) (listed : Array Bool) (i : Nat) : Bool :=
  match ops[i]? with
  | some o => still C o && (Region.free .any ops listed i && ((Region.ready .any ops listed).contains i && (!isLd o || ldFree C ops listed i)))
  | none => false

def tailsOf (i : Nat) : List (List Nat) → List (List Nat)
  | (j :: r) :: rest => match Nat.beq j i with
    | true => r :: tailsOf i rest
    | false => tailsOf i rest
  | [] :: rest => tailsOf i rest
  | [] => []

/-- all orders that may come up are among these, but for what commutes -/
def forkOk (C : Ctx) (ops : Array Oper) : Nat → Array Bool → List (List Nat) → Bool
  | 0, listed, orders => (Region.ready .any ops listed).isEmpty && orders.any (·.isEmpty)
  | n + 1, listed, orders => match Region.ready .any ops listed with
    | [] => orders.any (·.isEmpty)
    | rs => match orders with
      | (i :: _) :: _ => match takeable C ops listed i with
        | true => forkOk C ops n (listed.setIfInBounds i true) (tailsOf i orders)
        | false => rs.all fun j => forkOk C ops n (listed.setIfInBounds j true) (tailsOf j orders)
      | _ => false

/-- code in continuation form; at a cut, and at each loop's head, the state is matched against a shape, and goes on by its payload -/
def exec (C : Ctx) {R : Type} (cut : Nat → Option (Cut R)) : Code → (St → Option R) → (Nat → St → Option R) → (St → Option R) → St → Option R
  | .skip, kn, _, _ => kn
  | .region id ops draw, kn, _, _ => fun st => match draw with
    | false => regK C ops R (ops.size + ops.size + 1) false [] ops.toList st kn
    | true => match cut (id + 1000000) with
      | some c => c.go st
      | none => match Region.noSelect ops && drawOk C ops (Array.replicate ops.size false) (List.range ops.size) with
        | true => regK C ops R (ops.size + ops.size + 1) false [] ops.toList st kn
        | false => none
  | .seq a b, kn, kx, kr => match cut (key b) with
    | some c => exec C cut a (fun st => c.go st) kx kr
    | none => exec C cut a (exec C cut b kn kx kr) kx kr
  | .cond x a b, kn, kx, kr => fun st => match condB C st x with
    | some t => cond t (exec C cut a kn kx kr st) (exec C cut b kn kx kr st)
    | none => none
  | .block id a, kn, kx, kr => exec C cut a kn (fun i => match Nat.beq i id with | true => kn | false => kx i) kr
  | .loop a, _, _, _ => fun st => match cut (key a) with
    | some c => c.go st
    | none => none
  | .exit id, _, kx, _ => kx id
  | .ret, _, _, kr => kr
  | _, _, _, _ => fun _ => none

end Go.Am
