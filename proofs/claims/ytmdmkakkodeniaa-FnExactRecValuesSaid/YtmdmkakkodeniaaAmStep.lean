/- The abstract machine's steps. Written in continuation form: what a run comes to is a term over the payload alone. -/
import Derived.Test.YtmdmkakkodeniaaAmShape
import Derived.Laws.Entries
import Derived.Laws.BytesArg
set_option linter.unusedVariables false
namespace Go.Am

/-- A function's contract: a shape of what comes in, one of what goes out, and what becomes of the payload. -/
structure Con where
  inS : SS
  outS : SS
  nargs : Nat
  nres : Nat
  F : inS.Den → Option outS.Den

structure Ctx where
  tt : TypeId → Option Ty
  phi : FuncId → List Con
  N : Nat
  br : Nat → Bool := fun _ => false

/-! ### payload words -/
def rdL {α : Type} (xs : List α) (k : Int) : Option α :=
  match k with
  | .ofNat n => xs[n]?
  | .negSucc _ => none

def btS (s : ByteArray) (k : Int) : Option Int :=
  match k with
  | .ofNat n => match s.data.toList[n]? with
    | some b => some (b.toNat : Int)
    | none => none
  | .negSucc _ => none

/-- as long as a row may become -/
def lim (n : Nat) : Bool := Nat.ble n 4294967296

def shlI (k : IntKind) (a b : Int) : Int := k.wrap (a * 2 ^ (min b.toNat k.bits))
def shrI (k : IntKind) (a b : Int) : Int := a.fdiv (2 ^ (min b.toNat k.bits))

def arithI (op : BinOp) (k : IntKind) (a b : Int) : Option Int :=
  match op with
  | .add => some (k.wrap (a + b))
  | .sub => some (k.wrap (a - b))
  | .mul => some (k.wrap (a * b))
  | .and => some (bits .and k a b)
  | .or => some (bits .or k a b)
  | .xor => some (bits .xor k a b)
  | .andNot => some (bits .andNot k a b)
  | _ => none

def cmpI (op : BinOp) (a b : Int) : Option Bool :=
  match op with
  | .eql => some (a == b)
  | .neq => some (a != b)
  | .lss => some (decide (a < b))
  | .leq => some (decide (a ≤ b))
  | .gtr => some (decide (a > b))
  | .geq => some (decide (a ≥ b))
  | _ => none

def eqS (a b : ByteArray) : Bool := a.toList == b.toList
def ltS (a b : ByteArray) : Bool := Op.bytesLess a.toList b.toList

def cmpS (op : BinOp) (a b : ByteArray) : Option Bool :=
  match op with
  | .eql => some (eqS a b)
  | .neq => some (!eqS a b)
  | .lss => some (ltS a b)
  | .leq => some (ltS a b || eqS a b)
  | .gtr => some (!(ltS a b || eqS a b))
  | .geq => some (!ltS a b)
  | _ => none

/-- structs alike, field by field -/
def eqD : (t : Ty) → t.Den → t.Den → Option Bool
  | .int _, x, y => some ((x : Int) == y)
  | .bool, x, y => some ((x : Bool) == y)
  | .str, x, y => some (eqS x y)
  | .nil, _, _ => some true
  | .cons a b, x, y => match eqD a x.1 y.1, eqD b x.2 y.2 with
    | some p, some q => some (p && q)
    | _, _ => none
  | .st a, x, y => eqD a x y
  | .list _ _, _, _ => none
  | .ptr, _, _ => none

/-- how deep structs stand in structs -/
def Ty.ht : Ty → Nat
  | .st a => a.ht + 1
  | .cons a b => Nat.max a.ht b.ht
  | _ => 1

def strInts (s : ByteArray) : List Int := s.data.toList.map fun c => (c.toNat : Int)
def intsStr (xs : List Int) : ByteArray := strOfNums xs

/-! ### operands -/
def constCn (tt : TypeId → Option Ty) (t : TypeId) : Value → Option Cn
  | .int k n => some (.ro none ⟨.int k, n⟩)
  | .bool b => some (.ro none ⟨.bool, b⟩)
  | .string s => some (.ro none ⟨.str, s⟩)
  | .slice none 0 0 => match tt t with
    | some (.list e u) => some (.nils e u)
    | _ => none
  | .pointer none => some (.cst (.pointer none))
  | _ => none

def ev (C : Ctx) (st : St) (t : TypeId) : Operand → Option Cn
  | .tmp s => match st.sl s with
    | .dead => none
    | c => some c
  | .const v => constCn C.tt t v
  | .func f => some (.fn f .nil)
  | .global _ => none

def asI : Cn → Option (IntKind × Int)
  | .ro none ⟨.int k, n⟩ => some (k, n)
  | _ => none

def asB : Cn → Option Bool
  | .ro none ⟨.bool, b⟩ => some b
  | _ => none

variable {R : Type}

def putK (C : Ctx) (o : Oper) (c : Cn) (st : St) (k : St → Option R) : Option R :=
  match o.dst with
  | none => k st
  | some d => match Nat.blt d C.N with
    | true => k { st with sl := upd st.sl d c }
    | false => none

def St.push (st : St) (o : Ob) : St := { st with ob := upd st.ob st.nx o, nx := st.nx + 1 }
def St.set (st : St) (i : Nat) (o : Ob) : St := { st with ob := upd st.ob i o }

/-- a content that reads as a list: where from, elements' type, and the list -/
structure LV where
  b : Option (Nat × Nat)
  e : TypeId
  t : Ty
  xs : List t.Den

def asL (ob : Nat → Ob) : Cn → Option LV
  | .ro b ⟨.list e t, xs⟩ => match b with
    | none => some ⟨none, e, t, xs⟩
    | some (i, ver) => match ob i with
      | .sl _ v _ _ _ => match Nat.beq v ver with
        | true => some ⟨some (i, ver), e, t, xs⟩
        | false => none
      | _ => none
  | .nils e t => some ⟨none, e, t, []⟩
  | .h i => match ob i with
    | .sl fz v e t xs => match fz with
      | true => some ⟨none, e, t, xs⟩
      | false => some ⟨some (i, v), e, t, xs⟩
    | _ => none
  | _ => none

/-- a read payload, its source forgotten where it has no memory -/
def roC (b : Option (Nat × Nat)) (d : DV) : Cn :=
  match d.ty.flat with
  | true => .ro none d
  | false => .ro b d

/-! ### each operation -/
def binK (C : Ctx) (o : Oper) (op : BinOp) (t : TypeId) (x y : Cn) (st : St) (k : St → Option R) : Option R :=
  match x, y with
  | .ro none ⟨.int ka, a⟩, .ro none ⟨.int kb, b⟩ =>
    match op with
    | .shl => cond (decide (0 ≤ (b : Int))) (putK C o (.ro none ⟨.int ka, shlI ka a b⟩) st k) none
    | .shr => cond (decide (0 ≤ (b : Int))) (putK C o (.ro none ⟨.int ka, shrI ka a b⟩) st k) none
    | .quo => match decide (ka = kb) with
      | true => cond (decide ((b : Int) ≠ 0)) (putK C o (.ro none ⟨.int ka, ka.wrap (Int.tdiv a b)⟩) st k) none
      | false => none
    | .rem => match decide (ka = kb) with
      | true => cond (decide ((b : Int) ≠ 0)) (putK C o (.ro none ⟨.int ka, Int.tmod a b⟩) st k) none
      | false => none
    | op => match decide (ka = kb) with
      | true => match arithI op ka a b with
        | some r => putK C o (.ro none ⟨.int ka, r⟩) st k
        | none => match cmpI op a b with
          | some r => putK C o (.ro none ⟨.bool, r⟩) st k
          | none => none
      | false => none
  | .ro none ⟨.str, a⟩, .ro none ⟨.str, b⟩ =>
    match op with
    | .add => cond (lim ((a : ByteArray).size + (b : ByteArray).size)) (putK C o (.ro none ⟨.str, (a : ByteArray) ++ (b : ByteArray)⟩) st k) none
    | op => match cmpS op a b with
      | some r => putK C o (.ro none ⟨.bool, r⟩) st k
      | none => none
  | .ro none ⟨.bool, a⟩, .ro none ⟨.bool, b⟩ =>
    match C.tt t with
    | some .bool => match op with
      | .eql => putK C o (.ro none ⟨.bool, (a : Bool) == b⟩) st k
      | .neq => putK C o (.ro none ⟨.bool, !((a : Bool) == b)⟩) st k
      | _ => none
    | _ => none
  | _, _ => none

/-- structs compared -/
def eqK (C : Ctx) (o : Oper) (op : BinOp) (t : TypeId) (x y : DV) (st : St) (k : St → Option R) : Option R :=
  match (match C.tt t with | some u => decide (u = x.ty) | none => false) && (x.ty.isAgg && (x.ty.flat && Nat.ble x.ty.ht 9999)) with
  | true => match castDV x.ty y with
    | some b => match eqD x.ty x.v b with
      | some r => match op with
        | .eql => putK C o (.ro none ⟨.bool, r⟩) st k
        | .neq => putK C o (.ro none ⟨.bool, !r⟩) st k
        | _ => none
      | none => none
    | none => none
  | false => none

/-- a flat payload of a content -/
def flatDV : Cn → Option DV
  | .ro none d => match d.ty.flat with
    | true => some d
    | false => none
  | .nil => some ⟨.nil, ()⟩
  | .cons a b => match flatDV a, flatDV b with
    | some x, some y => some ⟨.cons x.ty y.ty, (x.v, y.v)⟩
    | _, _ => none
  | .agg c => match flatDV c with
    | some x => some ⟨.st x.ty, x.v⟩
    | none => none
  | _ => none

def unK (C : Ctx) (o : Oper) (op : UnOp) (x : Cn) (st : St) (k : St → Option R) : Option R :=
  match op, x with
  | .not, .ro none ⟨.bool, b⟩ => putK C o (.ro none ⟨.bool, !(b : Bool)⟩) st k
  | .neg, .ro none ⟨.int ki, a⟩ => putK C o (.ro none ⟨.int ki, ki.wrap (0 - (a : Int))⟩) st k
  | .xor, .ro none ⟨.int ki, a⟩ => putK C o (.ro none ⟨.int ki, bits .xor ki (if ki.signed then -1 else ki.max) a⟩) st k
  | _, _ => none

def isT (tt : TypeId → Option Ty) (t : TypeId) (u : Ty) : Bool :=
  match tt t with
  | some v => decide (v = u)
  | none => false

/-- a content that a load at a type may answer -/
def ldOk (tt : TypeId → Option Ty) (t : TypeId) (agg : Bool) (n : Nat) : Bool :=
  match tt t with
  | some u => (u.isAgg == agg) && Nat.beq u.size n
  | none => false

def loadC (st : St) : Cn → Option Cn
  | .p i => match st.ob i with
    | .box _ c => some c
    | _ => none
  | .addr i _ _ _ path cache => match st.ob i with
    | .box _ c => getCP c path
    | .sl fz ver _ _ _ => match fz with
      | true => none
      | false => match cache with
        | some (v, d) => match Nat.beq v ver with
          | true => some (roC (some (i, ver)) d)
          | false => none
        | none => none
    | _ => none
  | .rdp b d => match b with
    | none => some (.ro none d)
    | some (i, ver) => match st.ob i with
      | .sl _ v _ _ _ => match Nat.beq v ver with
        | true => some (roC (some (i, ver)) d)
        | false => none
      | _ => none
  | _ => none

def storeK (tt : TypeId → Option Ty) (ty : TypeId) (st : St) (a c : Cn) (k : St → Option R) : Option R :=
  match a with
  | .p i => match st.ob i with
    | .box u _ => match boxable c with
      | some c' => match fits u c' && isT tt ty u with
        | true => k (st.set i (.box u c'))
        | false => none
      | none => none
    | _ => none
  | .addr i ix _ _ path _ => match st.ob i with
    | .box u old => match u.offP path with
      | some (_, v) => match boxable c with
        | some c' => match fits v c' && isT tt ty v with
          | true => match setCP c' path old with
            | some n => k (st.set i (.box u n))
            | none => none
          | false => none
        | none => none
      | none => none
    | .sl fz ver e t xs => match fz with
      | true => none
      | false => match flatDV c with
        | some d => match isT tt ty d.ty with
          | true => (rdL xs ix).bind fun x => match setP d path t x with
            | some y => k (st.set i (.sl false (ver + 1) e t (xs.set ix.toNat y)))
            | none => none
          | false => none
        | none => none
    | _ => none
  | _ => none

def fldAddr (tt : TypeId → Option Ty) (ob : Nat → Ob) (s f : Nat) : Cn → Option Cn
  | .p i => match ob i with
    | .box u _ => match isT tt s u with
      | true => match u.fld f with
        | some (o, _) => some (.addr i 0 0 o [f] none)
        | none => none
      | false => none
    | _ => none
  | .addr i ix es off path cache => match tt s with
    | some t => match (match (ob i).lay with
        | some u => (match u.offP path with
          | some (_, t') => decide (t = t')
          | none => false)
        | none => false) with
      | true => match t.fld f with
        | some (o, _) => match cache with
          | some (v, d) => match getFld d f with
            | some e => some (.addr i ix es (off + o) (path ++ [f]) (some (v, e)))
            | none => none
          | none => some (.addr i ix es (off + o) (path ++ [f]) none)
        | none => none
      | false => none
    | none => none
  | .rdp b d => match tt s with
    | some t => match decide (d.ty = t) with
      | true => match getFld d f with
        | some e => some (.rdp b e)
        | none => none
      | false => none
    | none => none
  | _ => none

def indexAddrK (C : Ctx) (o : Oper) (ty : TypeId) (x i : Cn) (st : St) (k : St → Option R) : Option R :=
  match i with
  | .ro none ⟨.int _, ix⟩ => match x with
    | .h j => match st.ob j with
      | .sl fz ver e t xs => match isT C.tt ty (.list e t) with
        | true => (rdL xs ix).bind fun y => match fz with
          | true => putK C o (.rdp none ⟨t, y⟩) st k
          | false => putK C o (.addr j ix t.size 0 [] (some (ver, ⟨t, y⟩))) st k
        | false => none
      | _ => none
    | x => match asL st.ob x with
      | some v => match isT C.tt ty (.list v.e v.t) with
        | true => (rdL v.xs ix).bind fun y => putK C o (.rdp v.b ⟨v.t, y⟩) st k
        | false => none
      | none => none
  | _ => none

def indexK (C : Ctx) (o : Oper) (ty : TypeId) (x i : Cn) (st : St) (k : St → Option R) : Option R :=
  match i with
  | .ro none ⟨.int _, ix⟩ => match x with
    | .ro none ⟨.str, s⟩ => match isT C.tt ty .str with
      | true => (btS s ix).bind fun y => putK C o (.ro none ⟨.int .u8, y⟩) st k
      | false => none
    | _ => none
  | _ => none

/-- 0 ≤ l ≤ h ≤ n -/
def inSl (l h : Int) (n : Nat) : Bool := decide (0 ≤ l) && (decide (l ≤ h) && decide (h ≤ n))

def cutL {α : Type} (xs : List α) (l h : Int) : List α := (xs.take h.toNat).drop l.toNat

def sliceK (C : Ctx) (o : Oper) (ty : TypeId) (x : Cn) (lo hi : Option Int) (st : St) (k : St → Option R) : Option R :=
  match x with
  | .ro none ⟨.str, s⟩ => match isT C.tt ty .str with
    | true => cond (inSl (lo.getD 0) (hi.getD ((s : ByteArray).size : Int)) (s : ByteArray).size) (putK C o (.ro none ⟨.str, (s : ByteArray).extract (lo.getD 0).toNat (hi.getD ((s : ByteArray).size : Int)).toNat⟩) st k) none
    | false => none
  | x => match asL st.ob x with
    | some v => match isT C.tt ty (.list v.e v.t) with
      | true => cond (inSl (lo.getD 0) (hi.getD (v.xs.length : Int)) v.xs.length)
        (putK C o (.ro v.b ⟨.list v.e v.t, cutL v.xs (lo.getD 0) (hi.getD (v.xs.length : Int))⟩) st k) none
      | false => none
    | none => none

def lenK (C : Ctx) (o : Oper) (ty : TypeId) (x : Cn) (st : St) (k : St → Option R) : Option R :=
  match x with
  | .ro none ⟨.str, s⟩ => match isT C.tt ty .str with
    | true => putK C o (.ro none ⟨.int .i64, ((s : ByteArray).size : Int)⟩) st k
    | false => none
  | x => match asL st.ob x with
    | some v => match isT C.tt ty (.list v.e v.t) with
      | true => putK C o (.ro none ⟨.int .i64, (v.xs.length : Int)⟩) st k
      | false => none
    | none => none

/-- what is appended to: its elements, and the row that is used up -/
def appS (ob : Nat → Ob) (e : TypeId) (u : Ty) : Cn → Option (List u.Den × Option Nat)
  | .nils _ _ => some ([], none)
  | .h i => match ob i with
    | .sl fz _ e' t' xs => match fz || !Nat.beq e e' with
      | true => none
      | false => match castDV (.list e u) ⟨.list e t', xs⟩ with
        | some ys => some (ys, some i)
        | none => none
    | _ => none
  | _ => none

/-- a row that is read -/
def appR (ob : Nat → Ob) (e : TypeId) (u : Ty) (x : Cn) : Option (List u.Den) :=
  match asL ob x with
  | some v => castDV (.list e u) ⟨.list e v.t, v.xs⟩
  | none => none

def strOf : Cn → Option ByteArray
  | .ro none ⟨.str, b⟩ => some b
  | _ => none

def fst0 {α β : Type} : Option α → Option (α × Option β)
  | some y => some (y, none)
  | none => none

/-- what is appended: its elements, and the row whose elements are taken over -/
def appX (tt : TypeId → Option Ty) (ob : Nat → Ob) (t t2 e : TypeId) (u : Ty) (x : Cn) : Option (List u.Den × Option Nat) :=
  match strOf x with
  | some b => match isT tt t2 .str with
    | true => fst0 (castDV (.list e u) ⟨.list e (.int .u8), strInts b⟩)
    | false => none
  | none => match Nat.beq t2 t with
    | true => match u.flat with
      | true => fst0 (appR ob e u x)
      | false => appS ob e u x
    | false => none

def eqO : Option Nat → Nat → Bool
  | none, _ => false
  | some i, j => Nat.beq i j

def someB : Option Nat → Bool
  | none => false
  | some _ => true

def kill2 (ob : Nat → Ob) (old gone : Option Nat) : Nat → Ob := fun j => match eqO old j || eqO gone j with
  | true => .dead
  | false => ob j

/-- append: the elder row is used up -/
def appK (C : Ctx) (pure : Bool) (o : Oper) (t t2 : TypeId) (s x : Cn) (st : St) (k : St → Option R) : Option R :=
  match C.tt t with
  | some (.list e u) => match appS st.ob e u s with
    | some (xs, old) => match appX C.tt st.ob t t2 e u x with
      | some (ys, gone) => match (pure && (someB old || someB gone)) || (match gone with | some j => eqO old j | none => false) with
        | true => none
        | false => cond (lim (xs.length + ys.length))
          (putK C o (.h st.nx) ⟨st.sl, upd (kill2 st.ob old gone) st.nx (.sl false 0 e u (xs ++ ys)), st.nx + 1⟩ k) none
      | none => none
    | none => none
  | _ => none

def okLen (n : Int) : Bool := decide (0 ≤ n) && decide (n ≤ 4294967296)

def makeK (C : Ctx) (o : Oper) (t : TypeId) (n : Int) (st : St) (k : St → Option R) : Option R :=
  match C.tt t with
  | some (.list e u) => match u.noPtr with
    | true => cond (okLen n) (putK C o (.h st.nx) (st.push (.sl false 0 e u (List.replicate n.toNat u.dflt))) k) none
    | false => none
  | _ => none

/-- the payloads of a literal whose parts stand in order -/
def litL (t : Ty) : Nat → List (Nat × DV) → Option (List t.Den)
  | _, [] => some []
  | i, x :: r => match Nat.beq x.1 i with
    | true => match castDV t x.2, litL t (i + 1) r with
      | some y, some l => some (y :: l)
      | _, _ => none
    | false => none

/-- a content that a row of its own takes in: the rows that it owns are used up -/
def takeDV (st : St) : Cn → Option (DV × St)
  | .ro none d => match d.ty.flat with
    | true => some (d, st)
    | false => none
  | .nils e t => some (⟨.list e t, []⟩, st)
  | .h i => match st.ob i with
    | .sl false _ e t xs => some (⟨.list e t, xs⟩, st.set i .dead)
    | _ => none
  | .nil => some (⟨.nil, ()⟩, st)
  | .cons a b => match takeDV st a with
    | some (x, s1) => match takeDV s1 b with
      | some (y, s2) => some (⟨.cons x.ty y.ty, (x.v, y.v)⟩, s2)
      | none => none
    | none => none
  | .agg c => match takeDV st c with
    | some (x, s1) => some (⟨.st x.ty, x.v⟩, s1)
    | none => none
  | _ => none

def evParts (C : Ctx) (st : St) : List (Nat × Operand) → Option (List (Nat × Cn))
  | [] => some []
  | x :: r => match ev C st 0 x.2, evParts C st r with
    | some c, some l => some ((x.1, c) :: l)
    | _, _ => none

def takeParts (st : St) : List (Nat × Cn) → Option (List (Nat × DV) × St)
  | [] => some ([], st)
  | x :: r => match takeDV st x.2 with
    | some (d, s1) => match takeParts s1 r with
      | some (l, s2) => some ((x.1, d) :: l, s2)
      | none => none
    | none => none

def buildSliceK (C : Ctx) (pure : Bool) (o : Oper) (t : TypeId) (len : Nat) (parts : List (Nat × Operand)) (st : St) (k : St → Option R) : Option R :=
  match C.tt t with
  | some (.list e u) => match Nat.ble (len * u.size) 16777216 && !(pure && !u.flat) with
    | true => match evParts C st parts with
      | some ps => match takeParts st ps with
        | some (ds, s1) => match litL u 0 ds with
          | some xs => match Nat.beq xs.length len with
            | true => putK C o (.h s1.nx) (s1.push (.sl false 0 e u xs)) k
            | false => none
          | none => none
        | none => none
      | none => none
    | false => none
  | _ => none

/-- the fields of a struct: zero, and then as given -/
def setFlds : List (Nat × Cn) → Cn → Option Cn
  | [], c => some c
  | x :: r, c => match boxable x.2 with
    | some b => match setNth (fun old => match Nat.beq b.size old.size with
        | true => some b
        | false => none) c x.1 with
      | some d => setFlds r d
      | none => none
    | none => none

def buildC (C : Ctx) (t : TypeId) (ps : List (Nat × Cn)) : Option Cn :=
  match C.tt t with
  | some (.st fs) => match setFlds ps (zeroC fs) with
    | some c => match fits fs c with
      | true => some (.agg c)
      | false => none
    | none => none
  | _ => none

def evL (C : Ctx) (st : St) : List Operand → List TypeId → Option (List Cn)
  | [], _ => some []
  | x :: r, ts => match ev C st (ts.headD 0) x, evL C st r ts.tail with
    | some c, some l => some (c :: l)
    | _, _ => none

def caps : List Cn → Cn
  | [] => .nil
  | x :: r => .cons x (caps r)

def uncaps : Cn → Option (List Cn)
  | .nil => some []
  | .cons a b => match uncaps b with
    | some l => some (a :: l)
    | none => none
  | _ => none

def argSl : List Cn → Nat → Cn
  | [], _ => .dead
  | c :: _, 0 => c
  | _ :: r, n + 1 => argSl r n

/-! ### calls -/
def renC (f : Nat → Nat) : Cn → Cn
  | .h i => .h (f i)
  | .p i => .p (f i)
  | .cons a b => .cons (renC f a) (renC f b)
  | .agg a => .agg (renC f a)
  | .fn g a => .fn g (renC f a)
  | c => c

def renO (f : Nat → Nat) (ver : Nat) : Ob → Ob
  | .sl fz _ e t xs => .sl fz ver e t xs
  | .box u c => .box u (renC f c)
  | .obox b u c => .obox b u (renC f c)
  | .dead => .dead

def verOf : Ob → Nat
  | .sl _ v _ _ _ => v
  | _ => 0

def frzO : Ob → Ob
  | .sl _ v e t xs => .sl true v e t xs
  | _ => .dead

/-- which object of the caller's is object j of what came out -/
def tau (m : Mt) (j : Nat) : Nat :=
  match sigAt m.sig j with
  | some i => i
  | none => m.nx + j

def inv : List (Nat × Nat) → Nat → Option Nat
  | [], _ => none
  | x :: r, i => match Nat.beq x.2 i with
    | true => some x.1
    | false => inv r i

/-- the caller's objects behind a call -/
def afterOb (c : Con) (m : Mt) (y : c.outS.Den) (i : Nat) : Ob :=
  match Nat.blt i m.nx with
  | true => match inv m.sig i with
    | some j => renO (tau m) (verOf (m.ob i) + 1) (obOf c.outS.objs (c.outS.pO y) j)
    | none => match !c.outS.noRo && elemB i m.fz with
      | true => frzO (m.ob i)
      | false => m.ob i
  | false => match sigAt m.sig (i - m.nx) with
    | some _ => .dead
    | none => renO (tau m) 0 (obOf c.outS.objs (c.outS.pO y) (i - m.nx))

def findO : List (Nat × OS) → Nat → Option OS
  | [], _ => none
  | x :: r, n => match Nat.beq x.1 n with
    | true => some x.2
    | false => findO r n

/-- the same sort of object -/
def kindOk : OS → OS → Bool
  | .sl e t, .sl e' t' => Nat.beq e e' && decide (t = t')
  | .box u _, .box v _ => decide (u = v)
  | .box u _, .obox v _ => decide (u = v)
  | .obox u _, .box v _ => decide (u = v)
  | .obox u _, .obox v _ => decide (u = v)
  | _, _ => false

/-- what goes out is of the sort that came in -/
def objsOk (inn : List (Nat × OS)) : List (Nat × OS) → Bool
  | [] => true
  | x :: r => (match findO inn x.1 with
    | some o => kindOk o x.2
    | none => true) && objsOk inn r

def resC (c : Con) (y : c.outS.Den) : Nat → Nat → Cn
  | 0, _ => .nil
  | n + 1, i => .cons (slOf c.outS.slots (c.outS.pS y) i) (resC c y n (i + 1))

def retC (c : Con) (m : Mt) (y : c.outS.Den) : Cn :=
  match c.nres with
  | 1 => renC (tau m) (slOf c.outS.slots (c.outS.pS y) 0)
  | n => .tup (renC (tau m) (resC c y n 0))

def isNil {α : Type} : List α → Bool
  | [] => true
  | _ => false

/-- the caller's object is of the sort that is asked for -/
def kdB : Ob → OS → Bool
  | .sl false _ e t _, .sl e' t' => Nat.beq e e' && decide (t = t')
  | .box u _, .box v _ => decide (u = v)
  | .box u _, .obox v _ => decide (u = v)
  | .obox _ u _, .obox v _ => decide (u = v)
  | _, _ => false

def kdsB (m : Mt) (objs : List (Nat × OS)) : List (Nat × Nat) → Bool
  | [] => true
  | x :: r => (match findO objs x.1 with
    | some o => kdB (m.ob x.2) o
    | none => false) && kdsB m objs r

def callK (C : Ctx) (pure : Bool) (o : Oper) (args : List Cn) (st : St) (k : St → Option R) : List Con → Option R
  | [] => none
  | c :: r => match matchSt c.outS.noRo true c.inS ⟨argSl args, st.ob, st.nx⟩ with
    | none => callK C pure o args st k r
    | some (x, m) => match (pure && !(isNil m.sig && (c.outS.noRo || isNil m.fz))) || !(objsOk c.inS.objs c.outS.objs && (Nat.beq args.length c.nargs && kdsB m c.inS.objs m.sig)) with
      | true => none
      | false => (c.F x).bind fun y =>
          putK C o (retC c m y) { sl := st.sl, ob := afterOb c m y, nx := m.nx + Nat.max 100 (maxId c.outS.objs) } k

/-- a row of bytes: its elements' type and it -/
def asBytes (ob : Nat → Ob) (c : Cn) : Option (TypeId × List Int) :=
  match asL ob c with
  | some v => match castDV (.list v.e (.int .u8)) ⟨.list v.e v.t, v.xs⟩ with
    | some xs => some (v.e, xs)
    | none => none
  | none => none

def convK (C : Ctx) (o : Oper) (ts td : TypeId) (c : Cn) (st : St) (k : St → Option R) : Option R :=
  match c with
  | .ro none ⟨.int _, n⟩ => match C.tt ts, C.tt td with
    | some (.int _), some (.int kd) => putK C o (.ro none ⟨.int kd, kd.wrap n⟩) st k
    | _, _ => none
  | .ro none ⟨.str, s⟩ => match C.tt ts, C.tt td with
    | some .str, some (.list e (.int .u8)) => match isT C.tt e (.int .u8) with
      | true => putK C o (.ro none ⟨.list e (.int .u8), strInts s⟩) st k
      | false => none
    | some .str, some .str => putK C o (.ro none ⟨.str, s⟩) st k
    | _, _ => none
  | c => match asBytes st.ob c with
    | some (e, xs) => match isT C.tt ts (.list e (.int .u8)) && (isT C.tt e (.int .u8) && isT C.tt td .str) with
      | true => putK C o (.ro none ⟨.str, intsStr xs⟩) st k
      | false => none
    | none => none

/-! ### one operation -/
def opK (C : Ctx) (pure : Bool) (o : Oper) (st : St) (k : St → Option R) : Option R :=
  match o.op with
  | .move x => match ev C st o.type x with
    | some c => putK C o c st k
    | none => none
  | .assign x => match pure with
    | true => none
    | false => match ev C st o.type x with
      | some c => putK C o c st k
      | none => none
  | .alloc t => match C.tt t with
    | some u => match fits u (zeroC u) with
      | true => putK C o (.p st.nx) (st.push (.box u (zeroC u))) k
      | false => none
    | none => none
  | .box t x => match ev C st t x with
    | some c => match boxable c with
      | some b => match C.tt t with
        | some u => match fits u b with
          | true => putK C o (.p st.nx) (st.push (.box u b)) k
          | false => none
        | none => none
      | none => none
    | none => none
  | .build t ps => match evParts C st ps.toList with
    | some l => match buildC C t l with
      | some c => putK C o c st k
      | none => none
    | none => none
  | .buildSlice t len ps => match pure with
    | true => none
    | false => buildSliceK C pure o t len ps.toList st k
  | .load t a => match ev C st 0 a with
    | some c => match loadC st c with
      | some d => match ldOk C.tt t d.isAgg d.size with
        | true => putK C o d st k
        | false => none
      | none => none
    | none => none
  | .store t a x => match pure with
    | true => none
    | false => match ev C st 0 a, ev C st t x with
      | some a, some c => match o.dst with
        | none => storeK C.tt t st a c k
        | some _ => none
      | _, _ => none
  | .nilCheck x => match ev C st 0 x with
    | some c => match c with
      | .p i => match st.ob i with
        | .box _ _ => putK C o c st k
        | .obox b u d => match pure with
          | true => none
          | false => cond b (putK C o c (st.set i (.box u d)) k) none
        | _ => none
      | .addr .. => putK C o c st k
      | .rdp .. => putK C o c st k
      | .fn .. => putK C o c st k
      | _ => none
    | none => none
  | .binOp op xt x y yt => match ev C st yt x, ev C st yt y with
    | some a, some b => match a.isAgg with
      | true => match flatDV a, flatDV b with
        | some x, some y => eqK C o op xt x y st k
        | _, _ => none
      | false => binK C o op xt a b st k
    | _, _ => none
  | .unOp op _ x => match ev C st 0 x with
    | some a => unK C o op a st k
    | none => none
  | .convert src dst x => match ev C st 0 x with
    | some c => convK C o src dst c st k
    | none => none
  | .fieldAddr s x f => match ev C st 0 x with
    | some c => match fldAddr C.tt st.ob s f c with
      | some d => putK C o d st k
      | none => none
    | none => none
  | .indexAddr t x i => match ev C st 0 x, ev C st 0 i with
    | some c, some d => indexAddrK C o t c d st k
    | _, _ => none
  | .index t x i => match ev C st 0 x, ev C st 0 i with
    | some c, some d => indexK C o t c d st k
    | _, _ => none
  | .slice t x lo hi none => match ev C st t x with
    | some c => match (match lo with
        | none => some none
        | some l => (match ev C st 0 l with
          | some (.ro none ⟨.int _, n⟩) => some (some n)
          | _ => none)), (match hi with
        | none => some none
        | some l => (match ev C st 0 l with
          | some (.ro none ⟨.int _, n⟩) => some (some n)
          | _ => (none : Option (Option Int)))) with
      | some l, some h => sliceK C o t c l h st k
      | _, _ => none
    | none => none
  | .makeSlice t (.tmp n) (.tmp m) => match Nat.beq n m with
    | true => match st.sl n with
      | .ro none ⟨.int _, x⟩ => makeK C o t x st k
      | _ => none
    | false => none
  | .makeSlice t (.const (.int _ n)) (.const (.int _ m)) => match decide (n = m) with
    | true => makeK C o t n st k
    | false => none
  | .makeFunc (.func f) fs cs => match fs.toList with
    | [] => match evL C st cs.toList [] with
      | some l => putK C o (.fn f (caps l)) st k
      | none => none
    | _ => none
  | .extract x ix => match ev C st 0 x with
    | some (.tup c) => match nthC c ix with
      | some d => putK C o d st k
      | none => none
    | _ => none
  | .call c => match c.callee with
    | .value (.func g) => match evL C st c.args.toList c.argTypes.toList with
      | some l => callK C pure o l st k (C.phi g)
      | none => none
    | .value x => match ev C st 0 x, evL C st c.args.toList c.argTypes.toList with
      | some (.fn g cs), some l => match uncaps cs with
        | some r => callK C pure o (l ++ r) st k (C.phi g)
        | none => none
      | _, _ => none
    | .builtin .len => match evL C st c.args.toList c.argTypes.toList, c.argTypes.toList with
      | some [x], [t] => lenK C o t x st k
      | _, _ => none
    | .builtin .append => match evL C st c.args.toList c.argTypes.toList, c.argTypes.toList with
      | some [s, x], [t, t2] => match pure with
        | true => none
        | false => appK C pure o t t2 s x st k
      | _, _ => none
    | .builtin .min => match evL C st c.args.toList c.argTypes.toList with
      | some [.ro none ⟨.int ka, a⟩, .ro none ⟨.int _, b⟩] => putK C o (.ro none ⟨.int ka, (if (b : Int) < a then b else a)⟩) st k
      | _ => none
    | .builtin .max => match evL C st c.args.toList c.argTypes.toList with
      | some [.ro none ⟨.int ka, a⟩, .ro none ⟨.int _, b⟩] => putK C o (.ro none ⟨.int ka, (if (b : Int) > a then b else a)⟩) st k
      | _ => none
    | _ => none
  | _ => none

end Go.Am
