/- Shapes of states: what stands where, without the payload; and the matching of a state against a shape. -/
import Derived.Test.YtmdmkakkodeniaaAmSt
set_option linter.unusedVariables false
namespace Go.Am

inductive CS where
  | ro (t : Ty) | h (j : Nat) | p (j : Nat) | rdp (t : Ty)
  | fn (f : FuncId) (caps : CS)
  | nil | cons (a b : CS) | agg (a : CS)
  deriving DecidableEq, Inhabited

@[reducible] def CS.Den : CS → Type
  | .ro t => t.Den
  | .h _ => Unit
  | .p _ => Unit
  | .rdp t => t.Den
  | .fn _ c => c.Den
  | .nil => Unit
  | .cons a b => a.Den × b.Den
  | .agg a => a.Den

def CS.dflt : (c : CS) → c.Den
  | .ro t => t.dflt
  | .h _ => ()
  | .p _ => ()
  | .rdp t => t.dflt
  | .fn _ c => c.dflt
  | .nil => ()
  | .cons a b => (a.dflt, b.dflt)
  | .agg a => a.dflt

def CS.cn : (c : CS) → c.Den → Cn
  | .ro t, x => .ro none ⟨t, x⟩
  | .h j, _ => .h j
  | .p j, _ => .p j
  | .rdp t, x => .rdp none ⟨t, x⟩
  | .fn f c, x => .fn f (c.cn x)
  | .nil, _ => .nil
  | .cons a b, x => .cons (a.cn x.1) (b.cn x.2)
  | .agg a, x => .agg (a.cn x)

/-- a row of contents -/
def CS.caps : CS → Bool
  | .nil => true
  | .cons _ b => b.caps
  | _ => false

/-- nothing of frozen memory in it -/
def CS.noRo : CS → Bool
  | .ro t => t.flat
  | .rdp _ => false
  | .cons a b => a.noRo && b.noRo
  | .agg a => a.noRo
  | .fn _ c => c.noRo
  | _ => true

inductive OS where
  | sl (e : TypeId) (t : Ty)
  | box (u : Ty) (c : CS)
  | obox (u : Ty) (c : CS)
  deriving DecidableEq, Inhabited

@[reducible] def OS.Den : OS → Type
  | .sl _ t => List t.Den
  | .box _ c => c.Den
  | .obox _ c => Bool × c.Den

def OS.ob : (o : OS) → o.Den → Ob
  | .sl e t, x => .sl false 0 e t x
  | .box u c, x => .box u (c.cn x)
  | .obox u c, x => .obox x.1 u (c.cn x.2)

def OS.noRo : OS → Bool
  | .sl _ _ => true
  | .box _ c => c.noRo
  | .obox _ c => c.noRo

@[reducible] def SlD : List (Nat × CS) → Type
  | [] => Unit
  | [x] => x.2.Den
  | x :: y :: r => x.2.Den × SlD (y :: r)

@[reducible] def ObD : List (Nat × OS) → Type
  | [] => Unit
  | [x] => x.2.Den
  | x :: y :: r => x.2.Den × ObD (y :: r)

structure SS where
  slots : List (Nat × CS)
  objs : List (Nat × OS)
  deriving DecidableEq, Inhabited

@[reducible] def SS.Den : SS → Type
  | ⟨s, []⟩ => SlD s
  | ⟨s, o :: os⟩ => SlD s × ObD (o :: os)

def slOf : (l : List (Nat × CS)) → SlD l → Nat → Cn
  | [], _ => fun _ => .dead
  | [x], y => upd (fun _ => .dead) x.1 (x.2.cn y)
  | x :: z :: r, y => upd (slOf (z :: r) y.2) x.1 (x.2.cn y.1)

def obOf : (l : List (Nat × OS)) → ObD l → Nat → Ob
  | [], _ => fun _ => .dead
  | [x], y => upd (fun _ => .dead) x.1 (x.2.ob y)
  | x :: z :: r, y => upd (obOf (z :: r) y.2) x.1 (x.2.ob y.1)

def SS.pS : (s : SS) → s.Den → SlD s.slots
  | ⟨_, []⟩, x => x
  | ⟨_, _ :: _⟩, x => x.1

def SS.pO : (s : SS) → s.Den → ObD s.objs
  | ⟨_, []⟩, _ => ()
  | ⟨_, _ :: _⟩, x => x.2

def SS.mk' : (s : SS) → SlD s.slots → ObD s.objs → s.Den
  | ⟨_, []⟩, x, _ => x
  | ⟨_, _ :: _⟩, x, y => (x, y)

def maxId : List (Nat × OS) → Nat
  | [] => 0
  | x :: r => Nat.max (x.1 + 1) (maxId r)

/-- the state of a shape and its payload -/
def SS.st (s : SS) (x : s.Den) : St := { sl := slOf s.slots (s.pS x), ob := obOf s.objs (s.pO x), nx := Nat.max 100 (maxId s.objs) }

def SS.noRo (s : SS) : Bool := s.slots.all (fun x => x.2.noRo) && s.objs.all (fun x => x.2.noRo)

/-! ### matching -/
/-- 'sig': which object is which; 'fz': what is to be frozen; 'tmp': frozen only for a call. -/
structure Mt where
  sig : List (Nat × Nat)
  fz : List Nat
  ob : Nat → Ob
  nx : Nat

def sigAt : List (Nat × Nat) → Nat → Option Nat
  | [], _ => none
  | x :: r, j => match Nat.beq x.1 j with
    | true => some x.2
    | false => sigAt r j

def Mt.put (m : Mt) (j i : Nat) : Option Mt :=
  match sigAt m.sig j with
  | some i' => match Nat.beq i i' with
    | true => some m
    | false => none
  | none => some { m with sig := (j, i) :: m.sig }

/-- a content as a payload that is frozen from now on ('tmp': for a time) -/
def toDV (tmp : Bool) (m : Mt) : Cn → Option (DV × Mt)
  | .ro none d => some (d, m)
  | .ro (some (i, ver)) d => match m.ob i with
    | .sl _ v _ _ _ => match Nat.beq v ver with
      | true => some (d, { m with fz := i :: m.fz })
      | false => none
    | _ => none
  | .nils e t => some (⟨.list e t, []⟩, m)
  | .h i => match m.ob i with
    | .sl _ _ e t xs => some (⟨.list e t, xs⟩, { m with fz := i :: m.fz })
    | _ => none
  | .nil => some (⟨.nil, ()⟩, m)
  | .cons a b => match toDV tmp m a with
    | some (x, m1) => match toDV tmp m1 b with
      | some (y, m2) => some (⟨.cons x.ty y.ty, (x.v, y.v)⟩, m2)
      | none => none
    | none => none
  | .agg c => match toDV tmp m c with
    | some (x, m1) => some (⟨.st x.ty, x.v⟩, m1)
    | none => none
  | _ => none

def matchC (tmp : Bool) (m : Mt) : (c : CS) → Cn → Option (c.Den × Mt)
  | .ro t, c => match toDV tmp m c with
    | some (d, m1) => match castDV t d with
      | some x => some (x, m1)
      | none => none
    | none => none
  | .h j, .h i => match m.ob i with
    | .sl false _ _ _ _ => match m.put j i with
      | some m1 => some ((), m1)
      | none => none
    | _ => none
  | .h j, .nils e t => match sigAt m.sig j with
    | some _ => none
    | none => some ((), { m with sig := (j, m.nx) :: m.sig, ob := upd m.ob m.nx (.sl false 0 e t []), nx := m.nx + 1 })
  | .p j, .p i => match m.put j i with
    | some m1 => some ((), m1)
    | none => none
  | .p j, .cst (.pointer none) => match sigAt m.sig j with
    | some _ => none
    | none => some ((), { m with sig := (j, m.nx) :: m.sig, ob := upd m.ob m.nx (.obox false .nil .nil), nx := m.nx + 1 })
  | .rdp t, .rdp b d => match b with
    | none => match castDV t d with
      | some x => some (x, m)
      | none => none
    | some (i, ver) => match m.ob i with
      | .sl _ v _ _ _ => match Nat.beq v ver with
        | true => match castDV t d with
          | some x => some (x, { m with fz := i :: m.fz })
          | none => none
        | false => none
      | _ => none
  | .rdp t, .p i => match m.ob i with
    | .box _ c => match toDV tmp m c with
      | some (d, m1) => match castDV t d with
        | some x => some (x, { m1 with fz := i :: m1.fz })
        | none => none
      | none => none
    | _ => none
  | .fn f cs, .fn g c => match Nat.beq f g && cs.caps with
    | true => matchC tmp m cs c
    | false => none
  | .nil, .nil => some ((), m)
  | .cons a b, .cons x y => match matchC tmp m a x with
    | some (u, m1) => match matchC tmp m1 b y with
      | some (v, m2) => some ((u, v), m2)
      | none => none
    | none => none
  | .agg a, .agg x => matchC tmp m a x
  | .agg a, .ro none d => match expl d.ty d.v with
    | .agg x => matchC tmp m a x
    | _ => none
  | _, _ => none

/-- what stands in a variable in memory -/
def matchB (tmp : Bool) (m : Mt) (u : Ty) (cs : CS) (c : Cn) : Option (cs.Den × Mt) :=
  match matchC tmp m cs c with
  | some (x, m1) => match fits u (cs.cn x) with
    | true => some (x, m1)
    | false => none
  | none => none

def matchO (tmp : Bool) (m : Mt) : (o : OS) → Ob → Option (o.Den × Mt)
  | .sl e t, .sl false _ e' t' xs => match castDV (.list e t) ⟨.list e' t', xs⟩ with
    | some x => some (x, m)
    | none => none
  | .box u cs, .box v c => match decide (u = v) with
    | true => matchB tmp m u cs c
    | false => none
  | .obox u cs, .box v c => match decide (u = v) with
    | true => match matchB tmp m u cs c with
      | some (x, m1) => some ((true, x), m1)
      | none => none
    | false => none
  | .obox u cs, .obox b v c => match v with
    | .nil => match b with
      | true => none
      | false => match matchC tmp m cs (zeroC u) with
        | some (x, m1) => some ((false, x), m1)
        | none => none
    | v => match decide (u = v) with
      | true => match matchB tmp m u cs c with
        | some (x, m1) => some ((b, x), m1)
        | none => none
      | false => none
  | _, _ => none

def matchSl (tmp : Bool) (sl : Nat → Cn) : (l : List (Nat × CS)) → Mt → Option (SlD l × Mt)
  | [], m => some ((), m)
  | [x], m => matchC tmp m x.2 (sl x.1)
  | x :: z :: r, m => match matchC tmp m x.2 (sl x.1) with
    | some (u, m1) => match matchSl tmp sl (z :: r) m1 with
      | some (v, m2) => some ((u, v), m2)
      | none => none
    | none => none

/-- those below 100 are told by themselves, but for a call -/
def tell (below : Bool) (m : Mt) (j : Nat) : Option (Nat × Mt) :=
  match sigAt m.sig j with
  | some i => some (i, m)
  | none => match below || !Nat.blt j 100 with
    | true => none
    | false => some (j, { m with sig := (j, j) :: m.sig })

def matchOb (tmp below : Bool) : (l : List (Nat × OS)) → Mt → Option (ObD l × Mt)
  | [], m => some ((), m)
  | [x], m => match tell below m x.1 with
    | some (i, m0) => matchO tmp m0 x.2 (m0.ob i)
    | none => none
  | x :: z :: r, m => match tell below m x.1 with
    | some (i, m0) => match matchO tmp m0 x.2 (m0.ob i) with
      | some (u, m1) => match matchOb tmp below (z :: r) m1 with
        | some (v, m2) => some ((u, v), m2)
        | none => none
      | none => none
    | none => none

def elemB (n : Nat) : List Nat → Bool
  | [] => false
  | x :: r => match Nat.beq n x with
    | true => true
    | false => elemB n r

/-- each object is one object; those below 100 are themselves; nothing is frozen that is handed on; all are told -/
def sigOk (ids fz : List Nat) (below : Bool) : List (Nat × Nat) → Bool
  | [] => true
  | x :: r => elemB x.1 ids && (!elemB x.2 fz && (!elemB x.2 (r.map (·.2)) && (!elemB x.1 (r.map (·.1)) &&
      ((match below with | true => Nat.blt x.1 100 | false => (Nat.beq x.1 x.2 || Nat.ble 100 x.1)) && sigOk ids fz below r))))

/-- match a state against a shape: its payload -/
def matchSt (tmp below : Bool) (s : SS) (st : St) : Option (s.Den × Mt) :=
  match matchSl tmp st.sl s.slots ⟨[], [], st.ob, st.nx⟩ with
  | some (u, m1) => match matchOb tmp below s.objs m1 with
    | some (v, m2) => match sigOk (s.objs.map (·.1)) m2.fz below m2.sig with
      | true => some (s.mk' u v, m2)
      | false => none
    | none => none
  | none => none

end Go.Am
