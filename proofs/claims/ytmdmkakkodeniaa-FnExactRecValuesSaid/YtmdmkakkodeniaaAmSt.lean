/- The abstract machine's contents, objects and states, and how they stand to the model's memory. -/
import Derived.Test.YtmdmkakkodeniaaAmTy
set_option linter.unusedVariables false
namespace Go.Am

/-- What a slot (or a part of a boxed variable) holds. -/
inductive Cn where
  | ro (b : Option (Nat × Nat)) (d : DV)
  | nils (e : TypeId) (t : Ty)
  | h (i : Nat)
  | p (i : Nat)
  | addr (i : Nat) (k : Int) (es off : Nat) (path : List Nat) (cache : Option (Nat × DV))
  | rdp (b : Option (Nat × Nat)) (d : DV)
  | fn (f : FuncId) (caps : Cn)
  | tup (c : Cn)
  | nil
  | cons (a b : Cn)
  | agg (c : Cn)
  | cst (v : Value)
  | dead

/-- What the function owns (or lent it was): a row, a variable in memory, a nil pointer. -/
inductive Ob where
  | sl (fz : Bool) (ver : Nat) (e : TypeId) (t : Ty) (xs : List t.Den)
  | box (u : Ty) (c : Cn)
  | obox (b : Bool) (u : Ty) (c : Cn)
  | dead

/-- how it is laid out -/
def Ob.lay : Ob → Option Ty
  | .sl _ _ _ t _ => some t
  | .box u _ => some u
  | .obox _ u _ => some u
  | .dead => none

def Ob.isBx : Ob → Bool
  | .box _ _ => true
  | .obox _ _ _ => true
  | _ => false

structure St where
  sl : Nat → Cn
  ob : Nat → Ob
  nx : Nat

def upd {α : Type} (f : Nat → α) (k : Nat) (v : α) : Nat → α := fun n => match Nat.beq n k with | true => v | false => f n

theorem upd_same {α : Type} (f : Nat → α) (k : Nat) (v : α) : upd f k v k = v := by simp [upd]
theorem upd_other {α : Type} (f : Nat → α) (k : Nat) (v : α) (n : Nat) (h : n ≠ k) : upd f k v n = f n := by
  have : Nat.beq n k = false := by
    cases e : Nat.beq n k with
    | false => rfl
    | true => exact absurd (Nat.eq_of_beq_eq_true e) h
  simp only [upd, this]
theorem upd_apply {α : Type} (f : Nat → α) (k : Nat) (v : α) (n : Nat) : upd f k v n = if n = k then v else f n := by
  by_cases h : n = k
  · subst h; simp [upd_same]
  · simp [upd_other _ _ _ _ h, h]

def Cn.isAgg : Cn → Bool
  | .ro _ d => d.ty.isAgg
  | .agg _ => true
  | _ => false

structure Env where
  w : World
  Z : Nat → Prop
  rho : Nat → Value
  B : Nat → List Nat

def blkOf : Value → Option Nat
  | .slice (some a) _ _ => if a.off = 0 ∧ a.spot = none then some a.block else none
  | .pointer (some a) => if a.off = 0 ∧ a.spot = none then some a.block else none
  | _ => none

/-- the object is the one that was borrowed, unwritten since -/
def fresh (ob : Nat → Ob) (i ver : Nat) : Prop :=
  match ob i with
  | .sl _ v _ _ _ => v = ver
  | _ => False

def src (E : Env) : Option (Nat × Nat) → Nat → Prop
  | none, b => E.Z b
  | some (i, _), b => b ∈ E.B i ∨ E.Z b

def live (ob : Nat → Ob) : Option (Nat × Nat) → Prop
  | none => True
  | some (i, ver) => fresh ob i ver

def srcLt (ob : Nat → Ob) (nx : Nat) : Option (Nat × Nat) → Prop
  | none => True
  | some (i, ver) => i < nx ∧ match ob i with
    | .sl _ v _ _ _ => ver ≤ v
    | _ => True

/-! ### parts of payloads -/
def castDV (t : Ty) (d : DV) : Option t.Den := if h : d.ty = t then some (h ▸ d.v) else none

theorem castDV_eq {t : Ty} {d : DV} {x : t.Den} (h : castDV t d = some x) : d = ⟨t, x⟩ := by
  unfold castDV at h
  split at h
  · rename_i e
    obtain ⟨ty, v⟩ := d
    subst e
    simp only [Option.some.injEq] at h
    subst h
    rfl
  · cases h

/-- the type of a field of a row of fields, and how many cells stand ahead -/
def Ty.at : Ty → Nat → Option (Nat × Ty)
  | .cons a _, 0 => some (0, a)
  | .cons a b, n + 1 => match b.at n with
    | some (o, t) => some (a.size + o, t)
    | none => none
  | _, _ => none

def Ty.fld : Ty → Nat → Option (Nat × Ty)
  | .st a, n => a.at n
  | _, _ => none

/-- the same along a path of fields -/
def Ty.offP : Ty → List Nat → Option (Nat × Ty)
  | t, [] => some (0, t)
  | t, f :: r => match t.fld f with
    | some (o, u) => match u.offP r with
      | some (p, v) => some (o + p, v)
      | none => none
    | none => none

def getF : (t : Ty) → Nat → t.Den → Option DV
  | .cons a _, 0, x => some ⟨a, x.1⟩
  | .cons _ b, n + 1, x => getF b n x.2
  | _, _, _ => none

def getFld (d : DV) (n : Nat) : Option DV :=
  match d with
  | ⟨.st a, x⟩ => getF a n x
  | _ => none

def getP : DV → List Nat → Option DV
  | d, [] => some d
  | d, f :: r => match getFld d f with
    | some e => getP e r
    | none => none

def setF (g : (t : Ty) → t.Den → Option t.Den) : (t : Ty) → Nat → t.Den → Option t.Den
  | .cons a _, 0, x => match g a x.1 with
    | some y => some (y, x.2)
    | none => none
  | .cons _ b, n + 1, x => match setF g b n x.2 with
    | some y => some (x.1, y)
    | none => none
  | _, _, _ => none

def setFld (g : (t : Ty) → t.Den → Option t.Den) (n : Nat) : (t : Ty) → t.Den → Option t.Den
  | .st a, x => setF g a n x
  | _, _ => none

def setP (d : DV) : List Nat → (t : Ty) → t.Den → Option t.Den
  | [] => fun t _ => castDV t d
  | f :: r => setFld (setP d r) f

/-! ### contents -/
def nthC : Cn → Nat → Option Cn
  | .cons a _, 0 => some a
  | .cons _ b, n + 1 => nthC b n
  | _, _ => none

def setNth (g : Cn → Option Cn) : Cn → Nat → Option Cn
  | .cons a b, 0 => match g a with
    | some x => some (.cons x b)
    | none => none
  | .cons a b, n + 1 => match setNth g b n with
    | some x => some (.cons a x)
    | none => none
  | _, _ => none

def expl : (t : Ty) → t.Den → Cn
  | .st a, x => .agg (expl a x)
  | .cons a b, x => .cons (expl a x.1) (expl b x.2)
  | .nil, _ => .nil
  | .int k, x => .ro none ⟨.int k, x⟩
  | .bool, x => .ro none ⟨.bool, x⟩
  | .str, x => .ro none ⟨.str, x⟩
  | .list e t, x => .ro none ⟨.list e t, x⟩
  | .ptr, _ => .dead

def zeroC : Ty → Cn
  | .st a => .agg (zeroC a)
  | .cons a b => .cons (zeroC a) (zeroC b)
  | .nil => .nil
  | .int k => .ro none ⟨.int k, (0 : Int)⟩
  | .bool => .ro none ⟨.bool, false⟩
  | .str => .ro none ⟨.str, (⟨#[]⟩ : ByteArray)⟩
  | .list e t => .nils e t
  | .ptr => .dead

/-- a content that may stand in a variable of that layout -/
def fits : Ty → Cn → Bool
  | .st a, .agg c => fits a c
  | .cons a b, .cons x y => fits a x && fits b y
  | .nil, .nil => true
  | .ptr, .p _ => true
  | .ptr, .cst _ => true
  | .ptr, .fn _ _ => true
  | .ptr, .rdp none _ => true
  | .list _ _, .h _ => true
  | .list e t, .nils e' t' => decide (Ty.list e t = .list e' t')
  | .list e t, .ro none ⟨.list e' t', _⟩ => decide (Ty.list e t = .list e' t')
  | .int k, .ro none ⟨.int k', _⟩ => decide (k = k')
  | .bool, .ro none ⟨.bool, _⟩ => true
  | .str, .ro none ⟨.str, _⟩ => true
  | _, _ => false

def Cn.size : Cn → Nat
  | .ro _ d => d.ty.size
  | .nil => 0
  | .cons a b => a.size + b.size
  | .agg c => c.size
  | _ => 1

/-- what may stand in a variable in memory, in the form in which it stands there -/
def boxable : Cn → Option Cn
  | .ro none d => match d.ty.noPtr with
    | true => some (expl d.ty d.v)
    | false => none
  | .nils e t => some (.nils e t)
  | .h i => some (.h i)
  | .p i => some (.p i)
  | .rdp none d => some (.rdp none d)
  | .fn f c => some (.fn f c)
  | .nil => some .nil
  | .cons a b => match boxable a, boxable b with
    | some x, some y => some (.cons x y)
    | _, _ => none
  | .agg c => match boxable c with
    | some x => some (.agg x)
    | none => none
  | .cst v => some (.cst v)
  | _ => none

def getCP : Cn → List Nat → Option Cn
  | c, [] => some c
  | .agg fs, f :: r => match nthC fs f with
    | some x => getCP x r
    | none => none
  | _, _ => none

def setCP (c : Cn) : List Nat → Cn → Option Cn
  | [], _ => some c
  | f :: r, .agg fs => match setNth (setCP c r) fs f with
    | some x => some (.agg x)
    | none => none
  | _, _ => none

/-! ### how contents stand to values -/
/-- 'false': the cells, one behind the other; 'true': the values of a row of contents. -/
def CRep (E : Env) (ob : Nat → Ob) (nx : Nat) : Cn → Bool → List Value → Prop
  | .ro b d, _, cs => cs.length = d.ty.size ∧ srcLt ob nx b ∧ (live ob b → Rd E.w (src E b) d.ty d.v cs)
  | .nils _ _, _, cs => cs = [.slice none 0 0]
  | .h i, _, cs => i < nx ∧ (E.rho i).oneCell' = true ∧ cs = [E.rho i]
  | .p i, _, cs => i < nx ∧ (E.rho i).oneCell' = true ∧ cs = [E.rho i]
  | .addr i k es off path cache, _, cs => i < nx ∧ 0 ≤ k ∧ (∃ g, blkOf (E.rho i) = some g ∧ cs = [.pointer (some ⟨g, k.toNat * es + off, none⟩)]) ∧
      (∀ u, (ob i).lay = some u → ∃ v, u.offP path = some (off, v)) ∧
      (match ob i with
        | .sl _ ver _ t xs => k.toNat < xs.length ∧ es = t.size ∧ (match cache with
          | some (v, d) => v ≤ ver ∧ (v = ver → ∃ x, xs[k.toNat]? = some x ∧ getP ⟨t, x⟩ path = some d)
          | none => True)
        | _ => True) ∧ ((ob i).isBx = true → es = 0)
  | .rdp b d, _, cs => srcLt ob nx b ∧ ∃ ad, cs = [.pointer (some ad)] ∧ ad.spot = none ∧
      (live ob b → src E b ad.block ∧ ∃ f, Rd E.w (src E b) d.ty d.v f ∧ RowAt E.w (some ad) f)
  | .fn f caps, _, cs => ∃ vs, cs = [.func (.func f) #[] vs.toArray] ∧ CRep E ob nx caps true vs
  | .tup c, _, cs => ∃ vs, cs = [.tuple vs.toArray] ∧ CRep E ob nx c true vs
  | .nil, _, cs => cs = []
  | .cons a b, false, cs => ∃ c d, cs = c ++ d ∧ CRep E ob nx a false c ∧ CRep E ob nx b false d
  | .cons a b, true, cs => ∃ v vs c, cs = v :: vs ∧ CRep E ob nx a false c ∧ mkV a.isAgg c v ∧ CRep E ob nx b true vs
  | .agg c, _, cs => CRep E ob nx c false cs
  | .cst v, _, cs => v.oneCell' = true ∧ cs = [v]
  | .dead, _, _ => True

def VRep (E : Env) (ob : Nat → Ob) (nx : Nat) (c : Cn) (v : Value) : Prop :=
  match c with
  | .dead => True
  | c => ∃ cs, CRep E ob nx c false cs ∧ mkV c.isAgg cs v

def BoxOk (E : Env) (ob : Nat → Ob) (nx i : Nat) (u : Ty) (c : Cn) : Prop :=
  ∃ g cs t, E.rho i = .pointer (some ⟨g, 0, none⟩) ∧ E.w.heap[g]? = some (.cells cs.toArray t (0, 0)) ∧ CRep E ob nx c false cs ∧ fits u c = true ∧ E.B i = [g]

def ObOk (E : Env) (ob : Nat → Ob) (nx i : Nat) : Ob → Prop
  | .sl false _ e t xs => Ow E.w (.list e t) xs [E.rho i] (E.B i)
  | .sl true _ e t xs => Rd E.w E.Z (.list e t) xs [E.rho i] ∧ E.B i = []
  | .box u c => BoxOk E ob nx i u c
  | .obox b u c => match b with
    | true => BoxOk E ob nx i u c
    | false => E.rho i = .pointer none ∧ E.B i = [] ∧ ∃ cs, CRep E ob nx c false cs
  | .dead => E.B i = []

structure Rep (E : Env) (st : St) (tm : Array Value) : Prop where
  sl : ∀ s, VRep E st.ob st.nx (st.sl s) (tm.getD s undef)
  ob : ∀ i, ObOk E st.ob st.nx i (st.ob i)
  lt : ∀ i, st.nx ≤ i → st.ob i = .dead
  dj : ∀ i j b, i ≠ j → b ∈ E.B i → b ∉ E.B j
  nd : ∀ i, (E.B i).Nodup
  bb : ∀ i b, b ∈ E.B i → b < E.w.heap.size ∧ ¬ E.Z b
  zb : ∀ b, E.Z b → b < E.w.heap.size

/-- what has turned since E: nothing but what was owned then; what is owned now was so, or is new -/
structure Fr (E E' : Env) : Prop where
  os : E'.w.os = E.w.os
  tape : E'.w.tape = E.w.tape
  output : E'.w.output = E.w.output
  size : E.w.heap.size ≤ E'.w.heap.size
  block : ∀ b, b < E.w.heap.size → (∀ i, b ∉ E.B i) → E'.w.heap[b]? = E.w.heap[b]?
  own : ∀ i b, b ∈ E'.B i → (∃ j, b ∈ E.B j) ∨ E.w.heap.size ≤ b
  z0 : ∀ b, E.Z b → E'.Z b
  z1 : ∀ b, E'.Z b → E.Z b ∨ (∃ j, b ∈ E.B j) ∨ E.w.heap.size ≤ b
  rho : ∀ i, i < 100 → E'.rho i = E.rho i

theorem Fr.refl (E : Env) : Fr E E := ⟨rfl, rfl, rfl, Nat.le_refl _, fun _ _ _ => rfl, fun i _ h => .inl ⟨i, h⟩, fun _ h => h, fun _ h => .inl h, fun _ _ => rfl⟩

theorem Fr.trans {A B C : Env} (h : Fr A B) (k : Fr B C) : Fr A C where
  os := k.os.trans h.os
  tape := k.tape.trans h.tape
  output := k.output.trans h.output
  size := Nat.le_trans h.size k.size
  block := fun b hb ho => by
    rw [k.block b (Nat.lt_of_lt_of_le hb h.size) ?_, h.block b hb ho]
    intro i hi
    rcases h.own i b hi with ⟨j, hj⟩ | h1
    · exact ho j hj
    · omega
  own := fun i b hb => by
    rcases k.own i b hb with ⟨j, hj⟩ | h1
    · exact h.own j b hj
    · exact .inr (Nat.le_trans h.size h1)
  z0 := fun b hb => k.z0 b (h.z0 b hb)
  z1 := fun b hb => by
    rcases k.z1 b hb with h1 | ⟨j, hj⟩ | h1
    · exact h.z1 b h1
    · rcases h.own j b hj with h2 | h2
      · exact .inr (.inl h2)
      · exact .inr (.inr h2)
    · exact .inr (.inr (Nat.le_trans h.size h1))
  rho := fun i hi => (k.rho i hi).trans (h.rho i hi)

end Go.Am
