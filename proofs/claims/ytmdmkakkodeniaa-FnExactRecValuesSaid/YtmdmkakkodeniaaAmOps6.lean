/- Literals. -/
import Derived.Test.YtmdmkakkodeniaaAmOps5
import Derived.Laws.Tables
set_option linter.unusedVariables false
set_option linter.unusedSimpArgs false
namespace Go.Am

def splice (cs : List Value) (o : Nat) (vs : List Value) : List Value := cs.take o ++ vs ++ cs.drop (o + vs.length)

theorem splice_length {cs vs : List Value} {o : Nat} (h : o + vs.length ≤ cs.length) : (splice cs o vs).length = cs.length := by
  simp [splice]; omega

theorem fill_fold (off : Nat) : ∀ (vs : List Value) (k : Nat) (cells : Array Value), off + k + vs.length ≤ cells.size →
    ((vs.zipIdx k).foldl (fun cs x => cs.setIfInBounds (off + x.2) x.1) cells).toList = splice cells.toList (off + k) vs
  | [], k, cells, h => by simp [splice]
  | v :: vs, k, cells, h => by
    have h : off + k + (vs.length + 1) ≤ cells.size := h
    simp only [List.zipIdx_cons, List.foldl_cons]
    rw [fill_fold off vs (k + 1) _ (by simp; omega)]
    simp only [splice, Array.toList_setIfInBounds, List.length_cons]
    have hlt : off + k < cells.toList.length := by simp; omega
    apply List.ext_getElem?
    intro i
    have e1 : (cells.toList.set (off + k) v).take (off + (k + 1)) = cells.toList.take (off + k) ++ [v] := by
      rw [show off + (k + 1) = (off + k) + 1 by omega, List.take_succ_eq_append_getElem (by simpa using hlt), List.take_set_of_le (Nat.le_refl _)]
      simp
    have e2 : (cells.toList.set (off + k) v).drop (off + (k + 1) + vs.length) = cells.toList.drop (off + k + (vs.length + 1)) := by
      rw [List.drop_set_of_lt (by omega)]
      congr 1
      omega
    rw [e1, e2]
    simp

theorem fill_cons {place : Nat → Option (Nat × Nat)} {cells : Array Value} {i off size : Nat} {v : Value} {rest : List (Nat × Value)} (hp : place i = some (off, size))
    (hs : v.cells.size = size) (hl : off + size ≤ cells.size) : Instr.fill place cells ((i, v) :: rest) = Instr.fill place (splice cells.toList off v.cells.toList).toArray rest := by
  have h : v.cells.zipIdx.foldl (fun cs x => cs.setIfInBounds (off + x.2) x.1) cells = (splice cells.toList off v.cells.toList).toArray := by
    have := fill_fold off v.cells.toList 0 cells (by simp [hs]; exact hl)
    rw [← Array.toList_inj]
    simp only [Nat.add_zero] at this
    rw [← this, ← Array.foldl_toList, Array.toList_zipIdx]
  conv => lhs; unfold Instr.fill
  simp only [hp]
  have h2 : (v.cells.size ≠ size || decide (off + v.cells.size > cells.size)) = false := by simp [hs]; omega
  rw [if_neg (by simp [hs]; omega)]
  rw [← h]

/-- the contents of the parts -/
def PRep (E : Env) (ob : Nat → Ob) (nx : Nat) (a : Act) : List (Nat × Operand) → List (Nat × Cn) → Prop
  | [], [] => True
  | x :: r, y :: l => x.1 = y.1 ∧ VRep E ob nx y.2 (a.eval x.2) ∧ PRep E ob nx a r l
  | _, _ => False

theorem evParts_sound {C : Ctx} {st : St} {E : Env} {a : Act} (hr : Rep E st a.tmps) : ∀ (ps : List (Nat × Operand)) (l : List (Nat × Cn)), evParts C st ps = some l → PRep E st.ob st.nx a ps l
  | [], l, h => by simp only [evParts, Option.some.injEq] at h; subst h; trivial
  | x :: r, l, h => by
    simp only [evParts] at h
    split at h
    · rename_i c l' hc hl
      cases h
      exact ⟨rfl, ev_sound hc hr, evParts_sound hr r l' hl⟩
    · cases h

/-- the cells of a row of fields; what is not known (a pointer not yet given) may be any -/
def FR (E : Env) (ob : Nat → Ob) (nx : Nat) : Ty → Cn → List Value → Prop
  | .cons a b, .cons x y, cs => ∃ c d, cs = c ++ d ∧ c.length = a.size ∧ x.size = a.size ∧ CRep E ob nx x false c ∧ FR E ob nx b y d
  | .nil, .nil, cs => cs = []
  | _, _, _ => False

def Ty.row : Ty → Bool
  | .cons _ b => b.row
  | .nil => true
  | _ => false

theorem zero_size : ∀ (u : Ty), (zeroC u).size = u.size
  | .int _ | .bool | .str | .nil | .list _ _ | .ptr => rfl
  | .cons a b => by simp [zeroC, Cn.size, Ty.size, zero_size a, zero_size b]
  | .st a => zero_size a

theorem zeroC_rep' {E : Env} {ob : Nat → Ob} {nx : Nat} : ∀ (u : Ty) (cs : List Value), ZR u cs → CRep E ob nx (zeroC u) false cs
  | .int k, _, h => ⟨by rw [show _ = _ from h]; rfl, trivial, fun _ => h⟩
  | .bool, _, h => ⟨by rw [show _ = _ from h]; rfl, trivial, fun _ => h⟩
  | .str, _, h => ⟨by rw [show _ = _ from h]; rfl, trivial, fun _ => h⟩
  | .nil, _, h => h
  | .list e t, _, h => h
  | .cons a b, _, ⟨c, d, h, h1, h2⟩ => ⟨c, d, h, zeroC_rep' a c h1, zeroC_rep' b d h2⟩
  | .st a, cs, h => zeroC_rep' a cs h
  | .ptr, _, _ => trivial

theorem FR_zero {E : Env} {ob : Nat → Ob} {nx : Nat} : ∀ (u : Ty) (cs : List Value), u.row = true → ZR u cs → FR E ob nx u (zeroC u) cs
  | .cons a b, _, hr, ⟨c, d, h, h1, h2⟩ => ⟨c, d, h, ZR_length a c h1, zero_size a, zeroC_rep' a c h1, FR_zero b d hr h2⟩
  | .nil, _, _, h => h
  | .int _, _, hr, _ | .bool, _, hr, _ | .str, _, hr, _ | .list _ _, _, hr, _ | .st _, _, hr, _ | .ptr, _, hr, _ => by simp [Ty.row] at hr

theorem FR_CRep {E : Env} {ob : Nat → Ob} {nx : Nat} : ∀ (u : Ty) (c : Cn) (cs : List Value), FR E ob nx u c cs → CRep E ob nx c false cs
  | .cons a b, .cons x y, _, ⟨c, d, h, _, _, h1, h2⟩ => ⟨c, d, h, h1, FR_CRep b y d h2⟩
  | .nil, .nil, _, h => h

theorem CRep_size {E : Env} {ob : Nat → Ob} {nx : Nat} : ∀ (c b : Cn), boxable c = some b → ∀ cs, CRep E ob nx b false cs → cs.length = b.size := by
  have ex : ∀ (t : Ty) (x : t.Den) (cs : List Value), t.noPtr = true → CRep E ob nx (expl t x) false cs → cs.length = (expl t x).size := by
    intro t
    induction t with
    | cons a b iha ihb =>
      intro x cs hp h
      simp only [Ty.noPtr, Bool.and_eq_true] at hp
      obtain ⟨c1, c2, h0, h1, h2⟩ := h
      rw [h0, List.length_append, iha _ _ hp.1 h1, ihb _ _ hp.2 h2]; rfl
    | st a ih => intro x cs hp h; exact ih x cs hp h
    | nil => intro x cs hp h; rw [show cs = [] from h]; rfl
    | ptr => intro x cs hp h; simp [Ty.noPtr] at hp
    | int k => intro x cs hp h; exact h.1
    | bool => intro x cs hp h; exact h.1
    | str => intro x cs hp h; exact h.1
    | list e t _ => intro x cs hp h; exact h.1
  intro c
  induction c with
  | ro b d =>
    intro b' hb cs h
    cases b with
    | none =>
      simp only [boxable] at hb
      split at hb
      · rename_i hp
        simp only [Option.some.injEq] at hb; subst hb
        exact ex d.ty d.v cs hp h
      · cases hb
    | some p => simp [boxable] at hb
  | nils e t => intro b hb cs h; simp only [boxable, Option.some.injEq] at hb; subst hb; rw [show cs = _ from h]; rfl
  | h i => intro b hb cs h; simp only [boxable, Option.some.injEq] at hb; subst hb; rw [h.2.2]; rfl
  | p i => intro b hb cs h; simp only [boxable, Option.some.injEq] at hb; subst hb; rw [h.2.2]; rfl
  | rdp b d =>
    intro b' hb cs h
    cases b with
    | none => simp only [boxable, Option.some.injEq] at hb; subst hb; obtain ⟨_, ad, h1, _⟩ := h; rw [h1]; rfl
    | some p => simp [boxable] at hb
  | fn f caps ih => intro b hb cs h; simp only [boxable, Option.some.injEq] at hb; subst hb; obtain ⟨vs, h1, _⟩ := h; rw [h1]; rfl
  | nil => intro b hb cs h; simp only [boxable, Option.some.injEq] at hb; subst hb; rw [show cs = _ from h]; rfl
  | cons a c iha ihc =>
    intro b hb cs h
    simp only [boxable] at hb
    split at hb
    · rename_i x y hx hy
      cases hb
      obtain ⟨c1, c2, h0, h1, h2⟩ := h
      rw [h0, List.length_append, iha x hx c1 h1, ihc y hy c2 h2]; rfl
    · cases hb
  | agg c ih =>
    intro b hb cs h
    simp only [boxable] at hb
    split at hb
    · rename_i x hx
      cases hb
      exact ih x hx cs h
    · cases hb
  | cst v => intro b hb cs h; simp only [boxable, Option.some.injEq] at hb; subst hb; rw [h.2]; rfl
  | addr => intro b hb; simp [boxable] at hb
  | tup => intro b hb; simp [boxable] at hb
  | dead => intro b hb; simp [boxable] at hb

/-- one field set -/
theorem FR_set {E : Env} {ob : Nat → Ob} {nx : Nat} {b : Cn} {vs : List Value} (hv : CRep E ob nx b false vs) (hl : vs.length = b.size) : ∀ (u : Ty) (c d : Cn) (n : Nat) (cs : List Value), FR E ob nx u c cs →
    setNth (fun old => match Nat.beq b.size old.size with | true => some b | false => none) c n = some d →
    ∃ o t, u.at n = some (o, t) ∧ vs.length = t.size ∧ o + t.size ≤ cs.length ∧ FR E ob nx u d (splice cs o vs)
  | .cons a ub, .cons x y, d, 0, cs, ⟨c1, c2, h, h1, h2, h3, h4⟩, hs => by
    simp only [setNth] at hs
    split at hs
    · rename_i z hz
      cases hs
      split at hz
      · rename_i hb
        cases hz
        have hb := Nat.eq_of_beq_eq_true hb
        refine ⟨0, a, rfl, by omega, by rw [h]; simp; omega, vs, c2, ?_, by omega, by omega, hv, h4⟩
        rw [h]
        simp only [splice, List.take_zero, List.nil_append, Nat.zero_add]
        rw [List.drop_append_of_le_length (by omega), List.drop_of_length_le (by omega)]
        simp
      · cases hz
    · cases hs
  | .cons a ub, .cons x y, d, n + 1, cs, ⟨c1, c2, h, h1, h2, h3, h4⟩, hs => by
    simp only [setNth] at hs
    split at hs
    · rename_i z hz
      cases hs
      obtain ⟨o, t, k1, k2, k3, k4⟩ := FR_set hv hl ub y z n c2 h4 hz
      refine ⟨a.size + o, t, by simp [Ty.at, k1], k2, by rw [h]; simp; omega, c1, splice c2 o vs, ?_, h1, h2, h3, k4⟩
      rw [h]
      simp only [splice]
      rw [List.take_append, List.take_of_length_le (by omega), h1, show a.size + o - a.size = o by omega, List.drop_append, List.drop_of_length_le (by omega), h1, show a.size + o + vs.length - a.size = o + vs.length by omega]
      simp
    · cases hs
  | .nil, .nil, d, n, cs, _, hs => by cases n <;> simp [setNth] at hs

theorem places_of {P : Program} : ∀ (fields : List Field) (off : Nat) (fs : Ty), FieldsOk P fields off fs → fs.row = true ∧ ∃ places, fields.mapM (fun f => (P.info? f.type).map fun i => (f.offset, i.size)) = some places ∧
    ∀ n o t, fs.at n = some (o, t) → places[n]? = some (off + o, t.size)
  | [], off, fs, h => by
    cases fs with
    | nil => exact ⟨rfl, [], by simp, fun n o t h => by simp [Ty.at] at h⟩
    | _ => exact h.elim
  | f :: r, off, .cons a b, ⟨h1, ⟨i, h2, h3⟩, _, _, _, h5⟩ => by
    obtain ⟨k0, places, k1, k2⟩ := places_of r (off + a.size) b h5
    refine ⟨k0, (off, a.size) :: places, by simp [List.mapM_cons, h2, h3, h1, k1], fun n o t hn => ?_⟩
    cases n with
    | zero => simp only [Ty.at, Option.some.injEq, Prod.mk.injEq] at hn; obtain ⟨rfl, rfl⟩ := hn; rfl
    | succ n =>
      simp only [Ty.at] at hn
      split at hn
      · rename_i o' t' hb
        simp only [Option.some.injEq, Prod.mk.injEq] at hn
        obtain ⟨rfl, rfl⟩ := hn
        have := k2 n o' t' hb
        simpa [Nat.add_assoc] using this
      · cases hn
  | _ :: _, _, .int _, h | _ :: _, _, .bool, h | _ :: _, _, .str, h | _ :: _, _, .list _ _, h | _ :: _, _, .nil, h | _ :: _, _, .st _, h | _ :: _, _, .ptr, h => h.elim

theorem fill_flds {E : Env} {ob : Nat → Ob} {nx : Nat} {a : Act} {place : Nat → Option (Nat × Nat)} {fs : Ty} (hp : ∀ n o t, fs.at n = some (o, t) → place n = some (o, t.size)) :
    ∀ (ps : List (Nat × Operand)) (l : List (Nat × Cn)) (c d : Cn) (cells : Array Value), PRep E ob nx a ps l → setFlds l c = some d → FR E ob nx fs c cells.toList →
    ∃ cells', Instr.fill place cells (ps.map fun (i, x) => (i, a.eval x)) = some cells' ∧ FR E ob nx fs d cells'.toList
  | [], [], c, d, cells, _, hs, h => by
    simp only [setFlds, Option.some.injEq] at hs
    subst hs
    exact ⟨cells, rfl, h⟩
  | x :: r, y :: l, c, d, cells, ⟨h1, h2, h3⟩, hs, h => by
    simp only [setFlds] at hs
    split at hs
    · rename_i b hb
      split at hs
      · rename_i c' hc'
        obtain ⟨vs, k1, k2, k3, _⟩ := boxable_sound hb h2
        obtain ⟨o, t, m1, m2, m3, m4⟩ := FR_set k1 (CRep_size _ _ hb _ k1) fs c c' y.1 cells.toList h hc'
        obtain ⟨cells', n1, n2⟩ := fill_flds hp r l c' d (splice cells.toList o vs).toArray h3 hs (by simpa using m4)
        refine ⟨cells', ?_, n2⟩
        obtain ⟨xi, xo⟩ := x
        simp only at h1 h2 k2
        subst h1
        simp only [List.map_cons]
        rw [fill_cons (hp _ _ _ m1) (by rw [← m2, ← k2]; simp) (by simpa using m3), k2]
        exact n1
      · cases hs
    · cases hs

section
variable {P : Program} {R : Type} {C : Ctx} {o : Oper} {st : St} {k : St → Option R} {r : R} {E0 E : Env} {a : Act} {K : Act → World → Prop} {Q : Exit → Act → World → Prop} {g : Bool}

theorem build_sound (htt : ∀ t u, C.tt t = some u → TOk P t u) {t : TypeId} {ps : Array (Nat × Operand)} {l : List (Nat × Cn)} {c : Cn} (ho : o.op = .build t ps) (hl : PRep E st.ob st.nx a ps.toList l)
    (hb : buildC C t l = some c) (hk : putK C o c st k = some r) (h : Inv C.N E0 E st a)
    (hK : ∀ st' E' v, k st' = some r → Inv C.N E0 E' st' (a.put o.dst v) → Pur P C g o a v E.w E'.w → K (a.put o.dst v) E'.w) : o.wp P a E.w K Q := by
  unfold buildC at hb
  split at hb
  · rename_i fs hT
    split at hb
    · rename_i c' hc'
      split at hb
      · rename_i hf
        cases hb
        have ht := htt _ _ hT
        have hd := ht.desc
        simp only at hd
        obtain ⟨fields, h1, h2, _⟩ := hd
        obtain ⟨i, z, k1, k2, k3, k4, _⟩ := ht.info
        obtain ⟨hrow, places, p1, p2⟩ := places_of _ _ _ h2
        have k4 : ZR fs z.cells.toList := k4
        obtain ⟨cells', q1, q2⟩ := fill_flds (E := E) (ob := st.ob) (nx := st.nx) (a := a) (place := fun n => places[n]?) (fs := fs) (fun n o t hn => by simpa using p2 n o t hn) ps.toList l _ _ z.cells hl hc' (FR_zero fs _ hrow k4)
        have hbt : P.built t (ps.map fun (i, x) => (i, a.eval x)).toList = some cells' := by
          unfold Program.built
          simp only [k1, h1, k3, p1]
          rw [← q1]
          simp
        have hv : VRep E st.ob st.nx (.agg c') (.agg cells') := ⟨cells'.toList, FR_CRep fs c' _ q2, by simp [mkV, Cn.isAgg]⟩
        exact quiet_sound hk h (fun u _ => by unfold execOp; simp [ho, run_build u t _ cells' hbt]) hv hK
      · cases hb
    · cases hb
  · cases hb
end

end Go.Am
