/- The table of types, checked by counting. -/
import Derived.Test.YtmdmkakkodeniaaAmRun
set_option linter.unusedVariables false
set_option linter.unusedSimpArgs false
namespace Go.Am

/-- the zero cells of a type, taken off a row -/
def zrB : Ty → List Value → Option (List Value)
  | .int k, .int k' n :: r => match decide (k = k') && decide (n = 0) with
    | true => some r
    | false => none
  | .bool, .bool false :: r => some r
  | .str, .string ⟨⟨[]⟩⟩ :: r => some r
  | .list _ _, .slice none 0 0 :: r => some r
  | .nil, r => some r
  | .cons a b, r => match zrB a r with
    | some r1 => zrB b r1
    | none => none
  | .st a, r => zrB a r
  | .ptr, _ :: r => some r
  | _, _ => none

theorem zrB_sound : ∀ (u : Ty) (l r : List Value), zrB u l = some r → ∃ c, l = c ++ r ∧ ZR u c := by
  intro u
  induction u with
  | int k =>
    intro l r h
    unfold zrB at h
    split at h <;> try (cases h; done)
    all_goals first | (rename_i heq; cases heq) | skip
    · split at h
      · rename_i hd
        cases h
        simp only [Bool.and_eq_true, decide_eq_true_eq] at hd
        obtain ⟨rfl, rfl⟩ := hd
        exact ⟨_, rfl, rfl⟩
      · cases h
  | bool =>
    intro l r h
    unfold zrB at h
    split at h <;> try (cases h; done)
    all_goals first | (rename_i heq; cases heq; done) | skip
    all_goals (cases h; exact ⟨[_], rfl, rfl⟩)
  | str =>
    intro l r h
    unfold zrB at h
    split at h <;> try (cases h; done)
    all_goals first | (rename_i heq; cases heq; done) | skip
    all_goals (cases h; exact ⟨[_], rfl, rfl⟩)
  | list e t _ =>
    intro l r h
    unfold zrB at h
    split at h <;> try (cases h; done)
    all_goals first | (rename_i heq; cases heq; done) | skip
    all_goals (cases h; exact ⟨[_], rfl, rfl⟩)
  | nil =>
    intro l r h
    unfold zrB at h
    cases h
    exact ⟨[], rfl, rfl⟩
  | cons a b iha ihb =>
    intro l r h
    simp only [zrB] at h
    split at h
    · rename_i r1 h1
      obtain ⟨c, rfl, hc⟩ := iha _ _ h1
      obtain ⟨d, rfl, hd⟩ := ihb _ _ h
      exact ⟨c ++ d, by simp, c, d, rfl, hc, hd⟩
    · cases h
  | st a ih =>
    intro l r h
    simp only [zrB] at h
    exact ih l r h
  | ptr =>
    intro l r h
    unfold zrB at h
    split at h <;> try (cases h; done)
    all_goals first | (rename_i heq; cases heq; done) | skip
    all_goals (cases h; exact ⟨[_], rfl, rfl⟩)

def mkB : Bool → Value → Bool
  | true, .agg _ => true
  | true, _ => false
  | false, .agg _ => false
  | false, _ => true

def nilB {α : Type} : Option (List α) → Bool
  | some [] => true
  | _ => false

def infoB (P : Program) (t : TypeId) (u : Ty) : Bool :=
  match P.info? t with
  | some i => Nat.beq i.size u.size && (match i.zero with
    | some z => nilB (zrB u z.cells.toList) && (mkB u.isAgg z && (Nat.blt 0 u.size && (Nat.ble i.bytes 32768 && (match decide (u = .int .u8) with
      | true => Nat.beq i.bytes 1
      | false => true))))
    | none => false)
  | none => false

theorem infoB_sound {P : Program} {t : TypeId} {u : Ty} (h : infoB P t u = true) : InfoOk P t u := by
  unfold infoB at h
  split at h
  · rename_i i hi
    rw [Bool.and_eq_true] at h
    obtain ⟨h1, h2⟩ := h
    split at h2
    · rename_i z hz
      simp only [Bool.and_eq_true] at h2
      obtain ⟨h3, h4, h5, h6, h7⟩ := h2
      refine ⟨i, z, hi, Nat.eq_of_beq_eq_true h1, hz, ?_, Nat.le_of_ble_eq_true h5, Nat.le_of_ble_eq_true h6, ?_, ?_⟩
      · unfold nilB at h3
        split at h3
        · rename_i hq
          obtain ⟨c, hc, hr⟩ := zrB_sound _ _ _ hq
          rw [hc, List.append_nil]
          exact hr
        · cases h3
      · cases ha : u.isAgg with
        | true =>
          rw [ha] at h4
          cases z <;> simp only [mkB] at h4 <;> first | (cases h4; done) | skip
          simp [mkV, Value.cells]
        | false =>
          rw [ha] at h4
          cases z <;> simp only [mkB] at h4 <;> first | (cases h4; done) | skip
          all_goals simp [mkV, Value.cells]
      · intro hu
        subst hu
        exact Nat.eq_of_beq_eq_true (by simpa using h7)
    · cases h2
  · cases h

def aggB (P : Program) (t : TypeId) (a : Ty) : Bool :=
  match P.underlying t with
  | some (.struct _) => a.isAgg
  | some (.array _ _) => false
  | some _ => !a.isAgg
  | none => false

theorem aggB_sound {P : Program} {t : TypeId} {a : Ty} (h : aggB P t a = true) : aggOk P t a := by
  unfold aggB at h
  unfold aggOk
  split at h
  · rename_i hu; rw [hu]; exact h
  · cases h
  · rename_i d h1 h2 hu
    rw [hu]
    have h : a.isAgg = false := by simpa using h
    cases d <;> first | exact h | (exact absurd rfl (h1 _)) | (exact absurd rfl (h2 _ _))
  · cases h

def fieldsB (P : Program) : List Field → Nat → Ty → Bool
  | [], _, .nil => true
  | f :: fs, off, .cons a b => Nat.beq f.offset off && ((match P.info? f.type with
    | some i => Nat.beq i.size a.size
    | none => false) && (aggB P f.type a && (Nat.blt 0 a.size && (f.name != "_" && fieldsB P fs (off + a.size) b))))
  | _, _, _ => false

theorem fieldsB_sound {P : Program} : ∀ (l : List Field) (off : Nat) (u : Ty), fieldsB P l off u = true → FieldsOk P l off u := by
  intro l
  induction l with
  | nil => intro off u h; cases u <;> first | trivial | (simp [fieldsB] at h; done)
  | cons f fs ih =>
    intro off u h
    cases u <;> simp only [fieldsB] at h <;> first | (cases h; done) | skip
    simp only [Bool.and_eq_true] at h
    obtain ⟨h1, h2, h3, h4, h5, h6⟩ := h
    refine ⟨Nat.eq_of_beq_eq_true h1, ?_, aggB_sound h3, Nat.le_of_ble_eq_true h4, by simpa using h5, ih _ _ h6⟩
    split at h2
    · rename_i i hi; exact ⟨i, hi, Nat.eq_of_beq_eq_true h2⟩
    · cases h2

def tokB (P : Program) (t : TypeId) (u : Ty) : Bool :=
  infoB P t u && (match u, P.underlying t with
    | .int k, some (.int k') => decide (k = k')
    | .bool, some .bool => true
    | .str, some .string => true
    | .list e v, some (.slice e') => Nat.beq e e' && (infoB P e v && aggB P e v)
    | .st fs, some (.struct fields) => fieldsB P fields.toList 0 fs && !P.stoodInHeld t
    | .ptr, some (.struct _) => false
    | .ptr, some (.array _ _) => false
    | .ptr, some _ => true
    | _, _ => false)

theorem tokB_sound {P : Program} {t : TypeId} {u : Ty} (h : tokB P t u = true) : TOk P t u := by
  unfold tokB at h
  rw [Bool.and_eq_true] at h
  obtain ⟨h0, h⟩ := h
  refine ⟨infoB_sound h0, ?_⟩
  cases hu : P.underlying t with
  | none => rw [hu] at h; cases u <;> simp at h
  | some d =>
    rw [hu] at h
    cases u with
    | int k => cases d <;> simp only at h <;> first | (cases h; done) | (obtain rfl := of_decide_eq_true h; rfl)
    | bool => cases d <;> simp only at h <;> first | (cases h; done) | rfl
    | str => cases d <;> simp only at h <;> first | (cases h; done) | rfl
    | list e v =>
      cases d <;> simp only at h <;> first | (cases h; done) | skip
      simp only [Bool.and_eq_true] at h
      obtain rfl := Nat.eq_of_beq_eq_true h.1
      exact ⟨rfl, infoB_sound h.2.1, aggB_sound h.2.2⟩
    | st fs =>
      cases d <;> simp only at h <;> first | (cases h; done) | skip
      simp only [Bool.and_eq_true, Bool.not_eq_true'] at h
      exact ⟨_, rfl, fieldsB_sound _ _ _ h.1, h.2⟩
    | ptr =>
      refine ⟨d, rfl, fun fs e => ?_, fun n e he => ?_⟩
      · subst e; simp at h
      · subst he; simp at h
    | nil => cases d <;> simp at h
    | cons a b => cases d <;> simp at h

/-- types compared cell by cell -/
def eqB (P : Program) : Ty → TypeId → List Field → Nat → Bool
  | .int k, t, _, _ => match P.underlying t with
    | some (.int k') => decide (k = k')
    | _ => false
  | .bool, t, _, _ => match P.underlying t with
    | some .bool => true
    | _ => false
  | .str, t, _, _ => match P.underlying t with
    | some .string => true
    | _ => false
  | .st fs, t, _, _ => match P.underlying t with
    | some (.struct fields) => !P.stoodInHeld t && (eqB P fs 0 fields.toList 0 && fs.isRow)
    | _ => false
  | .nil, _, l, _ => l.isEmpty
  | .cons a b, _, l, off => match l with
    | f :: r => Nat.beq f.offset off && (f.name != "_" && ((match P.info? f.type with
      | some i => Nat.beq i.size a.size
      | none => false) && (aggB P f.type a && (Nat.blt 0 a.size && (eqB P a f.type [] 0 && (eqB P b 0 r (off + a.size) && (!a.isRow && b.isRow)))))))
    | [] => false
  | .list _ _, _, _, _ => false
  | .ptr, _, _, _ => false

theorem eqB_sound {P : Program} : ∀ (u : Ty) (t : TypeId) (l : List Field) (off : Nat), eqB P u t l off = true → EqT P u t l off := by
  intro u
  induction u with
  | int k => intro t l off h; simp only [eqB] at h; split at h <;> first | (rename_i hu; rw [show k = _ from of_decide_eq_true h]; exact hu) | cases h
  | bool => intro t l off h; simp only [eqB] at h; split at h <;> first | (rename_i hu; exact hu) | cases h
  | str => intro t l off h; simp only [eqB] at h; split at h <;> first | (rename_i hu; exact hu) | cases h
  | list e t _ => intro t l off h; cases h
  | ptr => intro t l off h; cases h
  | nil => intro t l off h; simp only [eqB] at h; exact List.isEmpty_iff.1 h
  | st fs ih =>
    intro t l off h
    simp only [eqB] at h
    split at h
    · rename_i hu
      simp only [Bool.and_eq_true, Bool.not_eq_true'] at h
      exact ⟨_, hu, h.1, ih _ _ _ h.2.1, h.2.2⟩
    · cases h
  | cons a b iha ihb =>
    intro t l off h
    simp only [eqB] at h
    split at h
    · simp only [Bool.and_eq_true, Bool.not_eq_true'] at h
      obtain ⟨h1, h2, h3, h4, h5, h6, h7, h8, h9⟩ := h
      refine ⟨_, _, rfl, Nat.eq_of_beq_eq_true h1, by simpa using h2, ?_, aggB_sound h4, Nat.le_of_ble_eq_true h5, iha _ _ _ h6, ihb _ _ _ h7, h8, h9⟩
      split at h3
      · rename_i i hi; exact ⟨i, hi, Nat.eq_of_beq_eq_true h3⟩
      · cases h3
    · cases h

/-- a table of types -/
def tyAt : List (Nat × Ty) → Nat → Option Ty
  | [], _ => none
  | x :: r, n => match Nat.beq x.1 n with
    | true => some x.2
    | false => tyAt r n

theorem tyAt_mem {n : Nat} {u : Ty} : ∀ {l : List (Nat × Ty)}, tyAt l n = some u → (n, u) ∈ l
  | [], h => by cases h
  | x :: r, h => by
    simp only [tyAt] at h
    split at h
    · rename_i e
      cases h
      obtain ⟨a, b⟩ := x
      have := Nat.eq_of_beq_eq_true e
      simp only at this
      subst this
      exact List.mem_cons_self ..
    · exact List.mem_cons_of_mem _ (tyAt_mem h)

def tableB (P : Program) (l : List (Nat × Ty)) : Bool :=
  l.all fun x => tokB P x.1 x.2 && (match x.2.isAgg && x.2.flat with
    | true => eqB P x.2 x.1 [] 0 && !P.eqGuardType P.depth x.1
    | false => true)

theorem table_tt {P : Program} {l : List (Nat × Ty)} (h : tableB P l = true) : ∀ t u, tyAt l t = some u → TOk P t u := by
  intro t u hu
  have := List.all_eq_true.1 h _ (tyAt_mem hu)
  rw [Bool.and_eq_true] at this
  exact tokB_sound this.1

theorem table_eq {P : Program} {l : List (Nat × Ty)} (h : tableB P l = true) : ∀ t u, tyAt l t = some u → u.isAgg = true → u.flat = true → EqT P u t [] 0 ∧ P.eqGuardType P.depth t = false := by
  intro t u hu h1 h2
  have := List.all_eq_true.1 h _ (tyAt_mem hu)
  simp only [h1, h2, Bool.and_self, Bool.and_eq_true, Bool.not_eq_true'] at this
  exact ⟨eqB_sound _ _ _ _ this.2.1, this.2.2⟩

end Go.Am
