/- Structs compared. -/
import Derived.Test.YtmdmkakkodeniaaAmOps12
import Derived.Laws.StructEq
set_option linter.unusedVariables false
set_option linter.unusedSimpArgs false
namespace Go.Am

def Ty.isRow : Ty → Bool
  | .nil => true
  | .cons _ _ => true
  | _ => false

/-- a type whose values are compared cell by cell -/
def EqT (P : Program) : Ty → TypeId → List Field → Nat → Prop
  | .int k, t, _, _ => P.underlying t = some (.int k)
  | .bool, t, _, _ => P.underlying t = some .bool
  | .str, t, _, _ => P.underlying t = some .string
  | .st fs, t, _, _ => ∃ fields, P.underlying t = some (.struct fields) ∧ P.stoodInHeld t = false ∧ EqT P fs 0 fields.toList 0 ∧ fs.isRow = true
  | .nil, _, l, _ => l = []
  | .cons a b, _, l, off => ∃ f r, l = f :: r ∧ f.offset = off ∧ f.name ≠ "_" ∧ (∃ i, P.info? f.type = some i ∧ i.size = a.size) ∧ aggOk P f.type a ∧ 0 < a.size ∧ EqT P a f.type [] 0 ∧ EqT P b 0 r (off + a.size) ∧ a.isRow = false ∧ b.isRow = true
  | .list _ _, _, _, _ => False
  | .ptr, _, _, _ => False

section
variable {P : Program} {w : World}

theorem run_part {t : TypeId} {a : Ty} {xs : Array Value} {pre cs post : List Value} {v : Value} (hag : aggOk P t a) (hi : ∃ i, P.info? t = some i ∧ i.size = a.size) (h0 : 0 < a.size)
    (hx : xs.toList = pre ++ (cs ++ post)) (hl : cs.length = a.size) (hm : mkV a.isAgg cs v) (u : World) : (part t xs pre.length).run P u = .ok v u := by
  obtain ⟨i, h1, h2⟩ := hi
  unfold part
  rw [Sem.run_bind, run_isAgg hag]
  simp only [Result.andThen_ok]
  cases ha : a.isAgg with
  | true =>
    rw [ha] at hm
    have hm : v = .agg cs.toArray := hm
    simp only [if_true]
    simp only [sizeOf, typeInfo, Sem.run_bind, run_program, Result.andThen_ok, h1, Sem.run_pure, h2]
    simp only [hm]
    have : xs.extract pre.length (pre.length + a.size) = cs.toArray := by
      apply Array.ext'
      rw [Array.toList_extract, hx]
      simp [List.extract, hl]
    simp [this]
  | false =>
    rw [ha] at hm
    have hm : cs = [v] := hm
    subst hm
    simp only [Bool.false_eq_true, if_false]
    have : xs[pre.length]? = some v := by
      rw [← Array.getElem?_toList, hx]
      simp
    rw [this]
    rfl

theorem equalIn_sound {S : Nat → Prop} (w : World) : ∀ (u : Ty),
    (u.isRow = false → ∀ (d : Nat) (t : TypeId) (x y : u.Den) (cs ds : List Value) (r : Bool) (v v' : Value), u.ht ≤ d → EqT P u t [] 0 → Rd w S u x cs → Rd w S u y ds → eqD u x y = some r → mkV u.isAgg cs v → mkV u.isAgg ds v' →
      (Op.equalIn d t v v').run P w = .ok r w) ∧
    (u.isRow = true → ∀ (d : Nat) (l : List Field) (off : Nat) (x y : u.Den) (xs ys : Array Value) (pre pre' cs ds : List Value) (r : Bool), u.ht ≤ d → EqT P u 0 l off → Rd w S u x cs → Rd w S u y ds → eqD u x y = some r →
      xs.toList = pre ++ cs → ys.toList = pre' ++ ds → pre.length = off → pre'.length = off → (Op.eqFields d xs ys l).run P w = .ok r w) := by
  intro u
  induction u with
  | int k =>
    refine ⟨fun _ d t x y cs ds r v v' hd he h1 h2 hr m1 m2 => ?_, by simp [Ty.isRow]⟩
    have h1 : cs = [.int k x] := h1
    have h2 : ds = [.int k y] := h2
    have m1 : cs = [v] := m1
    have m2 : ds = [v'] := m2
    rw [h1] at m1; rw [h2] at m2
    simp only [List.cons.injEq, and_true] at m1 m2
    subst m1 m2
    obtain ⟨d, rfl⟩ : ∃ e, d = e + 1 := ⟨d - 1, by have : (1 : Nat) ≤ d := hd; omega⟩
    simp only [eqD, Option.some.injEq] at hr
    subst hr
    exact run_equalIn_int w d t k k x y he
  | bool =>
    refine ⟨fun _ d t x y cs ds r v v' hd he h1 h2 hr m1 m2 => ?_, by simp [Ty.isRow]⟩
    have h1 : cs = [.bool x] := h1
    have h2 : ds = [.bool y] := h2
    have m1 : cs = [v] := m1
    have m2 : ds = [v'] := m2
    rw [h1] at m1; rw [h2] at m2
    simp only [List.cons.injEq, and_true] at m1 m2
    subst m1 m2
    obtain ⟨d, rfl⟩ : ∃ e, d = e + 1 := ⟨d - 1, by have : (1 : Nat) ≤ d := hd; omega⟩
    simp only [eqD, Option.some.injEq] at hr
    subst hr
    exact Go.run_equalIn_bool w d t x y he
  | str =>
    refine ⟨fun _ d t x y cs ds r v v' hd he h1 h2 hr m1 m2 => ?_, by simp [Ty.isRow]⟩
    have h1 : cs = [.string x] := h1
    have h2 : ds = [.string y] := h2
    have m1 : cs = [v] := m1
    have m2 : ds = [v'] := m2
    rw [h1] at m1; rw [h2] at m2
    simp only [List.cons.injEq, and_true] at m1 m2
    subst m1 m2
    obtain ⟨d, rfl⟩ : ∃ e, d = e + 1 := ⟨d - 1, by have : (1 : Nat) ≤ d := hd; omega⟩
    simp only [eqD, Option.some.injEq] at hr
    subst hr
    exact run_equalIn_string w d t x y he
  | list e t _ => exact ⟨fun _ d t x y cs ds r v v' hd he => he.elim, by simp [Ty.isRow]⟩
  | ptr => exact ⟨fun _ d t x y cs ds r v v' hd he => he.elim, by simp [Ty.isRow]⟩
  | nil =>
    refine ⟨by simp [Ty.isRow], fun _ d l off x y xs ys pre pre' cs ds r hd he h1 h2 hr _ _ _ _ => ?_⟩
    have he : l = [] := he
    subst he
    simp only [eqD, Option.some.injEq] at hr
    subst hr
    rfl
  | st fs ih =>
    refine ⟨fun _ d t x y cs ds r v v' hd he h1 h2 hr m1 m2 => ?_, by simp [Ty.isRow]⟩
    obtain ⟨fields, he1, he2, he3, hrow⟩ := he
    have m1 : v = .agg cs.toArray := m1
    have m2 : v' = .agg ds.toArray := m2
    subst m1 m2
    obtain ⟨d, rfl⟩ : ∃ e, d = e + 1 := ⟨d - 1, by have : fs.ht + 1 ≤ d := hd; omega⟩
    have hf : P.fieldsOf t = fields := by unfold Program.fieldsOf; rw [he1]
    rw [run_equalIn_agg w d t _ _ (by rw [hf]; exact he1) he2, hf]
    exact ih.2 hrow d fields.toList 0 x y _ _ [] [] cs ds r (by have : fs.ht + 1 ≤ d + 1 := hd; omega) he3 h1 h2 hr (by simp) (by simp) rfl rfl
  | cons a b iha ihb =>
    refine ⟨by simp [Ty.isRow], fun _ d l off x y xs ys pre pre' cs ds r hd he h1 h2 hr q1 q2 q3 q4 => ?_⟩
    obtain ⟨f, l', rfl, e1, e2, e3, e4, e5, e6, e7, hnr1, hbr⟩ := he
    obtain ⟨c1, c2, rfl, h11, h12⟩ := h1
    obtain ⟨d1, d2, rfl, h21, h22⟩ := h2
    simp only [eqD] at hr
    split at hr
    · rename_i p q hp hq
      simp only [Option.some.injEq] at hr
      subst hr
      have l1 := Rd_length _ _ _ h11
      have l2 := Rd_length _ _ _ h21
      have hmk : ∀ (cs : List Value), cs.length = a.size → a.isRow = false → (a.isAgg = false → a.size = 1) → ∃ v, mkV a.isAgg cs v := by
        intro cs hl _ h1
        cases ha : a.isAgg with
        | true => exact ⟨_, rfl⟩
        | false =>
          rw [h1 ha] at hl
          match cs, hl with
          | [v], _ => exact ⟨v, rfl⟩
      have hnr : a.isRow = false ∧ (a.isAgg = false → a.size = 1) := by
        refine ⟨hnr1, fun h => ?_⟩
        cases a <;> first | rfl | (simp [Ty.isAgg] at h; done) | (simp [Ty.isRow] at hnr1; done)
      obtain ⟨v, m1⟩ := hmk c1 l1 hnr.1 hnr.2
      obtain ⟨v', m2⟩ := hmk d1 l2 hnr.1 hnr.2
      have hpart1 := run_part (P := P) (xs := xs) (pre := pre) (post := c2) e4 e3 e5 (by rw [q1]) l1 m1 w
      have hpart2 := run_part (P := P) (xs := ys) (pre := pre') (post := d2) e4 e3 e5 (by rw [q2]) l2 m2 w
      have hd1 : a.ht ≤ d := Nat.le_trans (Nat.le_max_left _ _) hd
      have hd2 : b.ht ≤ d := Nat.le_trans (Nat.le_max_right _ _) hd
      have heq := iha.1 hnr.1 d f.type x.1 y.1 c1 d1 p v v' hd1 e6 h11 h21 hp m1 m2
      have hrest := ihb.2 hbr d l' (off + a.size) x.2 y.2 xs ys (pre ++ c1) (pre' ++ d1) c2 d2 q hd2 e7 h12 h22 hq (by rw [q1]; simp) (by rw [q2]; simp) (by rw [List.length_append, q3, l1]) (by rw [List.length_append, q4, l2])
      simp only [Op.eqFields, e2, ne_eq, not_false_eq_true, if_true, Sem.run_bind]
      rw [e1, ← q3, hpart1]
      simp only [Result.andThen_ok]
      rw [q3, ← q4, hpart2]
      simp only [Result.andThen_ok, heq]
      cases p with
      | true => simp only [Bool.not_true, Bool.false_eq_true, if_false, Bool.true_and]; exact hrest
      | false => simp
    · cases hr
end

section
variable {P : Program} {R : Type} {C : Ctx} {o : Oper} {st : St} {k : St → Option R} {r : R} {E0 E : Env} {a : Act} {K : Act → World → Prop} {Q : Exit → Act → World → Prop} {g : Bool}
theorem eqK_sound (heq : ∀ t u, C.tt t = some u → u.isAgg = true → u.flat = true → EqT P u t [] 0 ∧ P.eqGuardType P.depth t = false) {op : BinOp} {t yt : TypeId} {X Y : Operand} {c d : Cn} {x y : DV} (ho : o.op = .binOp op t X Y yt)
    (hx : flatDV c = some x) (hy : flatDV d = some y) (hk : eqK C o op t x y st k = some r) (h : Inv C.N E0 E st a) (hX : VRep E st.ob st.nx c (a.eval X)) (hY : VRep E st.ob st.nx d (a.eval Y))
    (hK : ∀ st' E' v, k st' = some r → Inv C.N E0 E' st' (a.put o.dst v) → Pur P C g o a v E.w E'.w → K (a.put o.dst v) E'.w) : o.wp P a E.w K Q := by
  have hnd : ∀ {c : Cn} {x : DV}, flatDV c = some x → c ≠ .dead := by intro c x h e; subst e; cases h
  obtain ⟨cs, h1, m1⟩ := VRep_one hX (hnd hx)
  obtain ⟨ds, h2, m2⟩ := VRep_one hY (hnd hy)
  obtain ⟨r1, _, g1⟩ := flatDV_sound c x cs hx h1
  obtain ⟨r2, _, g2⟩ := flatDV_sound d y ds hy h2
  unfold eqK at hk
  split at hk
  · rename_i hchk
    simp only [Bool.and_eq_true] at hchk
    obtain ⟨c1, c2, c3, c4⟩ := hchk
    split at hk
    · rename_i b hb
      have hb := castDV_eq hb
      subst hb
      split at hk
      · rename_i q hq
        have hT : C.tt t = some x.ty := by
          split at c1
          · rename_i u hu; rw [hu, of_decide_eq_true c1]
          · cases c1
        obtain ⟨e1, e2⟩ := heq _ _ hT c2 c3
        rw [← g1, c2] at m1
        rw [← g2] at m2
        have m2 : mkV x.ty.isAgg ds (a.eval Y) := m2
        rw [c2] at m2
        have m1' : a.eval X = .agg cs.toArray := m1
        have m2' : a.eval Y = .agg ds.toArray := m2
        have hrow : x.ty.isRow = false := by
          generalize x.ty = u at c2
          cases u <;> first | rfl | cases c2
        have hrun : ∀ u, (Op.equalIn 10000 t (.agg cs.toArray) (.agg ds.toArray)).run P u = .ok q u := fun u =>
          (equalIn_sound (S := fun _ => False) u x.ty).1 hrow 10000 t x.v b cs ds q _ _ (Nat.le_trans (Nat.le_of_ble_eq_true c4) (by omega)) e1 (Rd_flat _ c3 _ _ r1) (Rd_flat _ c3 _ _ r2) hq (by rw [c2]; rfl) (by rw [c2]; rfl)
        split at hk
        · exact quiet_sound hk h (fun u _ => by unfold execOp; simp [ho, m1', m2', run_eqGuard_agg u _ t X Y _ _ e2, run_eql_struct, hrun]) (VRep_bool ..) hK
        · exact quiet_sound hk h (fun u _ => by unfold execOp; simp [ho, m1', m2', run_eqGuard_agg u _ t X Y _ _ e2, run_neq_struct, hrun]) (VRep_bool ..) hK
        · cases hk
      · cases hk
    · cases hk
  · cases hk
end
end Go.Am
