/- The machine's operations are the model's: what needs no memory, and what makes and reads it. -/
import Derived.Test.YtmdmkakkodeniaaAmInv
set_option linter.unusedVariables false
set_option linter.unusedSimpArgs false
namespace Go.Am

def aggOk (P : Program) (t : TypeId) (a : Ty) : Prop :=
  match P.underlying t with
  | some (.struct _) => a.isAgg = true
  | some (.array _ _) => False
  | some _ => a.isAgg = false
  | none => False

def FieldsOk (P : Program) : List Field → Nat → Ty → Prop
  | [], _, .nil => True
  | f :: fs, off, .cons a b => f.offset = off ∧ (∃ i, P.info? f.type = some i ∧ i.size = a.size) ∧ aggOk P f.type a ∧ 0 < a.size ∧ f.name ≠ "_" ∧ FieldsOk P fs (off + a.size) b
  | _, _, _ => False

/-- the cells of the zero value -/
def ZR : Ty → List Value → Prop
  | .int k, cs => cs = [.int k 0]
  | .bool, cs => cs = [.bool false]
  | .str, cs => cs = [.string ⟨#[]⟩]
  | .list _ _, cs => cs = [.slice none 0 0]
  | .nil, cs => cs = []
  | .cons a b, cs => ∃ c d, cs = c ++ d ∧ ZR a c ∧ ZR b d
  | .st a, cs => ZR a cs
  | .ptr, cs => cs.length = 1

def InfoOk (P : Program) (t : TypeId) (u : Ty) : Prop :=
  ∃ i z, P.info? t = some i ∧ i.size = u.size ∧ i.zero = some z ∧ ZR u z.cells.toList ∧ 0 < u.size ∧ i.bytes ≤ 32768 ∧ mkV u.isAgg z.cells.toList z ∧ (u = .int .u8 → i.bytes = 1)

structure TOk (P : Program) (t : TypeId) (u : Ty) : Prop where
  info : InfoOk P t u
  desc : match u with
    | .int k => P.underlying t = some (.int k)
    | .bool => P.underlying t = some .bool
    | .str => P.underlying t = some .string
    | .list e v => P.underlying t = some (.slice e) ∧ InfoOk P e v ∧ aggOk P e v
    | .st fs => ∃ fields, P.underlying t = some (.struct fields) ∧ FieldsOk P fields.toList 0 fs ∧ P.stoodInHeld t = false
    | .ptr => ∃ d, P.underlying t = some d ∧ (∀ fs, d ≠ .struct fs) ∧ ∀ n e, d ≠ .array n e
    | _ => False

theorem TOk.agg {P : Program} {t : TypeId} {u : Ty} (h : TOk P t u) : aggOk P t u := by
  have hd := h.desc
  unfold aggOk
  cases u <;> simp only at hd <;> first | (rw [hd]; rfl) | (rw [hd.1]; rfl) | exact hd.elim | skip
  · obtain ⟨f, hf, _⟩ := hd; rw [hf]; rfl
  · obtain ⟨d, hf, h1, h2⟩ := hd
    rw [hf]
    cases d <;> first | rfl | (exact absurd rfl (h1 _)) | (exact absurd rfl (h2 _ _))

/-- what an operation does to the world -/
structure Pur (P : Program) (C : Ctx) (g : Bool) (o : Oper) (a : Act) (v : Value) (w w' : World) : Prop where
  grew : g = true → Grew w w'
  run : still C o = true → w' = w ∧ ∀ u, (isLd o = false ∨ u = w) → (execOp a.eval o).run P u = .ok (.value v) u

theorem Pur.loud {P : Program} {C : Ctx} {g : Bool} {o : Oper} {a : Act} {v : Value} {w w' : World} (h : still C o = false) (k : g = true → Grew w w') : Pur P C g o a v w w' := ⟨k, fun e => by rw [h] at e; cases e⟩

/-! ### one operation that answers a value -/
section
variable {P : Program} {o : Oper} {a : Act} {w w' : World} {K : Act → World → Prop} {Q : Exit → Act → World → Prop}
theorem wp_value {v : Value} (h : (execOp a.eval o).run P w = .ok (.value v) w') (hK : K (a.put o.dst v) w') : o.wp P a w K Q := by
  unfold Oper.wp; rw [h]; exact hK
theorem wp_skip' (h : (execOp a.eval o).run P w = .ok .skip w') (hK : K (a.put o.dst undef) w') : o.wp P a w K Q := by
  unfold Oper.wp; rw [h]; exact hK
end

theorem putK_sound {R : Type} {C : Ctx} {o : Oper} {c : Cn} {st : St} {k : St → Option R} {r : R} {E0 E : Env} {a : Act} {v : Value} {G : Act → Prop}
    (hk : putK C o c st k = some r) (h : Inv C.N E0 E st a) (hv : VRep E st.ob st.nx c v)
    (hK : ∀ st', k st' = some r → Inv C.N E0 E st' (a.put o.dst v) → G (a.put o.dst v)) : G (a.put o.dst v) := by
  unfold putK at hk
  cases hd : o.dst with
  | none =>
    rw [hd] at hk hK
    exact hK st hk h
  | some d =>
    rw [hd] at hk hK
    cases hb : Nat.blt d C.N with
    | true =>
      simp only [hb] at hk
      exact hK _ hk (h.put (Nat.le_of_ble_eq_true hb) hv)
    | false => simp [hb] at hk

theorem cond_some {R : Type} {b : Bool} {x : Option R} {r : R} (h : cond b x none = some r) : b = true ∧ x = some r := by
  cases b with
  | true => exact ⟨rfl, h⟩
  | false => cases h

/-! ### operands -/
theorem VRep_mk {E : Env} {ob : Nat → Ob} {nx : Nat} {c : Cn} {v : Value} (cs : List Value) (h : CRep E ob nx c false cs) (hm : mkV c.isAgg cs v) : VRep E ob nx c v := by
  cases c with
  | dead => trivial
  | _ => exact ⟨cs, h, hm⟩

theorem VRep_ro {E : Env} {ob : Nat → Ob} {nx : Nat} {d : DV} {cs : List Value} {v : Value} (h : Rd E.w E.Z d.ty d.v cs) (hm : mkV d.ty.isAgg cs v) : VRep E ob nx (.ro none d) v :=
  ⟨cs, ⟨Rd_length _ _ _ h, trivial, fun _ => h⟩, hm⟩

theorem VRep_int (E : Env) (ob : Nat → Ob) (nx : Nat) (k : IntKind) (n : Int) : VRep E ob nx (.ro none ⟨.int k, n⟩) (.int k n) := VRep_ro (cs := [.int k n]) rfl rfl
theorem VRep_bool (E : Env) (ob : Nat → Ob) (nx : Nat) (b : Bool) : VRep E ob nx (.ro none ⟨.bool, b⟩) (.bool b) := VRep_ro (cs := [.bool b]) rfl rfl
theorem VRep_str (E : Env) (ob : Nat → Ob) (nx : Nat) (s : ByteArray) : VRep E ob nx (.ro none ⟨.str, s⟩) (.string s) := VRep_ro (cs := [.string s]) rfl rfl

theorem const_sound {tt : TypeId → Option Ty} {t : TypeId} {v : Value} {c : Cn} (h : constCn tt t v = some c) (E : Env) (ob : Nat → Ob) (nx : Nat) : VRep E ob nx c v := by
  unfold constCn at h
  split at h
  · cases h; exact VRep_int ..
  · cases h; exact VRep_bool ..
  · cases h; exact VRep_str ..
  · split at h
    · cases h; exact ⟨_, rfl, rfl⟩
    · cases h
  · cases h; exact ⟨_, ⟨rfl, rfl⟩, rfl⟩
  · cases h

theorem ev_sound {C : Ctx} {st : St} {t : TypeId} {x : Operand} {c : Cn} {E : Env} {a : Act} (h : ev C st t x = some c) (hr : Rep E st a.tmps) : VRep E st.ob st.nx c (a.eval x) := by
  unfold ev at h
  split at h
  · rename_i s
    have := hr.sl s
    split at h
    · cases h
    · rename_i hs
      cases h
      exact this
  · exact const_sound h _ _ _
  · cases h
    exact ⟨[.func (.func _) #[] #[]], ⟨[], rfl, rfl⟩, rfl⟩
  · cases h

/-- a known payload's value -/
theorem VRep_ro_inv {E : Env} {ob : Nat → Ob} {nx : Nat} {d : DV} {v : Value} (h : VRep E ob nx (.ro none d) v) : ∃ cs, Rd E.w E.Z d.ty d.v cs ∧ mkV d.ty.isAgg cs v := by
  obtain ⟨cs, h1, h2⟩ := h
  exact ⟨cs, h1.2.2 trivial, h2⟩
theorem VRep_int_inv {E : Env} {ob : Nat → Ob} {nx : Nat} {k : IntKind} {n : Int} {v : Value} (h : VRep E ob nx (.ro none ⟨.int k, n⟩) v) : v = .int k n := by
  obtain ⟨cs, h1, h2⟩ := VRep_ro_inv h
  have h1 : cs = [.int k n] := h1
  have h2 : cs = [v] := h2
  rw [h1] at h2
  simpa using h2.symm
theorem VRep_bool_inv {E : Env} {ob : Nat → Ob} {nx : Nat} {b : Bool} {v : Value} (h : VRep E ob nx (.ro none ⟨.bool, b⟩) v) : v = .bool b := by
  obtain ⟨cs, h1, h2⟩ := VRep_ro_inv h
  have h1 : cs = [.bool b] := h1
  have h2 : cs = [v] := h2
  rw [h1] at h2
  simpa using h2.symm
theorem VRep_str_inv {E : Env} {ob : Nat → Ob} {nx : Nat} {s : ByteArray} {v : Value} (h : VRep E ob nx (.ro none ⟨.str, s⟩) v) : v = .string s := by
  obtain ⟨cs, h1, h2⟩ := VRep_ro_inv h
  have h1 : cs = [.string s] := h1
  have h2 : cs = [v] := h2
  rw [h1] at h2
  simpa using h2.symm

theorem evB_sound {C : Ctx} {st : St} {x : Operand} {b : Bool} {E : Env} {a : Act} (h : evB C st x = some b) (hr : Rep E st a.tmps) : a.eval x = .bool b := by
  unfold evB at h
  split at h
  · rename_i e
    cases h
    exact VRep_bool_inv (ev_sound e hr)
  · cases h

/-! ### arithmetic -/
section
variable {P : Program} {w : World}
theorem run_arith {t : TypeId} {op : BinOp} {k : IntKind} {x y r : Int} (h : arithI op k x y = some r) : (binOp op t (.int k x) (.int k y)).run P w = .ok (.int k r) w := by
  cases op <;> simp only [arithI] at h <;> first | (cases h; done) | skip
  all_goals
    obtain rfl := Option.some.inj h
    simp [binOp, Op.intArith, Op.intBits, bits]

theorem run_cmpI {t : TypeId} {op : BinOp} {k : IntKind} {x y : Int} {r : Bool} (h : cmpI op x y = some r) : (binOp op t (.int k x) (.int k y)).run P w = .ok (.bool r) w := by
  cases op <;> simp only [cmpI] at h <;> first | (cases h; done) | skip
  all_goals
    obtain rfl := Option.some.inj h
    simp [binOp, Op.intCmp]

theorem run_cmpS {t : TypeId} {op : BinOp} {x y : ByteArray} {r : Bool} (h : cmpS op x y = some r) : (binOp op t (.string x) (.string y)).run P w = .ok (.bool r) w := by
  cases op <;> simp only [cmpS] at h <;> first | (cases h; done) | skip
  all_goals
    obtain rfl := Option.some.inj h
    simp [binOp, Op.stringOp, eqS, ltS]

theorem run_shift {t : TypeId} {k k' : IntKind} {x y : Int} (h : ¬ y < 0) : (binOp .shl t (.int k x) (.int k' y)).run P w = .ok (.int k (shlI k x y)) w ∧
    (binOp .shr t (.int k x) (.int k' y)).run P w = .ok (.int k (shrI k x y)) w := by
  simp [binOp, Op.shift, h, shlI, shrI]

theorem run_div {t : TypeId} {k : IntKind} {x y : Int} (h : ¬ y = 0) : (binOp .quo t (.int k x) (.int k y)).run P w = .ok (.int k (k.wrap (Int.tdiv x y))) w ∧
    (binOp .rem t (.int k x) (.int k y)).run P w = .ok (.int k (Int.tmod x y)) w := by
  simp [binOp, Op.intDiv, h]

theorem run_addS {t : TypeId} {x y : ByteArray} (h : lim (x.size + y.size) = true) : (binOp .add t (.string x) (.string y)).run P w = .ok (.string (x ++ y)) w := by
  have : x.size + y.size ≤ 4294967296 := Nat.le_of_ble_eq_true h
  simp [binOp, Op.stringOp]
  have : IntKind.i64.max = 9223372036854775807 := by decide
  omega

theorem run_equalIn_bool (d : Nat) {t : TypeId} (hu : P.underlying t = some .bool) (x y : Bool) : (Op.equalIn (d + 1) t (.bool x) (.bool y)).run P w = .ok (x == y) w := by
  unfold Op.equalIn
  simp [run_underlying hu]

theorem run_eql_bool {t : TypeId} (hu : P.underlying t = some .bool) (x y : Bool) : (binOp .eql t (.bool x) (.bool y)).run P w = .ok (.bool (x == y)) w ∧
    (binOp .neq t (.bool x) (.bool y)).run P w = .ok (.bool (!(x == y))) w := by
  have h : (Op.equal t (.bool x) (.bool y)).run P w = .ok (x == y) w := run_equalIn_bool 9999 hu x y
  constructor
  · show ((do pure (.bool (← Op.equal t (.bool x) (.bool y))) : Sem Value)).run P w = _
    rw [Sem.run_bind, h]; rfl
  · show ((do pure (.bool (!(← Op.equal t (.bool x) (.bool y)))) : Sem Value)).run P w = _
    rw [Sem.run_bind, h]; rfl

theorem run_eqGuard {op : BinOp} {t : TypeId} {x y : Operand} {a b : Value} (h : (∃ k n, a = .int k n) ∨ (∃ s, a = .string s) ∨ (∃ s, a = .bool s)) : (eqGuard op t x y a b).run P w = .ok () w := by
  unfold eqGuard
  rcases h with ⟨k, n, rfl⟩ | ⟨s, rfl⟩ | ⟨s, rfl⟩ <;> cases op <;> simp
end

section
variable {P : Program} {R : Type} {C : Ctx} {o : Oper} {st : St} {k : St → Option R} {r : R} {E0 E : Env} {a : Act} {K : Act → World → Prop} {Q : Exit → Act → World → Prop} {g : Bool}

/-- an operation that answers a value, and leaves the world alone -/
theorem quiet_sound {c : Cn} {v : Value} (hk : putK C o c st k = some r) (h : Inv C.N E0 E st a) (hrun : ∀ u, (isLd o = false ∨ u = E.w) → (execOp a.eval o).run P u = .ok (.value v) u)
    (hv : VRep E st.ob st.nx c v) (hK : ∀ st' E' v, k st' = some r → Inv C.N E0 E' st' (a.put o.dst v) → Pur P C g o a v E.w E'.w → K (a.put o.dst v) E'.w) : o.wp P a E.w K Q :=
  wp_value (hrun E.w (.inr rfl)) (putK_sound (G := fun a' => K a' E.w) hk h hv fun st' hk' hi => hK st' E _ hk' hi ⟨fun _ => Grew.refl _, fun _ => ⟨rfl, hrun⟩⟩)

theorem binK_sound (htt : ∀ t u, C.tt t = some u → TOk P t u) {op : BinOp} {t yt : TypeId} {X Y : Operand} {x y : Cn} (ho : o.op = .binOp op t X Y yt) (hk : binK C o op t x y st k = some r) (h : Inv C.N E0 E st a)
    (hx : VRep E st.ob st.nx x (a.eval X)) (hy : VRep E st.ob st.nx y (a.eval Y))
    (hK : ∀ st' E' v, k st' = some r → Inv C.N E0 E' st' (a.put o.dst v) → Pur P C g o a v E.w E'.w → K (a.put o.dst v) E'.w) : o.wp P a E.w K Q := by
  have ex0 : ∀ u v w', (eqGuard op t X Y (a.eval X) (a.eval Y)).run P u = .ok () u → (binOp op t (a.eval X) (a.eval Y)).run P u = .ok v w' → (execOp a.eval o).run P u = .ok (.value v) w' := by
    intro u v w' h1 h2
    unfold execOp
    simp [ho, h1, h2]
  unfold binK at hk
  split at hk
  · have e1 := VRep_int_inv hx
    have e2 := VRep_int_inv hy
    have hg := fun u => run_eqGuard (P := P) (w := u) (op := op) (t := t) (x := X) (y := Y) (a := a.eval X) (b := a.eval Y) (.inl ⟨_, _, e1⟩)
    have ex := fun u v h2 => ex0 u v u (hg u) h2
    rw [e1, e2] at ex
    split at hk
    · obtain ⟨hb, hk⟩ := cond_some hk
      exact quiet_sound hk h (fun u _ => ex u _ (run_shift (Int.not_lt.mpr (of_decide_eq_true hb))).1) (VRep_int ..) hK
    · obtain ⟨hb, hk⟩ := cond_some hk
      exact quiet_sound hk h (fun u _ => ex u _ (run_shift (Int.not_lt.mpr (of_decide_eq_true hb))).2) (VRep_int ..) hK
    · split at hk
      · rename_i hkk
        obtain rfl := of_decide_eq_true hkk
        obtain ⟨hb, hk⟩ := cond_some hk
        exact quiet_sound hk h (fun u _ => ex u _ (run_div (of_decide_eq_true hb)).1) (VRep_int ..) hK
      · cases hk
    · split at hk
      · rename_i hkk
        obtain rfl := of_decide_eq_true hkk
        obtain ⟨hb, hk⟩ := cond_some hk
        exact quiet_sound hk h (fun u _ => ex u _ (run_div (of_decide_eq_true hb)).2) (VRep_int ..) hK
      · cases hk
    · split at hk
      · rename_i hkk
        obtain rfl := of_decide_eq_true hkk
        split at hk
        · rename_i e
          exact quiet_sound hk h (fun u _ => ex u _ (run_arith e)) (VRep_int ..) hK
        · split at hk
          · rename_i e
            exact quiet_sound hk h (fun u _ => ex u _ (run_cmpI e)) (VRep_bool ..) hK
          · cases hk
      · cases hk
  · have e1 := VRep_str_inv hx
    have e2 := VRep_str_inv hy
    have hg := fun u => run_eqGuard (P := P) (w := u) (op := op) (t := t) (x := X) (y := Y) (a := a.eval X) (b := a.eval Y) (.inr (.inl ⟨_, e1⟩))
    have ex := fun u v h2 => ex0 u v u (hg u) h2
    rw [e1, e2] at ex
    split at hk
    · rename_i aa bb _
      cases hl : lim ((aa : ByteArray).size + (bb : ByteArray).size) with
      | false => simp [hl] at hk
      | true =>
        simp only [hl, cond_true] at hk
        exact quiet_sound hk h (fun u _ => ex u _ (run_addS hl)) (VRep_str ..) hK
    · split at hk
      · rename_i e
        exact quiet_sound hk h (fun u _ => ex u _ (run_cmpS e)) (VRep_bool ..) hK
      · cases hk
  · have e1 := VRep_bool_inv hx
    have e2 := VRep_bool_inv hy
    have hg := fun u => run_eqGuard (P := P) (w := u) (op := op) (t := t) (x := X) (y := Y) (a := a.eval X) (b := a.eval Y) (.inr (.inr ⟨_, e1⟩))
    have ex := fun u v h2 => ex0 u v u (hg u) h2
    rw [e1, e2] at ex
    split at hk
    · rename_i _ _ hT
      have hu := (htt _ _ hT).desc
      simp only at hu
      split at hk
      · exact quiet_sound hk h (fun u _ => ex u _ (run_eql_bool hu _ _).1) (VRep_bool ..) hK
      · exact quiet_sound hk h (fun u _ => ex u _ (run_eql_bool hu _ _).2) (VRep_bool ..) hK
      · cases hk
    · cases hk
  · cases hk
end

end Go.Am
