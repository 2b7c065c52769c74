/- Quiet operations: lengths, parts of strings and rows, conversions, reading. -/
import Derived.Test.YtmdmkakkodeniaaAmOps1
set_option linter.unusedVariables false
set_option linter.unusedSimpArgs false
namespace Go.Am

theorem isT_eq {tt : TypeId → Option Ty} {t : TypeId} {u : Ty} (h : isT tt t u = true) : tt t = some u := by
  unfold isT at h
  split at h
  · rename_i v hv
    rw [hv, of_decide_eq_true h]
  · cases h

theorem asL_sound {E : Env} {ob : Nat → Ob} {nx : Nat} {c : Cn} {v : LV} {u : Value} (h : asL ob c = some v) (hob : ∀ i, ObOk E ob nx i (ob i)) (hv : VRep E ob nx c u) :
    Rd E.w (src E v.b) (.list v.e v.t) v.xs [u] ∧ srcLt ob nx v.b ∧ live ob v.b := by
  unfold asL at h
  split at h
  · rename_i b e t xs
    obtain ⟨cs, ⟨h1, h2, h3⟩, h4⟩ := hv
    have h4 : cs = [u] := h4
    subst h4
    split at h
    · cases h
      exact ⟨h3 trivial, trivial, trivial⟩
    · rename_i i ver
      split at h
      · rename_i ho
        split at h
        · rename_i hb
          cases h
          have hl : live ob (some (i, ver)) := by
            simp only [live, fresh, ho]
            exact Nat.eq_of_beq_eq_true hb
          exact ⟨h3 hl, h2, hl⟩
        · cases h
      · cases h
  · cases h
    obtain ⟨cs, h1, h4⟩ := hv
    have h4 : cs = [u] := h4
    have h1 : cs = [.slice none 0 0] := h1
    subst h4
    refine ⟨⟨none, 0, 0, [], h1, rfl, Nat.le_refl _, rfl, by simp, by intro j u hu; simp at hu, by simp, fun _ => rfl⟩, trivial, trivial⟩
  · rename_i i
    obtain ⟨cs, h1, h4⟩ := hv
    have h4 : cs = [u] := h4
    have h1 : i < nx ∧ (E.rho i).oneCell' = true ∧ cs = [E.rho i] := h1
    subst h4
    have hu : u = E.rho i := by simpa using h1.2.2
    subst hu
    have hi := hob i
    split at h
    · rename_i fz ver e t xs ho
      rw [ho] at hi
      split at h
      · cases h
        exact ⟨hi.1, trivial, trivial⟩
      · cases h
        refine ⟨Rd_mono (fun b hb => .inl hb) (fun _ _ => rfl) _ _ _ (Ow_Rd _ _ _ _ hi), ⟨h1.1, by rw [ho]; exact Nat.le_refl _⟩, by simp only [live, fresh, ho]⟩
    · cases h
  · cases h

theorem btS_spec {s : ByteArray} {k y : Int} (h : btS s k = some y) : 0 ≤ k ∧ ∃ b, s[k.toNat]? = some b ∧ y = (b.toNat : Int) := by
  unfold btS at h
  split at h
  · rename_i n
    split at h
    · rename_i b hb
      obtain rfl := Option.some.inj h
      have hlt : n < s.size := by
        rcases Nat.lt_or_ge n s.size with h1 | h1
        · exact h1
        · rw [List.getElem?_eq_none (by simpa using h1)] at hb; cases hb
      refine ⟨by simp, b, ?_, rfl⟩
      show s[n]? = some b
      rw [getElem?_pos s n hlt]
      rw [List.getElem?_eq_getElem (by simpa using hlt)] at hb
      exact hb
    · cases h
  · cases h

section
variable {P : Program} {R : Type} {C : Ctx} {o : Oper} {st : St} {k : St → Option R} {r : R} {E0 E : Env} {a : Act} {K : Act → World → Prop} {Q : Exit → Act → World → Prop} {g : Bool}

theorem move_sound {X : Operand} {c : Cn} (ho : o.op = .move X ∨ o.op = .assign X) (hk : putK C o c st k = some r) (h : Inv C.N E0 E st a)
    (hx : VRep E st.ob st.nx c (a.eval X)) (hK : ∀ st' E' v, k st' = some r → Inv C.N E0 E' st' (a.put o.dst v) → Pur P C g o a v E.w E'.w → K (a.put o.dst v) E'.w) : o.wp P a E.w K Q :=
  quiet_sound hk h (by rcases ho with ho | ho <;> (unfold execOp; simp [ho])) hx hK

theorem unK_sound {op : UnOp} {t : TypeId} {X : Operand} {x : Cn} (ho : o.op = .unOp op t X) (hk : unK C o op x st k = some r) (h : Inv C.N E0 E st a)
    (hx : VRep E st.ob st.nx x (a.eval X)) (hK : ∀ st' E' v, k st' = some r → Inv C.N E0 E' st' (a.put o.dst v) → Pur P C g o a v E.w E'.w → K (a.put o.dst v) E'.w) : o.wp P a E.w K Q := by
  unfold unK at hk
  split at hk
  · exact quiet_sound hk h (fun u _ => by unfold execOp; simp [ho, VRep_bool_inv hx, Op.unary]) (VRep_bool ..) hK
  · exact quiet_sound hk h (fun u _ => by unfold execOp; simp [ho, VRep_int_inv hx, Op.unary, Op.intArith]) (VRep_int ..) hK
  · exact quiet_sound hk h (fun u _ => by unfold execOp; simp [ho, VRep_int_inv hx, Op.unary, Op.intBits, bits]) (VRep_int ..) hK
  · cases hk

theorem lenK_sound (htt : ∀ t u, C.tt t = some u → TOk P t u) {t : TypeId} {X : Operand} {x : Cn} (ho : o.op = .call { callee := .builtin .len, args := #[X], argTypes := #[t] })
    (hk : lenK C o t x st k = some r) (h : Inv C.N E0 E st a) (hx : VRep E st.ob st.nx x (a.eval X))
    (hK : ∀ st' E' v, k st' = some r → Inv C.N E0 E' st' (a.put o.dst v) → Pur P C g o a v E.w E'.w → K (a.put o.dst v) E'.w) : o.wp P a E.w K Q := by
  unfold lenK at hk
  split at hk
  · split at hk
    · rename_i hT
      have hu := (htt _ _ (isT_eq hT)).desc
      simp only at hu
      exact quiet_sound hk h (fun u _ => by unfold execOp; simp [ho, resolve, invoke, builtin, Builtin.len_, VRep_str_inv hx, run_underlying hu, goInt]) (VRep_int ..) hK
    · cases hk
  · split at hk
    · rename_i v hv
      split at hk
      · rename_i hT
        have hu := (htt _ _ (isT_eq hT)).desc
        simp only at hu
        obtain ⟨⟨A, n, c, f, h1, h2, _⟩, _, _⟩ := asL_sound hv h.rep.ob hx
        have h1 : a.eval X = .slice A n c := by simpa using h1
        exact quiet_sound hk h (fun u _ => by unfold execOp; simp [ho, resolve, invoke, builtin, Builtin.len_, h1, run_underlying hu.1, goInt, h2]) (VRep_int ..) hK
      · cases hk
    · cases hk

theorem indexK_sound (htt : ∀ t u, C.tt t = some u → TOk P t u) {t : TypeId} {X I : Operand} {x i : Cn} (ho : o.op = .index t X I)
    (hk : indexK C o t x i st k = some r) (h : Inv C.N E0 E st a) (hx : VRep E st.ob st.nx x (a.eval X)) (hi : VRep E st.ob st.nx i (a.eval I))
    (hK : ∀ st' E' v, k st' = some r → Inv C.N E0 E' st' (a.put o.dst v) → Pur P C g o a v E.w E'.w → K (a.put o.dst v) E'.w) : o.wp P a E.w K Q := by
  unfold indexK at hk
  split at hk
  · rename_i ix
    split at hk
    · rename_i s
      split at hk
      · rename_i hT
        have hu := (htt _ _ (isT_eq hT)).desc
        simp only at hu
        obtain ⟨y, hy, hk⟩ := Option.bind_eq_some_iff.1 hk
        have e1 := VRep_str_inv hx
        have e2 := VRep_int_inv hi
        obtain ⟨h0, b, hb, rfl⟩ := btS_spec hy
        exact quiet_sound hk h (fun u _ => by unfold execOp; simp [ho, Instr.index, e1, e2, asIntOf, run_underlying hu, h0, hb]) (VRep_int ..) hK
      · cases hk
    · cases hk
  · cases hk

theorem minmax_sound {ka kb : IntKind} {x y : Int} {X Y : Operand} {ts : Array TypeId} (mn : Bool) (ho : o.op = .call { callee := .builtin (if mn then .min else .max), args := #[X, Y], argTypes := ts })
    (hk : putK C o (.ro none ⟨.int ka, (if mn then (if y < x then y else x) else (if y > x then y else x) : Int)⟩) st k = some r) (h : Inv C.N E0 E st a)
    (hx : VRep E st.ob st.nx (.ro none ⟨.int ka, x⟩) (a.eval X)) (hy : VRep E st.ob st.nx (.ro none ⟨.int kb, y⟩) (a.eval Y))
    (hK : ∀ st' E' v, k st' = some r → Inv C.N E0 E' st' (a.put o.dst v) → Pur P C g o a v E.w E'.w → K (a.put o.dst v) E'.w) : o.wp P a E.w K Q := by
  have e1 := VRep_int_inv hx
  have e2 := VRep_int_inv hy
  cases mn with
  | true => exact quiet_sound hk h (fun u _ => by unfold execOp; simp [ho, resolve, invoke, builtin, Builtin.min_, Builtin.min2, e1, e2]) (VRep_int ..) hK
  | false => exact quiet_sound hk h (fun u _ => by unfold execOp; simp [ho, resolve, invoke, builtin, Builtin.max_, Builtin.max2, e1, e2]) (VRep_int ..) hK
end

end Go.Am
