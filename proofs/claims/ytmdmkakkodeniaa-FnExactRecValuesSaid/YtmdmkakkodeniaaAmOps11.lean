/- Parts of tuples, of strings and rows; conversions; nil checks. -/
import Derived.Test.YtmdmkakkodeniaaAmOps10
import Derived.Lib.ConvBytes
set_option linter.unusedVariables false
set_option linter.unusedSimpArgs false
namespace Go.Am

theorem nthC_tup {E : Env} {ob : Nat → Ob} {nx : Nat} : ∀ (c : Cn) (n : Nat) (d : Cn) (vs : List Value), CRep E ob nx c true vs → nthC c n = some d → ∃ v, vs[n]? = some v ∧ VRep E ob nx d v := by
  intro c
  induction c with
  | cons a b _ ihb =>
    intro n d vs h hn
    obtain ⟨v, vs', c, h0, h1, h2, h3⟩ := h
    cases n with
    | zero =>
      simp only [nthC, Option.some.injEq] at hn
      subst hn
      exact ⟨v, by rw [h0]; rfl, VRep_mk c h1 h2⟩
    | succ n =>
      obtain ⟨u, k1, k2⟩ := ihb n d vs' h3 hn
      exact ⟨u, by rw [h0]; simpa using k1, k2⟩
  | _ => intro n d vs h hn; cases n <;> simp [nthC] at hn

theorem Els_take {α : Type} {R : α → List Value → Prop} {s : Nat} (hs : ∀ x c, R x c → c.length = s) : ∀ (n : Nat) (xs : List α) (f : List Value), Els R xs f → Els R (xs.take n) (f.take (n * s))
  | 0, xs, f, _ => by simp; rfl
  | n + 1, [], f, h => by rw [show f = [] from h]; simp; rfl
  | n + 1, x :: xs, f, ⟨c, g, h, h1, h2⟩ => by
    refine ⟨c, g.take (n * s), ?_, h1, Els_take hs n xs g h2⟩
    rw [h, show (n + 1) * s = s + n * s by rw [Nat.add_mul, Nat.one_mul, Nat.add_comm], List.take_append, List.take_of_length_le (by rw [hs _ _ h1]; omega), hs _ _ h1, show s + n * s - s = n * s by omega]

theorem Els_drop {α : Type} {R : α → List Value → Prop} {s : Nat} (hs : ∀ x c, R x c → c.length = s) : ∀ (n : Nat) (xs : List α) (f : List Value), Els R xs f → Els R (xs.drop n) (f.drop (n * s))
  | 0, xs, f, h => by simpa using h
  | n + 1, [], f, h => by rw [show f = [] from h]; simp; rfl
  | n + 1, x :: xs, f, ⟨c, g, h, h1, h2⟩ => by
    have := Els_drop hs n xs g h2
    rw [h, show (n + 1) * s = s + n * s by rw [Nat.add_mul, Nat.one_mul, Nat.add_comm], List.drop_append, hs _ _ h1, show s + n * s - s = n * s by omega,
      List.drop_of_length_le (l := c) (by rw [hs _ _ h1]; omega)]
    simpa using this

section
variable {P : Program} {R : Type} {C : Ctx} {o : Oper} {st : St} {k : St → Option R} {r : R} {E0 E : Env} {a : Act} {K : Act → World → Prop} {Q : Exit → Act → World → Prop} {g : Bool}

theorem extract_sound {X : Operand} {c d : Cn} {ix : Nat} (ho : o.op = .extract X ix) (hn : nthC c ix = some d) (hk : putK C o d st k = some r) (h : Inv C.N E0 E st a)
    (hx : VRep E st.ob st.nx (.tup c) (a.eval X)) (hK : ∀ st' E' v, k st' = some r → Inv C.N E0 E' st' (a.put o.dst v) → Pur P C g o a v E.w E'.w → K (a.put o.dst v) E'.w) : o.wp P a E.w K Q := by
  obtain ⟨cs, ⟨vs, h1, h2⟩, h3⟩ := hx
  have h3 : cs = [a.eval X] := h3
  have hX : a.eval X = .tuple vs.toArray := by rw [h3] at h1; simpa using h1
  obtain ⟨v, k1, k2⟩ := nthC_tup c ix d vs h2 hn
  exact quiet_sound hk h (fun u _ => by unfold execOp; simp [ho, hX, Instr.extract, k1]) k2 hK

theorem run_bounds {w : World} {len cap : Nat} {lo hi : Option Int} {kl kh : IntKind} (h0 : 0 ≤ lo.getD 0) (h1 : lo.getD 0 ≤ hi.getD (len : Int)) (h2 : hi.getD (len : Int) ≤ (len : Int)) (hc : len ≤ cap) (isS : Bool) :
    (Instr.sliceBounds isS len cap (lo.map fun n => .int kl n) (hi.map fun n => .int kh n) none).run P w = .ok ((lo.getD 0).toNat, (hi.getD (len : Int)).toNat, cap) w := by
  unfold Instr.sliceBounds
  cases hi with
  | none =>
    simp only [Option.getD_none] at h1 h2 ⊢
    cases lo with
    | none => simp
    | some l =>
      simp only [Option.getD_some] at h0 h1 ⊢
      simp [Instr.sliceBound, asIntOf, h0, h1]
  | some hh =>
    simp only [Option.getD_some] at h1 h2 ⊢
    have e0 : 0 ≤ hh := by omega
    have e1 : hh ≤ (cap : Int) := by omega
    cases lo with
    | none => simp [Instr.sliceBound, asIntOf, e0, e1]
    | some l =>
      simp only [Option.getD_some] at h0 h1 ⊢
      have e2 : l ≤ ((hh.toNat : Nat) : Int) := by omega
      simp [Instr.sliceBound, asIntOf, e0, e1, h0, e2]
      omega

theorem inSl_spec {l h : Int} {n : Nat} (hh : inSl l h n = true) : 0 ≤ l ∧ l ≤ h ∧ h ≤ (n : Int) := by
  unfold inSl at hh
  rw [Bool.and_eq_true, Bool.and_eq_true] at hh
  exact ⟨of_decide_eq_true hh.1, of_decide_eq_true hh.2.1, of_decide_eq_true hh.2.2⟩

theorem sliceK_sound (htt : ∀ t u, C.tt t = some u → TOk P t u) {t : TypeId} {X : Operand} {LO HI : Option Operand} {x : Cn} {lo hi : Option Int} {kl kh : IntKind} (ho : o.op = .slice t X LO HI none)
    (hLO : LO.map a.eval = lo.map fun n => .int kl n) (hHI : HI.map a.eval = hi.map fun n => .int kh n)
    (hk : sliceK C o t x lo hi st k = some r) (h : Inv C.N E0 E st a) (hx : VRep E st.ob st.nx x (a.eval X))
    (hK : ∀ st' E' v, k st' = some r → Inv C.N E0 E' st' (a.put o.dst v) → Pur P C g o a v E.w E'.w → K (a.put o.dst v) E'.w) : o.wp P a E.w K Q := by
  unfold sliceK at hk
  split at hk
  · rename_i s
    split at hk
    · rename_i hT
      have hd := (htt _ _ (isT_eq hT)).desc
      simp only at hd
      cases hin : inSl (lo.getD 0) (hi.getD ((s : ByteArray).size : Int)) (s : ByteArray).size with
      | false => simp [hin] at hk
      | true =>
        simp only [hin, cond_true] at hk
        obtain ⟨h0, h1, h2⟩ := inSl_spec hin
        have hX := VRep_str_inv hx
        have hb := fun u => run_bounds (P := P) (w := u) (kl := kl) (kh := kh) h0 h1 h2 (Nat.le_refl _) false
        exact quiet_sound hk h (fun u _ => by unfold execOp; simp [ho, hX, Instr.sliceAt, Instr.slice, run_underlying hd, hLO, hHI, hb]) (VRep_str ..) hK
    · cases hk
  · split at hk
    · rename_i v hv
      split at hk
      · rename_i hT
        have hd := (htt _ _ (isT_eq hT)).desc
        simp only at hd
        cases hin : inSl (lo.getD 0) (hi.getD (v.xs.length : Int)) v.xs.length with
        | false => simp [hin] at hk
        | true =>
          simp only [hin, cond_true] at hk
          obtain ⟨h0, h1, h2⟩ := inSl_spec hin
          obtain ⟨⟨A, n, c, f, k1, k2, k3, k4, k5, k6, k7, k8⟩, l1, l2⟩ := asL_sound hv h.rep.ob hx
          have k1 : a.eval X = .slice A n c := by simpa using k1
          subst k2
          have hb := fun u => run_bounds (P := P) (w := u) (kl := kl) (kh := kh) (isS := true) h0 h1 h2 k3
          obtain ⟨ii, zz, i1, i2, _, _, i3, _⟩ := hd.2.1
          generalize hl' : (lo.getD 0).toNat = l at *
          generalize hh' : (hi.getD (v.xs.length : Int)).toNat = m at *
          have hlm : l ≤ m := by omega
          have hmn : m ≤ v.xs.length := by omega
          have hfl := Els_length (Rd_length v.t) v.xs f k4
          refine quiet_sound (v := .slice (if c = l then A else A.map (·.add (l * v.t.size))) (m - l) (c - l)) hk h
            (by unfold execOp; simp [ho, k1, Instr.sliceAt, Instr.slice, run_underlying hd.1, hLO, hHI, hb, sizeOf, typeInfo, i1, i2]) ?_ hK
          have hcut : cutL v.xs (lo.getD 0) (hi.getD (v.xs.length : Int)) = (v.xs.take m).drop l := by simp [cutL, hl', hh']
          have hRd : Rd E.w (src E v.b) (.list v.e v.t) (cutL v.xs (lo.getD 0) (hi.getD (v.xs.length : Int))) [.slice (if c = l then A else A.map (·.add (l * v.t.size))) (m - l) (c - l)] := by
            rw [hcut]
            have hE := Els_drop (Rd_length v.t) l _ _ (Els_take (Rd_length v.t) m v.xs f k4)
            refine ⟨_, m - l, c - l, _, rfl, by simp; omega, by omega, hE, ?_, ?_, ?_, ?_⟩
            · intro ad hA hp
              split at hA
              · rename_i hcl
                omega
              · cases A with
                | none => simp at hA
                | some ad0 =>
                  simp only [Option.map_some, Option.some.injEq] at hA
                  subst hA
                  rw [Addr.add_eq ad0 (k5 ad0 rfl (by omega)).1]
                  exact ⟨rfl, (k5 ad0 rfl (by omega)).2⟩
            · intro j u hu
              have hj : l * v.t.size + j < m * v.t.size := by
                have := (List.getElem?_eq_some_iff.1 hu).1
                simp at this
                omega
              have hu' : f[l * v.t.size + j]? = some u := by
                rw [List.getElem?_drop, List.getElem?_take] at hu
                rw [if_pos hj] at hu
                exact hu
              obtain ⟨ad, hA, hc⟩ := k6 _ u hu'
              subst hA
              have hne : c ≠ l := by
                intro e
                have : m * v.t.size ≤ l * v.t.size := Nat.mul_le_mul_right _ (by omega)
                omega
              rw [if_neg hne]
              refine ⟨_, rfl, ?_⟩
              show E.w.cell? ⟨(ad.add (l * v.t.size)).block, (ad.add (l * v.t.size)).off + j, none⟩ = some u
              have hp : 0 < v.xs.length := by
                have : l < m := by
                  rcases Nat.lt_or_ge l m with h | h
                  · exact h
                  · have := Nat.mul_le_mul_right v.t.size h
                    omega
                omega
              rw [Addr.add_eq ad (k5 ad rfl hp).1, ← hc]
              simp [Nat.add_assoc]
            · intro hp
              have hne : c ≠ l := by omega
              rw [if_neg hne]
              have := k7 (by omega)
              cases A with
              | none => exact absurd rfl this
              | some ad => simp
            · intro hA
              have hAn : A = none := by
                split at hA
                · exact hA
                · cases A with
                  | none => rfl
                  | some ad => simp at hA
              have := k8 hAn
              omega
          exact ⟨_, ⟨rfl, l1, fun _ => hRd⟩, rfl⟩
      · cases hk
    · cases hk

theorem nilCheck_same {X : Operand} {c : Cn} (ho : o.op = .nilCheck X) (hk : putK C o c st k = some r) (h : Inv C.N E0 E st a) (hx : VRep E st.ob st.nx c (a.eval X))
    (hp : (∃ ad, a.eval X = .pointer (some ad)) ∨ ∃ f vs, a.eval X = .func (.func f) #[] vs)
    (hK : ∀ st' E' v, k st' = some r → Inv C.N E0 E' st' (a.put o.dst v) → Pur P C g o a v E.w E'.w → K (a.put o.dst v) E'.w) : o.wp P a E.w K Q := by
  rcases hp with ⟨ad, hp⟩ | ⟨f, vs, hp⟩
  · exact quiet_sound (v := a.eval X) hk h (fun u _ => by unfold execOp; simp [ho, hp]) hx hK
  · exact quiet_sound (v := a.eval X) hk h (fun u _ => by unfold execOp; simp [ho, hp]) hx hK

theorem nilCheck_box {X : Operand} {i : Nat} {u : Ty} {c : Cn} (ho : o.op = .nilCheck X) (hob : st.ob i = .obox true u c) (hk : putK C o (.p i) (st.set i (.box u c)) k = some r) (h : Inv C.N E0 E st a)
    (hx : VRep E st.ob st.nx (.p i) (a.eval X)) (hK : ∀ st' E' v, k st' = some r → Inv C.N E0 E' st' (a.put o.dst v) → Pur P C g o a v E.w E'.w → K (a.put o.dst v) E'.w) : o.wp P a E.w K Q := by
  obtain ⟨cs, hc, hm⟩ := hx
  have hm : cs = [a.eval X] := hm
  have hX : a.eval X = E.rho i := by have := hc.2.2; rw [hm] at this; simpa using this
  have hbx := h.rep.ob i
  rw [hob] at hbx
  obtain ⟨g, cs', t, k1, k2, k3, k4, k5⟩ := hbx
  have hI := h.touch i (.box u c) (w := E.w) rfl rfl rfl rfl (fun _ _ => rfl) hc.1 (fun fz v e t xs he => by cases he) ⟨fun u' hu' => by rw [hob]; exact hu', fun _ => by rw [hob]; rfl⟩
    (fun ev => ⟨g, cs', t, k1, k2, CRep_ev ev _ _ _ k3, k4, k5⟩)
  refine wp_value (v := a.eval X) (w' := E.w) (by unfold execOp; simp [ho, hX, k1]) (putK_sound (G := fun a' => K a' E.w) hk hI ?_ fun st' hk' hi' => hK st' _ _ hk' hi' ⟨fun _ => Grew.refl _, fun _ => ⟨rfl, fun u _ => by unfold execOp; simp [ho, hX, k1]⟩⟩)
  exact ⟨cs, hc, hm⟩
end

end Go.Am
