import Derived.Test.YtbmgddnjdcagpaaLawPRC0
import Derived.Test.YtbmgddnjdcagpaaPRCF0
import Derived.KernelRfl
set_option linter.unnecessarySimpa false
set_option linter.unusedSimpArgs false
set_option linter.unusedVariables false
set_option linter.unusedSectionVars false
section
/- Conditions: PredHolds, the program's and the reference's. -/
set_option linter.unusedVariables false
set_option linter.unusedSimpArgs false
set_option linter.unusedSectionVars false
namespace Go.Law
open Go.Am Go.Fn

theorem predKinds {k : Nat} {s : List TCol} (hn : ∀ c, c ∈ s → c.1.size < k ∧ c.1.size < 1000000000 ∧ I64 c.2.2.2.1) (hk : 2000000 ≤ k) {p : List TPred} (g : GoodPreds k s p) (a : Nat) (ha : a < p.length) (x : TPred) (hx : p[a]? = some x) :
    (1 ≤ x.1 ∧ x.1 ≤ 7) ∧ (x.1 = 5 ∨ x.1 = 6 → x.2.2.2.2.1 = (a : Int) - 1 ∧ 0 ≤ x.2.2.2.1 ∧ x.2.2.2.1 < (a : Int) - 1) ∧ (x.1 = 7 → x.2.2.2.1 = (a : Int) - 1 ∧ 0 ≤ x.2.2.2.1) := by
  obtain ⟨b, p1, _, _, _, p5⟩ := plain_eq k s hn hk g.sch g.ok g.ok2 x
  have hpl := g.plain x (List.mem_of_getElem? hx)
  unfold plainB at hpl
  rw [p1] at hpl
  have hb : b = true := hpl
  have hal := g.all a ha
  have hl := g.len
  have e := frm_eq p (a : Int) (by omega) (by omega) x hx
  have hle := frm_le p ((a : Int) - 1) (by omega)
  have h17 : 1 ≤ x.1 ∧ x.1 ≤ 7 := Classical.byContradiction fun h => by
    have := p5 h
    rw [hb] at this
    cases this
  refine ⟨h17, fun h56 => ?_, fun h7 => ?_⟩
  · rw [if_neg (by omega), if_pos h56] at e
    split at e
    · rename_i c1
      split at e
      · rename_i c2
        exact ⟨c1, by omega, by omega⟩
      · omega
    · omega
  · rw [if_pos h7] at e
    split at e
    · rename_i c1
      rcases Nat.eq_zero_or_pos a with h0 | h0
      · subst h0
        have := frm_neg p (((0 : Nat) : Int) - 1) (by omega)
        omega
      · exact ⟨c1, by omega⟩
    · omega

section
variable (k : Nat) (s : List TCol) (hn : ∀ c, c ∈ s → c.1.size < k ∧ c.1.size < 1000000000 ∧ I64 c.2.2.2.1) (hk : 2000000 ≤ k)

/-- a single condition of a record -/
def single (r : TRec) (x : TPred) : Bool := (impl_holds k s x r).getD false

def hld (p : List TPred) (r : TRec) : Nat → Int → Bool
  | 0, _ => false
  | d + 1, a => match rdL p a with
    | none => false
    | some x =>
      if x.1 = 5 then hld p r d x.2.2.2.1 && hld p r d x.2.2.2.2.1
      else if x.1 = 6 then hld p r d x.2.2.2.1 || hld p r d x.2.2.2.2.1
      else if x.1 = 7 then !hld p r d x.2.2.2.1
      else single k s r x

include hn hk

theorem single_eq (hS : IsSchema s) (hok : spec_SchemaOk k s = some true) (hok2 : impl_SchemaOk k s = some true) (V : List TVal) (x : TPred) (h14 : 1 ≤ x.1 ∧ x.1 ≤ 4) :
    impl_holds k s x (V, ()) = some (single k s (V, ()) x) ∧
    ((spec_LeafOf k s x.2.1).bind fun r9 =>
           (spec_RecValues k s (V, ()) x.2.1).bind fun r10 =>
           cond ((List.length r10.2 : Int) == 0)
             (some (x.1 == 4))
             (cond (x.1 == 1)
                ((rdL r10.2 0).bind fun y11 => some ((y11.1 == x.2.2.1.1) && (eqS y11.2.1 x.2.2.1.2.1 && true)))
                (cond (x.1 == 2)
                   ((rdL r10.2 0).bind fun y12 => (spec_ValLess k r9.1.1 y12 x.2.2.1).bind fun r13 => some r13)
                   (cond (x.1 == 3) ((rdL r10.2 0).bind fun y14 => (spec_ValLess k r9.1.1 x.2.2.1 y14).bind fun r15 => some (!r15)) (some false))))) = some (single k s (V, ()) x) := by
  obtain ⟨l, b, e1, e2, _⟩ := leafOf_eq k s hn hk hS hok hok2 x.2.1
  obtain ⟨w, out, e3, e4⟩ : ∃ w out, spec_RecValues k s (V, ()) x.2.1 = some (w, out) ∧ impl_RecValues k s (V, ()) x.2.1 = some (w, out) := by
    rcases recVals_eq k s hn hk hS hok hok2 V x.2.1 with ⟨L, _, q1, q2⟩ | ⟨_, q1, q2⟩
    · exact ⟨_, _, q1, q2⟩
    · exact ⟨_, _, q1, q2⟩
  have key : ∃ q, impl_holds k s x (V, ()) = some q ∧ ((spec_LeafOf k s x.2.1).bind fun r9 =>
           (spec_RecValues k s (V, ()) x.2.1).bind fun r10 =>
           cond ((List.length r10.2 : Int) == 0)
             (some (x.1 == 4))
             (cond (x.1 == 1)
                ((rdL r10.2 0).bind fun y11 => some ((y11.1 == x.2.2.1.1) && (eqS y11.2.1 x.2.2.1.2.1 && true)))
                (cond (x.1 == 2)
                   ((rdL r10.2 0).bind fun y12 => (spec_ValLess k r9.1.1 y12 x.2.2.1).bind fun r13 => some r13)
                   (cond (x.1 == 3) ((rdL r10.2 0).bind fun y14 => (spec_ValLess k r9.1.1 x.2.2.1 y14).bind fun r15 => some (!r15)) (some false))))) = some q := by
    unfold impl_holds
    simp only [e1, e2, e3, e4, Option.bind_some, cst, csf]
    cases out with
    | nil =>
      simp only [List.length_nil]
      rw [show (((0 : Nat) : Int) == 0) = true from rfl]
      simp only [Bool.or_true, cond_true, Bool.and_true]
      exact ⟨_, rfl, rfl⟩
    | cons v out =>
      have hz : (((v :: out).length : Int) == 0) = false := beqF (by simp; omega)
      have hr : rdL (v :: out) 0 = some v := rfl
      rw [hz]
      simp only [Bool.or_false, cond_false, hr, Option.bind_some, (valLess_eq k hk _ _ _).1, (valLess_eq k hk _ _ _).2]
      by_cases h4 : x.1 = 4
      · rw [beqT h4, beqF (show ¬ x.1 = 1 by omega), beqF (show ¬ x.1 = 2 by omega), beqF (show ¬ x.1 = 3 by omega)]
        exact ⟨_, rfl, rfl⟩
      · rw [beqF h4, cond_false]
        by_cases h1 : x.1 = 1
        · rw [beqT h1]; exact ⟨_, rfl, rfl⟩
        · rw [beqF h1]
          by_cases h2 : x.1 = 2
          · rw [beqT h2]; exact ⟨_, rfl, rfl⟩
          · rw [beqF h2, beqT (show x.1 = 3 by omega)]; exact ⟨_, rfl, rfl⟩
  obtain ⟨q, q1, q2⟩ := key
  have : single k s (V, ()) x = q := by unfold single; rw [q1]; rfl
  rw [this]
  exact ⟨q1, q2⟩

theorem hld_fuel {p : List TPred} (g : GoodPreds k s p) (r : TRec) : ∀ (d d' a : Nat), a < p.length → a < d → a < d' → hld k s p r d a = hld k s p r d' a
  | 0, _, _, _, h, _ => by omega
  | _ + 1, 0, _, _, _, h => by omega
  | d + 1, d' + 1, a, ha, h1, h2 => by
    have hx := List.getElem?_eq_getElem ha
    generalize p[a] = x at hx
    obtain ⟨k1, k2, k3⟩ := predKinds hn hk g a ha x hx
    simp only [hld, rdL_nat, hx]
    have sub : ∀ b : Int, 0 ≤ b → b < a → hld k s p r d b = hld k s p r d' b := fun b b0 b1 => by
      obtain ⟨n, rfl⟩ := Int.eq_ofNat_of_zero_le b0
      exact hld_fuel g r d d' n (by omega) (by omega) (by omega)
    by_cases h5 : x.1 = 5
    · obtain ⟨c1, c2, c3⟩ := k2 (.inl h5)
      rw [if_pos h5, if_pos h5, sub _ c2 (by omega), sub _ (by omega) (by omega)]
    · rw [if_neg h5, if_neg h5]
      by_cases h6 : x.1 = 6
      · obtain ⟨c1, c2, c3⟩ := k2 (.inr h6)
        rw [if_pos h6, if_pos h6, sub _ c2 (by omega), sub _ (by omega) (by omega)]
      · rw [if_neg h6, if_neg h6]
        by_cases h7 : x.1 = 7
        · obtain ⟨c1, c2⟩ := k3 h7
          rw [if_pos h7, if_pos h7, sub _ c2 (by omega)]
        · rw [if_neg h7, if_neg h7]

theorem sholds_rec {p : List TPred} (g : GoodPreds k s p) (V : List TVal) : ∀ (d a : Nat), a < p.length → a < d → spec_l20Holds.rec k d s p (a : Int) (V, ()) = some (hld k s p (V, ()) d a) := by
  intro d
  induction d with
  | zero => intro a ha h; omega
  | succ d ih =>
    intro a ha h
    have hx := List.getElem?_eq_getElem ha
    generalize p[a] = x at hx
    obtain ⟨k1, k2, k3⟩ := predKinds hn hk g a ha x hx
    have sub : ∀ b : Int, 0 ≤ b → b < a → spec_l20Holds.rec k d s p b (V, ()) = some (hld k s p (V, ()) d b) := fun b b0 b1 => by
      obtain ⟨n, rfl⟩ := Int.eq_ofNat_of_zero_le b0
      exact ih n (by omega) (by omega)
    simp only [spec_l20Holds.rec, spec_l20Holds.b, hld, rdL_nat, hx, Option.bind_some]
    by_cases h5 : x.1 = 5
    · obtain ⟨c1, c2, c3⟩ := k2 (.inl h5)
      rw [beqT h5, cond_true, if_pos h5, sub _ c2 (by omega), sub _ (by omega) (by omega)]
      simp only [Option.bind_some, csf]
    · rw [beqF h5, cond_false, if_neg h5]
      by_cases h6 : x.1 = 6
      · obtain ⟨c1, c2, c3⟩ := k2 (.inr h6)
        rw [beqT h6, cond_true, if_pos h6, sub _ c2 (by omega), sub _ (by omega) (by omega)]
        simp only [Option.bind_some, cst]
      · rw [beqF h6, cond_false, if_neg h6]
        by_cases h7 : x.1 = 7
        · obtain ⟨c1, c2⟩ := k3 h7
          rw [beqT h7, cond_true, if_pos h7, sub _ c2 (by omega)]
          rfl
        · rw [beqF h7, cond_false, if_neg h7]
          exact (single_eq k s hn hk g.sch g.ok g.ok2 V x (by omega)).2

theorem iholds_loop {p : List TPred} (g : GoodPreds k s p) (V : List TVal) : ∀ (post pre : List TPred) (f : Nat) (o : List Bool), p = pre ++ post → post.length < f → o.length = p.length →
    (∀ j : Nat, j < pre.length → o[j]? = some (hld k s p (V, ()) 100 j)) →
    impl_PredHolds.l5 k f s p p (p.length : Int) (pre.length : Int) (V, ()) o = some (hld k s p (V, ()) 100 ((p.length : Int) - 1)) := by
  intro post
  have hl := g.len
  induction post with
  | nil =>
    intro pre f o h hf ho hb
    obtain ⟨f, rfl⟩ : ∃ q, f = q + 1 := ⟨f - 1, by omega⟩
    rw [List.append_nil] at h
    subst h
    have hw : IntKind.wrap .i64 ((p.length : Int) - 1) = ((p.length - 1 : Nat) : Int) := by rw [w64 (by omega) (by omega)]; omega
    have hlast := hb (p.length - 1) (by omega)
    have he : (p.length : Int) - 1 = ((p.length - 1 : Nat) : Int) := by omega
    simp only [impl_PredHolds.l5, decide_eq_false (show ¬ ((p.length : Int) < (p.length : Int)) by omega), cond_false, hw, rdL_nat, hlast, Option.bind_some]
    rw [he]
  | cons x post ih =>
    intro pre f o h hf ho hb
    simp only [List.length_cons] at hf
    obtain ⟨f, rfl⟩ : ∃ q, f = q + 1 := ⟨f - 1, by omega⟩
    have hlen : p.length = pre.length + (post.length + 1) := by rw [h]; simp
    have hg : rdL p (pre.length : Int) = some x := by rw [h]; exact getMid _ _ _
    have hi1 : IntKind.wrap .i64 ((pre.length : Int) + 1) = ((pre.length + 1 : Nat) : Int) := by rw [w64 (by omega) (by omega)]; omega
    have hol : pre.length < o.length := by omega
    have ho1 : o[pre.length]? = some o[pre.length] := List.getElem?_eq_getElem hol
    obtain ⟨k1, k2, k3⟩ := predKinds hn hk g pre.length (by omega) x hg
    have go : impl_PredHolds.l5 k f s p p (p.length : Int) ((pre.length + 1 : Nat) : Int) (V, ()) (o.set pre.length (hld k s p (V, ()) 100 pre.length)) = some (hld k s p (V, ()) 100 ((p.length : Int) - 1)) := by
      have hi := ih (pre ++ [x]) f (o.set pre.length (hld k s p (V, ()) 100 pre.length)) (by rw [h]; simp) (by omega) (by simpa using ho) (fun j hj => by
        rw [List.length_append, List.length_singleton] at hj
        rcases Nat.lt_or_ge j pre.length with c | c
        · rw [List.getElem?_set_ne (by omega)]; exact hb j c
        · have : j = pre.length := by omega
          subst this
          rw [List.getElem?_set_self hol])
      rw [List.length_append, List.length_singleton] at hi
      exact hi
    have sub : ∀ b : Int, 0 ≤ b → b < pre.length → rdL o b = some (hld k s p (V, ()) 99 b) := fun b b0 b1 => by
      obtain ⟨n, rfl⟩ := Int.eq_ofNat_of_zero_le b0
      rw [rdL_nat, hb n (by omega), hld_fuel k s hn hk g (V, ()) 100 99 n (by omega) (by omega) (by omega)]
    have hun : hld k s p (V, ()) 100 pre.length = (if x.1 = 5 then hld k s p (V, ()) 99 x.2.2.2.1 && hld k s p (V, ()) 99 x.2.2.2.2.1
      else if x.1 = 6 then hld k s p (V, ()) 99 x.2.2.2.1 || hld k s p (V, ()) 99 x.2.2.2.2.1
      else if x.1 = 7 then !hld k s p (V, ()) 99 x.2.2.2.1
      else single k s (V, ()) x) := by
      conv => lhs; unfold hld
      rw [hg]
    simp only [impl_PredHolds.l5, decide_eq_true (show (pre.length : Int) < (p.length : Int) by omega), cond_true, hg, Option.bind_some, impl_PredHolds.c15, hi1, Int.toNat_natCast, cst, csf, rdL_nat, ho1]
    by_cases h5 : x.1 = 5
    · obtain ⟨c1, c2, c3⟩ := k2 (.inl h5)
      rw [if_pos h5] at hun
      rw [beqT h5, cond_true, sub _ c2 (by omega), sub _ (by omega) (by omega)]
      simp only [Option.bind_some, csf]
      rw [← hun]; exact go
    · rw [if_neg h5] at hun
      rw [beqF h5, cond_false]
      by_cases h6 : x.1 = 6
      · obtain ⟨c1, c2, c3⟩ := k2 (.inr h6)
        rw [if_pos h6] at hun
        rw [beqT h6, cond_true, sub _ c2 (by omega), sub _ (by omega) (by omega)]
        simp only [Option.bind_some, cst]
        rw [← hun]; exact go
      · rw [if_neg h6] at hun
        rw [beqF h6, cond_false]
        by_cases h7 : x.1 = 7
        · obtain ⟨c1, c2⟩ := k3 h7
          rw [if_pos h7] at hun
          rw [beqT h7, cond_true, sub _ c2 (by omega)]
          simp only [Option.bind_some]
          rw [← hun]; exact go
        · rw [if_neg h7] at hun
          rw [beqF h7, cond_false, (single_eq k s hn hk g.sch g.ok g.ok2 V x (by omega)).1]
          simp only [Option.bind_some]
          rw [← hun]; exact go

/-- both find the same records -/
theorem predHolds_eq (p : List TPred) (V : List TVal) : ∃ b, spec_PredHolds k s p (V, ()) = some b ∧ impl_PredHolds k s p (V, ()) = some b := by
  obtain ⟨b, e1, e2, e3⟩ := predOk_eq k s hn hk p
  obtain ⟨b0, _, _, _, e4, e5⟩ := recOk_eq k hk s hn V
  unfold spec_PredHolds impl_PredHolds
  rw [e1, e2, e4, e5]
  simp only [Option.bind_some, cst, csf]
  generalize (b0 && (recEv s V).isSome) = b1
  cases b with
  | false => exact ⟨_, rfl, rfl⟩
  | true =>
    cases b1 with
    | false => exact ⟨_, rfl, rfl⟩
    | true =>
      have g := e3 rfl
      have hl := g.len
      have hw : IntKind.wrap .i64 ((p.length : Int) - 1) = ((p.length - 1 : Nat) : Int) := by rw [w64 (by omega) (by omega)]; omega
      have he : (p.length : Int) - 1 = ((p.length - 1 : Nat) : Int) := by omega
      have a1 : spec_l20Holds k s p ((p.length - 1 : Nat) : Int) (V, ()) = some (hld k s p (V, ()) k ((p.length - 1 : Nat) : Int)) := sholds_rec k s hn hk g V k (p.length - 1) (by omega) (by omega)
      have a2 := iholds_loop k s hn hk g V p [] k (List.replicate (Int.toNat (p.length : Int)) false) rfl (by omega) (by simp) (fun j hj => by simp at hj)
      have a2 : impl_PredHolds.l5 k k s p p (p.length : Int) 0 (V, ()) _ = _ := a2
      rw [hw, a1]
      simp only [Bool.and_self, cond_true, Option.bind_some, Bool.not_true, Bool.or_self, cond_false]
      rw [okLen_ok (by omega) (by omega), cond_true, a2, he, hld_fuel k s hn hk g (V, ()) k 100 (p.length - 1) (by omega) (by omega) (by omega)]
      exact ⟨_, rfl, rfl⟩
end
end Go.Law
end

section
/- Conditions behind one another. -/
set_option linter.unusedVariables false
set_option linter.unusedSimpArgs false
set_option linter.unusedSectionVars false
namespace Go.Law
open Go.Am Go.Fn

theorem rdL_app {α : Type} (p q : List α) {a : Int} (h0 : 0 ≤ a) (h : a < p.length) : rdL (p ++ q) a = rdL p a := by
  obtain ⟨n, rfl⟩ := Int.eq_ofNat_of_zero_le h0
  rw [rdL_nat, rdL_nat, List.getElem?_append_left (by omega)]

theorem fr_app (p q : List TPred) : ∀ (d : Nat) (a : Int), a < p.length → fr (p ++ q) d a = fr p d a
  | 0, a, h => rfl
  | d + 1, a, h => by
    simp only [fr]
    by_cases h0 : a < 0
    · rw [if_pos h0, if_pos h0]
    · rw [if_neg h0, if_neg h0, rdL_app p q (by omega) h, fr_app p q d (a - 1) (by omega)]
      cases rdL p a with
      | none => rfl
      | some x =>
        simp only
        split
        · rfl
        · split
          · split
            · split
              · have hl := (fr_le p d (a - 1) (by omega)).1
                rw [fr_app p q d _ (by omega)]
              · rfl
            · rfl
          · rfl

theorem frm_app (p q : List TPred) (a : Int) (h : a < p.length) : frm (p ++ q) a = frm p a := fr_app p q 100 a h

/-- a condition further back -/
def shf (n : Int) (x : TPred) : TPred :=
  if x.1 = 5 ∨ x.1 = 6 then (x.1, x.2.1, x.2.2.1, x.2.2.2.1 + n, x.2.2.2.2.1 + n, ())
  else if x.1 = 7 then (x.1, x.2.1, x.2.2.1, x.2.2.2.1 + n, x.2.2.2.2.1, ())
  else x

theorem rdL_mid {α : Type} (p q r : List α) {a : Int} (h0 : 0 ≤ a) (h : a < q.length) : rdL (p ++ q ++ r) ((p.length : Int) + a) = rdL q a := by
  obtain ⟨n, rfl⟩ := Int.eq_ofNat_of_zero_le h0
  have e : (p.length : Int) + (n : Int) = ((p.length + n : Nat) : Int) := by omega
  rw [e, rdL_nat, rdL_nat, List.getElem?_append_left (by simp; omega), List.getElem?_append_right (by omega)]
  congr 1
  omega
theorem rdL_map {α β : Type} (f : α → β) (q : List α) (a : Int) : rdL (q.map f) a = (rdL q a).map f := by
  cases a with
  | ofNat n => exact List.getElem?_map ..
  | negSucc n => rfl

theorem shf_kind (n : Int) (x : TPred) : (shf n x).1 = x.1 := by
  unfold shf
  split
  · rfl
  · split <;> rfl

theorem frm_shift (p q r : List TPred) (hlen : p.length + q.length ≤ 80) : ∀ (N : Nat) (a : Int), a ≤ N → 0 ≤ a → a < q.length → 0 ≤ frm q a → frm (p ++ q.map (shf (p.length : Int)) ++ r) ((p.length : Int) + a) = (p.length : Int) + frm q a := by
  intro N
  induction N with
  | zero =>
    intro a hN h0 h1 h2
    have ha : a = 0 := by omega
    subst ha
    obtain ⟨x, hx, _⟩ := rdL_some (xs := q) h0 h1
    have hx' : rdL (p ++ q.map (shf (p.length : Int)) ++ r) ((p.length : Int) + 0) = some (shf (p.length : Int) x) := by
      rw [rdL_mid p _ r h0 (by rw [List.length_map]; exact h1), rdL_map, hx]; rfl
    have e1 := frm_eq q 0 h0 (by omega) x hx
    have e2 := frm_eq _ ((p.length : Int) + 0) (by omega) (by omega) _ hx'
    rw [frm_neg q (0 - 1) (by omega)] at e1
    rw [shf_kind] at e2
    by_cases h7 : x.1 = 7
    · rw [if_pos h7] at e1
      split at e1 <;> omega
    · rw [if_neg h7] at e1 e2
      by_cases h56 : x.1 = 5 ∨ x.1 = 6
      · rw [if_pos h56] at e1
        split at e1
        · split at e1 <;> omega
        · omega
      · rw [if_neg h56] at e1 e2
        rw [e1, e2]
  | succ N ih =>
    intro a hN h0 h1 h2
    obtain ⟨x, hx, _⟩ := rdL_some (xs := q) h0 h1
    have hx' : rdL (p ++ q.map (shf (p.length : Int)) ++ r) ((p.length : Int) + a) = some (shf (p.length : Int) x) := by
      rw [rdL_mid p _ r h0 (by rw [List.length_map]; exact h1), rdL_map, hx]; rfl
    have e1 := frm_eq q a h0 (by omega) x hx
    have e2 := frm_eq _ ((p.length : Int) + a) (by omega) (by omega) _ hx'
    have hl := frm_le q (a - 1) (by omega)
    rw [shf_kind] at e2
    by_cases h7 : x.1 = 7
    · rw [if_pos h7] at e1 e2
      have hA : (shf (p.length : Int) x).2.2.2.1 = x.2.2.2.1 + (p.length : Int) := by
        unfold shf
        rw [if_neg (by omega), if_pos h7]
      rw [hA] at e2
      split at e1
      · rename_i c1
        have ha0 : 0 ≤ a - 1 := by
          rcases Int.lt_or_le (a - 1) 0 with h | h
          · rw [frm_neg q (a - 1) h] at e1; omega
          · exact h
        rw [if_pos (by omega)] at e2
        rw [e2, e1, show (p.length : Int) + a - 1 = (p.length : Int) + (a - 1) by omega]
        exact ih (a - 1) (by omega) ha0 (by omega) (by omega)
      · omega
    · rw [if_neg h7] at e1 e2
      by_cases h56 : x.1 = 5 ∨ x.1 = 6
      · rw [if_pos h56] at e1 e2
        have hA : (shf (p.length : Int) x).2.2.2.1 = x.2.2.2.1 + (p.length : Int) := by
          unfold shf
          rw [if_pos h56]
        have hB : (shf (p.length : Int) x).2.2.2.2.1 = x.2.2.2.2.1 + (p.length : Int) := by
          unfold shf
          rw [if_pos h56]
        rw [hA, hB] at e2
        split at e1
        · rename_i c1
          split at e1
          · rename_i c2
            have hp1 := ih (a - 1) (by omega) (by omega) (by omega) (by omega)
            rw [show (p.length : Int) + a - 1 = (p.length : Int) + (a - 1) by omega, hp1] at e2
            rw [if_pos (by omega), if_pos ⟨by omega, by omega⟩] at e2
            rw [e2, e1, show (p.length : Int) + frm q (a - 1) - 1 = (p.length : Int) + (frm q (a - 1) - 1) by omega]
            exact ih (frm q (a - 1) - 1) (by omega) (by omega) (by omega) (by omega)
          · omega
        · omega
      · rw [if_neg h56] at e1 e2
        rw [e1, e2]

section
variable (k : Nat) (s : List TCol) (hn : ∀ c, c ∈ s → c.1.size < k ∧ c.1.size < 1000000000 ∧ I64 c.2.2.2.1) (hk : 2000000 ≤ k)
include hn hk

theorem hld_app {p : List TPred} (g : GoodPreds k s p) (q : List TPred) (r : TRec) : ∀ (d a : Nat), a < p.length → hld k s (p ++ q) r d a = hld k s p r d a
  | 0, _, _ => rfl
  | d + 1, a, ha => by
    have hx := List.getElem?_eq_getElem ha
    generalize p[a] = x at hx
    obtain ⟨k1, k2, k3⟩ := predKinds hn hk g a ha x hx
    have hx' : rdL (p ++ q) (a : Int) = some x := by rw [rdL_app p q (by omega) (by omega)]; exact hx
    have hx2 : rdL p (a : Int) = some x := hx
    simp only [hld, hx', hx2]
    have sub : ∀ b : Int, 0 ≤ b → b < a → hld k s (p ++ q) r d b = hld k s p r d b := fun b b0 b1 => by
      obtain ⟨n, rfl⟩ := Int.eq_ofNat_of_zero_le b0
      exact hld_app g q r d n (by omega)
    by_cases h5 : x.1 = 5
    · obtain ⟨c1, c2, c3⟩ := k2 (.inl h5)
      rw [if_pos h5, if_pos h5, sub _ c2 (by omega), sub _ (by omega) (by omega)]
    · rw [if_neg h5, if_neg h5]
      by_cases h6 : x.1 = 6
      · obtain ⟨c1, c2, c3⟩ := k2 (.inr h6)
        rw [if_pos h6, if_pos h6, sub _ c2 (by omega), sub _ (by omega) (by omega)]
      · rw [if_neg h6, if_neg h6]
        by_cases h7 : x.1 = 7
        · obtain ⟨c1, c2⟩ := k3 h7
          rw [if_pos h7, if_pos h7, sub _ c2 (by omega)]
        · rw [if_neg h7, if_neg h7]

theorem hld_shift (p : List TPred) {q : List TPred} (g : GoodPreds k s q) (t : List TPred) (r : TRec) : ∀ (d a : Nat), a < q.length → hld k s (p ++ q.map (shf (p.length : Int)) ++ t) r d ((p.length : Int) + (a : Int)) = hld k s q r d a
  | 0, _, _ => rfl
  | d + 1, a, ha => by
    have hx := List.getElem?_eq_getElem ha
    generalize q[a] = x at hx
    obtain ⟨k1, k2, k3⟩ := predKinds hn hk g a ha x hx
    have hx2 : rdL q (a : Int) = some x := hx
    have hx' : rdL (p ++ q.map (shf (p.length : Int)) ++ t) ((p.length : Int) + (a : Int)) = some (shf (p.length : Int) x) := by
      rw [rdL_mid p _ t (by omega) (by rw [List.length_map]; omega), rdL_map, hx2]; rfl
    simp only [hld, hx', hx2, shf_kind]
    have sub : ∀ b : Int, 0 ≤ b → b < a → hld k s (p ++ q.map (shf (p.length : Int)) ++ t) r d (b + (p.length : Int)) = hld k s q r d b := fun b b0 b1 => by
      obtain ⟨n, rfl⟩ := Int.eq_ofNat_of_zero_le b0
      rw [show ((n : Int)) + (p.length : Int) = (p.length : Int) + (n : Int) by omega]
      exact hld_shift p g t r d n (by omega)
    have hpair : x.1 = 5 ∨ x.1 = 6 → (shf (p.length : Int) x).2.2.2.1 = x.2.2.2.1 + (p.length : Int) ∧ (shf (p.length : Int) x).2.2.2.2.1 = x.2.2.2.2.1 + (p.length : Int) := by
      intro h
      unfold shf
      rw [if_pos h]
      exact ⟨rfl, rfl⟩
    by_cases h5 : x.1 = 5
    · obtain ⟨c1, c2, c3⟩ := k2 (.inl h5)
      obtain ⟨e1, e2⟩ := hpair (.inl h5)
      rw [if_pos h5, if_pos h5, e1, e2, sub _ c2 (by omega), sub _ (by omega) (by omega)]
    · rw [if_neg h5, if_neg h5]
      by_cases h6 : x.1 = 6
      · obtain ⟨c1, c2, c3⟩ := k2 (.inr h6)
        obtain ⟨e1, e2⟩ := hpair (.inr h6)
        rw [if_pos h6, if_pos h6, e1, e2, sub _ c2 (by omega), sub _ (by omega) (by omega)]
      · rw [if_neg h6, if_neg h6]
        by_cases h7 : x.1 = 7
        · obtain ⟨c1, c2⟩ := k3 h7
          have e1 : (shf (p.length : Int) x).2.2.2.1 = x.2.2.2.1 + (p.length : Int) := by
            unfold shf
            rw [if_neg (by omega), if_pos h7]
          rw [if_pos h7, if_pos h7, e1, sub _ c2 (by omega)]
        · rw [if_neg h7, if_neg h7]
          unfold shf
          rw [if_neg (by omega), if_neg h7]

def predOkV (p : List TPred) : Bool := (decide (1 ≤ p.length) && decide (p.length ≤ 31)) && (p.all (plainB k s) && (frm p ((p.length : Int) - 1) == 0))

theorem predOk_val (hS : IsSchema s) (hok : spec_SchemaOk k s = some true) (hok2 : impl_SchemaOk k s = some true) (p : List TPred) : spec_PredOk k s p = some (predOkV k s p) ∧ impl_PredOk k s p = some (predOkV k s p) := by
  unfold spec_PredOk impl_PredOk predOkV
  rw [hok, hok2]
  simp only [Option.bind_some, l1In_eq, within_eq, Bool.not_true, cond_false]
  by_cases hin : 1 ≤ p.length ∧ p.length ≤ 31
  · rw [show (decide ((1 : Int) ≤ (p.length : Int)) && decide ((p.length : Int) ≤ 31)) = true by simp; omega, decide_eq_true hin.1, decide_eq_true hin.2]
    simp only [Bool.not_true, cond_false, Bool.and_self, Bool.true_and]
    rw [okLen_ok (by omega) (by omega), cond_true]
    have a1 := spredLoop k s hn hk hS hok hok2 p hin.2 hin.1 p [] k rfl (by omega)
    have a2 := ipredLoop k s hn hk hS hok hok2 p hin.2 hin.1 p [] k (List.replicate (Int.toNat (p.length : Int)) 0) rfl (by omega) (by simp) (fun j hj => by simp at hj)
    exact ⟨a1, a2⟩
  · rw [show (decide ((1 : Int) ≤ (p.length : Int)) && decide ((p.length : Int) ≤ 31)) = false by rw [Bool.eq_false_iff]; intro q; simp only [Bool.and_eq_true, decide_eq_true_eq] at q; omega]
    rw [show (decide (1 ≤ p.length) && decide (p.length ≤ 31)) = false by rw [Bool.eq_false_iff]; intro q; simp only [Bool.and_eq_true, decide_eq_true_eq] at q; omega]
    exact ⟨rfl, rfl⟩
end
end Go.Law
end

section
/- Conditions: pairs and contraries. -/
set_option linter.unusedVariables false
set_option linter.unusedSimpArgs false
set_option linter.unusedSectionVars false
namespace Go.Law
open Go.Am Go.Fn

/-- a condition further back, as the program reckons -/
def shfW (n : Int) (x : TPred) : TPred :=
  if x.1 = 5 ∨ x.1 = 6 then (x.1, x.2.1, x.2.2.1, IntKind.wrap .i64 (x.2.2.2.1 + n), IntKind.wrap .i64 (x.2.2.2.2.1 + n), ())
  else if x.1 = 7 then (x.1, x.2.1, x.2.2.1, IntKind.wrap .i64 (x.2.2.2.1 + n), x.2.2.2.2.1, ())
  else x

/-- the root of a pair -/
def rootP (kd A B : Int) : TPred := (kd, 0, (0, (⟨#[]⟩ : ByteArray), ()), A, B, ())

section
variable (k : Nat) (hk : 2000000 ≤ k)
include hk

theorem ipair_loop (kd : Int) (p q : List TPred) (hp : p.length ≤ 100) (hq : q.length ≤ 100) : ∀ (post pre : List TPred) (f : Nat) (o : List TPred), q = pre ++ post → post.length < f → o.length + post.length ≤ 1000 →
    impl_PredPair.l5 k f kd p q (q.length : Int) (pre.length : Int) o = some (((), true), (o ++ post.map (shfW (p.length : Int))) ++ [rootP kd (IntKind.wrap .i64 ((p.length : Int) - 1)) (IntKind.wrap .i64 (((o.length + post.length : Nat) : Int) - 1))]) := by
  intro post
  induction post with
  | nil =>
    intro pre f o h hf ho
    obtain ⟨f, rfl⟩ : ∃ q, f = q + 1 := ⟨f - 1, by omega⟩
    rw [List.append_nil] at h
    subst h
    simp only [impl_PredPair.l5, decide_eq_false (show ¬ ((q.length : Int) < (q.length : Int)) by omega), cond_false]
    rw [lim_ok (by simp at ho ⊢; omega), cond_true]
    simp [rootP]
  | cons x post ih =>
    intro pre f o h hf ho
    simp only [List.length_cons] at hf ho
    obtain ⟨f, rfl⟩ : ∃ q, f = q + 1 := ⟨f - 1, by omega⟩
    have hlen : q.length = pre.length + (post.length + 1) := by rw [h]; simp
    have hg : rdL q (pre.length : Int) = some x := by rw [h]; exact getMid _ _ _
    have hi1 : IntKind.wrap .i64 ((pre.length : Int) + 1) = ((pre.length + 1 : Nat) : Int) := by rw [w64 (by omega) (by omega)]; omega
    have step : ∀ y : TPred, y = shfW (p.length : Int) x → impl_PredPair.c11 k (impl_PredPair.l5 k f) kd p q (q.length : Int) (pre.length : Int) o y = some (((), true), (o ++ (x :: post).map (shfW (p.length : Int))) ++ [rootP kd (IntKind.wrap .i64 ((p.length : Int) - 1)) (IntKind.wrap .i64 (((o.length + (x :: post).length : Nat) : Int) - 1))]) := by
      intro y hy
      have hi := ih (pre ++ [x]) f (o ++ [y]) (by rw [h]; simp) (by omega) (by simp; omega)
      rw [List.length_append, List.length_singleton] at hi
      unfold impl_PredPair.c11
      rw [lim_ok (by simp; omega), cond_true, hi1, hi, hy]
      simp [Nat.add_assoc, Nat.add_comm 1]
    simp only [impl_PredPair.l5, decide_eq_true (show (pre.length : Int) < (q.length : Int) by omega), cond_true, hg, Option.bind_some, impl_isPair, cst, impl_PredPair.c9]
    unfold shfW at step
    by_cases h56 : x.1 = 5 ∨ x.1 = 6
    · have e : ((x.1 == 5) || (x.1 == 6)) = true := by
        rcases h56 with h | h
        · rw [beqT h, Bool.true_or]
        · rw [beqT h, Bool.or_true]
      simp only [e, Bool.true_or, cond_true]
      exact step _ (by rw [if_pos h56])
    · have e : ((x.1 == 5) || (x.1 == 6)) = false := by
        rw [beqF (show ¬ x.1 = 5 by omega), beqF (show ¬ x.1 = 6 by omega)]; rfl
      simp only [e, Bool.false_or]
      by_cases h7 : x.1 = 7
      · simp only [beqT h7, cond_true, cond_false]
        exact step _ (by rw [if_neg h56, if_pos h7])
      · simp only [beqF h7, cond_false]
        exact step _ (by rw [if_neg h56, if_neg h7])

theorem ipair_eq (kd : Int) (p q : List TPred) (hp : p.length ≤ 100) (hq : q.length ≤ 100) (hkd : kd = 5 ∨ kd = 6) :
    impl_PredPair k kd p q = if p.length ≠ 0 ∧ q.length ≠ 0 ∧ p.length + q.length + 1 ≤ 31
      then some (((), true), (p ++ q.map (shfW (p.length : Int))) ++ [rootP kd (IntKind.wrap .i64 ((p.length : Int) - 1)) (IntKind.wrap .i64 (((p.length + q.length : Nat) : Int) - 1))])
      else some (((), false), []) := by
  unfold impl_PredPair impl_isPair
  have e : ((kd == 5) || (kd == 6)) = true := by
    rcases hkd with h | h
    · rw [beqT h, Bool.true_or]
    · rw [beqT h, Bool.or_true]
  have ew : IntKind.wrap .i64 (IntKind.wrap .i64 ((p.length : Int) + (q.length : Int)) + 1) = ((p.length + q.length + 1 : Nat) : Int) := by
    rw [w64 (show -9223372036854775808 ≤ (p.length : Int) + (q.length : Int) by omega) (by omega), w64 (by omega) (by omega)]; omega
  simp only [cst, Option.bind_some, e, Bool.not_true, Bool.false_or, ew]
  by_cases h : p.length ≠ 0 ∧ q.length ≠ 0 ∧ p.length + q.length + 1 ≤ 31
  · rw [if_pos h, beqF (show ¬ (p.length : Int) = 0 by omega), beqF (show ¬ (q.length : Int) = 0 by omega), decide_eq_false (show ¬ ((p.length + q.length + 1 : Nat) : Int) > 31 by omega)]
    simp only [Bool.or_self, cond_false]
    rw [lim_ok (by omega), cond_true, List.nil_append]
    have := ipair_loop k hk kd p q hp hq q [] k p rfl (by omega) (by omega)
    exact this
  · rw [if_neg h]
    have : (((p.length : Int) == 0) || ((q.length : Int) == 0) || decide (((p.length + q.length + 1 : Nat) : Int) > 31)) = true := by
      cases hc : (((p.length : Int) == 0) || ((q.length : Int) == 0) || decide (((p.length + q.length + 1 : Nat) : Int) > 31)) with
      | true => rfl
      | false =>
        simp only [Bool.or_eq_false_iff, beq_eq_false_iff_ne, decide_eq_false_iff_not] at hc
        exact (h ⟨by omega, by omega, by omega⟩).elim
    rw [this]; rfl

theorem inot_eq (p : List TPred) (hp : p.length ≤ 100) : impl_PredNot k p = (if p.length ≠ 0 ∧ p.length + 1 ≤ 31 then some (((), true), p ++ [rootP 7 ((p.length : Int) - 1) 0]) else some (((), false), [])) ∧ spec_PredNot k p = (if p.length ≠ 0 ∧ p.length + 1 ≤ 31 then some (((), true), p ++ [rootP 7 ((p.length : Int) - 1) 0]) else some (((), false), [])) := by
  unfold impl_PredNot spec_PredNot
  rw [w64 (show -9223372036854775808 ≤ (p.length : Int) + 1 by omega) (by omega), w64 (show -9223372036854775808 ≤ (p.length : Int) - 1 by omega) (by omega)]
  simp only [cst, Option.bind_some]
  by_cases h : p.length ≠ 0 ∧ p.length + 1 ≤ 31
  · rw [if_pos h, beqF (show ¬ (p.length : Int) = 0 by omega), decide_eq_false (show ¬ ((p.length : Int) + 1 > 31) by omega)]
    simp only [Bool.or_self, cond_false]
    rw [lim_ok (by omega), cond_true, lim_ok (by simp; omega), cond_true, List.nil_append]
    exact ⟨rfl, rfl⟩
  · rw [if_neg h]
    have : (((p.length : Int) == 0) || decide ((p.length : Int) + 1 > 31)) = true := by
      cases hc : (((p.length : Int) == 0) || decide ((p.length : Int) + 1 > 31)) with
      | true => rfl
      | false =>
        simp only [Bool.or_eq_false_iff, beq_eq_false_iff_ne, decide_eq_false_iff_not] at hc
        exact (h ⟨by omega, by omega⟩).elim
    rw [this]; exact ⟨rfl, rfl⟩
end

section
variable (k : Nat) (s : List TCol) (hn : ∀ c, c ∈ s → c.1.size < k ∧ c.1.size < 1000000000 ∧ I64 c.2.2.2.1) (hk : 2000000 ≤ k)
include hn hk

theorem predHolds_val (hS : IsSchema s) (hok : spec_SchemaOk k s = some true) (hok2 : impl_SchemaOk k s = some true) (p : List TPred) (V : List TVal) :
    spec_PredHolds k s p (V, ()) = some (predOkV k s p && (recEv s V).isSome && hld k s p (V, ()) 100 ((p.length : Int) - 1)) ∧ impl_PredHolds k s p (V, ()) = some (predOkV k s p && (recEv s V).isSome && hld k s p (V, ()) 100 ((p.length : Int) - 1)) := by
  obtain ⟨e1, e2⟩ := predOk_val k s hn hk hS hok hok2 p
  obtain ⟨b, e1', e2', e3⟩ := predOk_eq k s hn hk p
  obtain ⟨b0, r1, _, _, e4, e5⟩ := recOk_eq k hk s hn V
  obtain rfl : b0 = true := by rw [hok] at r1; exact (Option.some.inj r1).symm
  obtain rfl : predOkV k s p = b := by rw [e1] at e1'; exact Option.some.inj e1'
  unfold spec_PredHolds impl_PredHolds
  rw [e1, e2, e4, e5]
  simp only [Option.bind_some, cst, csf, Bool.true_and]
  generalize (recEv s V).isSome = b1
  cases hb : predOkV k s p with
  | false => exact ⟨rfl, rfl⟩
  | true =>
    cases b1 with
    | false => exact ⟨rfl, rfl⟩
    | true =>
      have g := e3 hb
      have hl := g.len
      have hw : IntKind.wrap .i64 ((p.length : Int) - 1) = ((p.length - 1 : Nat) : Int) := by rw [w64 (by omega) (by omega)]; omega
      have he : (p.length : Int) - 1 = ((p.length - 1 : Nat) : Int) := by omega
      have a1 : spec_l20Holds k s p ((p.length - 1 : Nat) : Int) (V, ()) = some (hld k s p (V, ()) k ((p.length - 1 : Nat) : Int)) := sholds_rec k s hn hk g V k (p.length - 1) (by omega) (by omega)
      have a2 := iholds_loop k s hn hk g V p [] k (List.replicate (Int.toNat (p.length : Int)) false) rfl (by omega) (by simp) (fun j hj => by simp at hj)
      have a2 : impl_PredHolds.l5 k k s p p (p.length : Int) 0 (V, ()) _ = _ := a2
      rw [hw, a1]
      simp only [Bool.and_self, cond_true, Option.bind_some, Bool.not_true, Bool.or_self, cond_false]
      rw [okLen_ok (by omega) (by omega), cond_true, a2, he, hld_fuel k s hn hk g (V, ()) k 100 (p.length - 1) (by omega) (by omega) (by omega)]
      exact ⟨rfl, rfl⟩

theorem plainB_kind (hS : IsSchema s) (hok : spec_SchemaOk k s = some true) (hok2 : impl_SchemaOk k s = some true) (x : TPred) :
    (x.1 = 5 ∨ x.1 = 6 → plainB k s x = ((x.2.1 == 0) && ((x.2.2.1.1 == 0) && eqS x.2.2.1.2.1 ⟨#[]⟩))) ∧ (x.1 = 7 → plainB k s x = ((x.2.1 == 0) && (((x.2.2.1.1 == 0) && eqS x.2.2.1.2.1 ⟨#[]⟩) && (x.2.2.2.2.1 == 0)))) := by
  obtain ⟨b, e, _, h1, h2, _⟩ := plain_eq k s hn hk hS hok hok2 x
  have : plainB k s x = b := by unfold plainB; rw [e]; rfl
  rw [this]
  exact ⟨h1, h2⟩

theorem plain_shf (hS : IsSchema s) (hok : spec_SchemaOk k s = some true) (hok2 : impl_SchemaOk k s = some true) (n : Int) (x : TPred) (h : plainB k s x = true) : plainB k s (shf n x) = true := by
  obtain ⟨h1, h2⟩ := plainB_kind k s hn hk hS hok hok2 x
  obtain ⟨g1, g2⟩ := plainB_kind k s hn hk hS hok hok2 (shf n x)
  rw [shf_kind] at g1 g2
  by_cases h56 : x.1 = 5 ∨ x.1 = 6
  · rw [h1 h56] at h
    rw [g1 h56]
    unfold shf
    rw [if_pos h56]
    exact h
  · by_cases h7 : x.1 = 7
    · rw [h2 h7] at h
      rw [g2 h7]
      unfold shf
      rw [if_neg h56, if_pos h7]
      exact h
    · unfold shf
      rw [if_neg h56, if_neg h7]
      exact h

theorem shfW_eq {q : List TPred} (g : GoodPreds k s q) (n : Nat) (hnn : n ≤ 100) : q.map (shfW (n : Int)) = q.map (shf (n : Int)) := by
  apply List.map_congr_left
  intro x hx
  obtain ⟨a, ha, hax⟩ := List.getElem_of_mem hx
  obtain ⟨k1, k2, k3⟩ := predKinds hn hk g a ha x (by rw [List.getElem?_eq_getElem ha, hax])
  have hl := g.len
  unfold shfW shf
  by_cases h56 : x.1 = 5 ∨ x.1 = 6
  · obtain ⟨c1, c2, c3⟩ := k2 h56
    rw [if_pos h56, if_pos h56, w64 (by omega) (by omega), w64 (by omega) (by omega)]
  · rw [if_neg h56, if_neg h56]
    by_cases h7 : x.1 = 7
    · obtain ⟨c1, c2⟩ := k3 h7
      rw [if_pos h7, if_pos h7, w64 (by omega) (by omega)]
    · rw [if_neg h7, if_neg h7]

theorem okV_parts {p : List TPred} (h : predOkV k s p = true) : (1 ≤ p.length ∧ p.length ≤ 31) ∧ (∀ x, x ∈ p → plainB k s x = true) ∧ frm p ((p.length : Int) - 1) = 0 := by
  unfold predOkV at h
  simp only [Bool.and_eq_true, decide_eq_true_eq, List.all_eq_true, beq_iff_eq] at h
  exact ⟨h.1, h.2.1, h.2.2⟩

theorem okV_of {p : List TPred} (h1 : 1 ≤ p.length) (h2 : p.length ≤ 31) (h3 : ∀ x, x ∈ p → plainB k s x = true) (h4 : frm p ((p.length : Int) - 1) = 0) : predOkV k s p = true := by
  unfold predOkV
  simp only [Bool.and_eq_true, decide_eq_true_eq, List.all_eq_true, beq_iff_eq]
  exact ⟨⟨h1, h2⟩, h3, h4⟩

/-- the contrary of a right condition -/
theorem not_ok (hS : IsSchema s) (hok : spec_SchemaOk k s = some true) (hok2 : impl_SchemaOk k s = some true) {p : List TPred} (h : predOkV k s p = true) (g : GoodPreds k s p) (hl : p.length + 1 ≤ 31) (r : TRec) :
    predOkV k s (p ++ [rootP 7 ((p.length : Int) - 1) 0]) = true ∧ hld k s (p ++ [rootP 7 ((p.length : Int) - 1) 0]) r 100 (((p ++ [rootP 7 ((p.length : Int) - 1) 0]).length : Int) - 1) = !hld k s p r 100 ((p.length : Int) - 1) := by
  obtain ⟨⟨a1, a2⟩, a3, a4⟩ := okV_parts k s hn hk h
  have hlen : (p ++ [rootP 7 ((p.length : Int) - 1) 0]).length = p.length + 1 := by simp
  have hlast : rdL (p ++ [rootP 7 ((p.length : Int) - 1) 0]) (p.length : Int) = some (rootP 7 ((p.length : Int) - 1) 0) := getMid _ _ _
  rw [show (((p ++ [rootP 7 ((p.length : Int) - 1) 0]).length : Int) - 1) = (p.length : Int) by rw [hlen]; omega]
  have hf : frm (p ++ [rootP 7 ((p.length : Int) - 1) 0]) (p.length : Int) = 0 := by
    rw [frm_eq _ _ (by omega) (by omega) _ hlast, if_pos (show (rootP 7 ((p.length : Int) - 1) 0).1 = 7 from rfl), if_pos (show (rootP 7 ((p.length : Int) - 1) 0).2.2.2.1 = (p.length : Int) - 1 from rfl), frm_app p _ _ (by omega)]
    exact a4
  refine ⟨okV_of k s hn hk (by omega) (by omega) (fun x hx => ?_) (by rw [hlen, show ((p.length + 1 : Nat) : Int) - 1 = (p.length : Int) by omega]; exact hf), ?_⟩
  · rcases List.mem_append.1 hx with hx | hx
    · exact a3 x hx
    · rw [List.mem_singleton] at hx
      subst hx
      rw [(plainB_kind k s hn hk hS hok hok2 _).2 rfl]
      simp [rootP, eqS_iff]
  · conv => lhs; unfold hld
    rw [hlast]
    simp only [rootP, if_neg (show ¬ ((7 : Int) = 5) by decide), if_neg (show ¬ ((7 : Int) = 6) by decide), if_true]
    rw [show (p.length : Int) - 1 = ((p.length - 1 : Nat) : Int) by omega, hld_app k s hn hk g _ r 99 (p.length - 1) (by omega), hld_fuel k s hn hk g r 99 100 (p.length - 1) (by omega) (by omega) (by omega)]

/-- a pair of right conditions -/
theorem pair_ok (hS : IsSchema s) (hok : spec_SchemaOk k s = some true) (hok2 : impl_SchemaOk k s = some true) (kd : Int) (hkd : kd = 5 ∨ kd = 6) {p q : List TPred} (hp : predOkV k s p = true) (hq : predOkV k s q = true) (gp : GoodPreds k s p) (gq : GoodPreds k s q) (hl : p.length + q.length + 1 ≤ 31) (r : TRec) :
    ∃ P, impl_PredPair k kd p q = some (((), true), P) ∧ predOkV k s P = true ∧ hld k s P r 100 ((P.length : Int) - 1) = (if kd = 5 then hld k s p r 100 ((p.length : Int) - 1) && hld k s q r 100 ((q.length : Int) - 1) else hld k s p r 100 ((p.length : Int) - 1) || hld k s q r 100 ((q.length : Int) - 1)) := by
  obtain ⟨⟨a1, a2⟩, a3, a4⟩ := okV_parts k s hn hk hp
  obtain ⟨⟨b1, b2⟩, b3, b4⟩ := okV_parts k s hn hk hq
  have e := ipair_eq k hk kd p q (by omega) (by omega) hkd
  rw [if_pos ⟨by omega, by omega, hl⟩, shfW_eq k s hn hk gq p.length (by omega), w64 (show -9223372036854775808 ≤ (p.length : Int) - 1 by omega) (by omega), w64 (by omega) (by omega)] at e
  refine ⟨_, e, ?_⟩
  generalize hR : rootP kd ((p.length : Int) - 1) (((p.length + q.length : Nat) : Int) - 1) = R
  have hRk : R.1 = kd := by rw [← hR]; rfl
  have hlen : (p ++ q.map (shf (p.length : Int)) ++ [R]).length = p.length + q.length + 1 := by simp; omega
  have hlast : rdL (p ++ q.map (shf (p.length : Int)) ++ [R]) ((p.length + q.length : Nat) : Int) = some R := by
    have := getMid (p ++ q.map (shf (p.length : Int))) ([] : List TPred) R
    rw [List.length_append, List.length_map] at this
    exact this
  have hA : R.2.2.2.1 = (p.length : Int) - 1 := by rw [← hR]; rfl
  have hB : R.2.2.2.2.1 = ((p.length + q.length : Nat) : Int) - 1 := by rw [← hR]; rfl
  have f1 : frm (p ++ q.map (shf (p.length : Int)) ++ [R]) (((p.length + q.length : Nat) : Int) - 1) = (p.length : Int) := by
    have := frm_shift p q [R] (by omega) q.length ((q.length : Int) - 1) (by omega) (by omega) (by omega) (by omega)
    rw [b4] at this
    rw [show ((p.length + q.length : Nat) : Int) - 1 = (p.length : Int) + ((q.length : Int) - 1) by omega, this]
    omega
  have f2 : frm (p ++ q.map (shf (p.length : Int)) ++ [R]) ((p.length : Int) - 1) = 0 := by
    rw [List.append_assoc, frm_app p _ _ (by omega)]
    exact a4
  have hf : frm (p ++ q.map (shf (p.length : Int)) ++ [R]) ((p.length + q.length : Nat) : Int) = 0 := by
    rw [frm_eq _ _ (by omega) (by omega) _ hlast, hRk, if_neg (by omega), if_pos hkd, hB, if_pos rfl, f1, hA, if_pos ⟨by omega, rfl⟩]
    exact f2
  rw [show (((p ++ q.map (shf (p.length : Int)) ++ [R]).length : Int) - 1) = ((p.length + q.length : Nat) : Int) by rw [hlen]; omega]
  refine ⟨okV_of k s hn hk (by omega) (by omega) (fun x hx => ?_) (by rw [hlen, show ((p.length + q.length + 1 : Nat) : Int) - 1 = ((p.length + q.length : Nat) : Int) by omega]; exact hf), ?_⟩
  · rcases List.mem_append.1 hx with hx | hx
    · rcases List.mem_append.1 hx with hx | hx
      · exact a3 x hx
      · obtain ⟨y, hy, rfl⟩ := List.mem_map.1 hx
        exact plain_shf k s hn hk hS hok hok2 _ y (b3 y hy)
    · rw [List.mem_singleton] at hx
      subst hx
      rw [(plainB_kind k s hn hk hS hok hok2 _).1 (by rw [hRk]; exact hkd), ← hR]
      simp [rootP, eqS_iff]
  · have h1 : hld k s (p ++ q.map (shf (p.length : Int)) ++ [R]) r 99 ((p.length : Int) - 1) = hld k s p r 100 ((p.length : Int) - 1) := by
      rw [List.append_assoc, show (p.length : Int) - 1 = ((p.length - 1 : Nat) : Int) by omega, hld_app k s hn hk gp _ r 99 (p.length - 1) (by omega), hld_fuel k s hn hk gp r 99 100 (p.length - 1) (by omega) (by omega) (by omega)]
    have h2 : hld k s (p ++ q.map (shf (p.length : Int)) ++ [R]) r 99 (((p.length + q.length : Nat) : Int) - 1) = hld k s q r 100 ((q.length : Int) - 1) := by
      rw [show ((p.length + q.length : Nat) : Int) - 1 = (p.length : Int) + ((q.length - 1 : Nat) : Int) by omega, hld_shift k s hn hk p gq [R] r 99 (q.length - 1) (by omega), show (q.length : Int) - 1 = ((q.length - 1 : Nat) : Int) by omega, hld_fuel k s hn hk gq r 99 100 (q.length - 1) (by omega) (by omega) (by omega)]
    conv => lhs; unfold hld
    rw [hlast]
    simp only [hRk, hA, hB, h1, h2]
    by_cases h5 : kd = 5
    · rw [if_pos h5, if_pos h5]
    · rw [if_neg h5, if_neg h5, if_pos (by omega)]
end
end Go.Law
end

section
/- Draws: they come to an end, whatever the bytes, and what is drawn is within its bounds. -/
set_option linter.unusedVariables false
set_option linter.unusedSimpArgs false
namespace Go.Law
open Go.Am Go.Fn

def CurOk (c : TL1Cur) : Prop := 0 ≤ c.2.1 ∧ c.2.1 ≤ (c.1.length : Int) ∧ c.1.length ≤ 1048576

variable (k : Nat)

theorem byte_ok (c : TL1Cur) (hc : CurOk c) : ∃ v c', spec_l1Byte k c = some (v, c') ∧ 0 ≤ v ∧ v < 256 ∧ CurOk c' := by
  obtain ⟨h0, h1, h2⟩ := hc
  unfold spec_l1Byte spec_l1Byte.c6
  by_cases h : c.2.1 < (c.1.length : Int)
  · obtain ⟨x, hx, _⟩ := rdL_some h0 h
    simp only [decide_eq_true h, cond_true, hx, Option.bind_some]
    refine ⟨_, _, rfl, ?_, ?_, ?_, ?_, ?_⟩
    · simp only [and255]; omega
    · simp only [and255]; omega
    · show 0 ≤ IntKind.wrap .i64 (c.2.1 + 1)
      rw [w64 (by omega) (by omega)]; omega
    · show IntKind.wrap .i64 (c.2.1 + 1) ≤ (c.1.length : Int)
      rw [w64 (by omega) (by omega)]; omega
    · exact h2
  · simp only [decide_eq_false h, cond_false]
    refine ⟨_, _, rfl, ?_, ?_, h0, h1, h2⟩
    · simp only [and255]; omega
    · simp only [and255]; omega

theorem below_ok (n : Int) (hn : n < 9223372036854775808) (c : TL1Cur) (hc : CurOk c) : ∃ v c', spec_l1Below k n c = some (v, c') ∧ (n ≤ 0 → v = 0) ∧ (0 < n → 0 ≤ v ∧ v < n) ∧ CurOk c' := by
  unfold spec_l1Below
  by_cases h0 : n ≤ 0
  · simp only [decide_eq_true h0, cond_true]
    exact ⟨_, _, rfl, fun _ => rfl, fun h => by omega, hc⟩
  · have hne : decide (n ≠ 0) = true := decide_eq_true (by omega)
    simp only [decide_eq_false h0, cond_false, hne, cond_true]
    have fin : ∀ v : Int, 0 ≤ v → 0 ≤ Int.tmod v n ∧ Int.tmod v n < n := fun v hv => by
      rw [Int.tmod_eq_emod_of_nonneg hv]
      exact ⟨Int.emod_nonneg _ (by omega), Int.emod_lt_of_pos _ (by omega)⟩
    by_cases h256 : n ≤ 256
    · simp only [decide_eq_true h256, cond_true]
      obtain ⟨v, c', hv, v0, v1, hc'⟩ := byte_ok k c hc
      simp only [hv, Option.bind_some]
      exact ⟨_, _, rfl, fun h => by omega, fun _ => fin v v0, hc'⟩
    · simp only [decide_eq_false h256, cond_false]
      obtain ⟨v1, c1, hv1, a1, b1, hc1⟩ := byte_ok k c hc
      simp only [hv1, Option.bind_some]
      obtain ⟨v2, c2, hv2, a2, b2, hc2⟩ := byte_ok k c1 hc1
      simp only [hv2, Option.bind_some]
      obtain ⟨v3, c3, hv3, a3, b3, hc3⟩ := byte_ok k c2 hc2
      simp only [hv3, Option.bind_some]
      obtain ⟨v4, c4, hv4, a4, b4, hc4⟩ := byte_ok k c3 hc3
      simp only [hv4, Option.bind_some]
      rw [w64 (show -9223372036854775808 ≤ v1 * 16777216 by omega) (by omega), w64 (show -9223372036854775808 ≤ v2 * 65536 by omega) (by omega), w64 (show -9223372036854775808 ≤ v1 * 16777216 + v2 * 65536 by omega) (by omega),
        w64 (show -9223372036854775808 ≤ v3 * 256 by omega) (by omega), w64 (show -9223372036854775808 ≤ v1 * 16777216 + v2 * 65536 + v3 * 256 by omega) (by omega), w64 (show -9223372036854775808 ≤ v1 * 16777216 + v2 * 65536 + v3 * 256 + v4 by omega) (by omega)]
      exact ⟨_, _, rfl, fun h => by omega, fun _ => fin _ (by omega), hc4⟩

theorem pick_ok (l : List Int) (hl : 0 < l.length) (hl2 : l.length < 1000000) (c : TL1Cur) (hc : CurOk c) : ∃ v c', spec_l1PickInt k l c = some (v, c') ∧ v ∈ l ∧ CurOk c' := by
  unfold spec_l1PickInt
  obtain ⟨v, c', hv, _, h1, hc'⟩ := below_ok k (l.length : Int) (by omega) c hc
  obtain ⟨h1, h2⟩ := h1 (by omega)
  simp only [hv, Option.bind_some]
  obtain ⟨x, hx, hx2⟩ := rdL_some h1 h2
  simp only [hx, Option.bind_some]
  exact ⟨_, _, rfl, List.mem_of_getElem? hx2, hc'⟩

theorem once_ok (n : Int) (hn : n < 9223372036854775808) (c : TL1Cur) (hc : CurOk c) : ∃ v c', spec_l1Once k n c = some (v, c') ∧ CurOk c' := by
  unfold spec_l1Once
  obtain ⟨v, c', hv, _, _, hc'⟩ := below_ok k n hn c hc
  simp only [hv, Option.bind_some]
  exact ⟨_, _, rfl, hc'⟩

theorem bytesLoop_ok (t6 : Int) (h6 : t6 ≤ 1000000) : ∀ (m n : Nat) (i : Int) (c : TL1Cur) (acc : List Int), CurOk c → 0 ≤ i → t6 - i ≤ m → m < n → acc.length + m ≤ 4000000 → (∀ x, x ∈ acc → 0 ≤ x ∧ x < 256) →
    ∃ c' out, spec_l1DrawBytes.l4 k n t6 i c acc = some ((), (c', out)) ∧ CurOk c' ∧ out.length ≤ acc.length + m ∧ ∀ x, x ∈ out → 0 ≤ x ∧ x < 256 := by
  intro m
  induction m with
  | zero =>
    intro n i c acc hc hi hm hn ha hb
    obtain ⟨n, rfl⟩ : ∃ j, n = j + 1 := ⟨n - 1, by omega⟩
    simp only [spec_l1DrawBytes.l4, decide_eq_false (show ¬ i < t6 by omega), cond_false]
    exact ⟨_, _, rfl, hc, by omega, hb⟩
  | succ m ih =>
    intro n i c acc hc hi hm hn ha hb
    obtain ⟨n, rfl⟩ : ∃ j, n = j + 1 := ⟨n - 1, by omega⟩
    by_cases h : i < t6
    · obtain ⟨v, c1, hv, v0, v1, hc1⟩ := byte_ok k c hc
      simp only [spec_l1DrawBytes.l4, decide_eq_true h, cond_true, hv, Option.bind_some]
      rw [lim_ok (by simp; omega), cond_true, w8 v0 v1, w64 (by omega) (by omega)]
      obtain ⟨c', out, h1, h2, h3, h4⟩ := ih n (i + 1) c1 (acc ++ [v]) hc1 (by omega) (by omega) (by omega) (by simp; omega) (fun x hx => by
        rcases List.mem_append.1 hx with hx | hx
        · exact hb x hx
        · simp at hx; subst hx; exact ⟨v0, v1⟩)
      exact ⟨c', out, h1, h2, by simp at h3; omega, h4⟩
    · simp only [spec_l1DrawBytes.l4, decide_eq_false h, cond_false]
      exact ⟨_, _, rfl, hc, by omega, hb⟩

theorem drawBytes_ok (most : Nat) (hm : most < 900000) (hk : 1000000 ≤ k) (c : TL1Cur) (hc : CurOk c) : ∃ c' out, spec_l1DrawBytes k (most : Int) c = some ((), (c', out)) ∧ CurOk c' ∧ out.length ≤ most ∧ ∀ x, x ∈ out → 0 ≤ x ∧ x < 256 := by
  unfold spec_l1DrawBytes
  rw [w64 (by omega) (by omega)]
  obtain ⟨v, c1, hv, _, h1, hc1⟩ := below_ok k ((most : Int) + 1) (by omega) c hc
  obtain ⟨h1, h2⟩ := h1 (by omega)
  simp only [hv, Option.bind_some]
  obtain ⟨c', out, g1, g2, g3, g4⟩ := bytesLoop_ok k v (by omega) most k 0 c1 [] hc1 (by omega) (by omega) (by omega) (by simp; omega) (by simp)
  exact ⟨c', out, g1, g2, by simpa using g3, g4⟩

theorem drawText_ok (most : Nat) (hm : most < 900000) (hk : 1000000 ≤ k) (c : TL1Cur) (hc : CurOk c) : ∃ v c', spec_l4DrawText k (most : Int) c = some (v, c') ∧ CurOk c' ∧ v.size ≤ most := by
  unfold spec_l4DrawText
  obtain ⟨c', out, g1, g2, g3, g4⟩ := drawBytes_ok k most hm hk c hc
  simp only [g1, Option.bind_some]
  exact ⟨_, _, rfl, g2, by rw [intsStr_size]; exact g3⟩

theorem drawNum_ok (c : TL1Cur) (hc : CurOk c) : ∃ v c', spec_l2DrawNum k c = some (v, c') ∧ CurOk c' ∧ I64 v := by
  unfold spec_l2DrawNum
  obtain ⟨v1, c1, hv1, _, a1, hc1⟩ := below_ok k 1000000 (by omega) c hc
  have a1 := a1 (by omega)
  simp only [hv1, Option.bind_some]
  obtain ⟨v2, c2, hv2, _, a2, hc2⟩ := below_ok k 1000000 (by omega) c1 hc1
  have a2 := a2 (by omega)
  simp only [hv2, Option.bind_some]
  obtain ⟨v3, c3, hv3, _, a3, hc3⟩ := below_ok k 300 (by omega) c2 hc2
  have a3 := a3 (by omega)
  simp only [hv3, Option.bind_some]
  rw [w64 (show -9223372036854775808 ≤ 0 - v2 by omega) (by omega)]
  obtain ⟨v, c4, hv, hm, hc4⟩ := pick_ok k [0, 1, (-1), 63, 64, (-64), (-65), 127, 128, 16383, 16384, 2147483647, (-2147483648), 9223372036854775807, (-9223372036854775808), 4611686018427387904, v1, 0 - v2, v3] (by simp) (by simp) c3 hc3
  simp only [hv, Option.bind_some]
  refine ⟨_, _, rfl, hc4, ?_⟩
  simp only [List.mem_cons, List.not_mem_nil, or_false] at hm
  unfold I64
  omega

theorem newLoop_ok (t : List Int) (ht : t.length ≤ 1048576) : ∀ (m n : Nat) (h i : Int), 0 ≤ i → 4000 - i ≤ m → m < n →
    ∃ c, spec_l1New.l3 k n t h i = some ((), c) ∧ CurOk c := by
  intro m
  induction m with
  | zero =>
    intro n h i hi hm hn
    obtain ⟨n, rfl⟩ : ∃ j, n = j + 1 := ⟨n - 1, by omega⟩
    simp only [spec_l1New.l3, csf, decide_eq_false (show ¬ i < 4000 by omega), Bool.and_false, Option.bind_some, cond_false]
    exact ⟨_, rfl, Int.le_refl _, by simp, ht⟩
  | succ m ih =>
    intro n h i hi hm hn
    obtain ⟨n, rfl⟩ : ∃ j, n = j + 1 := ⟨n - 1, by omega⟩
    by_cases hb : i < (t.length : Int) ∧ i < 4000
    · obtain ⟨x, hx, _⟩ := rdL_some hi hb.1
      simp only [spec_l1New.l3, csf, decide_eq_true hb.1, decide_eq_true hb.2, Bool.and_self, Option.bind_some, cond_true, hx]
      rw [w64 (show -9223372036854775808 ≤ i + 1 by omega) (by omega)]
      exact ih n _ (i + 1) (by omega) (by omega) (by omega)
    · have : (decide (i < (t.length : Int)) && decide (i < 4000)) = false := by
        rw [Bool.eq_false_iff]; intro hh
        simp only [Bool.and_eq_true, decide_eq_true_eq] at hh
        exact hb hh
      simp only [spec_l1New.l3, csf, this, Option.bind_some, cond_false]
      exact ⟨_, rfl, Int.le_refl _, by simp, ht⟩

theorem new_ok (hk : 1000000 ≤ k) (t : List Int) (ht : t.length ≤ 1048576) : ∃ c, spec_l1New k t = some ((), c) ∧ CurOk c := by
  unfold spec_l1New
  exact newLoop_ok k t ht 4000 k _ 0 (by omega) (by omega) (by omega)
end Go.Law
end

section
/- Texts are picked. -/
set_option linter.unusedVariables false
set_option linter.unusedSimpArgs false
namespace Go.Law
open Go.Am Go.Fn
variable (k : Nat)

theorem pickS_ok (l : List ByteArray) (hl : 0 < l.length) (hl2 : l.length < 1000000) (c : TL1Cur) (hc : CurOk c) : ∃ v c', spec_l1Pick k l c = some (v, c') ∧ v ∈ l ∧ CurOk c' := by
  unfold spec_l1Pick
  obtain ⟨v, c', hv, _, h1, hc'⟩ := below_ok k (l.length : Int) (by omega) c hc
  obtain ⟨h1, h2⟩ := h1 (by omega)
  simp only [hv, Option.bind_some]
  obtain ⟨x, hx, hx2⟩ := rdL_some h1 h2
  simp only [hx, Option.bind_some]
  exact ⟨_, _, rfl, List.mem_of_getElem? hx2, hc'⟩

end Go.Law
end

section
/- A right value is drawn. -/
set_option linter.unusedVariables false
set_option linter.unusedSimpArgs false
namespace Go.Law
open Go.Am Go.Fn
variable (k : Nat)

def WfV (v : TVal) : Prop := I64 v.1 ∧ v.2.1.size ≤ 100

theorem i64z : I64 0 := ⟨by decide, by decide⟩

theorem e0 : (⟨#[]⟩ : ByteArray).size ≤ 100 := by decide

theorem drawRight_ok (hk : 1000000 ≤ k) (t : Int) (c : TL1Cur) (hc : CurOk c) : ∃ v c', spec_l6DrawRight k t c = some (v, c') ∧ WfV v ∧ CurOk c' := by
  unfold spec_l6DrawRight
  by_cases h0 : t = 0
  · rw [beqT h0, cond_true]
    obtain ⟨v1, c1, e1, _, a1, hc1⟩ := below_ok k 2 (by omega) c hc
    have a1 := a1 (by omega)
    simp only [e1, Option.bind_some]
    exact ⟨_, _, rfl, ⟨⟨by omega, by omega⟩, e0⟩, hc1⟩
  rw [beqF h0, cond_false]
  by_cases h1 : t = 1
  · rw [beqT h1, cond_true]
    obtain ⟨v1, c1, e1, hc1⟩ := once_ok k 6 (by omega) c hc
    simp only [e1, Option.bind_some]
    cases v1 with
    | true =>
      simp only [cond_true]
      obtain ⟨v2, c2, e2, m2, hc2⟩ := pick_ok k [2147483647, (-2147483648), 0] (by simp) (by simp) c1 hc1
      simp only [e2, Option.bind_some]
      simp only [List.mem_cons, List.not_mem_nil, or_false] at m2
      exact ⟨_, _, rfl, ⟨⟨by omega, by omega⟩, e0⟩, hc2⟩
    | false =>
      simp only [cond_false]
      obtain ⟨v2, c2, e2, _, a2, hc2⟩ := below_ok k 40 (by omega) c1 hc1
      have a2 := a2 (by omega)
      simp only [e2, Option.bind_some]
      rw [w64 (by omega) (by omega)]
      exact ⟨_, _, rfl, ⟨⟨by omega, by omega⟩, e0⟩, hc2⟩
  rw [beqF h1, cond_false]
  by_cases h6 : t = 6
  · rw [beqT h6, cond_true]
    obtain ⟨v1, c1, e1, hc1⟩ := once_ok k 3 (by omega) c hc
    simp only [e1, Option.bind_some]
    cases v1 with
    | true =>
      simp only [cond_true]
      obtain ⟨v2, c2, e2, m2, hc2⟩ := pickS_ok k [(⟨#[]⟩ : ByteArray), (⟨#[97]⟩ : ByteArray), (⟨#[97, 98]⟩ : ByteArray), (⟨#[97, 98, 99]⟩ : ByteArray), (⟨#[97, 98, 100]⟩ : ByteArray), (⟨#[98]⟩ : ByteArray), (⟨#[97, 97]⟩ : ByteArray)] (by simp) (by simp) c1 hc1
      simp only [e2, Option.bind_some]
      refine ⟨_, _, rfl, ⟨i64z, ?_⟩, hc2⟩
      simp only [List.mem_cons, List.not_mem_nil, or_false] at m2
      rcases m2 with rfl | rfl | rfl | rfl | rfl | rfl | rfl <;> decide
    | false =>
      simp only [cond_false]
      obtain ⟨v2, c2, e2, hc2, m2⟩ := drawText_ok k 6 (by omega) hk c1 hc1
      have e2 : spec_l4DrawText k 6 c1 = some (v2, c2) := e2
      simp only [e2, Option.bind_some]
      exact ⟨_, _, rfl, ⟨i64z, by show v2.size ≤ 100; omega⟩, hc2⟩
  rw [beqF h6, cond_false]
  by_cases h5 : t = 5
  · rw [beqT h5, cond_true]
    obtain ⟨v1, c1, e1, _, a1, hc1⟩ := below_ok k 9 (by omega) c hc
    have a1 := a1 (by omega)
    simp only [e1, Option.bind_some]
    obtain ⟨v2, c2, e2, hc2, i2⟩ := drawNum_ok k c1 hc1
    simp only [e2, Option.bind_some]
    obtain ⟨v3, c3, e3, m3, hc3⟩ := pick_ok k [0, (-9223372036854775808), 4607182418800017408, (-4616189618054758400), 9221120237041090560, (-2251799813685248), v1, v2] (by simp) (by simp) c2 hc2
    simp only [e3, Option.bind_some]
    refine ⟨_, _, rfl, ⟨?_, e0⟩, hc3⟩
    simp only [List.mem_cons, List.not_mem_nil, or_false] at m3
    obtain ⟨i2a, i2b⟩ := i2
    exact ⟨by show _ ≤ v3; omega, by show v3 < _; omega⟩
  · rw [beqF h5, cond_false]
    obtain ⟨v1, c1, e1, hc1⟩ := once_ok k 2 (by omega) c hc
    simp only [e1, Option.bind_some]
    cases v1 with
    | true =>
      simp only [cond_true]
      obtain ⟨v2, c2, e2, _, a2, hc2⟩ := below_ok k 30 (by omega) c1 hc1
      have a2 := a2 (by omega)
      simp only [e2, Option.bind_some]
      rw [w64 (by omega) (by omega)]
      exact ⟨_, _, rfl, ⟨⟨by omega, by omega⟩, e0⟩, hc2⟩
    | false =>
      simp only [cond_false]
      obtain ⟨v2, c2, e2, hc2, i2⟩ := drawNum_ok k c1 hc1
      simp only [e2, Option.bind_some]
      exact ⟨_, _, rfl, ⟨i2, e0⟩, hc2⟩

end Go.Law
end

section
/- A schema is drawn, whatever the bytes. -/
set_option linter.unusedVariables false
set_option linter.unusedSimpArgs false
namespace Go.Law
open Go.Am Go.Fn
variable (k : Nat)

def WfD (c : TCol) : Prop := c.1.size ≤ 100 ∧ I64 c.2.1 ∧ I64 c.2.2.1 ∧ I64 c.2.2.2.1
def WfDs (l : List TCol) : Prop := ∀ c, c ∈ l → WfD c

theorem WfDs.app {a b : List TCol} (h : WfDs a) (h' : WfDs b) : WfDs (a ++ b) := fun n hn => (List.mem_append.1 hn).elim (h n) (h' n)
theorem WfDs.one {n : TCol} (h : WfD n) : WfDs [n] := fun m hm => by simp at hm; subst hm; exact h
theorem WfDs.set {l : List TCol} {i : Nat} {n : TCol} (h : WfDs l) (hn : WfD n) : WfDs (l.set i n) := fun m hm => by
  rcases List.mem_or_eq_of_mem_set hm with hm | rfl
  · exact h m hm
  · exact hn
theorem WfDs.nil : WfDs [] := fun m hm => (List.not_mem_nil hm).elim

theorem wfD_mk {t r m : Int} {s : ByteArray} (h0 : s.size ≤ 100) (h1 : I64 t) (h2 : I64 r) (h3 : I64 m) : WfD (s, t, r, m, ()) := ⟨h0, h1, h2, h3⟩
theorem i64s {x : Int} (h0 : -1000000000 ≤ x) (h1 : x ≤ 1000000000) : I64 x := ⟨by omega, by omega⟩

def szc : Nat → Nat
  | 0 => 1
  | d + 1 => 1 + 3 * szc d

theorem szc_pos (d : Nat) : 0 < szc d := by cases d <;> simp [szc] <;> omega
theorem szc_le {d : Nat} (h : d ≤ 3) : szc d ≤ 40 := by
  match d, h with
  | 0, _ => decide
  | 1, _ => decide
  | 2, _ => decide
  | 3, _ => decide

abbrev ColS (S : ByteArray → Int → TL1Cur → List TCol → Option (Unit × TL1Cur × List TCol)) (deep : Nat) : Prop :=
  ∀ (name : ByteArray) (c : TL1Cur) (acc : List TCol), (deep = 0 → eqS name ⟨#[]⟩ = false) → name.size ≤ 2 → CurOk c → WfDs acc → acc.length + szc deep ≤ 10000 →
    ∃ c' l', S name (deep : Int) c acc = some ((), (c', l')) ∧ CurOk c' ∧ WfDs l' ∧ acc.length < l'.length ∧ l'.length ≤ acc.length + szc deep

theorem colLoop (S : ByteArray → Int → TL1Cur → List TCol → Option (Unit × TL1Cur × List TCol)) (d : Nat) (hd : d ≤ 3) (ih : ColS S d) (many : Int) (hm : many ≤ 3) :
    ∀ (m n : Nat) (i : Int) (c : TL1Cur) (acc : List TCol), 0 ≤ i → many - i ≤ m → m < n → CurOk c → WfDs acc → acc.length + m * szc d ≤ 10000 →
    ∃ c' l', spec_l5DrawCol.l13 k S n ((d + 1 : Nat) : Int) many i c acc = some ((), (c', l')) ∧ CurOk c' ∧ WfDs l' ∧ acc.length ≤ l'.length ∧ l'.length ≤ acc.length + m * szc d := by
  intro m
  induction m with
  | zero =>
    intro n i c acc hi hmi hn hc ha hl
    obtain ⟨n, rfl⟩ : ∃ j, n = j + 1 := ⟨n - 1, by omega⟩
    simp only [spec_l5DrawCol.l13, decide_eq_false (show ¬ i < many by omega), cond_false]
    exact ⟨_, _, rfl, hc, ha, Nat.le_refl _, by omega⟩
  | succ m ihm =>
    intro n i c acc hi hmi hn hc ha hl
    obtain ⟨n, rfl⟩ : ∃ j, n = j + 1 := ⟨n - 1, by omega⟩
    have hsz : (m + 1) * szc d = m * szc d + szc d := by rw [Nat.add_mul]; simp
    by_cases h : i < many
    · obtain ⟨v, c1, e1, _, b1, hc1⟩ := below_ok k 4 (by omega) c hc
      have b1 := b1 (by omega)
      simp only [spec_l5DrawCol.l13, decide_eq_true h, cond_true, e1, Option.bind_some]
      have hdw : IntKind.wrap .i64 (((d + 1 : Nat) : Int) - 1) = (d : Int) := by rw [w64 (by omega) (by omega)]; omega
      rw [hdw]
      have hne : eqS (intsStr [IntKind.wrap .u8 (IntKind.wrap .i64 (97 + i)), IntKind.wrap .u8 (IntKind.wrap .i64 (97 + v))]) ⟨#[]⟩ = false := by
        rw [eqS_iff]
        refine decide_eq_false fun hh => ?_
        have := congrArg ByteArray.size hh
        rw [intsStr_size] at this
        cases this
      obtain ⟨c2, l2, e2, hc2, hw2, hl2, hl2'⟩ := ih _ c1 acc (fun _ => hne) (by rw [intsStr_size]; exact Nat.le_refl 2) hc1 ha (by omega)
      simp only [e2, Option.bind_some]
      rw [w64 (by omega) (by omega)]
      obtain ⟨c', l', g1, g2, g3, g4, g5⟩ := ihm n (i + 1) c2 l2 (by omega) (by omega) (by omega) hc2 hw2 (by omega)
      exact ⟨c', l', g1, g2, g3, by omega, by omega⟩
    · simp only [spec_l5DrawCol.l13, decide_eq_false h, cond_false]
      exact ⟨_, _, rfl, hc, ha, Nat.le_refl _, by omega⟩

theorem colStep (hk : 100 ≤ k) (deep : Nat) (hdeep : deep ≤ 3) (S : ByteArray → Int → TL1Cur → List TCol → Option (Unit × TL1Cur × List TCol)) (ih : ∀ d, d + 1 = deep → ColS S d) : ColS (spec_l5DrawCol.b k S) deep := by
  intro name c acc hname hsize hc ha hl
  have hp := szc_pos deep
  have z0 : I64 0 := i64s (by omega) (by omega)
  have z7 : I64 7 := i64s (by omega) (by omega)
  have hset : ∀ (x y : TCol), List.set (acc ++ [x]) (Int.toNat (acc.length : Int)) y = acc ++ [y] := fun x y => by
    rw [Int.toNat_natCast, List.set_append_right _ _ (Nat.le_refl _)]; simp
  have hget : ∀ (x : TCol), rdL (acc ++ [x]) (acc.length : Int) = some x := fun x => by
    rw [rdL_nat, List.getElem?_append_right (Nat.le_refl _)]; simp
  -- a leaf
  have leaf : ∀ (c : TL1Cur) (t r : Int), CurOk c → t ≠ 7 → I64 t → I64 r → ∃ c' l', spec_l5DrawCol.c4 k S name (deep : Int) c acc (name, t, r, 0, ()) = some ((), (c', l')) ∧ CurOk c' ∧ WfDs l' ∧ acc.length < l'.length ∧ l'.length ≤ acc.length + szc deep := by
    intro c t r hc ht h1 h2
    unfold spec_l5DrawCol.c4
    rw [lim_ok (by simp; omega), cond_true]
    simp only [bneT ht, cond_true]
    exact ⟨_, _, rfl, hc, ha.app (WfDs.one (wfD_mk (by omega) h1 h2 z0)), by simp, by simp; omega⟩
  -- a group
  have group : ∀ (c : TL1Cur) (r : Int), 0 < deep → CurOk c → I64 r → ∃ c' l', spec_l5DrawCol.c4 k S name (deep : Int) c acc (name, 7, r, 0, ()) = some ((), (c', l')) ∧ CurOk c' ∧ WfDs l' ∧ acc.length < l'.length ∧ l'.length ≤ acc.length + szc deep := by
    intro c r hd0 hc h2
    obtain ⟨d, rfl⟩ : ∃ d, deep = d + 1 := ⟨deep - 1, by omega⟩
    unfold spec_l5DrawCol.c4 spec_l5DrawCol.c12
    rw [lim_ok (by simp; omega), cond_true]
    obtain ⟨v, c1, e1, _, b1, hc1⟩ := below_ok k 3 (by omega) c hc
    have b1 := b1 (by omega)
    simp only [bneF rfl, cond_false, e1, Option.bind_some, hget, hset]
    rw [w64 (by omega) (by omega)]
    have hsz : szc (d + 1) = 1 + 3 * szc d := rfl
    have loop : ∀ y : TCol, WfD y → ∃ c' l', spec_l5DrawCol.l13 k S k ((d + 1 : Nat) : Int) (1 + v) 0 c1 (acc ++ [y]) = some ((), (c', l')) ∧ CurOk c' ∧ WfDs l' ∧ acc.length < l'.length ∧ l'.length ≤ acc.length + szc (d + 1) := by
      intro y hy
      obtain ⟨c', l', g1, g2, g3, g4, g5⟩ := colLoop k S d (by omega) (ih d rfl) (1 + v) (by omega) 3 k 0 c1 (acc ++ [y]) (by omega) (by omega) (by omega) hc1 (ha.app (WfDs.one hy)) (by simp; omega)
      simp at g4 g5
      exact ⟨c', l', g1, g2, g3, by omega, by omega⟩
    cases eqS name ⟨#[]⟩ with
    | true => simp only [cond_true]; exact loop _ (wfD_mk (by omega) z7 z0 (i64s (by omega) (by omega)))
    | false => simp only [cond_false]; exact loop _ (wfD_mk (by omega) z7 h2 (i64s (by omega) (by omega)))
  unfold spec_l5DrawCol.b
  obtain ⟨t, c1, e1, m1, hc1⟩ := pick_ok k [0, 1, 2, 5, 6] (by simp) (by simp) c hc
  simp only [List.mem_cons, List.not_mem_nil, or_false] at m1
  simp only [e1, Option.bind_some]
  obtain ⟨r, c2, e2, _, b2, hc2⟩ := below_ok k 3 (by omega) c1 hc1
  have b2 := b2 (by omega)
  simp only [e2, Option.bind_some]
  have hI : I64 t := i64s (by omega) (by omega)
  have hR : I64 r := i64s (by omega) (by omega)
  cases hn : eqS name ⟨#[]⟩ with
  | true =>
    simp only [cond_true]
    have : 0 < deep := by
      rcases Nat.eq_zero_or_pos deep with h | h
      · rw [hname h] at hn; cases hn
      · exact h
    exact group c2 r this hc2 hR
  | false =>
    simp only [cond_false]
    by_cases h : (deep : Int) > 0
    · simp only [decide_eq_true h, cond_true]
      obtain ⟨b, c3, e3, hc3⟩ := once_ok k 3 (by omega) c2 hc2
      simp only [e3, Option.bind_some]
      cases b with
      | true => simp only [cond_true]; exact group c3 r (by omega) hc3 hR
      | false => simp only [cond_false]; exact leaf c3 t r hc3 (by omega) hI hR
    · simp only [decide_eq_false h, cond_false]
      exact leaf c2 t r hc2 (by omega) hI hR

theorem drawCol_ok (hk : 100 ≤ k) : ∀ (deep D : Nat), deep ≤ 3 → deep < D → ColS (spec_l5DrawCol.rec k D) deep := by
  intro deep
  induction deep with
  | zero =>
    intro D hdeep hD
    obtain ⟨D, rfl⟩ : ∃ j, D = j + 1 := ⟨D - 1, by omega⟩
    exact colStep k hk 0 (by omega) _ (fun d h => by omega)
  | succ deep ihd =>
    intro D hdeep hD
    obtain ⟨D, rfl⟩ : ∃ j, D = j + 1 := ⟨D - 1, by omega⟩
    exact colStep k hk (deep + 1) hdeep _ (fun d h => by
      obtain rfl : d = deep := by omega
      exact ihd D (by omega) (by omega))

theorem wfSmall (hk : 1000 ≤ k) {s : List TCol} (h : WfDs s) : ∀ c, c ∈ s → c.1.size < k ∧ c.1.size < 1000000000 ∧ I64 c.2.2.2.1 := fun c hc => by
  obtain ⟨h0, _, _, h3⟩ := h c hc
  exact ⟨by omega, by omega, h3⟩

theorem dflt_ok (hk : 100 ≤ k) : spec_SchemaOk k [((⟨#[]⟩ : ByteArray), 7, 0, 1, ()), ((⟨#[97]⟩ : ByteArray), 2, 1, 0, ())] = some true := by
  obtain ⟨K, rfl⟩ : ∃ q, k = q + 100 := ⟨k - 100, by omega⟩
  kernel_rfl

theorem drawRightS_ok (hk : 1000 ≤ k) : ∀ (m n : Nat) (i : Int) (c : TL1Cur), CurOk c → 0 ≤ i → 9 - i ≤ m → m < n →
    ∃ c' l, spec_l5DrawRight.l2 k n i c = some ((), (c', l)) ∧ CurOk c' ∧ WfDs l ∧ 0 < l.length ∧ l.length ≤ 40 ∧ spec_SchemaOk k l = some true := by
  intro m
  induction m with
  | zero =>
    intro n i c hc hi hm hn
    obtain ⟨n, rfl⟩ : ∃ j, n = j + 1 := ⟨n - 1, by omega⟩
    simp only [spec_l5DrawRight.l2, decide_eq_false (show ¬ i < 9 by omega), cond_false]
    exact ⟨_, _, rfl, hc, (WfDs.one (wfD_mk (by decide) (i64s (by omega) (by omega)) (i64s (by omega) (by omega)) (i64s (by omega) (by omega)))).app (WfDs.one (wfD_mk (by decide) (i64s (by omega) (by omega)) (i64s (by omega) (by omega)) (i64s (by omega) (by omega)))), by simp, by simp, dflt_ok k (by omega)⟩
  | succ m ih =>
    intro n i c hc hi hm hn
    obtain ⟨n, rfl⟩ : ∃ j, n = j + 1 := ⟨n - 1, by omega⟩
    by_cases h : i < 9
    · obtain ⟨v, c1, e1, _, b1, hc1⟩ := below_ok k 3 (by omega) c hc
      have b1 := b1 (by omega)
      simp only [spec_l5DrawRight.l2, decide_eq_true h, cond_true, e1, Option.bind_some]
      rw [w64 (by omega) (by omega)]
      obtain ⟨d, hd⟩ : ∃ d : Nat, (d : Int) = 1 + v := ⟨(1 + v).toNat, by omega⟩
      rw [← hd]
      have hs := szc_le (show d ≤ 3 by omega)
      obtain ⟨c2, l, e2, hc2, hw, h1, h2⟩ := drawCol_ok k (by omega) d k (by omega) (by omega) ⟨#[]⟩ c1 [] (fun h => by omega) (by decide) hc1 WfDs.nil (by simp; omega)
      have e2 : spec_l5DrawCol k ⟨#[]⟩ (d : Int) c1 [] = some ((), (c2, l)) := e2
      obtain ⟨b, s1, _, _⟩ := schemaOk_eq k (by omega) l (wfSmall k hk hw)
      simp only [e2, Option.bind_some, s1]
      cases b with
      | true =>
        simp only [cond_true]
        exact ⟨_, _, rfl, hc2, hw, by simpa using h1, by simp at h2; omega, s1⟩
      | false =>
        simp only [cond_false]
        rw [w64 (by omega) (by omega)]
        exact ih n (i + 1) c2 hc2 (by omega) (by omega) (by omega)
    · simp only [spec_l5DrawRight.l2, decide_eq_false h, cond_false]
      exact ⟨_, _, rfl, hc, (WfDs.one (wfD_mk (by decide) (i64s (by omega) (by omega)) (i64s (by omega) (by omega)) (i64s (by omega) (by omega)))).app (WfDs.one (wfD_mk (by decide) (i64s (by omega) (by omega)) (i64s (by omega) (by omega)) (i64s (by omega) (by omega)))), by simp, by simp, dflt_ok k (by omega)⟩

theorem deepS_ok (many : Int) (hm : many ≤ 5) : ∀ (m n : Nat) (i : Int) (c : TL1Cur) (acc : List TCol), CurOk c → WfDs acc → 0 ≤ i → many - i ≤ m → m < n → acc.length + m ≤ 100 →
    ∃ c' l, spec_l5DrawSchema.l18 k n many i c acc = some ((), (c', l)) ∧ CurOk c' ∧ WfDs l ∧ l.length ≤ acc.length + m + 1 := by
  have z0 : I64 0 := i64s (by omega) (by omega)
  intro m
  induction m with
  | zero =>
    intro n i c acc hc ha hi hmi hn hl
    obtain ⟨n, rfl⟩ : ∃ j, n = j + 1 := ⟨n - 1, by omega⟩
    simp only [spec_l5DrawSchema.l18, decide_eq_false (show ¬ i < many by omega), cond_false, spec_l5DrawSchema.c22]
    rw [lim_ok (by simp; omega), cond_true]
    exact ⟨_, _, rfl, hc, ha.app (WfDs.one (wfD_mk (by decide) z0 z0 z0)), by simp⟩
  | succ m ih =>
    intro n i c acc hc ha hi hmi hn hl
    obtain ⟨n, rfl⟩ : ∃ j, n = j + 1 := ⟨n - 1, by omega⟩
    by_cases h : i < many
    · simp only [spec_l5DrawSchema.l18, decide_eq_true h, cond_true]
      rw [lim_ok (by simp; omega), cond_true, w64 (by omega) (by omega)]
      have ht : I64 (Int.tmod i 3) := by rw [Int.tmod_eq_emod_of_nonneg hi]; exact i64s (by omega) (by omega)
      obtain ⟨c', l, g1, g2, g3, g4⟩ := ih n (i + 1) c (acc ++ [((⟨#[103]⟩ : ByteArray), 7, Int.tmod i 3, 1, ())]) hc (ha.app (WfDs.one (wfD_mk (by decide) (i64s (by omega) (by omega)) ht (i64s (by omega) (by omega))))) (by omega) (by omega) (by omega) (by simp; omega)
      exact ⟨c', l, g1, g2, g3, by simp at g4; omega⟩
    · simp only [spec_l5DrawSchema.l18, decide_eq_false h, cond_false, spec_l5DrawSchema.c22]
      rw [lim_ok (by simp; omega), cond_true]
      exact ⟨_, _, rfl, hc, ha.app (WfDs.one (wfD_mk (by decide) z0 z0 z0)), by simp⟩

theorem drawSchema_ok (hk : 1000 ≤ k) (c : TL1Cur) (hc : CurOk c) : ∃ c' l, spec_l5DrawSchema k c = some ((), (c', l)) ∧ CurOk c' ∧ WfDs l ∧ l.length ≤ 100 := by
  have z0 : I64 0 := i64s (by omega) (by omega)
  unfold spec_l5DrawSchema spec_l5DrawRight
  obtain ⟨c1, l, e1, hc1, hw, hl0, hl, _⟩ := drawRightS_ok k hk 9 k 0 c hc (by omega) (by omega) (by omega)
  simp only [e1, Option.bind_some]
  obtain ⟨i, c2, e2, _, b2, hc2⟩ := below_ok k (l.length : Int) (by omega) c1 hc1
  obtain ⟨i0, i1⟩ := b2 (by omega)
  simp only [e2, Option.bind_some]
  obtain ⟨w, c3, e3, _, _, hc3⟩ := below_ok k 25 (by omega) c2 hc2
  simp only [e3, Option.bind_some]
  obtain ⟨y, hy, hy2⟩ := rdL_some i0 i1
  have hwy : WfD y := hw y (List.mem_of_getElem? hy2)
  have hls : ∀ z, (List.set l i.toNat z).length ≤ 100 := fun z => by simp; omega
  by_cases h0 : w = 0
  · obtain ⟨v, c4, e4, _, b4, hc4⟩ := below_ok k 9 (by omega) c3 hc3
    have b4 := b4 (by omega)
    simp only [beqT h0, cond_true, e4, Option.bind_some, hy, spec_l5DrawSchema.c22]
    exact ⟨_, _, rfl, hc4, hw.set (wfD_mk hwy.1 (i64s (by omega) (by omega)) hwy.2.2.1 hwy.2.2.2), hls _⟩
  simp only [beqF h0, cond_false]
  by_cases h1 : w = 1
  · obtain ⟨v, c4, e4, _, b4, hc4⟩ := below_ok k 5 (by omega) c3 hc3
    simp only [beqT h1, cond_true, e4, Option.bind_some, hy, spec_l5DrawSchema.c22]
    exact ⟨_, _, rfl, hc4, hw.set (wfD_mk hwy.1 hwy.2.1 ⟨w64_lo _, w64_hi _⟩ hwy.2.2.2), hls _⟩
  simp only [beqF h1, cond_false]
  by_cases h2 : w = 2
  · obtain ⟨v, c4, e4, _, b4, hc4⟩ := below_ok k 3 (by omega) c3 hc3
    simp only [beqT h2, cond_true, spec_l5DrawSchema.d9, e4, Option.bind_some, hy, spec_l5DrawSchema.c22]
    exact ⟨_, _, rfl, hc4, hw.set (wfD_mk hwy.1 hwy.2.1 hwy.2.2.1 ⟨w64_lo _, w64_hi _⟩), hls _⟩
  simp only [beqF h2, cond_false]
  by_cases h3 : w = 3
  · obtain ⟨v, c4, e4, b4, hc4⟩ := pickS_ok k [(⟨#[]⟩ : ByteArray), (⟨#[65]⟩ : ByteArray), (⟨#[97, 98]⟩ : ByteArray), (⟨#[97, 98, 99, 100, 101, 102, 103, 104, 105, 106, 107, 108, 109, 110, 111, 112, 113, 114, 115, 116]⟩ : ByteArray), (⟨#[97, 98, 99, 100, 101, 102, 103, 104, 105, 106, 107, 108, 109, 110, 111, 112, 113, 114, 115, 116, 117]⟩ : ByteArray)] (by simp) (by simp) c3 hc3
    have hv : v.size ≤ 100 := by
      simp only [List.mem_cons, List.not_mem_nil, or_false] at b4
      rcases b4 with rfl | rfl | rfl | rfl | rfl <;> decide
    simp only [beqT h3, cond_true, e4, Option.bind_some, hy, spec_l5DrawSchema.c22]
    exact ⟨_, _, rfl, hc4, hw.set (wfD_mk hv hwy.2.1 hwy.2.2.1 hwy.2.2.2), hls _⟩
  simp only [beqF h3, cond_false]
  by_cases h4 : w = 4
  · simp only [beqT h4, cond_true, spec_l5DrawSchema.c22]
    rw [lim_ok (by simp; omega), cond_true]
    exact ⟨_, _, rfl, hc3, hw.app (WfDs.one (wfD_mk (by decide) z0 z0 z0)), by simp; omega⟩
  simp only [beqF h4, cond_false]
  by_cases h5 : w = 5
  · obtain ⟨v, c4, e4, _, b4, hc4⟩ := below_ok k 2 (by omega) c3 hc3
    have b4 := b4 (by omega)
    simp only [beqT h5, cond_true, e4, Option.bind_some]
    rw [w64 (by omega) (by omega)]
    obtain ⟨c', l', g1, g2, g3, g4⟩ := deepS_ok k (4 + v) (by omega) 5 k 0 c4 [((⟨#[]⟩ : ByteArray), 7, 0, 1, ())] hc4 (WfDs.one (wfD_mk (by decide) (i64s (by omega) (by omega)) z0 (i64s (by omega) (by omega)))) (by omega) (by omega) (by omega) (by simp)
    exact ⟨c', l', g1, g2, g3, by simp at g4; omega⟩
  simp only [beqF h5, cond_false, spec_l5DrawSchema.c22]
  exact ⟨_, _, rfl, hc3, hw, by omega⟩


/-- a right schema is drawn -/
theorem drawCols_ok (hk : 1000 ≤ k) (c : TL1Cur) (hc : CurOk c) : ∃ c' l, spec_l5DrawRight k c = some ((), (c', l)) ∧ CurOk c' ∧ WfDs l ∧ l.length ≤ 20 ∧ spec_SchemaOk k l = some true ∧ impl_SchemaOk k l = some true ∧ IsSchema l := by
  obtain ⟨c1, l, e1, hc1, hw, hl0, hl, h1⟩ := drawRightS_ok k hk 9 k 0 c hc (by omega) (by omega) (by omega)
  obtain ⟨b, s1, s2, s3⟩ := schemaOk_eq k (by omega) l (wfSmall k hk hw)
  rw [h1] at s1
  have hb : b = true := by simpa using s1.symm
  subst hb
  exact ⟨c1, l, e1, hc1, hw, (s3 rfl).1.2.1, h1, s2, (s3 rfl).1⟩
end Go.Law
end

section
/- The empty record. -/
set_option linter.unusedVariables false
set_option linter.unusedSimpArgs false
set_option linter.unusedSectionVars false
namespace Go.Law
open Go.Am Go.Fn

def emPart (s : List TCol) (C : List TVal) (a : Nat) : List TVal := match s[a]? with
  | none => []
  | some c => if c.2.2.1 = 0 then C else [zv]
def emParts (F : Nat → List TVal) (e : Nat → Nat) : Nat → Nat → List TVal
  | 0, _ => []
  | m + 1, a => F a ++ emParts F e m (e a)
def emC (s : List TCol) : Nat → Nat → List TVal
  | 0, _ => []
  | d + 1, a => match s[a]? with
    | none => []
    | some c => if c.2.1 = 7 then emParts (fun a => emPart s (emC s d a) a) (endC s d) c.2.2.2.1.toNat (a + 1) else [zv]
def empV (s : List TCol) : List TVal := emC s 6 0

theorem emParts_mem {F : Nat → List TVal} {e : Nat → Nat} (h : ∀ a v, v ∈ F a → v = zv) : ∀ (m a : Nat) (v : TVal), v ∈ emParts F e m a → v = zv
  | 0, _, v, hv => by cases hv
  | m + 1, a, v, hv => (List.mem_append.1 hv).elim (h a v) (emParts_mem h m (e a) v)
theorem emC_mem {s : List TCol} : ∀ (d a : Nat) (v : TVal), v ∈ emC s d a → v = zv
  | 0, _, v, hv => by cases hv
  | d + 1, a, v, hv => by
    simp only [emC] at hv
    split at hv
    · cases hv
    · split at hv
      · refine emParts_mem (fun a v hv => ?_) _ _ v hv
        unfold emPart at hv
        split at hv
        · cases hv
        · split at hv
          · exact emC_mem d a v hv
          · simpa using hv
      · simpa using hv

theorem vok_zv {c : TCol} (hco : colOk c = true) (h7 : c.2.1 ≠ 7) : vok c.2.1 zv = true := by
  unfold colOk tyOk at hco
  unfold vok zv
  have he : eqS (⟨#[]⟩ : ByteArray) ⟨#[]⟩ = true := by rw [eqS_iff]; exact decide_eq_true rfl
  have hty : c.2.1 = 0 ∨ c.2.1 = 1 ∨ c.2.1 = 2 ∨ c.2.1 = 5 ∨ c.2.1 = 6 := by
    simp only [Bool.and_eq_true, Bool.or_eq_true, beq_iff_eq, decide_eq_true_eq] at hco
    omega
  simp only [he]
  rcases hty with h | h | h | h | h <;> rw [h] <;> decide

theorem zv_part {s : List TCol} {a e : Nat} {C : Int → Int → Int → List TVal → EvR} {c : TCol} (hc : s[a]? = some c) (h0 : ¬ c.2.2.1 = 0) (rep def_ deep : Int) (W : List TVal) : evPart s C e a rep def_ deep (zv :: W) = some (miss s rep def_ (e - a) a, W) := by
  unfold evPart
  rw [hc]
  simp only
  have hb : ∀ m : Int, 0 ≤ m → cbad zv m = false := fun m hm => by
    unfold cbad zv
    have he : eqS (⟨#[]⟩ : ByteArray) ⟨#[]⟩ = true := by rw [eqS_iff]; exact decide_eq_true rfl
    rw [he, decide_eq_true hm]; rfl
  rw [if_neg h0, hb 20 (by omega), hb 1 (by omega)]
  simp only [zv]
  split <;> rfl

/-- the empty record can be gone through, at no depth -/
theorem em_ev {s : List TCol} : ∀ (d a nx : Nat), d ≤ 6 → SubC s d a nx → ∀ (rep def_ deep : Int) (W : List TVal), ∃ X, evC s d a rep def_ deep (emC s d a ++ W) = some (X, W) ∧ (∀ e, e ∈ X → e.def_ = def_) ∧ (emC s d a).length ≤ nx - a
  | 0, _, _, _, h, _, _, _, _ => h.elim
  | d + 1, a, nx, hd, h, rep, def_, deep, W => by
    have hlt := SubC_lt _ _ _ h
    obtain ⟨c, hc, hco, _, hpp⟩ := h
    simp only [emC, evC, hc]
    by_cases h7 : c.2.1 = 7
    · rw [if_pos h7, if_pos h7]
      have key : ∀ (m pl : Nat) (names : List ByteArray) (W : List TVal), PartsC (SubC s d) s m pl names nx → ∃ X, evParts (fun a V => evPart s (evC s d a) (endC s d a) a rep def_ deep V) (endC s d) m pl (emParts (fun a => emPart s (emC s d a) a) (endC s d) m pl ++ W) = some (X, W) ∧ (∀ e, e ∈ X → e.def_ = def_) ∧ (emParts (fun a => emPart s (emC s d a) a) (endC s d) m pl).length ≤ nx - pl := by
        intro m
        induction m with
        | zero => intro pl names W hpp; exact ⟨[], rfl, fun e he => (by cases he), by simp [emParts]⟩
        | succ m ih =>
          intro pl names W hpp
          obtain ⟨cp, mid, hcp, q2, q3, q4⟩ := hpp
          have hmn := PartsC_nx (SubC_lt d) _ _ _ _ q4
          have hlt' := SubC_lt _ _ _ q3
          have hend : endC s d pl = mid := endC_eq d q3 d (Nat.le_refl _)
          obtain ⟨Y, y1, y2, y3⟩ := ih mid _ W q4
          have hpart : ∃ X, evPart s (evC s d pl) mid pl rep def_ deep (emPart s (emC s d pl) pl ++ (emParts (fun a => emPart s (emC s d a) a) (endC s d) m mid ++ W)) = some (X, emParts (fun a => emPart s (emC s d a) a) (endC s d) m mid ++ W) ∧ (∀ e, e ∈ X → e.def_ = def_) ∧ (emPart s (emC s d pl) pl).length ≤ mid - pl := by
            unfold emPart
            rw [hcp]
            simp only
            by_cases h0 : cp.2.2.1 = 0
            · rw [if_pos h0]
              obtain ⟨X, x1, x2, x3⟩ := em_ev d pl mid (by omega) q3 rep def_ deep (emParts (fun a => emPart s (emC s d a) a) (endC s d) m mid ++ W)
              refine ⟨X, ?_, x2, x3⟩
              unfold evPart
              rw [hcp]
              simp only
              rw [if_pos h0]
              exact x1
            · rw [if_neg h0]
              refine ⟨_, zv_part hcp h0 rep def_ deep _, fun e he => ?_, by simp; omega⟩
              exact (miss_mem _ _ _ he).2.2.2.2.1
          obtain ⟨X, x1, x2, x3⟩ := hpart
          refine ⟨X ++ Y, ?_, fun e he => (List.mem_append.1 he).elim (x2 e) (y2 e), ?_⟩
          · simp only [evParts, emParts, hend, List.append_assoc]
            rw [x1]
            simp only [evPair, y1]
          · simp only [emParts, hend, List.length_append]; omega
      obtain ⟨X, x1, x2, x3⟩ := key _ _ _ W hpp
      exact ⟨X, x1, x2, by omega⟩
    · rw [if_neg h7, if_neg h7]
      simp only [List.singleton_append]
      rw [if_pos (vok_zv hco h7)]
      exact ⟨_, rfl, fun e he => (by rw [List.mem_singleton] at he; rw [he]), by simp; omega⟩

theorem emp_ev {s : List TCol} (hS : IsSchema s) : ∃ X, recEv s (empV s) = some X ∧ (∀ e, e ∈ X → e.def_ = 0) ∧ (empV s).length ≤ 20 := by
  obtain ⟨X, x1, x2, x3⟩ := em_ev 6 0 s.length (Nat.le_refl _) hS.2.2.1 0 0 0 []
  rw [List.append_nil] at x1
  have hs := hS.2.1
  have hl : (empV s).length ≤ 20 := by unfold empV; omega
  refine ⟨X, ?_, x2, hl⟩
  unfold recEv
  rw [if_pos (by omega)]
  unfold empV
  rw [x1]

section
variable (k : Nat) (s : List TCol) (hs : s.length ≤ 20) (hn : ∀ c, c ∈ s → c.1.size < k ∧ c.1.size < 1000000000 ∧ I64 c.2.2.2.1) (hk : 2000000 ≤ k)
include hs hn hk

theorem semp_rec : ∀ (d D a nx : Nat), SubC s d a nx → nx ≤ s.length → d ≤ 6 → d ≤ D → spec_l13Empty.rec k D s (a : Int) = some ((), if decide (0 < a) = true then emPart s (emC s d a) a else emC s d a) := by
  intro d
  induction d with
  | zero => intro D a nx h; exact h.elim
  | succ d ih =>
    intro D a nx h hnx hd hD
    obtain ⟨D, rfl⟩ : ∃ q, D = q + 1 := ⟨D - 1, by omega⟩
    have hsub := h
    have hlt := SubC_lt _ _ _ h
    obtain ⟨c, hc, hco, _, hpp⟩ := h
    have hcr : rdL s (a : Int) = some c := hc
    have hcm := (hn c (List.mem_of_getElem? hc)).2.2
    have hmp := PartsC_le (SubC_lt d) _ _ _ _ hpp
    have ha1 : IntKind.wrap .i64 ((a : Int) + 1) = ((a + 1 : Nat) : Int) := by rw [w64 (by omega) (by omega)]; omega
    have hb5 : ((cond (decide ((a : Int) > 0)) ((rdL s (a : Int)).bind fun y4 => some (y4.2.2.1 != 0)) (some false)) : Option Bool) = some (decide (0 < a) && (c.2.2.1 != 0)) := by
      rw [hcr]
      by_cases h : 0 < a
      · rw [decide_eq_true (show (a : Int) > 0 by omega), decide_eq_true h]; rfl
      · rw [decide_eq_false (show ¬ (a : Int) > 0 by omega), decide_eq_false h]; rfl
    have hloop : c.2.1 = 7 → spec_l13Empty.l6 k (spec_l13Empty.rec k D) k s (a : Int) ((a + 1 : Nat) : Int) 0 [] = some ((), emC s (d + 1) a) := by
      intro h7
      have hmn : 0 ≤ c.2.2.2.1 := by
        unfold colOk at hco
        rw [h7, tyOk_7] at hco
        simp at hco
        omega
      have key : ∀ (m pl : Nat) (i : Int) (names : List ByteArray) (f : Nat) (o : List TVal), PartsC (SubC s d) s m pl names nx → c.2.2.2.1 - i = m → 0 ≤ i → m < f → 0 < pl → o.length ≤ pl →
          spec_l13Empty.l6 k (spec_l13Empty.rec k D) f s (a : Int) (pl : Int) i o = some ((), o ++ emParts (fun a => emPart s (emC s d a) a) (endC s d) m pl) := by
        intro m
        induction m with
        | zero =>
          intro pl i names f o hpp hi h0 hf hpl ho
          obtain ⟨f, rfl⟩ : ∃ q, f = q + 1 := ⟨f - 1, by omega⟩
          simp only [spec_l13Empty.l6, hcr, Option.bind_some, decide_eq_false (show ¬ (i < c.2.2.2.1) by omega), cond_false, emParts, List.append_nil]
        | succ m ihm =>
          intro pl i names f o hpp hi h0 hf hpl ho
          obtain ⟨q, mid, q1, q2, q3, q4⟩ := hpp
          have hmn' := PartsC_nx (SubC_lt d) _ _ _ _ q4
          have hlt' := SubC_lt _ _ _ q3
          obtain ⟨f, rfl⟩ : ∃ q, f = q + 1 := ⟨f - 1, by omega⟩
          have hi1 : IntKind.wrap .i64 (i + 1) = i + 1 := w64 (by omega) (by omega)
          have hend : endC s d pl = mid := endC_eq d q3 d (Nat.le_refl _)
          have haf := l5After_sub k s hs hn (by omega) q3 (show d ≤ 6 by omega) (by omega)
          have hr := ih D pl mid q3 (by omega) (by omega) (by omega)
          rw [if_pos (decide_eq_true hpl)] at hr
          have hlen : (emPart s (emC s d pl) pl).length ≤ mid - pl := by
            unfold emPart
            split
            · simp
            · split
              · exact (em_ev d pl mid (by omega) q3 0 0 0 []).choose_spec.2.2
              · simp; omega
          simp only [spec_l13Empty.l6, hcr, Option.bind_some, decide_eq_true (show i < c.2.2.2.1 by omega), cond_true, hr, haf, hi1]
          rw [lim_ok (by omega), cond_true, ihm mid (i + 1) _ f _ q4 (by omega) (by omega) (by omega) (by omega) (by rw [List.length_append]; omega)]
          simp only [emParts, hend, List.append_assoc]
      have := key c.2.2.2.1.toNat (a + 1) 0 [] k [] hpp (by omega) (by omega) (by omega) (by omega) (by simp)
      rw [this, List.nil_append]
      simp only [emC, hc]
      rw [if_pos h7]
    simp only [spec_l13Empty.rec, spec_l13Empty.b, hb5, Option.bind_some, ha1]
    cases hz : (decide (0 < a) && (c.2.2.1 != 0)) with
    | true =>
      simp only [Bool.and_eq_true, decide_eq_true_eq, bne_iff_ne] at hz
      simp only [cond_true, Option.bind_some]
      rw [if_pos (decide_eq_true hz.1)]
      unfold emPart
      rw [hc]
      simp only
      rw [if_neg hz.2]
      rfl
    | false =>
      simp only [cond_false, hcr, Option.bind_some]
      have hpc : (if decide (0 < a) = true then emPart s (emC s (d + 1) a) a else emC s (d + 1) a) = emC s (d + 1) a := by
        by_cases h : 0 < a
        · rw [if_pos (decide_eq_true h)]
          rw [decide_eq_true h, Bool.true_and] at hz
          unfold emPart
          rw [hc]
          simp only
          rw [if_pos (by simpa using hz)]
        · rw [if_neg (by simp [h])]
      rw [hpc]
      by_cases h7 : c.2.1 = 7
      · rw [bneF h7, cond_false, hloop h7]
      · rw [bneT h7, cond_true]
        simp only [emC, hc]
        rw [if_neg h7]
        rfl

end

theorem recEmpty_eq (k : Nat) (hk : 2000000 ≤ k) (s : List TCol) (hn : ∀ c, c ∈ s → c.1.size < k ∧ c.1.size < 1000000000 ∧ I64 c.2.2.2.1) (hS : IsSchema s) :
    (spec_RecEmpty k s = (spec_SchemaOk k s).bind fun r1 => cond (!r1) (some ((((), ()), false), [])) (some ((((), ()), true), empV s))) ∧
    True ∧ (recEv s (empV s)).isSome = true := by
  obtain ⟨c0, hc0, h70, _⟩ := schema_top hS
  have h1 : spec_l13Empty k s 0 = some ((), if decide (0 < 0) = true then emPart s (emC s 6 0) 0 else emC s 6 0) := semp_rec k s hS.2.1 hn hk 6 k 0 s.length hS.2.2.1 (Nat.le_refl _) (by omega) (by omega)
  obtain ⟨X, x1, _⟩ := emp_ev hS
  refine ⟨?_, ?_, by rw [x1]; rfl⟩
  · unfold spec_RecEmpty
    rw [h1]; rfl
  · trivial
end Go.Law
end

section
/- Records are drawn, whatever the bytes. -/
set_option linter.unusedVariables false
set_option linter.unusedSimpArgs false
set_option linter.unusedSectionVars false
namespace Go.Law
open Go.Am Go.Fn

def WfVs' (l : List TVal) : Prop := ∀ v, v ∈ l → WfV v
theorem WfVs'.app {a b : List TVal} (h : WfVs' a) (h' : WfVs' b) : WfVs' (a ++ b) := fun n hn => (List.mem_append.1 hn).elim (h n) (h' n)
theorem WfVs'.one {v : TVal} (h : WfV v) : WfVs' [v] := fun m hm => by simp at hm; subst hm; exact h

def bnd : Nat → Nat
  | 0 => 1
  | d + 1 => 21 * bnd d
theorem bnd_pos : ∀ d, 1 ≤ bnd d
  | 0 => Nat.le_refl _
  | d + 1 => by have := bnd_pos d; simp only [bnd]; omega
theorem bnd_mono (d : Nat) : bnd d ≤ bnd (d + 1) := by simp only [bnd]; omega
theorem bnd6 {d : Nat} (h : d ≤ 6) : bnd d ≤ 85766121 := by
  have : ∀ d e, d ≤ e → bnd d ≤ bnd e := by
    intro d e h
    induction h with
    | refl => exact Nat.le_refl _
    | step _ ih => exact Nat.le_trans ih (bnd_mono _)
  exact Nat.le_trans (this d 6 h) (by decide)

section
variable (k : Nat) (s : List TCol) (hs : s.length ≤ 20) (hn : ∀ c, c ∈ s → c.1.size < k ∧ c.1.size < 1000000000 ∧ I64 c.2.2.2.1) (hk : 2000000 ≤ k)
include hs hn hk

/-- a step of a draw -/
def DrS (r : Option (Unit × TL1Cur × List TVal)) (acc : List TVal) (B : Nat) : Prop := ∃ c' Y, r = some ((), (c', acc ++ Y)) ∧ CurOk c' ∧ Y.length ≤ B ∧ WfVs' Y

theorem drItems (S : List TCol → Int → TL1Cur → List TVal → Option (Unit × TL1Cur × List TVal)) (a : Nat) (B : Nat) (n : Int) (hn20 : n ≤ 20)
    (h : ∀ (f : Nat) (i : Int) (c : TL1Cur) (acc : List TVal), i < n → 0 ≤ i → CurOk c → acc.length + B ≤ 4294967295 → ∃ c' Y, CurOk c' ∧ Y.length ≤ B ∧ WfVs' Y ∧ spec_l13DrawPart.l10 k S (f + 1) s (a : Int) n i c acc = spec_l13DrawPart.l10 k S f s (a : Int) n (i + 1) c' (acc ++ Y)) :
    ∀ (m : Nat) (i : Int) (f : Nat) (c : TL1Cur) (acc : List TVal), n - i ≤ m → 0 ≤ i → m < f → CurOk c → acc.length + B * m ≤ 4294967295 → DrS (spec_l13DrawPart.l10 k S f s (a : Int) n i c acc) acc (B * m) := by
  intro m
  induction m with
  | zero =>
    intro i f c acc hi h0 hf hc ha
    obtain ⟨f, rfl⟩ : ∃ q, f = q + 1 := ⟨f - 1, by omega⟩
    simp only [spec_l13DrawPart.l10, decide_eq_false (show ¬ i < n by omega), cond_false]
    exact ⟨c, [], by simp, hc, by simp, fun v hv => by cases hv⟩
  | succ m ih =>
    intro i f c acc hi h0 hf hc ha
    obtain ⟨f, rfl⟩ : ∃ q, f = q + 1 := ⟨f - 1, by omega⟩
    rw [Nat.mul_succ] at ha
    by_cases hlt : i < n
    · obtain ⟨c', Y, q1, q2, q3, q4⟩ := h f i c acc hlt h0 hc (by omega)
      rw [q4]
      obtain ⟨c2, Y2, r1, r2, r3, r4⟩ := ih (i + 1) f c' (acc ++ Y) (by omega) (by omega) (by omega) q1 (by rw [List.length_append]; omega)
      exact ⟨c2, Y ++ Y2, by rw [r1, List.append_assoc], r2, by rw [List.length_append, Nat.mul_succ]; omega, q3.app r4⟩
    · simp only [spec_l13DrawPart.l10, decide_eq_false hlt, cond_false]
      exact ⟨c, [], by simp, hc, by simp, fun v hv => by cases hv⟩

theorem drPart_ok : ∀ (d E a nx : Nat), SubC s d a nx → nx ≤ s.length → d ≤ 6 → d ≤ E →
    (∀ (n : Int) (f : Nat) (i : Int) (c : TL1Cur) (acc : List TVal), n ≤ 20 → i < n → 0 ≤ i → CurOk c → acc.length + bnd d * (nx - a) ≤ 4294967295 →
      ∃ c' Y, CurOk c' ∧ Y.length ≤ bnd d * (nx - a) ∧ WfVs' Y ∧ spec_l13DrawPart.l10 k (spec_l13DrawPart.rec k E) (f + 1) s (a : Int) n i c acc = spec_l13DrawPart.l10 k (spec_l13DrawPart.rec k E) f s (a : Int) n (i + 1) c' (acc ++ Y)) ∧
    (∀ (c : TL1Cur) (acc : List TVal), CurOk c → acc.length + bnd (d + 1) * (nx - a) ≤ 4294967295 → DrS (spec_l13DrawPart.rec k (E + 1) s (a : Int) c acc) acc (bnd (d + 1) * (nx - a))) := by
  intro d
  induction d with
  | zero => intro E a nx h; exact h.elim
  | succ d ih =>
    intro E a nx h hnx hd hE
    obtain ⟨E, rfl⟩ : ∃ q, E = q + 1 := ⟨E - 1, by omega⟩
    have hlt := SubC_lt _ _ _ h
    have hsub := h
    obtain ⟨col, hc, hco, _, hpp⟩ := h
    have hcr : rdL s (a : Int) = some col := hc
    have hcm := (hn col (List.mem_of_getElem? hc)).2.2
    have hmp := PartsC_le (SubC_lt d) _ _ _ _ hpp
    have ha1 : IntKind.wrap .i64 ((a : Int) + 1) = ((a + 1 : Nat) : Int) := by rw [w64 (by omega) (by omega)]; omega
    have hbp := bnd_pos (d + 1)
    have hcont : ∀ (n : Int) (f : Nat) (i : Int) (c : TL1Cur) (acc : List TVal), n ≤ 20 → i < n → 0 ≤ i → CurOk c → acc.length + bnd (d + 1) * (nx - a) ≤ 4294967295 →
      ∃ c' Y, CurOk c' ∧ Y.length ≤ bnd (d + 1) * (nx - a) ∧ WfVs' Y ∧ spec_l13DrawPart.l10 k (spec_l13DrawPart.rec k (E + 1)) (f + 1) s (a : Int) n i c acc = spec_l13DrawPart.l10 k (spec_l13DrawPart.rec k (E + 1)) f s (a : Int) n (i + 1) c' (acc ++ Y) := by
      intro n f i c acc hn20 hi h0 hcu ha
      have hi1 : IntKind.wrap .i64 (i + 1) = i + 1 := w64 (by omega) (by omega)
      have hB1 : bnd (d + 1) * 1 ≤ bnd (d + 1) * (nx - a) := Nat.mul_le_mul_left _ (by omega)
      by_cases h7 : col.2.1 = 7
      · have hmn : 0 ≤ col.2.2.2.1 := by
          unfold colOk at hco
          rw [h7, tyOk_7] at hco
          simp at hco
          omega
        have key : ∀ (m pl : Nat) (j : Int) (names : List ByteArray) (f2 : Nat) (c : TL1Cur) (acc : List TVal), PartsC (SubC s d) s m pl names nx → col.2.2.2.1 - j = m → 0 ≤ j → m < f2 → CurOk c → acc.length + bnd (d + 1) * (nx - pl) ≤ 4294967295 →
            ∃ c' Y, CurOk c' ∧ Y.length ≤ bnd (d + 1) * (nx - pl) ∧ WfVs' Y ∧ spec_l13DrawPart.l16 k (spec_l13DrawPart.rec k (E + 1)) (spec_l13DrawPart.l10 k (spec_l13DrawPart.rec k (E + 1)) f) f2 s (a : Int) n i (pl : Int) j c acc = spec_l13DrawPart.l10 k (spec_l13DrawPart.rec k (E + 1)) f s (a : Int) n (i + 1) c' (acc ++ Y) := by
          intro m
          induction m with
          | zero =>
            intro pl j names f2 c acc hpp hj h0 hf hcu ha
            obtain ⟨f2, rfl⟩ : ∃ q, f2 = q + 1 := ⟨f2 - 1, by omega⟩
            refine ⟨c, [], hcu, by simp, fun v hv => (by cases hv), ?_⟩
            simp only [spec_l13DrawPart.l16, hcr, Option.bind_some, decide_eq_false (show ¬ (j < col.2.2.2.1) by omega), cond_false, spec_l13DrawPart.c11, hi1, List.append_nil]
          | succ m ihm =>
            intro pl j names f2 c acc hpp hj h0 hf hcu ha
            obtain ⟨q, mid, q1, q2, q3, q4⟩ := hpp
            have hmn' := PartsC_nx (SubC_lt d) _ _ _ _ q4
            have hlt' := SubC_lt _ _ _ q3
            obtain ⟨f2, rfl⟩ : ∃ q, f2 = q + 1 := ⟨f2 - 1, by omega⟩
            have hj1 : IntKind.wrap .i64 (j + 1) = j + 1 := w64 (by omega) (by omega)
            have haf := l5After_sub k s hs hn (by omega) q3 (show d ≤ 6 by omega) (by omega)
            have hsplit : bnd (d + 1) * (nx - pl) = bnd (d + 1) * (mid - pl) + bnd (d + 1) * (nx - mid) := by rw [← Nat.mul_add]; congr 1; omega
            obtain ⟨c1, Y1, e1, e2, e3, e4⟩ := (ih E pl mid q3 (by omega) (by omega) (by omega)).2 c acc hcu (by omega)
            obtain ⟨c2, Y2, g1, g2, g3, g4⟩ := ihm mid (j + 1) _ f2 c1 (acc ++ Y1) q4 (by omega) (by omega) (by omega) e2 (by rw [List.length_append]; omega)
            refine ⟨c2, Y1 ++ Y2, g1, by rw [List.length_append]; omega, e4.app g3, ?_⟩
            simp only [spec_l13DrawPart.l16, hcr, Option.bind_some, decide_eq_true (show j < col.2.2.2.1 by omega), cond_true, e1, haf, hj1]
            rw [g4, List.append_assoc]
        have hle : bnd (d + 1) * (nx - (a + 1)) ≤ bnd (d + 1) * (nx - a) := Nat.mul_le_mul_left _ (by omega)
        obtain ⟨c', Y, g1, g2, g3, g4⟩ := key col.2.2.2.1.toNat (a + 1) 0 [] k c acc hpp (by omega) (by omega) (by omega) hcu (by omega)
        refine ⟨c', Y, g1, by omega, g3, ?_⟩
        rw [← g4]
        simp only [spec_l13DrawPart.l10, decide_eq_true hi, cond_true, hcr, Option.bind_some, bneF h7, cond_false, ha1]
      · obtain ⟨v, c', e1, e2, e3⟩ := drawRight_ok k (by omega) col.2.1 c hcu
        refine ⟨c', [v], e3, by simp only [List.length_singleton]; omega, WfVs'.one e2, ?_⟩
        simp only [spec_l13DrawPart.l10, decide_eq_true hi, cond_true, hcr, Option.bind_some, bneT h7, e1, spec_l13DrawPart.c11, hi1]
        rw [lim_ok (by simp; omega), cond_true]
    refine ⟨hcont, fun c acc hcu ha => ?_⟩
    have hb2 : bnd (d + 2) * (nx - a) = 21 * (bnd (d + 1) * (nx - a)) := by simp only [bnd]; rw [Nat.mul_assoc]
    have hB1 : bnd (d + 1) * 1 ≤ bnd (d + 1) * (nx - a) := Nat.mul_le_mul_left _ (by omega)
    rw [hb2] at ha ⊢
    generalize hBB : bnd (d + 1) * (nx - a) = B at *
    have items : ∀ (n : Int) (c : TL1Cur) (acc : List TVal) (m : Nat), n ≤ m → m ≤ 20 → CurOk c → acc.length + B * m ≤ 4294967295 → DrS (spec_l13DrawPart.l10 k (spec_l13DrawPart.rec k (E + 1)) k s (a : Int) n 0 c acc) acc (B * m) := by
      intro n c acc m h1 h2 hcu ha
      refine drItems k s hs hn hk (spec_l13DrawPart.rec k (E + 1)) a B n (by omega) (fun f i c acc hi h0 hcu ha => hcont n f i c acc (by omega) hi h0 hcu ha) m 0 k c acc (by omega) (by omega) (by omega) hcu ha
    have some_ : ∀ (n : Int) (c : TL1Cur), 0 ≤ n → n ≤ 20 → CurOk c → DrS (spec_l13DrawPart.c8 k (spec_l13DrawPart.rec k (E + 1)) s (a : Int) n c acc) acc (21 * B) := by
      intro n c h0 h20 hcu
      obtain ⟨m, rfl⟩ := Int.eq_ofNat_of_zero_le h0
      have hBm : B * m ≤ B * 20 := Nat.mul_le_mul_left _ (by omega)
      unfold spec_l13DrawPart.c8 spec_l13DrawPart.c9
      rw [lim_ok (by simp; omega), cond_true]
      obtain ⟨c', Y, e1, e2, e3, e4⟩ := items (m : Int) c (acc ++ [((m : Int), (⟨#[]⟩ : ByteArray), ())]) m (by omega) (by omega) hcu (by simp; omega)
      refine ⟨c', [((m : Int), (⟨#[]⟩ : ByteArray), ())] ++ Y, by rw [e1, List.append_assoc], e2, by rw [List.length_append, List.length_singleton]; omega, WfVs'.app (WfVs'.one ⟨⟨by omega, by omega⟩, e0⟩) e4⟩
    rw [show spec_l13DrawPart.rec k (E + 1 + 1) = spec_l13DrawPart.b k (spec_l13DrawPart.rec k (E + 1)) from rfl]
    unfold spec_l13DrawPart.b
    have hb8 : ((cond (decide ((a : Int) > 0)) ((rdL s (a : Int)).bind fun y7 => some (y7.2.2.1 != 0)) (some false)) : Option Bool) = some (decide (0 < a) && (col.2.2.1 != 0)) := by
      rw [hcr]
      by_cases h : 0 < a
      · rw [decide_eq_true (show (a : Int) > 0 by omega), decide_eq_true h]; rfl
      · rw [decide_eq_false (show ¬ (a : Int) > 0 by omega), decide_eq_false h]; rfl
    rw [hb8]
    simp only [Option.bind_some]
    cases hbb : (decide (0 < a) && (col.2.2.1 != 0)) with
    | false =>
      simp only [cond_false, spec_l13DrawPart.c9]
      obtain ⟨c', Y, e1, e2, e3, e4⟩ := items 1 c acc 1 (by omega) (by omega) hcu (by omega)
      exact ⟨c', Y, e1, e2, by omega, e4⟩
    | true =>
      simp only [cond_true]
      obtain ⟨v1, c1, e1, _, b1, hc1⟩ := below_ok k 2 (by omega) c hcu
      have b1 := b1 (by omega)
      simp only [e1, Option.bind_some, hcr]
      by_cases h2 : col.2.2.1 = 2
      · rw [beqT h2, cond_true]
        obtain ⟨v2, c2, e2, _, b2, hc2⟩ := below_ok k 4 (by omega) c1 hc1
        have b2 := b2 (by omega)
        obtain ⟨v3, c3, e3, hc3⟩ := once_ok k 60 (by omega) c2 hc2
        simp only [e2, e3, Option.bind_some]
        cases v3 with
        | true => exact some_ 20 c3 (by omega) (by omega) hc3
        | false => exact some_ v2 c3 (by omega) (by omega) hc3
      · rw [beqF h2, cond_false]
        exact some_ v1 c1 (by omega) (by omega) hc1
end

/-- a right record is drawn -/
theorem drawRec_ok (k : Nat) (hk : 2000000 ≤ k) (s : List TCol) (hw : WfDs s) (hS : IsSchema s) (hok : spec_SchemaOk k s = some true) (c : TL1Cur) (hc : CurOk c) :
    ∃ c' V, spec_l13DrawRight k s c = some (((), ()), (c', V)) ∧ CurOk c' ∧ (recEv s V).isSome = true ∧ WfVs' V := by
  have hn := wfSmall k (by omega) hw
  have hs20 := hS.2.1
  obtain ⟨k', rfl⟩ : ∃ q, k = q + 7 := ⟨k - 7, by omega⟩
  have hb := bnd6 (Nat.le_refl 6)
  have hb7 : bnd 7 = 21 * bnd 6 := rfl
  have hbb : bnd 6 * s.length ≤ 85766121 * 20 := Nat.mul_le_mul hb hs20
  have h0 := (drPart_ok (k' + 7) s hs20 hn hk 6 (k' + 6) 0 s.length hS.2.2.1 (Nat.le_refl _) (by omega) (by omega)).1
  -- the root is Required: one item
  have hpart : DrS (spec_l13DrawPart (k' + 7) s 0 c []) [] (bnd 6 * s.length) := by
    show DrS (spec_l13DrawPart.b (k' + 7) (spec_l13DrawPart.rec (k' + 7) (k' + 6)) s 0 c []) [] _
    unfold spec_l13DrawPart.b spec_l13DrawPart.c9
    rw [show decide ((0 : Int) > 0) = false from rfl]
    simp only [cond_false, Option.bind_some]
    obtain ⟨c', Y, e1, e2, e3, e4⟩ := h0 1 (k' + 6) 0 c [] (by omega) (by omega) (by omega) hc (by simp; omega)
    have e4 : spec_l13DrawPart.l10 (k' + 7) (spec_l13DrawPart.rec (k' + 7) (k' + 6)) (k' + 7) s 0 1 0 c [] = _ := e4
    rw [e4]
    refine ⟨c', Y, ?_, e1, by simpa using e2, e3⟩
    simp only [spec_l13DrawPart.l10, decide_eq_false (show ¬ ((0 : Int) + 1 < 1) by omega), cond_false]
  obtain ⟨c', Y, e1, e2, e3, e4⟩ := hpart
  rw [List.nil_append] at e1
  unfold spec_l13DrawRight spec_l13DrawRight.c4
  rw [e1]
  obtain ⟨b, q1, _, _, q2, _⟩ := recOk_eq (k' + 7) hk s hn Y
  have hbt : b = true := by rw [hok] at q1; simpa using q1.symm
  subst hbt
  simp only [Option.bind_some, q2, Bool.true_and]
  cases hr : (recEv s Y).isSome with
  | true =>
    simp only [Bool.not_true, cond_false]
    exact ⟨c', Y, rfl, e2, hr, e4⟩
  | false =>
    simp only [Bool.not_false, cond_true]
    obtain ⟨g1, _, g2⟩ := recEmpty_eq (k' + 7) hk s hn hS
    rw [hok] at g1
    simp only [Option.bind_some, Bool.not_true, cond_false] at g1
    rw [g1]
    exact ⟨c', empV s, rfl, e2, g2, fun v hv => by rw [emC_mem 6 0 v hv]; exact ⟨⟨by decide, by decide⟩, by decide⟩⟩
end Go.Law
end

section
/- Conditions are drawn. -/
set_option linter.unusedVariables false
set_option linter.unusedSimpArgs false
set_option linter.unusedSectionVars false
namespace Go.Law
open Go.Am Go.Fn

section
variable (k : Nat) (hk : 2000000 ≤ k)
include hk

theorem sshift_ok (n : Int) (q : List TPred) (hq : q.length ≤ 100) : ∃ out, spec_l20Shift k q n = some ((), out) ∧ out.length = q.length := by
  have key : ∀ (m f i : Nat) (o : List TPred), i + m = q.length → m < f → o.length = i → ∃ out, spec_l20Shift.l3 k f q n (i : Int) o = some ((), out) ∧ out.length = q.length := by
    intro m
    induction m with
    | zero =>
      intro f i o hi hf ho
      obtain ⟨f, rfl⟩ : ∃ q, f = q + 1 := ⟨f - 1, by omega⟩
      simp only [spec_l20Shift.l3, decide_eq_false (show ¬ ((i : Int) < (q.length : Int)) by omega), cond_false]
      exact ⟨_, rfl, by omega⟩
    | succ m ih =>
      intro f i o hi hf ho
      obtain ⟨f, rfl⟩ : ∃ q, f = q + 1 := ⟨f - 1, by omega⟩
      obtain ⟨x, hx, _⟩ := rdL_some (xs := q) (i := (i : Int)) (by omega) (by omega)
      have hi1 : IntKind.wrap .i64 ((i : Int) + 1) = ((i + 1 : Nat) : Int) := by rw [w64 (by omega) (by omega)]; omega
      have step : ∀ y, ∃ out, spec_l20Shift.c13 k (spec_l20Shift.l3 k f) q n (i : Int) o y = some ((), out) ∧ out.length = q.length := by
        intro y
        unfold spec_l20Shift.c13
        rw [lim_ok (by simp; omega), cond_true, hi1]
        exact ih f (i + 1) (o ++ [y]) (by omega) (by omega) (by simp; omega)
      simp only [spec_l20Shift.l3, decide_eq_true (show (i : Int) < (q.length : Int) by omega), cond_true, hx, Option.bind_some, spec_l20Shift.c9]
      cases (x.1 == 5) <;> cases (x.1 == 6) <;> cases (x.1 == 7) <;> simp only [cond_true, cond_false] <;> exact step _
  obtain ⟨out, e, h⟩ := key q.length k 0 [] (by omega) (by omega) rfl
  exact ⟨out, e, h⟩

theorem spair_ok (kd : Int) (p q : List TPred) (hp : p.length ≤ 100) (hq : q.length ≤ 100) : ∃ b out, spec_PredPair k kd p q = some (((), b), out) ∧ (b = true → 1 ≤ out.length ∧ out.length ≤ 31) := by
  obtain ⟨sh, e1, e2⟩ := sshift_ok k hk (p.length : Int) q hq
  unfold spec_PredPair
  have ew : IntKind.wrap .i64 (IntKind.wrap .i64 ((p.length : Int) + (q.length : Int)) + 1) = ((p.length + q.length + 1 : Nat) : Int) := by
    rw [w64 (show -9223372036854775808 ≤ (p.length : Int) + (q.length : Int) by omega) (by omega), w64 (by omega) (by omega)]; omega
  simp only [cst, csf, Option.bind_some, ew, e1]
  cases hc : (((kd != 5 && kd != 6) || ((p.length : Int) == 0)) || ((q.length : Int) == 0)) || decide (((p.length + q.length + 1 : Nat) : Int) > 31) with
  | true => exact ⟨false, [], rfl, fun h => by cases h⟩
  | false =>
    simp only [Bool.or_eq_false_iff, beq_eq_false_iff_ne, decide_eq_false_iff_not] at hc
    simp only [cond_false]
    rw [lim_ok (by omega), cond_true, lim_ok (by simp; omega), cond_true, lim_ok (by simp; omega), cond_true]
    exact ⟨_, _, rfl, fun _ => by simp; omega⟩

variable (s : List TCol) (hn : ∀ c, c ∈ s → c.1.size < k ∧ c.1.size < 1000000000 ∧ I64 c.2.2.2.1)
variable (hS : IsSchema s) (hok : spec_SchemaOk k s = some true) (hok2 : impl_SchemaOk k s = some true)
include hn hS hok hok2

theorem leaves20_ok : ∃ L, spec_l20Leaves k s = some ((), L) ∧ L.length ≤ 20 := by
  obtain ⟨_, v1⟩ := leaves_eq k (by omega) s (by have := hS.2.1; omega)
  have hll := leavesFrom_len 0 s
  have hs20 := hS.2.1
  have key : ∀ (m f i : Nat) (o : List Int), i + m = (leavesFrom 0 s).length → m < f → o.length ≤ i → ∃ L, spec_l20Leaves.l3 k f s (i : Int) o = some ((), L) ∧ L.length ≤ 20 := by
    intro m
    induction m with
    | zero =>
      intro f i o hi hf ho
      obtain ⟨f, rfl⟩ : ∃ q, f = q + 1 := ⟨f - 1, by omega⟩
      simp only [spec_l20Leaves.l3, v1, Option.bind_some, decide_eq_false (show ¬ ((i : Int) < ((leavesFrom 0 s).length : Int)) by omega), cond_false]
      exact ⟨o, rfl, by omega⟩
    | succ m ih =>
      intro f i o hi hf ho
      obtain ⟨f, rfl⟩ : ∃ q, f = q + 1 := ⟨f - 1, by omega⟩
      obtain ⟨l, b, e1, _⟩ := leafOf_eq k s hn hk hS hok hok2 (i : Int)
      have hi1 : IntKind.wrap .i64 ((i : Int) + 1) = ((i + 1 : Nat) : Int) := by rw [w64 (by omega) (by omega)]; omega
      simp only [spec_l20Leaves.l3, v1, Option.bind_some, decide_eq_true (show (i : Int) < ((leavesFrom 0 s).length : Int) by omega), cond_true, e1, csf, spec_l20Leaves.c4, hi1]
      cases (b && (l.2.1 == 0)) with
      | true =>
        rw [cond_true, lim_ok (by simp; omega), cond_true]
        exact ih f (i + 1) (o ++ [(i : Int)]) (by omega) (by omega) (by simp; omega)
      | false =>
        rw [cond_false]
        exact ih f (i + 1) o (by omega) (by omega) (by omega)
  obtain ⟨L, e, h⟩ := key (leavesFrom 0 s).length k 0 [] (by omega) (by omega) (by simp)
  exact ⟨L, e, h⟩

theorem drawTree20_ok : ∀ (d D : Nat) (c : TL1Cur), d ≤ 5 → d < D → CurOk c → ∃ c' P, spec_l20DrawTree.rec k D s (d : Int) c = some ((), (c', P)) ∧ CurOk c' ∧ 1 ≤ P.length ∧ P.length ≤ 31 := by
  obtain ⟨L, eL, hL⟩ := leaves20_ok k hk s hn hS hok hok2
  intro d
  induction d with
  | zero =>
    intro D c hd hD hc
    obtain ⟨D, rfl⟩ : ∃ q, D = q + 1 := ⟨D - 1, by omega⟩
    simp only [spec_l20DrawTree.rec, spec_l20DrawTree.b, eL, Option.bind_some]
    by_cases h0 : (L.length : Int) = 0
    · rw [beqT h0, cond_true]
      exact ⟨_, _, rfl, hc, by simp, by simp⟩
    · rw [beqF h0, cond_false, decide_eq_false (show ¬ (((0 : Nat) : Int) > 0) by omega), cond_false, cond_false]
      obtain ⟨v1, c1, e1, _, _, hc1⟩ := below_ok k 4 (by omega) c hc
      obtain ⟨v2, c2, e2, _, hc2⟩ := pick_ok k L (by omega) (by omega) c1 hc1
      simp only [e1, e2, Option.bind_some, spec_l20DrawTree.c18]
      cases (IntKind.wrap .i64 (1 + v1) != 4) with
      | true =>
        obtain ⟨l, b, e3, _⟩ := leafOf_eq k s hn hk hS hok hok2 v2
        obtain ⟨v, c3, e4, _, hc3⟩ := drawRight_ok k (by omega) l.1 c2 hc2
        simp only [cond_true, e3, e4, Option.bind_some]
        exact ⟨_, _, rfl, hc3, by simp, by simp⟩
      | false => exact ⟨_, _, rfl, hc2, by simp, by simp⟩
  | succ d ih =>
    intro D c hd hD hc
    obtain ⟨D, rfl⟩ : ∃ q, D = q + 1 := ⟨D - 1, by omega⟩
    have hd1 : IntKind.wrap .i64 (((d + 1 : Nat) : Int) - 1) = (d : Int) := by rw [w64 (by omega) (by omega)]; omega
    simp only [spec_l20DrawTree.rec, spec_l20DrawTree.b, eL, Option.bind_some]
    by_cases h0 : (L.length : Int) = 0
    · rw [beqT h0, cond_true]
      exact ⟨_, _, rfl, hc, by simp, by simp⟩
    · rw [beqF h0, cond_false, decide_eq_true (show (((d + 1 : Nat) : Int) > 0) by omega), cond_true]
      obtain ⟨v0, c0, e0, hc0⟩ := once_ok k 2 (by omega) c hc
      simp only [e0, Option.bind_some, hd1]
      cases v0 with
      | true =>
        obtain ⟨c1, P, e1, hc1, p1, p2⟩ := ih D c0 (by omega) (by omega) hc0
        obtain ⟨v2, c2, e2, hc2⟩ := once_ok k 3 (by omega) c1 hc1
        simp only [cond_true, e1, e2, Option.bind_some]
        have more : ∃ c' P', spec_l20DrawTree.c10 k (spec_l20DrawTree.rec k D) s ((d + 1 : Nat) : Int) c2 P = some ((), (c', P')) ∧ CurOk c' ∧ 1 ≤ P'.length ∧ P'.length ≤ 31 := by
          unfold spec_l20DrawTree.c10
          obtain ⟨v3, c3, e3, _, _, hc3⟩ := below_ok k 2 (by omega) c2 hc2
          obtain ⟨c4, Q, e4, hc4, q1, q2⟩ := ih D c3 (by omega) (by omega) hc3
          obtain ⟨b, out, e5, h5⟩ := spair_ok k hk (IntKind.wrap .i64 (5 + v3)) P Q (by omega) (by omega)
          simp only [e3, e4, e5, Option.bind_some, hd1]
          cases b with
          | true => exact ⟨_, _, rfl, hc4, (h5 rfl).1, (h5 rfl).2⟩
          | false => exact ⟨_, _, rfl, hc4, p1, p2⟩
        cases v2 with
        | true =>
          simp only [cond_true, (inot_eq k hk P (by omega)).2]
          by_cases hl : P.length ≠ 0 ∧ P.length + 1 ≤ 31
          · rw [if_pos hl]
            simp only [Option.bind_some, cond_true]
            exact ⟨_, _, rfl, hc2, by simp, by simp; omega⟩
          · rw [if_neg hl]
            simp only [Option.bind_some, cond_false]
            exact more
        | false => exact more
      | false =>
        obtain ⟨v1, c1, e1, _, _, hc1⟩ := below_ok k 4 (by omega) c0 hc0
        obtain ⟨v2, c2, e2, _, hc2⟩ := pick_ok k L (by omega) (by omega) c1 hc1
        simp only [cond_false, e1, e2, Option.bind_some, spec_l20DrawTree.c18]
        cases (IntKind.wrap .i64 (1 + v1) != 4) with
        | true =>
          obtain ⟨l, b, e3, _⟩ := leafOf_eq k s hn hk hS hok hok2 v2
          obtain ⟨v, c3, e4, _, hc3⟩ := drawRight_ok k (by omega) l.1 c2 hc2
          simp only [cond_true, e3, e4, Option.bind_some]
          exact ⟨_, _, rfl, hc3, by simp, by simp⟩
        | false => exact ⟨_, _, rfl, hc2, by simp, by simp⟩

theorem drawPred_ok (c : TL1Cur) (hc : CurOk c) : ∃ c' P, spec_l20DrawPred k s c = some ((), (c', P)) ∧ CurOk c' ∧ P.length ≤ 40 := by
  unfold spec_l20DrawPred
  obtain ⟨v1, c1, e1, _, b1, hc1⟩ := below_ok k 3 (by omega) c hc
  have b1 := b1 (by omega)
  obtain ⟨d, hd⟩ := Int.eq_ofNat_of_zero_le (show 0 ≤ 1 + v1 by omega)
  have hw : IntKind.wrap .i64 (1 + v1) = (d : Int) := by rw [w64 (by omega) (by omega)]; exact hd
  obtain ⟨c2, P, e2, hc2, p1, p2⟩ := drawTree20_ok k hk s hn hS hok hok2 d k c1 (by omega) (by omega) hc1
  have e2 : spec_l20DrawTree k s (d : Int) c1 = some ((), (c2, P)) := e2
  obtain ⟨v3, c3, e3, _, b3, hc3⟩ := below_ok k (P.length : Int) (by omega) c2 hc2
  have b3 := b3 (by omega)
  obtain ⟨v4, c4, e4, _, b4, hc4⟩ := below_ok k 30 (by omega) c3 hc3
  obtain ⟨x, hx, _⟩ := rdL_some (xs := P) b3.1 b3.2
  simp only [e1, Option.bind_some, hw, e2, e3, e4, spec_l20DrawPred.c16, hx]
  by_cases h0 : v4 = 0
  · obtain ⟨v5, c5, e5, _, _, hc5⟩ := below_ok k 9 (by omega) c4 hc4
    rw [beqT h0, cond_true]
    simp only [e5, Option.bind_some]
    exact ⟨_, _, rfl, hc5, by simp; omega⟩
  rw [beqF h0, cond_false]
  by_cases h1 : v4 = 1
  · obtain ⟨v5, c5, e5, _, _, hc5⟩ := below_ok k 5 (by omega) c4 hc4
    rw [beqT h1, cond_true]
    simp only [e5, Option.bind_some]
    exact ⟨_, _, rfl, hc5, by simp; omega⟩
  rw [beqF h1, cond_false]
  by_cases h2 : v4 = 2
  · obtain ⟨v5, c5, e5, _, _, hc5⟩ := below_ok k 4 (by omega) c4 hc4
    rw [beqT h2, cond_true]
    simp only [e5, Option.bind_some]
    exact ⟨_, _, rfl, hc5, by simp; omega⟩
  rw [beqF h2, cond_false]
  by_cases h3 : v4 = 3
  · obtain ⟨v5, c5, e5, hc5, _⟩ := drawText_ok k 1 (by omega) (by omega) c4 hc4
    have e5 : spec_l4DrawText k 1 c4 = some (v5, c5) := e5
    rw [beqT h3, cond_true]
    simp only [e5, Option.bind_some]
    exact ⟨_, _, rfl, hc5, by simp; omega⟩
  rw [beqF h3, cond_false]
  by_cases h4 : v4 = 4
  · rw [beqT h4, cond_true, lim_ok (by simp; omega), cond_true]
    exact ⟨_, _, rfl, hc4, by simp; omega⟩
  rw [beqF h4, cond_false]
  cases (v4 == 5) with
  | true => exact ⟨_, _, rfl, hc4, by simp⟩
  | false => exact ⟨_, _, rfl, hc4, by omega⟩
end

theorem drawSchema20_ok (k : Nat) (hk : 2000000 ≤ k) (c : TL1Cur) (hc : CurOk c) : ∃ c' l, spec_l20DrawSchema k c = some ((), (c', l)) ∧ CurOk c' ∧ WfDs l ∧ l.length ≤ 20 ∧ spec_SchemaOk k l = some true ∧ impl_SchemaOk k l = some true ∧ IsSchema l := by
  have key : ∀ (m f : Nat) (i : Int) (c : TL1Cur) (l : List TCol), 0 ≤ i → 6 - i ≤ m → m < f → CurOk c → (WfDs l ∧ l.length ≤ 20 ∧ spec_SchemaOk k l = some true ∧ impl_SchemaOk k l = some true ∧ IsSchema l) → ∃ c' l', spec_l20DrawSchema.l3 k f i c l = some ((), (c', l')) ∧ CurOk c' ∧ WfDs l' ∧ l'.length ≤ 20 ∧ spec_SchemaOk k l' = some true ∧ impl_SchemaOk k l' = some true ∧ IsSchema l' := by
    intro m
    induction m with
    | zero =>
      intro f i c l h0 hi hf hc hl
      obtain ⟨f, rfl⟩ : ∃ q, f = q + 1 := ⟨f - 1, by omega⟩
      simp only [spec_l20DrawSchema.l3, decide_eq_false (show ¬ i < 6 by omega), cond_false, Option.bind_some]
      exact ⟨_, _, rfl, hc, hl⟩
    | succ m ih =>
      intro f i c l h0 hi hf hc hl
      obtain ⟨f, rfl⟩ : ∃ q, f = q + 1 := ⟨f - 1, by omega⟩
      by_cases h6 : i < 6
      · obtain ⟨h1, h2, h3, h4, h5⟩ := hl
        obtain ⟨L, e1, _⟩ := leaves20_ok k hk l (wfSmall k (by omega) h1) h5 h3 h4
        simp only [spec_l20DrawSchema.l3, decide_eq_true h6, cond_true, e1, Option.bind_some]
        cases ((L.length : Int) == 0) with
        | true =>
          obtain ⟨c2, l2, e2, hc2, hw2⟩ := drawCols_ok k (by omega) c hc
          simp only [cond_true, e2, Option.bind_some]
          rw [w64 (by omega) (by omega)]
          exact ih f (i + 1) c2 l2 (by omega) (by omega) (by omega) hc2 hw2
        | false => exact ⟨_, _, rfl, hc, h1, h2, h3, h4, h5⟩
      · simp only [spec_l20DrawSchema.l3, decide_eq_false h6, cond_false, Option.bind_some]
        exact ⟨_, _, rfl, hc, hl⟩
  unfold spec_l20DrawSchema
  obtain ⟨c2, l2, e2, hc2, hw2⟩ := drawCols_ok k (by omega) c hc
  simp only [e2, Option.bind_some]
  exact key 6 k 0 c2 l2 (by omega) (by omega) (by omega) hc2 hw2
end Go.Law
end

section
/- FnPreds -/
set_option linter.unusedVariables false
set_option linter.unusedSimpArgs false
namespace Go.Law
open Go.Am Go.Fn

theorem fnPreds (code : List Int) : ∃ k, laws_FnPreds k code = some true := by
  refine ⟨3000000, ?_⟩
  generalize hk : 3000000 = k
  have hk' : 2000000 ≤ k := by omega
  clear hk
  unfold laws_FnPreds laws_big
  simp only [Option.bind_some]
  by_cases hbig : (code.length : Int) > 1048576
  · simp only [decide_eq_true hbig, cond_true]
  simp only [decide_eq_false hbig, cond_false]
  unfold spec_DrawPredHolds
  obtain ⟨c, e, hc⟩ := new_ok k (by omega) code (by omega)
  obtain ⟨c1, s, e1, hc1, hw, _, ok1, ok2, hS⟩ := drawSchema20_ok k hk' c hc
  have hn := wfSmall k (by omega) hw
  obtain ⟨c2, P, e2, hc2, hP⟩ := drawPred_ok k hk' s hn hS ok1 ok2 c1 hc1
  obtain ⟨c3, V, e3, _, _, _⟩ := drawRec_ok k hk' s hw hS ok1 c2 hc2
  simp only [e, e1, e2, e3, Option.bind_some]
  obtain ⟨h1, h2⟩ := predHolds_val k s hn hk' hS ok1 ok2 P V
  obtain ⟨n1, n2⟩ := inot_eq k hk' P (by omega)
  obtain ⟨b0, r1, _, _, r4, r5⟩ := recOk_eq k hk' s hn V
  obtain rfl : b0 = true := by rw [ok1] at r1; exact (Option.some.inj r1).symm
  rw [h1, h2]
  simp only [Option.bind_some, beq_self_eq_true, Bool.not_true, cond_false, n1, n2, (predOk_val k s hn hk' hS ok1 ok2 P).1, r4, Bool.true_and]
  by_cases hl : P.length ≠ 0 ∧ P.length + 1 ≤ 31
  · simp only [if_pos hl, Option.bind_some, beq_self_eq_true, Bool.not_true, cond_false, cst, Bool.false_or]
    have hNl : (P ++ [rootP 7 ((P.length : Int) - 1) 0]).length = P.length + 1 := by simp
    generalize hN : P ++ [rootP 7 ((P.length : Int) - 1) 0] = N at hNl
    have p5 := ipair_eq k hk' 5 P N (by omega) (by omega) (.inl rfl)
    have p6 := ipair_eq k hk' 6 P N (by omega) (by omega) (.inr rfl)
    by_cases hgood : predOkV k s P = true ∧ (recEv s V).isSome = true
    · obtain ⟨hp, hr⟩ := hgood
      obtain ⟨_, _, q1, q2⟩ := predOk_eq k s hn hk' P
      have g := q2 (by rw [(predOk_val k s hn hk' hS ok1 ok2 P).2] at q1; rw [← Option.some.inj q1]; exact hp)
      obtain ⟨nok, nh⟩ := not_ok k s hn hk' hS ok1 ok2 hp g hl.2 (V, ())
      rw [hN] at nok nh
      have gN : GoodPreds k s N := by
        obtain ⟨_, _, q1, q2⟩ := predOk_eq k s hn hk' N
        exact q2 (by rw [(predOk_val k s hn hk' hS ok1 ok2 N).2] at q1; rw [← Option.some.inj q1]; exact nok)
      have hNv := (predHolds_val k s hn hk' hS ok1 ok2 N V).2
      rw [nok, hr, nh] at hNv
      simp only [hp, hr, Bool.not_true, Bool.or_self, cond_false, Bool.true_and, hNv, Option.bind_some, (predOk_val k s hn hk' hS ok1 ok2 N).2, nok]
      by_cases hfit : P.length + N.length + 1 ≤ 31
      · obtain ⟨A, a1, a2, a3⟩ := pair_ok k s hn hk' hS ok1 ok2 5 (.inl rfl) hp nok g gN hfit (V, ())
        obtain ⟨O, o1, o2, o3⟩ := pair_ok k s hn hk' hS ok1 ok2 6 (.inr rfl) hp nok g gN hfit (V, ())
        have hA := (predHolds_val k s hn hk' hS ok1 ok2 A V).2
        have hO := (predHolds_val k s hn hk' hS ok1 ok2 O V).2
        rw [a2, hr, a3, if_pos rfl, nh] at hA
        rw [o2, hr, o3, if_neg (by decide), nh] at hO
        simp only [a1, o1, Option.bind_some, hA, hO, (predOk_val k s hn hk' hS ok1 ok2 A).2, a2]
        cases hld k s P (V, ()) 100 ((P.length : Int) - 1) <;> rfl
      · rw [if_neg (fun h => hfit h.2.2)] at p5 p6
        simp only [p5, p6, Option.bind_some]
        cases hld k s P (V, ()) 100 ((P.length : Int) - 1) <;> rfl
    · have hb : (predOkV k s P && (recEv s V).isSome) = false := by
        rw [Bool.eq_false_iff]; intro q
        simp only [Bool.and_eq_true] at q
        exact hgood q
      have hflag : ∃ b x y, impl_PredPair k 5 P N = some (((), b), x) ∧ impl_PredPair k 6 P N = some (((), b), y) := by
        by_cases hfit : P.length ≠ 0 ∧ N.length ≠ 0 ∧ P.length + N.length + 1 ≤ 31
        · rw [if_pos hfit] at p5 p6
          exact ⟨_, _, _, p5, p6⟩
        · rw [if_neg hfit] at p5 p6
          exact ⟨_, _, _, p5, p6⟩
      obtain ⟨b, x, y, p5, p6⟩ := hflag
      simp only [p5, p6, Option.bind_some, beq_self_eq_true, Bool.not_true, cond_false, hb, Bool.false_and, Bool.not_false]
      revert hb
      cases predOkV k s P <;> cases (recEv s V).isSome <;> intro hb <;> first | rfl | cases hb
  · have p5 := ipair_eq k hk' 5 P [] (by omega) (by simp) (.inl rfl)
    have p6 := ipair_eq k hk' 6 P [] (by omega) (by simp) (.inr rfl)
    rw [if_neg (fun h => h.2.1 rfl)] at p5 p6
    simp only [if_neg hl, Option.bind_some, beq_self_eq_true, Bool.not_true, cond_false, cst, p5, p6, Bool.or_self]
    cases predOkV k s P <;> cases (recEv s V).isSome <;> cases hld k s P (V, ()) 100 ((P.length : Int) - 1) <;> rfl
end Go.Law
end
