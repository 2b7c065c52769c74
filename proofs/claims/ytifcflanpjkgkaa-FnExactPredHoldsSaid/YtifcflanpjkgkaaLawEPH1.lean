import Derived.Test.YtifcflanpjkgkaaLawEPH0
import Derived.Test.YtifcflanpjkgkaaAmRow
set_option linter.unnecessarySimpa false
set_option linter.unusedSimpArgs false
set_option linter.unusedVariables false
set_option linter.unusedSectionVars false
section
/- Conditions: PredHolds, the program's and the reference's. -/
set_option linter.unusedVariables false
set_option linter.unusedSimpArgs false
set_option linter.unusedSectionVars false
namespace Go.Law
open Go.Am Go.Fn

theorem predKinds {k : Nat} {s : List TCol} (hn : ∀ c, c ∈ s → c.1.size < k ∧ c.1.size < 1000000000 ∧ I64 c.2.2.2.1) (hk : 2000000 ≤ k) {p : List TPred} (g : GoodPreds k s p) (a : Nat) (ha : a < p.length) (x : TPred) (hx : p[a]? = some x) :
    (1 ≤ x.1 ∧ x.1 ≤ 7) ∧ (x.1 = 5 ∨ x.1 = 6 → x.2.2.2.2.1 = (a : Int) - 1 ∧ 0 ≤ x.2.2.2.1 ∧ x.2.2.2.1 < (a : Int) - 1) ∧ (x.1 = 7 → x.2.2.2.1 = (a : Int) - 1 ∧ 0 ≤ x.2.2.2.1) := by
  obtain ⟨b, p1, _, _, _, p5⟩ := plain_eq k s hn hk g.sch g.ok g.ok2 x
  have hpl := g.plain x (List.mem_of_getElem? hx)
  unfold plainB at hpl
  rw [p1] at hpl
  have hb : b = true := hpl
  have hal := g.all a ha
  have hl := g.len
  have e := frm_eq p (a : Int) (by omega) (by omega) x hx
  have hle := frm_le p ((a : Int) - 1) (by omega)
  have h17 : 1 ≤ x.1 ∧ x.1 ≤ 7 := Classical.byContradiction fun h => by
    have := p5 h
    rw [hb] at this
    cases this
  refine ⟨h17, fun h56 => ?_, fun h7 => ?_⟩
  · rw [if_neg (by omega), if_pos h56] at e
    split at e
    · rename_i c1
      split at e
      · rename_i c2
        exact ⟨c1, by omega, by omega⟩
      · omega
    · omega
  · rw [if_pos h7] at e
    split at e
    · rename_i c1
      rcases Nat.eq_zero_or_pos a with h0 | h0
      · subst h0
        have := frm_neg p (((0 : Nat) : Int) - 1) (by omega)
        omega
      · exact ⟨c1, by omega⟩
    · omega

section
variable (k : Nat) (s : List TCol) (hn : ∀ c, c ∈ s → c.1.size < k ∧ c.1.size < 1000000000 ∧ I64 c.2.2.2.1) (hk : 2000000 ≤ k)

/-- a single condition of a record -/
def single (r : TRec) (x : TPred) : Bool := (impl_holds k s x r).getD false

def hld (p : List TPred) (r : TRec) : Nat → Int → Bool
  | 0, _ => false
  | d + 1, a => match rdL p a with
    | none => false
    | some x =>
      if x.1 = 5 then hld p r d x.2.2.2.1 && hld p r d x.2.2.2.2.1
      else if x.1 = 6 then hld p r d x.2.2.2.1 || hld p r d x.2.2.2.2.1
      else if x.1 = 7 then !hld p r d x.2.2.2.1
      else single k s r x

include hn hk

theorem single_eq (hS : IsSchema s) (hok : spec_SchemaOk k s = some true) (hok2 : impl_SchemaOk k s = some true) (V : List TVal) (x : TPred) (h14 : 1 ≤ x.1 ∧ x.1 ≤ 4) :
    impl_holds k s x (V, ()) = some (single k s (V, ()) x) ∧
    ((spec_LeafOf k s x.2.1).bind fun r9 =>
           (spec_RecValues k s (V, ()) x.2.1).bind fun r10 =>
           cond ((List.length r10.2 : Int) == 0)
             (some (x.1 == 4))
             (cond (x.1 == 1)
                ((rdL r10.2 0).bind fun y11 => some ((y11.1 == x.2.2.1.1) && (eqS y11.2.1 x.2.2.1.2.1 && true)))
                (cond (x.1 == 2)
                   ((rdL r10.2 0).bind fun y12 => (spec_ValLess k r9.1.1 y12 x.2.2.1).bind fun r13 => some r13)
                   (cond (x.1 == 3) ((rdL r10.2 0).bind fun y14 => (spec_ValLess k r9.1.1 x.2.2.1 y14).bind fun r15 => some (!r15)) (some false))))) = some (single k s (V, ()) x) := by
  obtain ⟨l, b, e1, e2, _⟩ := leafOf_eq k s hn hk hS hok hok2 x.2.1
  obtain ⟨w, out, e3, e4⟩ : ∃ w out, spec_RecValues k s (V, ()) x.2.1 = some (w, out) ∧ impl_RecValues k s (V, ()) x.2.1 = some (w, out) := by
    rcases recVals_eq k s hn hk hS hok hok2 V x.2.1 with ⟨L, _, q1, q2⟩ | ⟨_, q1, q2⟩
    · exact ⟨_, _, q1, q2⟩
    · exact ⟨_, _, q1, q2⟩
  have key : ∃ q, impl_holds k s x (V, ()) = some q ∧ ((spec_LeafOf k s x.2.1).bind fun r9 =>
           (spec_RecValues k s (V, ()) x.2.1).bind fun r10 =>
           cond ((List.length r10.2 : Int) == 0)
             (some (x.1 == 4))
             (cond (x.1 == 1)
                ((rdL r10.2 0).bind fun y11 => some ((y11.1 == x.2.2.1.1) && (eqS y11.2.1 x.2.2.1.2.1 && true)))
                (cond (x.1 == 2)
                   ((rdL r10.2 0).bind fun y12 => (spec_ValLess k r9.1.1 y12 x.2.2.1).bind fun r13 => some r13)
                   (cond (x.1 == 3) ((rdL r10.2 0).bind fun y14 => (spec_ValLess k r9.1.1 x.2.2.1 y14).bind fun r15 => some (!r15)) (some false))))) = some q := by
    unfold impl_holds
    simp only [e1, e2, e3, e4, Option.bind_some, cst, csf]
    cases out with
    | nil =>
      simp only [List.length_nil]
      rw [show (((0 : Nat) : Int) == 0) = true from rfl]
      simp only [Bool.or_true, cond_true, Bool.and_true]
      exact ⟨_, rfl, rfl⟩
    | cons v out =>
      have hz : (((v :: out).length : Int) == 0) = false := beqF (by simp; omega)
      have hr : rdL (v :: out) 0 = some v := rfl
      rw [hz]
      simp only [Bool.or_false, cond_false, hr, Option.bind_some, (valLess_eq k hk _ _ _).1, (valLess_eq k hk _ _ _).2]
      by_cases h4 : x.1 = 4
      · rw [beqT h4, beqF (show ¬ x.1 = 1 by omega), beqF (show ¬ x.1 = 2 by omega), beqF (show ¬ x.1 = 3 by omega)]
        exact ⟨_, rfl, rfl⟩
      · rw [beqF h4, cond_false]
        by_cases h1 : x.1 = 1
        · rw [beqT h1]; exact ⟨_, rfl, rfl⟩
        · rw [beqF h1]
          by_cases h2 : x.1 = 2
          · rw [beqT h2]; exact ⟨_, rfl, rfl⟩
          · rw [beqF h2, beqT (show x.1 = 3 by omega)]; exact ⟨_, rfl, rfl⟩
  obtain ⟨q, q1, q2⟩ := key
  have : single k s (V, ()) x = q := by unfold single; rw [q1]; rfl
  rw [this]
  exact ⟨q1, q2⟩

theorem hld_fuel {p : List TPred} (g : GoodPreds k s p) (r : TRec) : ∀ (d d' a : Nat), a < p.length → a < d → a < d' → hld k s p r d a = hld k s p r d' a
  | 0, _, _, _, h, _ => by omega
  | _ + 1, 0, _, _, _, h => by omega
  | d + 1, d' + 1, a, ha, h1, h2 => by
    have hx := List.getElem?_eq_getElem ha
    generalize p[a] = x at hx
    obtain ⟨k1, k2, k3⟩ := predKinds hn hk g a ha x hx
    simp only [hld, rdL_nat, hx]
    have sub : ∀ b : Int, 0 ≤ b → b < a → hld k s p r d b = hld k s p r d' b := fun b b0 b1 => by
      obtain ⟨n, rfl⟩ := Int.eq_ofNat_of_zero_le b0
      exact hld_fuel g r d d' n (by omega) (by omega) (by omega)
    by_cases h5 : x.1 = 5
    · obtain ⟨c1, c2, c3⟩ := k2 (.inl h5)
      rw [if_pos h5, if_pos h5, sub _ c2 (by omega), sub _ (by omega) (by omega)]
    · rw [if_neg h5, if_neg h5]
      by_cases h6 : x.1 = 6
      · obtain ⟨c1, c2, c3⟩ := k2 (.inr h6)
        rw [if_pos h6, if_pos h6, sub _ c2 (by omega), sub _ (by omega) (by omega)]
      · rw [if_neg h6, if_neg h6]
        by_cases h7 : x.1 = 7
        · obtain ⟨c1, c2⟩ := k3 h7
          rw [if_pos h7, if_pos h7, sub _ c2 (by omega)]
        · rw [if_neg h7, if_neg h7]

theorem sholds_rec {p : List TPred} (g : GoodPreds k s p) (V : List TVal) : ∀ (d a : Nat), a < p.length → a < d → spec_l20Holds.rec k d s p (a : Int) (V, ()) = some (hld k s p (V, ()) d a) := by
  intro d
  induction d with
  | zero => intro a ha h; omega
  | succ d ih =>
    intro a ha h
    have hx := List.getElem?_eq_getElem ha
    generalize p[a] = x at hx
    obtain ⟨k1, k2, k3⟩ := predKinds hn hk g a ha x hx
    have sub : ∀ b : Int, 0 ≤ b → b < a → spec_l20Holds.rec k d s p b (V, ()) = some (hld k s p (V, ()) d b) := fun b b0 b1 => by
      obtain ⟨n, rfl⟩ := Int.eq_ofNat_of_zero_le b0
      exact ih n (by omega) (by omega)
    simp only [spec_l20Holds.rec, spec_l20Holds.b, hld, rdL_nat, hx, Option.bind_some]
    by_cases h5 : x.1 = 5
    · obtain ⟨c1, c2, c3⟩ := k2 (.inl h5)
      rw [beqT h5, cond_true, if_pos h5, sub _ c2 (by omega), sub _ (by omega) (by omega)]
      simp only [Option.bind_some, csf]
    · rw [beqF h5, cond_false, if_neg h5]
      by_cases h6 : x.1 = 6
      · obtain ⟨c1, c2, c3⟩ := k2 (.inr h6)
        rw [beqT h6, cond_true, if_pos h6, sub _ c2 (by omega), sub _ (by omega) (by omega)]
        simp only [Option.bind_some, cst]
      · rw [beqF h6, cond_false, if_neg h6]
        by_cases h7 : x.1 = 7
        · obtain ⟨c1, c2⟩ := k3 h7
          rw [beqT h7, cond_true, if_pos h7, sub _ c2 (by omega)]
          rfl
        · rw [beqF h7, cond_false, if_neg h7]
          exact (single_eq k s hn hk g.sch g.ok g.ok2 V x (by omega)).2

theorem iholds_loop {p : List TPred} (g : GoodPreds k s p) (V : List TVal) : ∀ (post pre : List TPred) (f : Nat) (o : List Bool), p = pre ++ post → post.length < f → o.length = p.length →
    (∀ j : Nat, j < pre.length → o[j]? = some (hld k s p (V, ()) 100 j)) →
    impl_PredHolds.l5 k f s p p (p.length : Int) (pre.length : Int) (V, ()) o = some (hld k s p (V, ()) 100 ((p.length : Int) - 1)) := by
  intro post
  have hl := g.len
  induction post with
  | nil =>
    intro pre f o h hf ho hb
    obtain ⟨f, rfl⟩ : ∃ q, f = q + 1 := ⟨f - 1, by omega⟩
    rw [List.append_nil] at h
    subst h
    have hw : IntKind.wrap .i64 ((p.length : Int) - 1) = ((p.length - 1 : Nat) : Int) := by rw [w64 (by omega) (by omega)]; omega
    have hlast := hb (p.length - 1) (by omega)
    have he : (p.length : Int) - 1 = ((p.length - 1 : Nat) : Int) := by omega
    simp only [impl_PredHolds.l5, decide_eq_false (show ¬ ((p.length : Int) < (p.length : Int)) by omega), cond_false, hw, rdL_nat, hlast, Option.bind_some]
    rw [he]
  | cons x post ih =>
    intro pre f o h hf ho hb
    simp only [List.length_cons] at hf
    obtain ⟨f, rfl⟩ : ∃ q, f = q + 1 := ⟨f - 1, by omega⟩
    have hlen : p.length = pre.length + (post.length + 1) := by rw [h]; simp
    have hg : rdL p (pre.length : Int) = some x := by rw [h]; exact getMid _ _ _
    have hi1 : IntKind.wrap .i64 ((pre.length : Int) + 1) = ((pre.length + 1 : Nat) : Int) := by rw [w64 (by omega) (by omega)]; omega
    have hol : pre.length < o.length := by omega
    have ho1 : o[pre.length]? = some o[pre.length] := List.getElem?_eq_getElem hol
    obtain ⟨k1, k2, k3⟩ := predKinds hn hk g pre.length (by omega) x hg
    have go : impl_PredHolds.l5 k f s p p (p.length : Int) ((pre.length + 1 : Nat) : Int) (V, ()) (o.set pre.length (hld k s p (V, ()) 100 pre.length)) = some (hld k s p (V, ()) 100 ((p.length : Int) - 1)) := by
      have hi := ih (pre ++ [x]) f (o.set pre.length (hld k s p (V, ()) 100 pre.length)) (by rw [h]; simp) (by omega) (by simpa using ho) (fun j hj => by
        rw [List.length_append, List.length_singleton] at hj
        rcases Nat.lt_or_ge j pre.length with c | c
        · rw [List.getElem?_set_ne (by omega)]; exact hb j c
        · have : j = pre.length := by omega
          subst this
          rw [List.getElem?_set_self hol])
      rw [List.length_append, List.length_singleton] at hi
      exact hi
    have sub : ∀ b : Int, 0 ≤ b → b < pre.length → rdL o b = some (hld k s p (V, ()) 99 b) := fun b b0 b1 => by
      obtain ⟨n, rfl⟩ := Int.eq_ofNat_of_zero_le b0
      rw [rdL_nat, hb n (by omega), hld_fuel k s hn hk g (V, ()) 100 99 n (by omega) (by omega) (by omega)]
    have hun : hld k s p (V, ()) 100 pre.length = (if x.1 = 5 then hld k s p (V, ()) 99 x.2.2.2.1 && hld k s p (V, ()) 99 x.2.2.2.2.1
      else if x.1 = 6 then hld k s p (V, ()) 99 x.2.2.2.1 || hld k s p (V, ()) 99 x.2.2.2.2.1
      else if x.1 = 7 then !hld k s p (V, ()) 99 x.2.2.2.1
      else single k s (V, ()) x) := by
      conv => lhs; unfold hld
      rw [hg]
    simp only [impl_PredHolds.l5, decide_eq_true (show (pre.length : Int) < (p.length : Int) by omega), cond_true, hg, Option.bind_some, impl_PredHolds.c15, hi1, Int.toNat_natCast, cst, csf, rdL_nat, ho1]
    by_cases h5 : x.1 = 5
    · obtain ⟨c1, c2, c3⟩ := k2 (.inl h5)
      rw [if_pos h5] at hun
      rw [beqT h5, cond_true, sub _ c2 (by omega), sub _ (by omega) (by omega)]
      simp only [Option.bind_some, csf]
      rw [← hun]; exact go
    · rw [if_neg h5] at hun
      rw [beqF h5, cond_false]
      by_cases h6 : x.1 = 6
      · obtain ⟨c1, c2, c3⟩ := k2 (.inr h6)
        rw [if_pos h6] at hun
        rw [beqT h6, cond_true, sub _ c2 (by omega), sub _ (by omega) (by omega)]
        simp only [Option.bind_some, cst]
        rw [← hun]; exact go
      · rw [if_neg h6] at hun
        rw [beqF h6, cond_false]
        by_cases h7 : x.1 = 7
        · obtain ⟨c1, c2⟩ := k3 h7
          rw [if_pos h7] at hun
          rw [beqT h7, cond_true, sub _ c2 (by omega)]
          simp only [Option.bind_some]
          rw [← hun]; exact go
        · rw [if_neg h7] at hun
          rw [beqF h7, cond_false, (single_eq k s hn hk g.sch g.ok g.ok2 V x (by omega)).1]
          simp only [Option.bind_some]
          rw [← hun]; exact go

/-- both find the same records -/
theorem predHolds_eq (p : List TPred) (V : List TVal) : ∃ b, spec_PredHolds k s p (V, ()) = some b ∧ impl_PredHolds k s p (V, ()) = some b := by
  obtain ⟨b, e1, e2, e3⟩ := predOk_eq k s hn hk p
  obtain ⟨b0, _, _, _, e4, e5⟩ := recOk_eq k hk s hn V
  unfold spec_PredHolds impl_PredHolds
  rw [e1, e2, e4, e5]
  simp only [Option.bind_some, cst, csf]
  generalize (b0 && (recEv s V).isSome) = b1
  cases b with
  | false => exact ⟨_, rfl, rfl⟩
  | true =>
    cases b1 with
    | false => exact ⟨_, rfl, rfl⟩
    | true =>
      have g := e3 rfl
      have hl := g.len
      have hw : IntKind.wrap .i64 ((p.length : Int) - 1) = ((p.length - 1 : Nat) : Int) := by rw [w64 (by omega) (by omega)]; omega
      have he : (p.length : Int) - 1 = ((p.length - 1 : Nat) : Int) := by omega
      have a1 : spec_l20Holds k s p ((p.length - 1 : Nat) : Int) (V, ()) = some (hld k s p (V, ()) k ((p.length - 1 : Nat) : Int)) := sholds_rec k s hn hk g V k (p.length - 1) (by omega) (by omega)
      have a2 := iholds_loop k s hn hk g V p [] k (List.replicate (Int.toNat (p.length : Int)) false) rfl (by omega) (by simp) (fun j hj => by simp at hj)
      have a2 : impl_PredHolds.l5 k k s p p (p.length : Int) 0 (V, ()) _ = _ := a2
      rw [hw, a1]
      simp only [Bool.and_self, cond_true, Option.bind_some, Bool.not_true, Bool.or_self, cond_false]
      rw [okLen_ok (by omega) (by omega), cond_true, a2, he, hld_fuel k s hn hk g (V, ()) k 100 (p.length - 1) (by omega) (by omega) (by omega)]
      exact ⟨_, rfl, rfl⟩
end
end Go.Law
end

section
/- What the exact laws do around a call: rows of anything. -/
set_option linter.unusedVariables false
set_option linter.unusedSimpArgs false
namespace Go.Law
open Go.Am Go.Fn

def xtot {α : Type} (f : α → Nat) : List α → Nat
  | [] => 0
  | x :: r => f x + xtot f r
theorem xtot_le {α : Type} {f : α → Nat} {C : Nat} : ∀ (l : List α), (∀ x, x ∈ l → f x ≤ C) → xtot f l ≤ C * l.length
  | [], _ => Nat.zero_le _
  | x :: r, h => by
    have h1 := h x (List.mem_cons_self ..)
    have h2 := xtot_le r (fun y hy => h y (List.mem_cons_of_mem _ hy))
    simp only [xtot, List.length_cons, Nat.mul_add, Nat.mul_one]
    omega
theorem xtot_mem {α : Type} {f : α → Nat} : ∀ (l : List α) (x : α), x ∈ l → f x ≤ xtot f l
  | y :: r, x, h => by
    simp only [xtot]
    rcases List.mem_cons.1 h with rfl | h
    · omega
    · have := xtot_mem (f := f) r x h; omega

/-- a row of which no more is known than that it is not too long -/
def okL {α : Type} (P : α → Prop) (l : List α) : Prop := l.length ≤ 1048576 ∧ ∀ x, x ∈ l → P x
theorem okL.tot {α : Type} {P : α → Prop} {l : List α} (h : okL P l) {f : α → Nat} {C : Nat} (hc : ∀ x, P x → f x ≤ C) : xtot f l ≤ C * 1048576 := by
  have := xtot_le l (f := f) (C := C) (fun x hx => hc x (h.2 x hx))
  exact Nat.le_trans this (Nat.mul_le_mul_left _ h.1)

/-- a marked row -/
def mkL {α : Type} (mk : α → Int → α) (cnt : α → Nat) : List α → Int → List α
  | [], _ => []
  | x :: r, m => mk x m :: mkL mk cnt r (m + cnt x)
theorem mkL_len {α : Type} (mk : α → Int → α) (cnt : α → Nat) : ∀ (l : List α) (m : Int), (mkL mk cnt l m).length = l.length
  | [], _ => rfl
  | x :: r, m => by simp [mkL, mkL_len mk cnt r]

theorem nat1 {α : Type} (pre : List α) (h : pre.length ≤ 1048576) : IntKind.wrap .i64 ((pre.length : Int) + 1) = ((pre.length + 1 : Nat) : Int) := by rw [w64 (by omega) (by omega)]; omega
theorem ltMid {α : Type} (pre post : List α) (x : α) : decide ((pre.length : Int) < ((pre ++ x :: post).length : Int)) = true := decide_eq_true (by simp; omega)
theorem ltEnd {α : Type} (l : List α) : decide ((l.length : Int) < (l.length : Int)) = false := decide_eq_false (by omega)

theorem xto_gen {α : Type} (F : Nat → List α → Int → List α → Option (Unit × List α)) (z : α) (P : α → Prop)
    (h0 : ∀ n l o, F (n + 1) l (l.length : Int) o = some ((), o))
    (h1 : ∀ n pre x post o, P x → pre.length ≤ 1048576 → F (n + 1) (pre ++ x :: post) (pre.length : Int) (pre ++ z :: o) = F n (pre ++ x :: post) ((pre.length + 1 : Nat) : Int) (pre ++ x :: o)) :
    ∀ (post pre : List α) (n : Nat), post.length < n → pre.length + post.length ≤ 1048576 → (∀ x, x ∈ post → P x) → F n (pre ++ post) (pre.length : Int) (pre ++ List.replicate post.length z) = some ((), pre ++ post) := by
  intro post
  induction post with
  | nil =>
    intro pre n hn hl hP
    obtain ⟨n, rfl⟩ : ∃ j, n = j + 1 := ⟨n - 1, by omega⟩
    simp only [List.append_nil, List.length_nil, List.replicate_zero]
    exact h0 n pre pre
  | cons x post ih =>
    intro pre n hn hl hP
    obtain ⟨n, rfl⟩ : ∃ j, n = j + 1 := ⟨n - 1, by omega⟩
    simp only [List.length_cons] at hn hl
    have := ih (pre ++ [x]) n (by omega) (by simp; omega) (fun y hy => hP y (List.mem_cons_of_mem _ hy))
    rw [List.length_cons, List.replicate_succ, h1 n pre x post _ (hP x (List.mem_cons_self ..)) (by omega)]
    rw [List.length_append, List.length_singleton, List.append_assoc, List.singleton_append, List.append_assoc, List.singleton_append] at this
    exact this

theorem xeq_gen {α : Type} (F : Nat → List α → List α → Int → Option Bool) (P : α → Prop)
    (h0 : ∀ n l, F (n + 1) l l (l.length : Int) = some true)
    (h1 : ∀ n pre x post, P x → pre.length ≤ 1048576 → F (n + 1) (pre ++ x :: post) (pre ++ x :: post) (pre.length : Int) = F n (pre ++ x :: post) (pre ++ x :: post) ((pre.length + 1 : Nat) : Int)) :
    ∀ (post pre : List α) (n : Nat), post.length < n → pre.length + post.length ≤ 1048576 → (∀ x, x ∈ post → P x) → F n (pre ++ post) (pre ++ post) (pre.length : Int) = some true := by
  intro post
  induction post with
  | nil =>
    intro pre n hn hl hP
    obtain ⟨n, rfl⟩ : ∃ j, n = j + 1 := ⟨n - 1, by omega⟩
    simp only [List.append_nil]
    exact h0 n pre
  | cons x post ih =>
    intro pre n hn hl hP
    obtain ⟨n, rfl⟩ : ∃ j, n = j + 1 := ⟨n - 1, by omega⟩
    simp only [List.length_cons] at hn hl
    have := ih (pre ++ [x]) n (by omega) (by simp; omega) (fun y hy => hP y (List.mem_cons_of_mem _ hy))
    rw [h1 n pre x post (hP x (List.mem_cons_self ..)) (by omega)]
    rw [List.length_append, List.length_singleton, List.append_assoc, List.singleton_append] at this
    exact this

theorem xmark_gen {α : Type} (F : Nat → Int → Int → List α → Option (Int × List α)) (mk : α → Int → α) (cnt : α → Nat) (C : Nat) (P : α → Prop) (B : Int) (hC : ∀ x, P x → cnt x ≤ C)
    (h0 : ∀ n m l, F (n + 1) m (l.length : Int) l = some (m, l))
    (h1 : ∀ n m pre x post, P x → 0 ≤ m → m + cnt x ≤ B → pre.length ≤ 1048576 → F (n + 1) m (pre.length : Int) (pre ++ x :: post) = F n (m + cnt x) ((pre.length + 1 : Nat) : Int) (pre ++ mk x m :: post)) :
    ∀ (post pre : List α) (n : Nat) (m : Int), post.length < n → pre.length + post.length ≤ 1048576 → (∀ x, x ∈ post → P x) → 0 ≤ m → m + xtot cnt post ≤ B → F n m (pre.length : Int) (pre ++ post) = some (m + xtot cnt post, pre ++ mkL mk cnt post m) := by
  intro post
  induction post with
  | nil =>
    intro pre n m hn hl hP hm hB
    obtain ⟨n, rfl⟩ : ∃ j, n = j + 1 := ⟨n - 1, by omega⟩
    simp only [List.append_nil, xtot, mkL]
    rw [h0 n m pre]
    simp
  | cons x post ih =>
    intro pre n m hn hl hP hm hB
    obtain ⟨n, rfl⟩ : ∃ j, n = j + 1 := ⟨n - 1, by omega⟩
    simp only [List.length_cons, xtot] at hn hl hB
    have := ih (pre ++ [mk x m]) n (m + cnt x) (by omega) (by simp; omega) (fun y hy => hP y (List.mem_cons_of_mem _ hy)) (by omega) (by omega)
    rw [h1 n m pre x post (hP x (List.mem_cons_self ..)) hm (by omega) (by omega)]
    rw [List.length_append, List.length_singleton, List.append_assoc, List.singleton_append, List.append_assoc, List.singleton_append] at this
    rw [this]
    simp only [xtot, mkL]
    congr 2
    omega

theorem xheld_gen {α : Type} (F : Nat → List α → Int → Int → Option Int) (mk : α → Int → α) (cnt : α → Nat) (P : α → Prop) (B : Int)
    (h0 : ∀ n m l, F (n + 1) l m (l.length : Int) = some m)
    (h1 : ∀ n m pre x post, P x → 0 ≤ m → m + cnt x ≤ B → pre.length ≤ 1048576 → F (n + 1) (pre ++ mk x m :: post) m (pre.length : Int) = F n (pre ++ mk x m :: post) (m + cnt x) ((pre.length + 1 : Nat) : Int)) :
    ∀ (post pre : List α) (n : Nat) (m : Int), post.length < n → pre.length + post.length ≤ 1048576 → (∀ x, x ∈ post → P x) → 0 ≤ m → m + xtot cnt post ≤ B → F n (pre ++ mkL mk cnt post m) m (pre.length : Int) = some (m + xtot cnt post) := by
  intro post
  induction post with
  | nil =>
    intro pre n m hn hl hP hm hB
    obtain ⟨n, rfl⟩ : ∃ j, n = j + 1 := ⟨n - 1, by omega⟩
    simp only [List.append_nil, xtot, mkL]
    rw [h0 n m pre]
    simp
  | cons x post ih =>
    intro pre n m hn hl hP hm hB
    obtain ⟨n, rfl⟩ : ∃ j, n = j + 1 := ⟨n - 1, by omega⟩
    simp only [List.length_cons, xtot] at hn hl hB
    have := ih (pre ++ [mk x m]) n (m + cnt x) (by omega) (by simp; omega) (fun y hy => hP y (List.mem_cons_of_mem _ hy)) (by omega) (by omega)
    simp only [mkL, xtot]
    rw [h1 n m pre x _ (hP x (List.mem_cons_self ..)) hm (by omega) (by omega)]
    rw [List.length_append, List.length_singleton, List.append_assoc, List.singleton_append] at this
    rw [this]
    congr 1
    omega

/-- what is left of a measure -/
def szOut (s : Nat) (m : Int) : Int := if (s : Int) ≤ m then m - (s : Int) else -1
theorem szOut_pos {s : Nat} {m : Int} (h : (s : Int) ≤ m) : szOut s m = m - s := if_pos h
theorem szOut_neg {s : Nat} {m : Int} (h : ¬ (s : Int) ≤ m) : szOut s m = -1 := if_neg h
theorem szOut_zero {m : Int} (h : 0 ≤ m) : szOut 0 m = m := by rw [szOut_pos (by omega)]; omega
theorem szOut_add {s t : Nat} {m : Int} (h : (s : Int) ≤ m) : szOut t (m - s) = szOut (s + t) m := by
  unfold szOut
  split <;> split <;> omega

theorem xsz_gen {α : Type} (F : Nat → List α → Int → Int → Option Int) (sz : α → Nat) (P : α → Prop)
    (h0 : ∀ n m l, F (n + 1) l m (l.length : Int) = some m)
    (h1 : ∀ n m pre x post, P x → 0 ≤ m → m ≤ 1048576 → pre.length ≤ 1048576 → F (n + 1) (pre ++ x :: post) m (pre.length : Int) = cond (decide (szOut (sz x) m < 0)) (some (-1)) (F n (pre ++ x :: post) (szOut (sz x) m) ((pre.length + 1 : Nat) : Int))) :
    ∀ (post pre : List α) (n : Nat) (m : Int), post.length < n → pre.length + post.length ≤ 1048576 → (∀ x, x ∈ post → P x) → 0 ≤ m → m ≤ 1048576 → F n (pre ++ post) m (pre.length : Int) = some (szOut (xtot sz post) m) := by
  intro post
  induction post with
  | nil =>
    intro pre n m hn hl hP hm hB
    obtain ⟨n, rfl⟩ : ∃ j, n = j + 1 := ⟨n - 1, by omega⟩
    simp only [List.append_nil, xtot]
    rw [h0 n m pre, szOut_zero hm]
  | cons x post ih =>
    intro pre n m hn hl hP hm hB
    obtain ⟨n, rfl⟩ : ∃ j, n = j + 1 := ⟨n - 1, by omega⟩
    simp only [List.length_cons] at hn hl
    rw [h1 n m pre x post (hP x (List.mem_cons_self ..)) hm hB (by omega)]
    simp only [xtot]
    by_cases hx : (sz x : Int) ≤ m
    · have := ih (pre ++ [x]) n (m - sz x) (by omega) (by simp; omega) (fun y hy => hP y (List.mem_cons_of_mem _ hy)) (by omega) (by omega)
      rw [List.length_append, List.length_singleton, List.append_assoc, List.singleton_append] at this
      rw [szOut_pos hx, decide_eq_false (by omega), cond_false, this, szOut_add hx]
    · rw [szOut_neg hx, show decide ((-1 : Int) < 0) = true from rfl, cond_true, szOut_neg (by omega)]

/-- the size of a row: a step for each, and what is within -/
theorem xsz_top {α : Type} (G : List α → Int → Option Int) (F : Nat → List α → Int → Int → Option Int) (k : Nat) (sz : α → Nat) (hk : 2000000 ≤ k) (hG : ∀ l m, G l m = cond (decide (IntKind.wrap .i64 (m - (l.length : Int)) < 0)) (some (-1)) (F k l (IntKind.wrap .i64 (m - (l.length : Int))) 0))
    (l : List α) (m : Int) (h0 : 0 ≤ m) (h1 : m ≤ 1048576) (hl : l.length ≤ 9223372036854775807)
    (hF : l.length ≤ 1048576 → ∀ m, 0 ≤ m → m ≤ 1048576 → F k l m 0 = some (szOut (xtot sz l) m)) :
    G l m = some (szOut (l.length + xtot sz l) m) := by
  rw [hG, w64 (show -9223372036854775808 ≤ m - (l.length : Int) by omega) (by omega)]
  by_cases h : (l.length : Int) ≤ m
  · rw [decide_eq_false (by omega), cond_false, hF (by omega) _ (by omega) (by omega), szOut_add h]
  · rw [decide_eq_true (by omega), cond_true, szOut_neg (by omega)]

theorem i64_wf' {x : Int} (h : (Lit.int .i64 x).wf = true) : I64 x := by
  simp only [Lit.wf, Bool.and_eq_true, decide_eq_true_eq] at h
  have h1 : IntKind.min .i64 = -9223372036854775808 := by decide
  have h2 : IntKind.max .i64 = 9223372036854775807 := by decide
  rw [h1, h2] at h
  exact ⟨by omega, by omega⟩
end Go.Law
end

section
/- Copies, marks and looks. Printed by program. -/
set_option linter.unusedVariables false
set_option linter.unusedSimpArgs false
set_option maxRecDepth 4000
namespace Go.Law
open Go.Am Go.Fn
variable (k : Nat)

def okCol (x : TCol) : Prop := True
def goodCol (x : TCol) : Prop := x.1.size ≤ 9223372036854775807 ∧ I64 x.2.1 ∧ I64 x.2.2.1 ∧ I64 x.2.2.2.1
def cntCol (x : TCol) : Nat := 1 + 1 + 1 + 1
def szCol (x : TCol) : Nat := x.1.size + 0
def mkCol (k : Nat) (x : TCol) (m : Int) : TCol := (mtx k (m), m + 1, m + 1 + 1, m + 1 + 1 + 1, ())
theorem cntCol_le (x : TCol) (h : okCol x) : cntCol x ≤ 4 := by
  unfold cntCol
  omega
theorem okCol_of (x : TCol) (hg : goodCol x) (h : szCol x ≤ 1048576) : okCol x := by
  trivial
theorem goodCol_of {x : TCol} (h : GoodP (.st (.cons .str (.cons (.int .i64) (.cons (.int .i64) (.cons (.int .i64) .nil))))) x) : goodCol x := by
  have hm : maxLen ≤ 9223372036854775807 := by decide
  obtain ⟨q0, q1, q2, q3, _⟩ := h
  exact ⟨Nat.le_trans q0 hm, i64_wf' q1, i64_wf' q2, i64_wf' q3⟩

theorem xtoColS (hk : 2000000 ≤ k) (l : List TCol) (hl : okL okCol l) : laws_toColS k l = some ((), l) := by
  unfold laws_toColS
  have h := hl.1
  rw [okLen_ok (by omega) (by omega), cond_true]
  refine xto_gen (laws_toColS.l3 k) (((⟨#[]⟩ : ByteArray), 0, 0, 0, ()) : TCol) okCol ?_ ?_ l [] k (by omega) (by simpa using h) hl.2
  · intro n l o
    simp only [laws_toColS.l3, ltEnd, cond_false]
  · intro n pre x post o hx hp
    simp only [laws_toColS.l3, ltMid, cond_true, getMid, Option.bind_some, laws_toCol, laws_toPred, laws_toRec, laws_toVal, setMid, nat1 pre hp]

theorem xeqCol (hk : 2000000 ≤ k) (x : TCol) (hx : okCol x) : laws_eqCol k x x = some true := by
  simp only [bneF rfl, eqS_iff, decide_true, Bool.not_true, cond_false, Option.bind_some, bne_self_eq_false, laws_eqCol, laws_eqPred, laws_eqRec, laws_eqVal]

theorem xeqColS (hk : 2000000 ≤ k) (l : List TCol) (hl : okL okCol l) : laws_eqColS k l l = some true := by
  unfold laws_eqColS
  have h := hl.1
  simp only [bneF rfl, cond_false]
  refine xeq_gen (laws_eqColS.l4 k) okCol ?_ ?_ l [] k (by omega) (by simpa using h) hl.2
  · intro n l
    simp only [laws_eqColS.l4, ltEnd, cond_false]
  · intro n pre x post hx hp
    simp only [laws_eqColS.l4, ltMid, cond_true, getMid, Option.bind_some, xeqCol k hk x hx, Bool.not_true, cond_false, nat1 pre hp]

theorem xszCol (hk : 2000000 ≤ k) (x : TCol) (hg : goodCol x) (m : Int) (h0 : 0 ≤ m) (h1 : m ≤ 1048576) : laws_szCol k x m = some (szOut (szCol x) m) := by
  obtain ⟨g0, g1, g2, g3⟩ := hg
  unfold laws_szCol szCol
  rw [w64 (show -9223372036854775808 ≤ m - (x.1.size : Int) by omega) (by omega)]
  by_cases c0 : ((x.1.size : Nat) : Int) ≤ m
  rotate_left
  · rw [decide_eq_true (by omega), cond_true, szOut_neg (by omega)]
  rw [decide_eq_false (by omega), cond_false]
  rw [szOut_pos (by omega)]; congr 1 <;> omega

theorem xszColS (hk : 2000000 ≤ k) (l : List TCol) (hl : l.length ≤ 9223372036854775807) (hg : ∀ y, y ∈ l → goodCol y) (m : Int) (h0 : 0 ≤ m) (h1 : m ≤ 1048576) : laws_szColS k l m = some (szOut (l.length + xtot szCol l) m) := by
  refine xsz_top (laws_szColS k) (laws_szColS.l5 k) k szCol hk (fun l m => rfl) l m h0 h1 hl (fun hl m h0 h1 => ?_)
  refine xsz_gen (laws_szColS.l5 k) szCol goodCol ?_ ?_ l [] k m (by omega) (by simpa using hl) hg h0 h1
  · intro n m l
    simp only [laws_szColS.l5, ltEnd, cond_false]
  · intro n m pre x post hx h0 h1 hp
    simp only [laws_szColS.l5, ltMid, cond_true, getMid, Option.bind_some, nat1 pre hp]
    rw [xszCol k hk x hx m h0 h1]; rfl

def okVal (x : TVal) : Prop := True
def goodVal (x : TVal) : Prop := I64 x.1 ∧ x.2.1.size ≤ 9223372036854775807
def cntVal (x : TVal) : Nat := 1 + 1
def szVal (x : TVal) : Nat := x.2.1.size + 0
def mkVal (k : Nat) (x : TVal) (m : Int) : TVal := (m, mtx k (m + 1), ())
theorem cntVal_le (x : TVal) (h : okVal x) : cntVal x ≤ 2 := by
  unfold cntVal
  omega
theorem okVal_of (x : TVal) (hg : goodVal x) (h : szVal x ≤ 1048576) : okVal x := by
  trivial
theorem goodVal_of {x : TVal} (h : GoodP (.st (.cons (.int .i64) (.cons .str .nil))) x) : goodVal x := by
  have hm : maxLen ≤ 9223372036854775807 := by decide
  obtain ⟨q0, q1, _⟩ := h
  exact ⟨i64_wf' q0, Nat.le_trans q1 hm⟩

theorem xtoValS (hk : 2000000 ≤ k) (l : List TVal) (hl : okL okVal l) : laws_toValS k l = some ((), l) := by
  unfold laws_toValS
  have h := hl.1
  rw [okLen_ok (by omega) (by omega), cond_true]
  refine xto_gen (laws_toValS.l3 k) ((0, (⟨#[]⟩ : ByteArray), ()) : TVal) okVal ?_ ?_ l [] k (by omega) (by simpa using h) hl.2
  · intro n l o
    simp only [laws_toValS.l3, ltEnd, cond_false]
  · intro n pre x post o hx hp
    simp only [laws_toValS.l3, ltMid, cond_true, getMid, Option.bind_some, laws_toCol, laws_toPred, laws_toRec, laws_toVal, setMid, nat1 pre hp]

theorem xeqVal (hk : 2000000 ≤ k) (x : TVal) (hx : okVal x) : laws_eqVal k x x = some true := by
  simp only [bneF rfl, eqS_iff, decide_true, Bool.not_true, cond_false, Option.bind_some, bne_self_eq_false, laws_eqCol, laws_eqPred, laws_eqRec, laws_eqVal]

theorem xeqValS (hk : 2000000 ≤ k) (l : List TVal) (hl : okL okVal l) : laws_eqValS k l l = some true := by
  unfold laws_eqValS
  have h := hl.1
  simp only [bneF rfl, cond_false]
  refine xeq_gen (laws_eqValS.l4 k) okVal ?_ ?_ l [] k (by omega) (by simpa using h) hl.2
  · intro n l
    simp only [laws_eqValS.l4, ltEnd, cond_false]
  · intro n pre x post hx hp
    simp only [laws_eqValS.l4, ltMid, cond_true, getMid, Option.bind_some, xeqVal k hk x hx, Bool.not_true, cond_false, nat1 pre hp]

theorem xszVal (hk : 2000000 ≤ k) (x : TVal) (hg : goodVal x) (m : Int) (h0 : 0 ≤ m) (h1 : m ≤ 1048576) : laws_szVal k x m = some (szOut (szVal x) m) := by
  obtain ⟨g0, g1⟩ := hg
  unfold laws_szVal szVal
  rw [w64 (show -9223372036854775808 ≤ m - (x.2.1.size : Int) by omega) (by omega)]
  by_cases c0 : ((x.2.1.size : Nat) : Int) ≤ m
  rotate_left
  · rw [decide_eq_true (by omega), cond_true, szOut_neg (by omega)]
  rw [decide_eq_false (by omega), cond_false]
  rw [szOut_pos (by omega)]; congr 1 <;> omega

theorem xszValS (hk : 2000000 ≤ k) (l : List TVal) (hl : l.length ≤ 9223372036854775807) (hg : ∀ y, y ∈ l → goodVal y) (m : Int) (h0 : 0 ≤ m) (h1 : m ≤ 1048576) : laws_szValS k l m = some (szOut (l.length + xtot szVal l) m) := by
  refine xsz_top (laws_szValS k) (laws_szValS.l5 k) k szVal hk (fun l m => rfl) l m h0 h1 hl (fun hl m h0 h1 => ?_)
  refine xsz_gen (laws_szValS.l5 k) szVal goodVal ?_ ?_ l [] k m (by omega) (by simpa using hl) hg h0 h1
  · intro n m l
    simp only [laws_szValS.l5, ltEnd, cond_false]
  · intro n m pre x post hx h0 h1 hp
    simp only [laws_szValS.l5, ltMid, cond_true, getMid, Option.bind_some, nat1 pre hp]
    rw [xszVal k hk x hx m h0 h1]; rfl

def okPred (x : TPred) : Prop := okVal x.2.2.1
def goodPred (x : TPred) : Prop := I64 x.1 ∧ I64 x.2.1 ∧ goodVal x.2.2.1 ∧ I64 x.2.2.2.1 ∧ I64 x.2.2.2.2.1
def cntPred (x : TPred) : Nat := 1 + 1 + cntVal x.2.2.1 + 1 + 1
def szPred (x : TPred) : Nat := szVal x.2.2.1 + 0
def mkPred (k : Nat) (x : TPred) (m : Int) : TPred := (m, m + 1, (m + 1 + 1, mtx k (m + 1 + 1 + 1), ()), m + 1 + 1 + 1 + 1, m + 1 + 1 + 1 + 1 + 1, ())
theorem cntPred_le (x : TPred) (h : okPred x) : cntPred x ≤ 6 := by
  have h0 : okVal x.2.2.1 := h
  have g2 := cntVal_le x.2.2.1 h0
  unfold cntPred
  omega
theorem okPred_of (x : TPred) (hg : goodPred x) (h : szPred x ≤ 1048576) : okPred x := by
  obtain ⟨g0, g1, g2, g3, g4⟩ := hg
  unfold szPred at h
  exact okVal_of _ g2 (by omega)
theorem goodPred_of {x : TPred} (h : GoodP (.st (.cons (.int .i64) (.cons (.int .i64) (.cons (.st (.cons (.int .i64) (.cons .str .nil))) (.cons (.int .i64) (.cons (.int .i64) .nil)))))) x) : goodPred x := by
  have hm : maxLen ≤ 9223372036854775807 := by decide
  obtain ⟨q0, q1, q2, q3, q4, _⟩ := h
  exact ⟨i64_wf' q0, i64_wf' q1, goodVal_of q2, i64_wf' q3, i64_wf' q4⟩

theorem xtoPredS (hk : 2000000 ≤ k) (l : List TPred) (hl : okL okPred l) : laws_toPredS k l = some ((), l) := by
  unfold laws_toPredS
  have h := hl.1
  rw [okLen_ok (by omega) (by omega), cond_true]
  refine xto_gen (laws_toPredS.l3 k) ((0, 0, (0, (⟨#[]⟩ : ByteArray), ()), 0, 0, ()) : TPred) okPred ?_ ?_ l [] k (by omega) (by simpa using h) hl.2
  · intro n l o
    simp only [laws_toPredS.l3, ltEnd, cond_false]
  · intro n pre x post o hx hp
    simp only [laws_toPredS.l3, ltMid, cond_true, getMid, Option.bind_some, laws_toCol, laws_toPred, laws_toRec, laws_toVal, setMid, nat1 pre hp]

theorem xeqPred (hk : 2000000 ≤ k) (x : TPred) (hx : okPred x) : laws_eqPred k x x = some true := by
  simp only [bneF rfl, eqS_iff, decide_true, Bool.not_true, cond_false, Option.bind_some, bne_self_eq_false, laws_eqCol, laws_eqPred, laws_eqRec, laws_eqVal]

theorem xeqPredS (hk : 2000000 ≤ k) (l : List TPred) (hl : okL okPred l) : laws_eqPredS k l l = some true := by
  unfold laws_eqPredS
  have h := hl.1
  simp only [bneF rfl, cond_false]
  refine xeq_gen (laws_eqPredS.l4 k) okPred ?_ ?_ l [] k (by omega) (by simpa using h) hl.2
  · intro n l
    simp only [laws_eqPredS.l4, ltEnd, cond_false]
  · intro n pre x post hx hp
    simp only [laws_eqPredS.l4, ltMid, cond_true, getMid, Option.bind_some, xeqPred k hk x hx, Bool.not_true, cond_false, nat1 pre hp]

theorem xszPred (hk : 2000000 ≤ k) (x : TPred) (hg : goodPred x) (m : Int) (h0 : 0 ≤ m) (h1 : m ≤ 1048576) : laws_szPred k x m = some (szOut (szPred x) m) := by
  obtain ⟨g0, g1, g2, g3, g4⟩ := hg
  unfold laws_szPred szPred
  rw [xszVal k hk x.2.2.1 g2 (m) (by omega) (by omega)]
  by_cases c0 : ((szVal x.2.2.1 : Nat) : Int) ≤ m
  rotate_left
  · rw [szOut_neg c0]; simp only [Option.bind_some, show decide ((-1 : Int) < 0) = true from rfl, cond_true]; rw [szOut_neg (by omega)]
  rw [szOut_pos c0]; simp only [Option.bind_some]; rw [decide_eq_false (by omega), cond_false]
  rw [szOut_pos (by omega)]; congr 1 <;> omega

theorem xszPredS (hk : 2000000 ≤ k) (l : List TPred) (hl : l.length ≤ 9223372036854775807) (hg : ∀ y, y ∈ l → goodPred y) (m : Int) (h0 : 0 ≤ m) (h1 : m ≤ 1048576) : laws_szPredS k l m = some (szOut (l.length + xtot szPred l) m) := by
  refine xsz_top (laws_szPredS k) (laws_szPredS.l5 k) k szPred hk (fun l m => rfl) l m h0 h1 hl (fun hl m h0 h1 => ?_)
  refine xsz_gen (laws_szPredS.l5 k) szPred goodPred ?_ ?_ l [] k m (by omega) (by simpa using hl) hg h0 h1
  · intro n m l
    simp only [laws_szPredS.l5, ltEnd, cond_false]
  · intro n m pre x post hx h0 h1 hp
    simp only [laws_szPredS.l5, ltMid, cond_true, getMid, Option.bind_some, nat1 pre hp]
    rw [xszPred k hk x hx m h0 h1]; rfl

def okRec (x : TRec) : Prop := okL okVal x.1
def goodRec (x : TRec) : Prop := (x.1.length ≤ 9223372036854775807 ∧ ∀ y, y ∈ x.1 → goodVal y)
def cntRec (x : TRec) : Nat := xtot cntVal x.1
def szRec (x : TRec) : Nat := (x.1.length + xtot szVal x.1) + 0
def mkRec (k : Nat) (x : TRec) (m : Int) : TRec := (mkL (mkVal k) cntVal x.1 (m), ())
theorem cntRec_le (x : TRec) (h : okRec x) : cntRec x ≤ 2097152 := by
  have h0 : okL okVal x.1 := h
  have g0 := okL.tot h0 cntVal_le
  unfold cntRec
  omega
theorem okRec_of (x : TRec) (hg : goodRec x) (h : szRec x ≤ 1048576) : okRec x := by
  have g0 : (x.1.length ≤ 9223372036854775807 ∧ ∀ y, y ∈ x.1 → goodVal y) := hg
  unfold szRec at h
  exact ⟨by omega, fun y hy => okVal_of y (g0.2 y hy) (by have := xtot_mem (f := szVal) _ _ hy; omega)⟩
theorem goodRec_of {e1 : TypeId} {x : TRec} (h : GoodP (.st (.cons (.list e1 (.st (.cons (.int .i64) (.cons .str .nil)))) .nil)) x) : goodRec x := by
  have hm : maxLen ≤ 9223372036854775807 := by decide
  obtain ⟨q0, _⟩ := h
  exact ⟨Nat.le_trans q0.1 hm, fun y hy => goodVal_of (q0.2 y hy)⟩

theorem xeqRec (hk : 2000000 ≤ k) (x : TRec) (hx : okRec x) : laws_eqRec k x x = some true := by
  have o0 : okL okVal x.1 := hx
  have k_o0 : okL okVal x.1 := o0
  simp only [bneF rfl, eqS_iff, decide_true, Bool.not_true, cond_false, Option.bind_some, bne_self_eq_false, laws_eqCol, laws_eqPred, laws_eqRec, laws_eqVal, xeqValS k hk _ k_o0]

theorem xszRec (hk : 2000000 ≤ k) (x : TRec) (hg : goodRec x) (m : Int) (h0 : 0 ≤ m) (h1 : m ≤ 1048576) : laws_szRec k x m = some (szOut (szRec x) m) := by
  have g0 : (x.1.length ≤ 9223372036854775807 ∧ ∀ y, y ∈ x.1 → goodVal y) := hg
  unfold laws_szRec szRec
  rw [xszValS k hk x.1 g0.1 g0.2 (m) (by omega) (by omega)]
  by_cases c0 : (((x.1.length + xtot szVal x.1) : Nat) : Int) ≤ m
  rotate_left
  · rw [szOut_neg c0]; simp only [Option.bind_some, show decide ((-1 : Int) < 0) = true from rfl, cond_true]; rw [szOut_neg (by omega)]
  rw [szOut_pos c0]; simp only [Option.bind_some]; rw [decide_eq_false (by omega), cond_false]
  rw [szOut_pos (by omega)]; congr 1 <;> omega

end Go.Law
end

section
/- Small facts that the exact laws share. -/
set_option linter.unusedVariables false
set_option linter.unusedSimpArgs false
namespace Go.Law
open Go.Am Go.Fn

/-- what is good in a row of arguments -/
theorem goodL {t : Ty} {e : TypeId} {P : t.Den → Prop} (hP : ∀ x, GoodP t x → P x) {l : List t.Den} (h : GoodP (.list e t) l) : l.length ≤ 9223372036854775807 ∧ ∀ x, x ∈ l → P x :=
  ⟨Nat.le_trans h.1 (by decide), fun x hx => hP x (h.2 x hx)⟩

theorem goodCols {s : List TCol} (hg : ∀ x, x ∈ s → goodCol x) {k : Nat} (hk : 2000000 ≤ k) (hsz : xtot szCol s ≤ 1048576) : ∀ c, c ∈ s → c.1.size < k ∧ c.1.size < 1000000000 ∧ I64 c.2.2.2.1 := by
  intro c hc
  have h1 := xtot_mem (f := szCol) s c hc
  obtain ⟨_, _, _, h2⟩ := hg c hc
  have h3 : szCol c = c.1.size + 0 := rfl
  exact ⟨by omega, by omega, h2⟩
end Go.Law
end

section
/- FnExactPredHolds -/
set_option linter.unusedVariables false
set_option linter.unusedSimpArgs false
namespace Go.Law
open Go.Am Go.Fn

theorem fnExactPredHolds (s : List TCol) (hs : GoodP (.list 0 (.st (.cons .str (.cons (.int .i64) (.cons (.int .i64) (.cons (.int .i64) .nil)))))) s)
    (p : List TPred) (hp : GoodP (.list 0 (.st (.cons (.int .i64) (.cons (.int .i64) (.cons (.st (.cons (.int .i64) (.cons .str .nil))) (.cons (.int .i64) (.cons (.int .i64) .nil))))))) p)
    (r : TRec) (hr : GoodP (.st (.cons (.list 0 (.st (.cons (.int .i64) (.cons .str .nil)))) .nil)) r) :
    ∃ k, laws_FnExactPredHolds k s p r = some true := by
  have gs := goodL (P := goodCol) (fun x hx => goodCol_of hx) hs
  have gp := goodL (P := goodPred) (fun x hx => goodPred_of hx) hp
  have gr := goodRec_of hr
  clear hs hp hr
  obtain ⟨V, u⟩ := r
  obtain rfl : u = () := rfl
  refine ⟨3000000, ?_⟩
  generalize hk : 3000000 = k
  have hk' : 2000000 ≤ k := by omega
  clear hk
  unfold laws_FnExactPredHolds
  rw [xszColS k hk' s gs.1 gs.2 1048576 (by omega) (by omega)]
  simp only [Option.bind_some]
  by_cases c1 : ((s.length + xtot szCol s : Nat) : Int) ≤ 1048576
  · rw [szOut_pos c1, decide_eq_false (by omega), cond_false, xszPredS k hk' p gp.1 gp.2 _ (by omega) (by omega)]
    simp only [Option.bind_some]
    by_cases c2 : ((p.length + xtot szPred p : Nat) : Int) ≤ 1048576 - ((s.length + xtot szCol s : Nat) : Int)
    · rw [szOut_pos c2, decide_eq_false (by omega), cond_false, xszRec k hk' (V, ()) gr _ (by omega) (by omega)]
      simp only [Option.bind_some]
      by_cases c3 : ((szRec (V, ()) : Nat) : Int) ≤ 1048576 - ((s.length + xtot szCol s : Nat) : Int) - ((p.length + xtot szPred p : Nat) : Int)
      · rw [szOut_pos c3, decide_eq_false (by omega), cond_false]
        have os : okL okCol s := ⟨by omega, fun _ _ => trivial⟩
        have op : okL okPred p := ⟨by omega, fun x hx => okPred_of x (gp.2 x hx) (by have := xtot_mem (f := szPred) p x hx; omega)⟩
        have oV : okRec (V, ()) := okRec_of _ gr (by omega)
        have oVl : okL okVal V := oV
        have hn := goodCols gs.2 hk' (by omega)
        obtain ⟨b, e1, e2⟩ := predHolds_eq k s hn hk' p V
        unfold laws_FnExactPredHolds.d11 laws_FnExactPredHolds.d22 laws_toRec
        simp only [xtoColS k hk' s os, xtoPredS k hk' p op, xtoValS k hk' V oVl, Option.bind_some, e1, e2, beq_self_eq_true, Bool.not_true, cond_false, xeqColS k hk' s os, xeqPredS k hk' p op, xeqRec k hk' (V, ()) oV]
      · rw [szOut_neg c3]; rfl
    · rw [szOut_neg c2]; rfl
  · rw [szOut_neg c1]; rfl
end Go.Law
end
