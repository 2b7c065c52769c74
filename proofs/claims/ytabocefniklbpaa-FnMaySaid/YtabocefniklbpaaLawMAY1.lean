import Derived.Test.YtabocefniklbpaaLawMAY0
import Derived.Test.YtabocefniklbpaaMAYF0
import Derived.KernelRfl
set_option linter.unnecessarySimpa false
set_option linter.unusedSimpArgs false
set_option linter.unusedVariables false
set_option linter.unusedSectionVars false
section
/- Conditions: how they are built, and PredOk. -/
set_option linter.unusedVariables false
set_option linter.unusedSimpArgs false
set_option linter.unusedSectionVars false
namespace Go.Law
open Go.Am Go.Fn

def fr (p : List TPred) : Nat → Int → Int
  | 0, _ => -1
  | d + 1, a => if a < 0 then -1 else match rdL p a with
    | none => -1
    | some x =>
      if x.1 = 7 then (if x.2.2.2.1 = a - 1 then fr p d (a - 1) else -1)
      else if x.1 = 5 ∨ x.1 = 6 then
        (if x.2.2.2.2.1 = a - 1 then
          (if 1 ≤ fr p d (a - 1) ∧ x.2.2.2.1 = fr p d (a - 1) - 1 then fr p d (fr p d (a - 1) - 1) else -1) else -1)
      else a

theorem fr_le (p : List TPred) : ∀ (d : Nat) (a : Int), -1 ≤ a → fr p d a ≤ a ∧ -1 ≤ fr p d a
  | 0, a, h => ⟨h, Int.le_refl _⟩
  | d + 1, a, h => by
    simp only [fr]
    split
    · omega
    · split
      · omega
      · split
        · split
          · have := fr_le p d (a - 1) (by omega); omega
          · omega
        · split
          · split
            · split
              · rename_i h1
                have h2 := fr_le p d (a - 1) (by omega)
                have h3 := fr_le p d (fr p d (a - 1) - 1) (by omega)
                omega
              · omega
            · omega
          · omega

theorem fr_fuel (p : List TPred) : ∀ (d d' : Nat) (a : Int), -1 ≤ a → a + 2 ≤ d → a + 2 ≤ d' → fr p d a = fr p d' a
  | 0, d', a, h, h1, h2 => by omega
  | d + 1, 0, a, h, h1, h2 => by omega
  | d + 1, d' + 1, a, h, h1, h2 => by
    simp only [fr]
    by_cases h0 : a < 0
    · rw [if_pos h0, if_pos h0]
    · rw [if_neg h0, if_neg h0]
      have e := fr_fuel p d d' (a - 1) (by omega) (by omega) (by omega)
      rw [e]
      have hl := fr_le p d' (a - 1) (by omega)
      cases rdL p a with
      | none => rfl
      | some x =>
        simp only
        split
        · rfl
        · split
          · split
            · split
              · rename_i h3
                exact fr_fuel p d d' _ (by omega) (by omega) (by omega)
              · rfl
            · rfl
          · rfl

def frm (p : List TPred) (a : Int) : Int := fr p 100 a
theorem frm_le (p : List TPred) (a : Int) (h : -1 ≤ a) : frm p a ≤ a ∧ -1 ≤ frm p a := fr_le p 100 a h
theorem frm_neg (p : List TPred) (a : Int) (h : a < 0) : frm p a = -1 := by
  unfold frm
  unfold fr
  rw [if_pos h]
theorem frm_eq (p : List TPred) (a : Int) (h0 : 0 ≤ a) (h1 : a ≤ 90) (x : TPred) (hx : rdL p a = some x) :
    frm p a = if x.1 = 7 then (if x.2.2.2.1 = a - 1 then frm p (a - 1) else -1)
      else if x.1 = 5 ∨ x.1 = 6 then (if x.2.2.2.2.1 = a - 1 then (if 1 ≤ frm p (a - 1) ∧ x.2.2.2.1 = frm p (a - 1) - 1 then frm p (frm p (a - 1) - 1) else -1) else -1)
      else a := by
  have e : ∀ b : Int, -1 ≤ b → b + 2 ≤ 99 → fr p 99 b = frm p b := fun b hb hb2 => fr_fuel p 99 100 b hb (by omega) (by omega)
  have hl := frm_le p (a - 1) (by omega)
  unfold frm at *
  conv => lhs; unfold fr
  rw [if_neg (by omega), hx]
  simp only
  rw [e (a - 1) (by omega) (by omega)]
  split
  · rfl
  · split
    · split
      · split
        · rw [e _ (by omega) (by omega)]
        · rfl
      · rfl
    · rfl

theorem sfrom_rec (k : Nat) (p : List TPred) (hp : p.length ≤ 31) : ∀ (d : Nat) (a : Int), -1 ≤ a → a + 2 ≤ d → a < p.length → spec_l20From.rec k d p a = some (frm p a) := by
  intro d
  induction d with
  | zero => intro a h h1 h2; omega
  | succ d ih =>
    intro a h h1 h2
    simp only [spec_l20From.rec, spec_l20From.b]
    by_cases h0 : a < 0
    · rw [decide_eq_true h0, cond_true, frm_neg p a h0]
    · obtain ⟨x, hx, _⟩ := rdL_some (xs := p) (by omega) h2
      have hw : IntKind.wrap .i64 (a - 1) = a - 1 := w64 (by omega) (by omega)
      have hl := frm_le p (a - 1) (by omega)
      have ha := ih (a - 1) (by omega) (by omega) (by omega)
      rw [decide_eq_false h0, cond_false, frm_eq p a (by omega) (by omega) x hx, hx]
      simp only [Option.bind_some, hw, spec_l20From.c10, hx, ha]
      have hw2 : IntKind.wrap .i64 (frm p (a - 1) - 1) = frm p (a - 1) - 1 := w64 (by omega) (by omega)
      simp only [hw2, cst, Option.bind_some]
      have pair : x.1 = 5 ∨ x.1 = 6 → cond (x.2.2.2.2.1 != a - 1) (some (-1)) ((cond (decide (frm p (a - 1) < 1)) (some true) (some (x.2.2.2.1 != frm p (a - 1) - 1))).bind fun b4 => cond b4 (some (-1)) ((spec_l20From.rec k d p (frm p (a - 1) - 1)).bind fun r5 => some r5)) =
          some (if x.2.2.2.2.1 = a - 1 then (if 1 ≤ frm p (a - 1) ∧ x.2.2.2.1 = frm p (a - 1) - 1 then frm p (frm p (a - 1) - 1) else -1) else -1) := by
        intro hk
        by_cases c1 : x.2.2.2.2.1 = a - 1
        · rw [bneF c1, cond_false, if_pos c1]
          simp only [cst, Option.bind_some]
          by_cases c2 : 1 ≤ frm p (a - 1)
          · by_cases c3 : x.2.2.2.1 = frm p (a - 1) - 1
            · rw [decide_eq_false (by omega), bneF c3, Bool.or_self, cond_false, if_pos ⟨c2, c3⟩, ih _ (by omega) (by omega) (by omega)]; rfl
            · rw [bneT c3, Bool.or_true, cond_true, if_neg (fun q => c3 q.2)]
          · rw [decide_eq_true (by omega), Bool.true_or, cond_true, if_neg (fun q => c2 q.1)]
        · rw [bneT c1, cond_true, if_neg c1]
      by_cases k7 : x.1 = 7
      · rw [beqT k7, cond_true, if_pos k7]
        by_cases c1 : x.2.2.2.1 = a - 1
        · rw [bneF c1, cond_false, if_pos c1]
        · rw [bneT c1, cond_true, if_neg c1]
      · rw [beqF k7, cond_false, if_neg k7]
        by_cases k5 : x.1 = 5
        · rw [beqT k5, cond_true, if_pos (Or.inl k5)]
          simp only [cond_true]
          have := pair (.inl k5)
          simpa only [cst, Option.bind_some] using this
        · rw [beqF k5, cond_false]
          by_cases k6 : x.1 = 6
          · rw [beqT k6, if_pos (Or.inr k6)]
            simp only [cond_true]
            have := pair (.inr k6)
            simpa only [cst, Option.bind_some] using this
          · rw [beqF k6, if_neg (fun q => q.elim k5 k6), cond_false]

theorem frm_all (p : List TPred) (hp : p.length ≤ 31) : ∀ (N : Nat) (a : Int), a ≤ N → 0 ≤ a → a < p.length → 0 ≤ frm p a → ∀ j, frm p a ≤ j → j ≤ a → 0 ≤ frm p j := by
  intro N
  induction N with
  | zero =>
    intro a hN h0 h1 h2 j j0 j1
    have hl := frm_le p a (by omega)
    have : j = a := by omega
    rw [this]; exact h2
  | succ N ih =>
    intro a hN h0 h1 h2 j j0 j1
    by_cases hj : j = a
    · rw [hj]; exact h2
    · obtain ⟨x, hx, _⟩ := rdL_some (xs := p) h0 h1
      have e := frm_eq p a h0 (by omega) x hx
      split at e
      · split at e
        · have ha0 : 0 ≤ a - 1 := by
            rcases Int.lt_or_le (a - 1) 0 with h | h
            · rw [frm_neg p (a - 1) h] at e; omega
            · exact h
          exact ih (a - 1) (by omega) ha0 (by omega) (by omega) j (by omega) (by omega)
        · omega
      · split at e
        · split at e
          · split at e
            · rename_i c
              have hl := frm_le p (a - 1) (by omega)
              rcases Int.lt_or_le j (frm p (a - 1)) with h | h
              · exact ih (frm p (a - 1) - 1) (by omega) (by omega) (by omega) (by omega) j (by omega) (by omega)
              · exact ih (a - 1) (by omega) (by omega) (by omega) (by omega) j h (by omega)
            · omega
          · omega
        · have : j = a := by omega
          exact absurd this hj

section
variable (k : Nat) (s : List TCol) (hn : ∀ c, c ∈ s → c.1.size < k ∧ c.1.size < 1000000000 ∧ I64 c.2.2.2.1) (hk : 2000000 ≤ k)

def plainB (x : TPred) : Bool := (spec_l20Plain k s x).getD false

structure GoodPreds (p : List TPred) : Prop where
  sch : IsSchema s
  ok : spec_SchemaOk k s = some true
  ok2 : impl_SchemaOk k s = some true
  len : 1 ≤ p.length ∧ p.length ≤ 31
  plain : ∀ x, x ∈ p → plainB k s x = true
  all : ∀ j : Nat, j < p.length → 0 ≤ frm p j

include hn hk

theorem splain_eq (hS : IsSchema s) (hok : spec_SchemaOk k s = some true) (hok2 : impl_SchemaOk k s = some true) (x : TPred) : spec_l20Plain k s x = some (plainB k s x) := by
  obtain ⟨b, e, _⟩ := plain_eq k s hn hk hS hok hok2 x
  unfold plainB
  rw [e]; rfl

theorem spredLoop (hS : IsSchema s) (hok : spec_SchemaOk k s = some true) (hok2 : impl_SchemaOk k s = some true) (p : List TPred) (hp : p.length ≤ 31) (hp1 : 1 ≤ p.length) : ∀ (post pre : List TPred) (f : Nat), p = pre ++ post → post.length < f →
    spec_PredOk.l4 k f s p (pre.length : Int) = some (post.all (plainB k s) && (frm p ((p.length : Int) - 1) == 0)) := by
  intro post
  induction post with
  | nil =>
    intro pre f h hf
    obtain ⟨f, rfl⟩ : ∃ q, f = q + 1 := ⟨f - 1, by omega⟩
    rw [List.append_nil] at h
    subst h
    have hw : IntKind.wrap .i64 ((p.length : Int) - 1) = (p.length : Int) - 1 := w64 (by omega) (by omega)
    have hfr : spec_l20From k p ((p.length : Int) - 1) = some (frm p ((p.length : Int) - 1)) := sfrom_rec k p hp k _ (by omega) (by omega) (by omega)
    simp only [spec_PredOk.l4, decide_eq_false (show ¬ ((p.length : Int) < (p.length : Int)) by omega), cond_false, hw, hfr, Option.bind_some, List.all_nil, Bool.true_and]
  | cons x post ih =>
    intro pre f h hf
    simp only [List.length_cons] at hf
    obtain ⟨f, rfl⟩ : ∃ q, f = q + 1 := ⟨f - 1, by omega⟩
    have hlen : p.length = pre.length + (post.length + 1) := by rw [h]; simp
    have hg : rdL p (pre.length : Int) = some x := by rw [h]; exact getMid _ _ _
    have hi1 : IntKind.wrap .i64 ((pre.length : Int) + 1) = ((pre.length + 1 : Nat) : Int) := by rw [w64 (by omega) (by omega)]; omega
    have hi := ih (pre ++ [x]) f (by rw [h]; simp) (by omega)
    rw [List.length_append, List.length_singleton] at hi
    simp only [spec_PredOk.l4, decide_eq_true (show (pre.length : Int) < (p.length : Int) by omega), cond_true, hg, Option.bind_some, splain_eq k s hn hk hS hok hok2 x, hi1, hi, List.all_cons]
    cases plainB k s x <;> rfl

theorem ipredLoop (hS : IsSchema s) (hok : spec_SchemaOk k s = some true) (hok2 : impl_SchemaOk k s = some true) (p : List TPred) (hp : p.length ≤ 31) (hp1 : 1 ≤ p.length) : ∀ (post pre : List TPred) (f : Nat) (o : List Int), p = pre ++ post → post.length < f → o.length = p.length →
    (∀ j : Nat, j < pre.length → o[j]? = some (frm p j) ∧ 0 ≤ frm p j) →
    impl_PredOk.l5 k f s p p (p.length : Int) (pre.length : Int) o = some (post.all (plainB k s) && (frm p ((p.length : Int) - 1) == 0)) := by
  intro post
  induction post with
  | nil =>
    intro pre f o h hf ho hb
    obtain ⟨f, rfl⟩ : ∃ q, f = q + 1 := ⟨f - 1, by omega⟩
    rw [List.append_nil] at h
    subst h
    have hw : IntKind.wrap .i64 ((p.length : Int) - 1) = ((p.length - 1 : Nat) : Int) := by rw [w64 (by omega) (by omega)]; omega
    have hl := (hb (p.length - 1) (by omega)).1
    have he : (p.length : Int) - 1 = ((p.length - 1 : Nat) : Int) := by omega
    simp only [impl_PredOk.l5, decide_eq_false (show ¬ ((p.length : Int) < (p.length : Int)) by omega), cond_false, hw, rdL_nat, hl, Option.bind_some, List.all_nil, Bool.true_and]
    rw [he]
  | cons x post ih =>
    intro pre f o h hf ho hb
    simp only [List.length_cons] at hf
    obtain ⟨f, rfl⟩ : ∃ q, f = q + 1 := ⟨f - 1, by omega⟩
    have hlen : p.length = pre.length + (post.length + 1) := by rw [h]; simp
    have hg : rdL p (pre.length : Int) = some x := by rw [h]; exact getMid _ _ _
    have hi1 : IntKind.wrap .i64 ((pre.length : Int) + 1) = ((pre.length + 1 : Nat) : Int) := by rw [w64 (by omega) (by omega)]; omega
    have him : IntKind.wrap .i64 ((pre.length : Int) - 1) = (pre.length : Int) - 1 := w64 (by omega) (by omega)
    have hol : pre.length < o.length := by omega
    have ho1 : o[pre.length]? = some o[pre.length] := List.getElem?_eq_getElem hol
    have efr := frm_eq p (pre.length : Int) (by omega) (by omega) x hg
    have hle := frm_le p ((pre.length : Int) - 1) (by omega)
    -- going on
    have go : ∀ o' : List Int, o'.length = p.length → (∀ j : Nat, j < pre.length → o'[j]? = o[j]?) → o'[pre.length]? = some (frm p pre.length) → 0 ≤ frm p pre.length → plainB k s x = true →
        impl_PredOk.l5 k f s p p (p.length : Int) ((pre.length + 1 : Nat) : Int) o' = some ((x :: post).all (plainB k s) && (frm p ((p.length : Int) - 1) == 0)) := by
      intro o' q1 q2 q3 q4 q5
      have hi := ih (pre ++ [x]) f o' (by rw [h]; simp) (by omega) q1 (fun j hj => by
        rw [List.length_append, List.length_singleton] at hj
        rcases Nat.lt_or_ge j pre.length with c | c
        · rw [q2 j c]; exact hb j c
        · have : j = pre.length := by omega
          subst this
          exact ⟨q3, q4⟩)
      rw [List.length_append, List.length_singleton] at hi
      rw [hi, List.all_cons, q5, Bool.true_and]
    -- stopping
    have stop : plainB k s x = false ∨ frm p pre.length < 0 → some false = some ((x :: post).all (plainB k s) && (frm p ((p.length : Int) - 1) == 0)) := by
      intro hc
      rcases hc with hc | hc
      · rw [List.all_cons, hc]; rfl
      · have : (frm p ((p.length : Int) - 1) == 0) = false := by
          refine beqF fun h0 => ?_
          have := frm_all p hp p.length ((p.length : Int) - 1) (by omega) (by omega) (by omega) (by omega) pre.length (by omega) (by omega)
          omega
        rw [this, Bool.and_false]
    have hset1 : ∀ v : Int, (o.set pre.length v).length = p.length := fun v => by simpa using ho
    have hset2 : ∀ (v : Int) (j : Nat), j < pre.length → (o.set pre.length v)[j]? = o[j]? := fun v j hj => by rw [List.getElem?_set_ne (by omega)]
    have hset3 : ∀ v : Int, (o.set pre.length v)[pre.length]? = some v := fun v => by rw [List.getElem?_set_self hol]
    obtain ⟨b, p1, p2, p3, p4, p5⟩ := plain_eq k s hn hk hS hok hok2 x
    have hpb : plainB k s x = b := by unfold plainB; rw [p1]; rfl
    simp only [impl_PredOk.l5, decide_eq_true (show (pre.length : Int) < (p.length : Int) by omega), cond_true, hg, Option.bind_some, rdL_nat, ho1, within_eq, impl_isPair, impl_PredOk.c20, hi1, Int.toNat_natCast, cst, him]
    by_cases c14 : 1 ≤ x.1 ∧ x.1 ≤ 4
    · rw [show (decide (1 ≤ x.1) && decide (x.1 ≤ 4)) = true by simp; omega, cond_true, p2 c14]
      have hx7 : ¬ x.1 = 7 := by omega
      have hx56 : ¬ (x.1 = 5 ∨ x.1 = 6) := by omega
      rw [if_neg hx7, if_neg hx56] at efr
      simp only [Option.bind_some]
      cases b with
      | false => exact stop (.inl hpb)
      | true =>
        simp only [Bool.not_true, cond_false]
        exact go _ (hset1 _) (hset2 _) (by rw [hset3, efr]) (by omega) hpb
    · rw [show (decide (1 ≤ x.1) && decide (x.1 ≤ 4)) = false by rw [Bool.eq_false_iff]; intro q; simp only [Bool.and_eq_true, decide_eq_true_eq] at q; exact c14 q, cond_false]
      by_cases c56 : x.1 = 5 ∨ x.1 = 6
      · have hx7 : ¬ x.1 = 7 := by omega
        rw [if_neg hx7, if_pos c56] at efr
        rw [show ((x.1 == 5) || (x.1 == 6)) = true by simp; omega]
        simp only [Option.bind_some, cond_true]
        have hb3 := p3 c56
        by_cases c0 : pre.length = 0
        · rw [beqT (by omega)]
          simp only [cond_true, Option.bind_some, Bool.true_or]
          refine stop (.inr ?_)
          have := frm_neg p ((pre.length : Int) - 1) (by omega)
          rw [this] at efr
          split at efr
          · rw [if_neg (by omega)] at efr; omega
          · omega
        · rw [beqF (by omega)]
          obtain ⟨q1, q2⟩ := hb (pre.length - 1) (by omega)
          have hem : ((pre.length - 1 : Nat) : Int) = (pre.length : Int) - 1 := by omega
          rw [hem] at q1 q2
          have hrd : rdL (o.set pre.length (pre.length : Int)) ((pre.length : Int) - 1) = some (frm p ((pre.length : Int) - 1)) := by
            rw [← hem, rdL_nat, hset2 _ _ (by omega), hem]; exact q1
          have hwm : IntKind.wrap .i64 (frm p ((pre.length : Int) - 1) - 1) = frm p ((pre.length : Int) - 1) - 1 := w64 (by omega) (by omega)
          simp only [cond_false, hrd, Option.bind_some, hwm, Bool.false_or, Bool.and_true, beq_self_eq_true, Bool.true_and]
          by_cases c1 : frm p ((pre.length : Int) - 1) = 0
          · rw [beqT c1]
            simp only [cond_true, Option.bind_some]
            refine stop (.inr ?_)
            split at efr
            · rw [if_neg (by omega)] at efr; omega
            · omega
          · rw [beqF c1]
            simp only [cond_false, Option.bind_some]
            by_cases c2 : b = true
            · by_cases c3 : x.2.2.2.1 = frm p ((pre.length : Int) - 1) - 1
              · by_cases c4 : x.2.2.2.2.1 = (pre.length : Int) - 1
                · rw [if_pos c4, if_pos ⟨by omega, c3⟩] at efr
                  have hbb : ((x.2.1 == 0) && (((x.2.2.1.1 == 0) && eqS x.2.2.1.2.1 ⟨#[]⟩) && ((x.2.2.2.1 == frm p ((pre.length : Int) - 1) - 1) && (x.2.2.2.2.1 == (pre.length : Int) - 1)))) = true := by
                    rw [beqT c3, beqT c4, Bool.and_self, Bool.and_true, ← hb3]; exact c2
                  rw [hbb]
                  simp only [Bool.not_true, cond_false]
                  obtain ⟨m, hm⟩ : ∃ m : Nat, x.2.2.2.1 = (m : Int) := ⟨x.2.2.2.1.toNat, by omega⟩
                  have hml : m < pre.length := by omega
                  rw [hm, rdL_nat, hset2 _ _ hml, (hb m hml).1]
                  simp only [Option.bind_some, hset3]
                  rw [← c3, hm] at efr
                  refine go _ (by simpa using ho) (fun j hj => ?_) ?_ ?_ (by rw [hpb]; exact c2)
                  · rw [List.getElem?_set_ne (by omega), hset2 _ _ hj]
                  · rw [List.getElem?_set_self (by simpa using hol), efr]
                  · rw [efr]; exact (hb m hml).2
                · have hbb : ((x.2.1 == 0) && (((x.2.2.1.1 == 0) && eqS x.2.2.1.2.1 ⟨#[]⟩) && ((x.2.2.2.1 == frm p ((pre.length : Int) - 1) - 1) && (x.2.2.2.2.1 == (pre.length : Int) - 1)))) = false := by
                    rw [beqF c4]; simp
                  rw [hbb]
                  simp only [Bool.not_false, cond_true]
                  rw [if_neg c4] at efr
                  exact stop (.inr (by omega))
              · have hbb : ((x.2.1 == 0) && (((x.2.2.1.1 == 0) && eqS x.2.2.1.2.1 ⟨#[]⟩) && ((x.2.2.2.1 == frm p ((pre.length : Int) - 1) - 1) && (x.2.2.2.2.1 == (pre.length : Int) - 1)))) = false := by
                  rw [beqF c3]; simp
                rw [hbb]
                simp only [Bool.not_false, cond_true]
                refine stop (.inr ?_)
                split at efr
                · rw [if_neg (fun q => c3 q.2)] at efr; omega
                · omega
            · have hbf : b = false := by simpa using c2
              have hbb : ((x.2.1 == 0) && (((x.2.2.1.1 == 0) && eqS x.2.2.1.2.1 ⟨#[]⟩) && ((x.2.2.2.1 == frm p ((pre.length : Int) - 1) - 1) && (x.2.2.2.2.1 == (pre.length : Int) - 1)))) = false := by
                rw [hbf] at hb3
                rw [← Bool.and_assoc, ← hb3, Bool.false_and]
              rw [hbb]
              simp only [Bool.not_false, cond_true]
              exact stop (.inl (by rw [hpb]; exact hbf))
      · rw [show ((x.1 == 5) || (x.1 == 6)) = false by rw [Bool.eq_false_iff]; intro q; simp only [Bool.or_eq_true, beq_iff_eq] at q; exact c56 q]
        simp only [Option.bind_some, cond_false]
        by_cases c7 : x.1 = 7
        · rw [if_pos c7] at efr
          have hb7 := p4 c7
          rw [beqT c7]
          simp only [cond_true, Bool.true_and, Bool.and_true]
          by_cases c0 : pre.length = 0
          · rw [beqT (by omega)]
            simp only [Bool.true_or, cond_true]
            refine stop (.inr ?_)
            have := frm_neg p ((pre.length : Int) - 1) (by omega)
            rw [this] at efr
            split at efr <;> omega
          · rw [beqF (by omega), Bool.false_or]
            by_cases c3 : x.2.2.2.1 = (pre.length : Int) - 1
            · rw [if_pos c3] at efr
              rw [beqT c3, Bool.true_and, ← hb7]
              cases hbv : b with
              | false =>
                simp only [Bool.not_false, cond_true]
                exact stop (.inl (by rw [hpb]; exact hbv))
              | true =>
                simp only [Bool.not_true, cond_false]
                obtain ⟨q1, q2⟩ := hb (pre.length - 1) (by omega)
                have hem : ((pre.length - 1 : Nat) : Int) = (pre.length : Int) - 1 := by omega
                rw [c3, ← hem, rdL_nat, hset2 _ _ (by omega), q1]
                simp only [Option.bind_some, hset3]
                rw [← hem] at efr
                refine go _ (by simpa using ho) (fun j hj => ?_) ?_ (by omega) (by rw [hpb]; exact hbv)
                · rw [List.getElem?_set_ne (by omega), hset2 _ _ hj]
                · rw [List.getElem?_set_self (by simpa using hol), efr]
            · rw [if_neg c3] at efr
              have hbb : ((x.2.1 == 0) && (((x.2.2.1.1 == 0) && eqS x.2.2.1.2.1 ⟨#[]⟩) && ((x.2.2.2.1 == (pre.length : Int) - 1) && (x.2.2.2.2.1 == 0)))) = false := by
                rw [beqF c3]; simp
              rw [hbb]
              simp only [Bool.not_false, cond_true]
              exact stop (.inr (by omega))
        · rw [beqF c7, cond_false]
          exact stop (.inl (by rw [hpb]; exact p5 (by omega)))

theorem predOk_eq (p : List TPred) : ∃ b, spec_PredOk k s p = some b ∧ impl_PredOk k s p = some b ∧ (b = true → GoodPreds k s p) := by
  obtain ⟨b0, h1, h2, h3⟩ := schemaOk_eq k (by omega) s hn
  unfold spec_PredOk impl_PredOk
  rw [h1, h2]
  simp only [Option.bind_some, l1In_eq, within_eq, cst]
  cases b0 with
  | false => exact ⟨false, rfl, rfl, fun h => by cases h⟩
  | true =>
    obtain ⟨hS, _⟩ := h3 rfl
    by_cases hin : 1 ≤ p.length ∧ p.length ≤ 31
    · rw [show (decide ((1 : Int) ≤ (p.length : Int)) && decide ((p.length : Int) ≤ 31)) = true by simp; omega]
      simp only [Bool.not_true, Bool.or_self, cond_false]
      rw [okLen_ok (by omega) (by omega), cond_true]
      have a1 := spredLoop k s hn hk hS h1 h2 p hin.2 hin.1 p [] k rfl (by omega)
      have a2 := ipredLoop k s hn hk hS h1 h2 p hin.2 hin.1 p [] k (List.replicate (Int.toNat (p.length : Int)) 0) rfl (by omega) (by simp) (fun j hj => by simp at hj)
      have a1 : spec_PredOk.l4 k k s p 0 = _ := a1
      have a2 : impl_PredOk.l5 k k s p p (p.length : Int) 0 _ = _ := a2
      rw [a1, a2]
      refine ⟨_, rfl, rfl, fun hb => ?_⟩
      simp only [Bool.and_eq_true, List.all_eq_true, beq_iff_eq] at hb
      exact ⟨hS, h1, h2, hin, hb.1, fun j hj => frm_all p hin.2 p.length ((p.length : Int) - 1) (by omega) (by omega) (by omega) (by omega) j (by omega) (by omega)⟩
    · rw [show (decide ((1 : Int) ≤ (p.length : Int)) && decide ((p.length : Int) ≤ 31)) = false by rw [Bool.eq_false_iff]; intro q; simp only [Bool.and_eq_true, decide_eq_true_eq] at q; omega]
      exact ⟨false, rfl, rfl, fun h => by cases h⟩
end
end Go.Law
end

section
/- Conditions: PredHolds, the program's and the reference's. -/
set_option linter.unusedVariables false
set_option linter.unusedSimpArgs false
set_option linter.unusedSectionVars false
namespace Go.Law
open Go.Am Go.Fn

theorem predKinds {k : Nat} {s : List TCol} (hn : ∀ c, c ∈ s → c.1.size < k ∧ c.1.size < 1000000000 ∧ I64 c.2.2.2.1) (hk : 2000000 ≤ k) {p : List TPred} (g : GoodPreds k s p) (a : Nat) (ha : a < p.length) (x : TPred) (hx : p[a]? = some x) :
    (1 ≤ x.1 ∧ x.1 ≤ 7) ∧ (x.1 = 5 ∨ x.1 = 6 → x.2.2.2.2.1 = (a : Int) - 1 ∧ 0 ≤ x.2.2.2.1 ∧ x.2.2.2.1 < (a : Int) - 1) ∧ (x.1 = 7 → x.2.2.2.1 = (a : Int) - 1 ∧ 0 ≤ x.2.2.2.1) := by
  obtain ⟨b, p1, _, _, _, p5⟩ := plain_eq k s hn hk g.sch g.ok g.ok2 x
  have hpl := g.plain x (List.mem_of_getElem? hx)
  unfold plainB at hpl
  rw [p1] at hpl
  have hb : b = true := hpl
  have hal := g.all a ha
  have hl := g.len
  have e := frm_eq p (a : Int) (by omega) (by omega) x hx
  have hle := frm_le p ((a : Int) - 1) (by omega)
  have h17 : 1 ≤ x.1 ∧ x.1 ≤ 7 := Classical.byContradiction fun h => by
    have := p5 h
    rw [hb] at this
    cases this
  refine ⟨h17, fun h56 => ?_, fun h7 => ?_⟩
  · rw [if_neg (by omega), if_pos h56] at e
    split at e
    · rename_i c1
      split at e
      · rename_i c2
        exact ⟨c1, by omega, by omega⟩
      · omega
    · omega
  · rw [if_pos h7] at e
    split at e
    · rename_i c1
      rcases Nat.eq_zero_or_pos a with h0 | h0
      · subst h0
        have := frm_neg p (((0 : Nat) : Int) - 1) (by omega)
        omega
      · exact ⟨c1, by omega⟩
    · omega

section
variable (k : Nat) (s : List TCol) (hn : ∀ c, c ∈ s → c.1.size < k ∧ c.1.size < 1000000000 ∧ I64 c.2.2.2.1) (hk : 2000000 ≤ k)

def single (r : TRec) (x : TPred) : Bool := (impl_holds k s x r).getD false

def hld (p : List TPred) (r : TRec) : Nat → Int → Bool
  | 0, _ => false
  | d + 1, a => match rdL p a with
    | none => false
    | some x =>
      if x.1 = 5 then hld p r d x.2.2.2.1 && hld p r d x.2.2.2.2.1
      else if x.1 = 6 then hld p r d x.2.2.2.1 || hld p r d x.2.2.2.2.1
      else if x.1 = 7 then !hld p r d x.2.2.2.1
      else single k s r x

include hn hk

theorem single_eq (hS : IsSchema s) (hok : spec_SchemaOk k s = some true) (hok2 : impl_SchemaOk k s = some true) (V : List TVal) (x : TPred) (h14 : 1 ≤ x.1 ∧ x.1 ≤ 4) :
    impl_holds k s x (V, ()) = some (single k s (V, ()) x) ∧
    ((spec_LeafOf k s x.2.1).bind fun r9 =>
           (spec_RecValues k s (V, ()) x.2.1).bind fun r10 =>
           cond ((List.length r10.2 : Int) == 0)
             (some (x.1 == 4))
             (cond (x.1 == 1)
                ((rdL r10.2 0).bind fun y11 => some ((y11.1 == x.2.2.1.1) && (eqS y11.2.1 x.2.2.1.2.1 && true)))
                (cond (x.1 == 2)
                   ((rdL r10.2 0).bind fun y12 => (spec_ValLess k r9.1.1 y12 x.2.2.1).bind fun r13 => some r13)
                   (cond (x.1 == 3) ((rdL r10.2 0).bind fun y14 => (spec_ValLess k r9.1.1 x.2.2.1 y14).bind fun r15 => some (!r15)) (some false))))) = some (single k s (V, ()) x) := by
  obtain ⟨l, b, e1, e2, _⟩ := leafOf_eq k s hn hk hS hok hok2 x.2.1
  obtain ⟨w, out, e3, e4⟩ : ∃ w out, spec_RecValues k s (V, ()) x.2.1 = some (w, out) ∧ impl_RecValues k s (V, ()) x.2.1 = some (w, out) := by
    rcases recVals_eq k s hn hk hS hok hok2 V x.2.1 with ⟨L, _, q1, q2⟩ | ⟨_, q1, q2⟩
    · exact ⟨_, _, q1, q2⟩
    · exact ⟨_, _, q1, q2⟩
  have key : ∃ q, impl_holds k s x (V, ()) = some q ∧ ((spec_LeafOf k s x.2.1).bind fun r9 =>
           (spec_RecValues k s (V, ()) x.2.1).bind fun r10 =>
           cond ((List.length r10.2 : Int) == 0)
             (some (x.1 == 4))
             (cond (x.1 == 1)
                ((rdL r10.2 0).bind fun y11 => some ((y11.1 == x.2.2.1.1) && (eqS y11.2.1 x.2.2.1.2.1 && true)))
                (cond (x.1 == 2)
                   ((rdL r10.2 0).bind fun y12 => (spec_ValLess k r9.1.1 y12 x.2.2.1).bind fun r13 => some r13)
                   (cond (x.1 == 3) ((rdL r10.2 0).bind fun y14 => (spec_ValLess k r9.1.1 x.2.2.1 y14).bind fun r15 => some (!r15)) (some false))))) = some q := by
    unfold impl_holds
    simp only [e1, e2, e3, e4, Option.bind_some, cst, csf]
    cases out with
    | nil =>
      simp only [List.length_nil]
      rw [show (((0 : Nat) : Int) == 0) = true from rfl]
      simp only [Bool.or_true, cond_true, Bool.and_true]
      exact ⟨_, rfl, rfl⟩
    | cons v out =>
      have hz : (((v :: out).length : Int) == 0) = false := beqF (by simp; omega)
      have hr : rdL (v :: out) 0 = some v := rfl
      rw [hz]
      simp only [Bool.or_false, cond_false, hr, Option.bind_some, (valLess_eq k hk _ _ _).1, (valLess_eq k hk _ _ _).2]
      by_cases h4 : x.1 = 4
      · rw [beqT h4, beqF (show ¬ x.1 = 1 by omega), beqF (show ¬ x.1 = 2 by omega), beqF (show ¬ x.1 = 3 by omega)]
        exact ⟨_, rfl, rfl⟩
      · rw [beqF h4, cond_false]
        by_cases h1 : x.1 = 1
        · rw [beqT h1]; exact ⟨_, rfl, rfl⟩
        · rw [beqF h1]
          by_cases h2 : x.1 = 2
          · rw [beqT h2]; exact ⟨_, rfl, rfl⟩
          · rw [beqF h2, beqT (show x.1 = 3 by omega)]; exact ⟨_, rfl, rfl⟩
  obtain ⟨q, q1, q2⟩ := key
  have : single k s (V, ()) x = q := by unfold single; rw [q1]; rfl
  rw [this]
  exact ⟨q1, q2⟩

theorem hld_fuel {p : List TPred} (g : GoodPreds k s p) (r : TRec) : ∀ (d d' a : Nat), a < p.length → a < d → a < d' → hld k s p r d a = hld k s p r d' a
  | 0, _, _, _, h, _ => by omega
  | _ + 1, 0, _, _, _, h => by omega
  | d + 1, d' + 1, a, ha, h1, h2 => by
    have hx := List.getElem?_eq_getElem ha
    generalize p[a] = x at hx
    obtain ⟨k1, k2, k3⟩ := predKinds hn hk g a ha x hx
    simp only [hld, rdL_nat, hx]
    have sub : ∀ b : Int, 0 ≤ b → b < a → hld k s p r d b = hld k s p r d' b := fun b b0 b1 => by
      obtain ⟨n, rfl⟩ := Int.eq_ofNat_of_zero_le b0
      exact hld_fuel g r d d' n (by omega) (by omega) (by omega)
    by_cases h5 : x.1 = 5
    · obtain ⟨c1, c2, c3⟩ := k2 (.inl h5)
      rw [if_pos h5, if_pos h5, sub _ c2 (by omega), sub _ (by omega) (by omega)]
    · rw [if_neg h5, if_neg h5]
      by_cases h6 : x.1 = 6
      · obtain ⟨c1, c2, c3⟩ := k2 (.inr h6)
        rw [if_pos h6, if_pos h6, sub _ c2 (by omega), sub _ (by omega) (by omega)]
      · rw [if_neg h6, if_neg h6]
        by_cases h7 : x.1 = 7
        · obtain ⟨c1, c2⟩ := k3 h7
          rw [if_pos h7, if_pos h7, sub _ c2 (by omega)]
        · rw [if_neg h7, if_neg h7]

theorem sholds_rec {p : List TPred} (g : GoodPreds k s p) (V : List TVal) : ∀ (d a : Nat), a < p.length → a < d → spec_l20Holds.rec k d s p (a : Int) (V, ()) = some (hld k s p (V, ()) d a) := by
  intro d
  induction d with
  | zero => intro a ha h; omega
  | succ d ih =>
    intro a ha h
    have hx := List.getElem?_eq_getElem ha
    generalize p[a] = x at hx
    obtain ⟨k1, k2, k3⟩ := predKinds hn hk g a ha x hx
    have sub : ∀ b : Int, 0 ≤ b → b < a → spec_l20Holds.rec k d s p b (V, ()) = some (hld k s p (V, ()) d b) := fun b b0 b1 => by
      obtain ⟨n, rfl⟩ := Int.eq_ofNat_of_zero_le b0
      exact ih n (by omega) (by omega)
    simp only [spec_l20Holds.rec, spec_l20Holds.b, hld, rdL_nat, hx, Option.bind_some]
    by_cases h5 : x.1 = 5
    · obtain ⟨c1, c2, c3⟩ := k2 (.inl h5)
      rw [beqT h5, cond_true, if_pos h5, sub _ c2 (by omega), sub _ (by omega) (by omega)]
      simp only [Option.bind_some, csf]
    · rw [beqF h5, cond_false, if_neg h5]
      by_cases h6 : x.1 = 6
      · obtain ⟨c1, c2, c3⟩ := k2 (.inr h6)
        rw [beqT h6, cond_true, if_pos h6, sub _ c2 (by omega), sub _ (by omega) (by omega)]
        simp only [Option.bind_some, cst]
      · rw [beqF h6, cond_false, if_neg h6]
        by_cases h7 : x.1 = 7
        · obtain ⟨c1, c2⟩ := k3 h7
          rw [beqT h7, cond_true, if_pos h7, sub _ c2 (by omega)]
          rfl
        · rw [beqF h7, cond_false, if_neg h7]
          exact (single_eq k s hn hk g.sch g.ok g.ok2 V x (by omega)).2

theorem iholds_loop {p : List TPred} (g : GoodPreds k s p) (V : List TVal) : ∀ (post pre : List TPred) (f : Nat) (o : List Bool), p = pre ++ post → post.length < f → o.length = p.length →
    (∀ j : Nat, j < pre.length → o[j]? = some (hld k s p (V, ()) 100 j)) →
    impl_PredHolds.l5 k f s p p (p.length : Int) (pre.length : Int) (V, ()) o = some (hld k s p (V, ()) 100 ((p.length : Int) - 1)) := by
  intro post
  have hl := g.len
  induction post with
  | nil =>
    intro pre f o h hf ho hb
    obtain ⟨f, rfl⟩ : ∃ q, f = q + 1 := ⟨f - 1, by omega⟩
    rw [List.append_nil] at h
    subst h
    have hw : IntKind.wrap .i64 ((p.length : Int) - 1) = ((p.length - 1 : Nat) : Int) := by rw [w64 (by omega) (by omega)]; omega
    have hlast := hb (p.length - 1) (by omega)
    have he : (p.length : Int) - 1 = ((p.length - 1 : Nat) : Int) := by omega
    simp only [impl_PredHolds.l5, decide_eq_false (show ¬ ((p.length : Int) < (p.length : Int)) by omega), cond_false, hw, rdL_nat, hlast, Option.bind_some]
    rw [he]
  | cons x post ih =>
    intro pre f o h hf ho hb
    simp only [List.length_cons] at hf
    obtain ⟨f, rfl⟩ : ∃ q, f = q + 1 := ⟨f - 1, by omega⟩
    have hlen : p.length = pre.length + (post.length + 1) := by rw [h]; simp
    have hg : rdL p (pre.length : Int) = some x := by rw [h]; exact getMid _ _ _
    have hi1 : IntKind.wrap .i64 ((pre.length : Int) + 1) = ((pre.length + 1 : Nat) : Int) := by rw [w64 (by omega) (by omega)]; omega
    have hol : pre.length < o.length := by omega
    have ho1 : o[pre.length]? = some o[pre.length] := List.getElem?_eq_getElem hol
    obtain ⟨k1, k2, k3⟩ := predKinds hn hk g pre.length (by omega) x hg
    have go : impl_PredHolds.l5 k f s p p (p.length : Int) ((pre.length + 1 : Nat) : Int) (V, ()) (o.set pre.length (hld k s p (V, ()) 100 pre.length)) = some (hld k s p (V, ()) 100 ((p.length : Int) - 1)) := by
      have hi := ih (pre ++ [x]) f (o.set pre.length (hld k s p (V, ()) 100 pre.length)) (by rw [h]; simp) (by omega) (by simpa using ho) (fun j hj => by
        rw [List.length_append, List.length_singleton] at hj
        rcases Nat.lt_or_ge j pre.length with c | c
        · rw [List.getElem?_set_ne (by omega)]; exact hb j c
        · have : j = pre.length := by omega
          subst this
          rw [List.getElem?_set_self hol])
      rw [List.length_append, List.length_singleton] at hi
      exact hi
    have sub : ∀ b : Int, 0 ≤ b → b < pre.length → rdL o b = some (hld k s p (V, ()) 99 b) := fun b b0 b1 => by
      obtain ⟨n, rfl⟩ := Int.eq_ofNat_of_zero_le b0
      rw [rdL_nat, hb n (by omega), hld_fuel k s hn hk g (V, ()) 100 99 n (by omega) (by omega) (by omega)]
    have hun : hld k s p (V, ()) 100 pre.length = (if x.1 = 5 then hld k s p (V, ()) 99 x.2.2.2.1 && hld k s p (V, ()) 99 x.2.2.2.2.1
      else if x.1 = 6 then hld k s p (V, ()) 99 x.2.2.2.1 || hld k s p (V, ()) 99 x.2.2.2.2.1
      else if x.1 = 7 then !hld k s p (V, ()) 99 x.2.2.2.1
      else single k s (V, ()) x) := by
      conv => lhs; unfold hld
      rw [hg]
    simp only [impl_PredHolds.l5, decide_eq_true (show (pre.length : Int) < (p.length : Int) by omega), cond_true, hg, Option.bind_some, impl_PredHolds.c15, hi1, Int.toNat_natCast, cst, csf, rdL_nat, ho1]
    by_cases h5 : x.1 = 5
    · obtain ⟨c1, c2, c3⟩ := k2 (.inl h5)
      rw [if_pos h5] at hun
      rw [beqT h5, cond_true, sub _ c2 (by omega), sub _ (by omega) (by omega)]
      simp only [Option.bind_some, csf]
      rw [← hun]; exact go
    · rw [if_neg h5] at hun
      rw [beqF h5, cond_false]
      by_cases h6 : x.1 = 6
      · obtain ⟨c1, c2, c3⟩ := k2 (.inr h6)
        rw [if_pos h6] at hun
        rw [beqT h6, cond_true, sub _ c2 (by omega), sub _ (by omega) (by omega)]
        simp only [Option.bind_some, cst]
        rw [← hun]; exact go
      · rw [if_neg h6] at hun
        rw [beqF h6, cond_false]
        by_cases h7 : x.1 = 7
        · obtain ⟨c1, c2⟩ := k3 h7
          rw [if_pos h7] at hun
          rw [beqT h7, cond_true, sub _ c2 (by omega)]
          simp only [Option.bind_some]
          rw [← hun]; exact go
        · rw [if_neg h7] at hun
          rw [beqF h7, cond_false, (single_eq k s hn hk g.sch g.ok g.ok2 V x (by omega)).1]
          simp only [Option.bind_some]
          rw [← hun]; exact go

end
end Go.Law
end

section
/- Conditions behind one another. -/
set_option linter.unusedVariables false
set_option linter.unusedSimpArgs false
set_option linter.unusedSectionVars false
namespace Go.Law
open Go.Am Go.Fn

section
variable (k : Nat) (s : List TCol) (hn : ∀ c, c ∈ s → c.1.size < k ∧ c.1.size < 1000000000 ∧ I64 c.2.2.2.1) (hk : 2000000 ≤ k)
include hn hk

def predOkV (p : List TPred) : Bool := (decide (1 ≤ p.length) && decide (p.length ≤ 31)) && (p.all (plainB k s) && (frm p ((p.length : Int) - 1) == 0))

theorem predOk_val (hS : IsSchema s) (hok : spec_SchemaOk k s = some true) (hok2 : impl_SchemaOk k s = some true) (p : List TPred) : spec_PredOk k s p = some (predOkV k s p) ∧ impl_PredOk k s p = some (predOkV k s p) := by
  unfold spec_PredOk impl_PredOk predOkV
  rw [hok, hok2]
  simp only [Option.bind_some, l1In_eq, within_eq, Bool.not_true, cond_false]
  by_cases hin : 1 ≤ p.length ∧ p.length ≤ 31
  · rw [show (decide ((1 : Int) ≤ (p.length : Int)) && decide ((p.length : Int) ≤ 31)) = true by simp; omega, decide_eq_true hin.1, decide_eq_true hin.2]
    simp only [Bool.not_true, cond_false, Bool.and_self, Bool.true_and]
    rw [okLen_ok (by omega) (by omega), cond_true]
    have a1 := spredLoop k s hn hk hS hok hok2 p hin.2 hin.1 p [] k rfl (by omega)
    have a2 := ipredLoop k s hn hk hS hok hok2 p hin.2 hin.1 p [] k (List.replicate (Int.toNat (p.length : Int)) 0) rfl (by omega) (by simp) (fun j hj => by simp at hj)
    exact ⟨a1, a2⟩
  · rw [show (decide ((1 : Int) ≤ (p.length : Int)) && decide ((p.length : Int) ≤ 31)) = false by rw [Bool.eq_false_iff]; intro q; simp only [Bool.and_eq_true, decide_eq_true_eq] at q; omega]
    rw [show (decide (1 ≤ p.length) && decide (p.length ≤ 31)) = false by rw [Bool.eq_false_iff]; intro q; simp only [Bool.and_eq_true, decide_eq_true_eq] at q; omega]
    exact ⟨rfl, rfl⟩
end
end Go.Law
end

section
/- Conditions: pairs and contraries. -/
set_option linter.unusedVariables false
set_option linter.unusedSimpArgs false
set_option linter.unusedSectionVars false
namespace Go.Law
open Go.Am Go.Fn

def rootP (kd A B : Int) : TPred := (kd, 0, (0, (⟨#[]⟩ : ByteArray), ()), A, B, ())

section
variable (k : Nat) (hk : 2000000 ≤ k)
include hk

theorem inot_eq (p : List TPred) (hp : p.length ≤ 100) : impl_PredNot k p = (if p.length ≠ 0 ∧ p.length + 1 ≤ 31 then some (((), true), p ++ [rootP 7 ((p.length : Int) - 1) 0]) else some (((), false), [])) ∧ spec_PredNot k p = (if p.length ≠ 0 ∧ p.length + 1 ≤ 31 then some (((), true), p ++ [rootP 7 ((p.length : Int) - 1) 0]) else some (((), false), [])) := by
  unfold impl_PredNot spec_PredNot
  rw [w64 (show -9223372036854775808 ≤ (p.length : Int) + 1 by omega) (by omega), w64 (show -9223372036854775808 ≤ (p.length : Int) - 1 by omega) (by omega)]
  simp only [cst, Option.bind_some]
  by_cases h : p.length ≠ 0 ∧ p.length + 1 ≤ 31
  · rw [if_pos h, beqF (show ¬ (p.length : Int) = 0 by omega), decide_eq_false (show ¬ ((p.length : Int) + 1 > 31) by omega)]
    simp only [Bool.or_self, cond_false]
    rw [lim_ok (by omega), cond_true, lim_ok (by simp; omega), cond_true, List.nil_append]
    exact ⟨rfl, rfl⟩
  · rw [if_neg h]
    have : (((p.length : Int) == 0) || decide ((p.length : Int) + 1 > 31)) = true := by
      cases hc : (((p.length : Int) == 0) || decide ((p.length : Int) + 1 > 31)) with
      | true => rfl
      | false =>
        simp only [Bool.or_eq_false_iff, beq_eq_false_iff_ne, decide_eq_false_iff_not] at hc
        exact (h ⟨by omega, by omega⟩).elim
    rw [this]; exact ⟨rfl, rfl⟩
end

section
variable (k : Nat) (s : List TCol) (hn : ∀ c, c ∈ s → c.1.size < k ∧ c.1.size < 1000000000 ∧ I64 c.2.2.2.1) (hk : 2000000 ≤ k)
include hn hk

theorem predHolds_val (hS : IsSchema s) (hok : spec_SchemaOk k s = some true) (hok2 : impl_SchemaOk k s = some true) (p : List TPred) (V : List TVal) :
    spec_PredHolds k s p (V, ()) = some (predOkV k s p && (recEv s V).isSome && hld k s p (V, ()) 100 ((p.length : Int) - 1)) ∧ impl_PredHolds k s p (V, ()) = some (predOkV k s p && (recEv s V).isSome && hld k s p (V, ()) 100 ((p.length : Int) - 1)) := by
  obtain ⟨e1, e2⟩ := predOk_val k s hn hk hS hok hok2 p
  obtain ⟨b, e1', e2', e3⟩ := predOk_eq k s hn hk p
  obtain ⟨b0, r1, _, _, e4, e5⟩ := recOk_eq k hk s hn V
  obtain rfl : b0 = true := by rw [hok] at r1; exact (Option.some.inj r1).symm
  obtain rfl : predOkV k s p = b := by rw [e1] at e1'; exact Option.some.inj e1'
  unfold spec_PredHolds impl_PredHolds
  rw [e1, e2, e4, e5]
  simp only [Option.bind_some, cst, csf, Bool.true_and]
  generalize (recEv s V).isSome = b1
  cases hb : predOkV k s p with
  | false => exact ⟨rfl, rfl⟩
  | true =>
    cases b1 with
    | false => exact ⟨rfl, rfl⟩
    | true =>
      have g := e3 hb
      have hl := g.len
      have hw : IntKind.wrap .i64 ((p.length : Int) - 1) = ((p.length - 1 : Nat) : Int) := by rw [w64 (by omega) (by omega)]; omega
      have he : (p.length : Int) - 1 = ((p.length - 1 : Nat) : Int) := by omega
      have a1 : spec_l20Holds k s p ((p.length - 1 : Nat) : Int) (V, ()) = some (hld k s p (V, ()) k ((p.length - 1 : Nat) : Int)) := sholds_rec k s hn hk g V k (p.length - 1) (by omega) (by omega)
      have a2 := iholds_loop k s hn hk g V p [] k (List.replicate (Int.toNat (p.length : Int)) false) rfl (by omega) (by simp) (fun j hj => by simp at hj)
      have a2 : impl_PredHolds.l5 k k s p p (p.length : Int) 0 (V, ()) _ = _ := a2
      rw [hw, a1]
      simp only [Bool.and_self, cond_true, Option.bind_some, Bool.not_true, Bool.or_self, cond_false]
      rw [okLen_ok (by omega) (by omega), cond_true, a2, he, hld_fuel k s hn hk g (V, ()) k 100 (p.length - 1) (by omega) (by omega) (by omega)]
      exact ⟨rfl, rfl⟩

end
end Go.Law
end

section
/- Values that are right stand in an order. -/
set_option linter.unusedVariables false
set_option linter.unusedSimpArgs false
namespace Go.Law
open Go.Am Go.Fn

theorem bl_irr : ∀ (x : List UInt8), Op.bytesLess x x = false
  | [] => rfl
  | a :: x => by
    simp only [Op.bytesLess, bl_irr x]
    simp

theorem bl_trans : ∀ (x y z : List UInt8), Op.bytesLess x y = true → Op.bytesLess y z = true → Op.bytesLess x z = true
  | _, [], _, h, _ => by cases h' : ‹List UInt8› <;> simp_all [Op.bytesLess]
  | _, _ :: _, [], _, h => by simp [Op.bytesLess] at h
  | [], _ :: _, _ :: _, _, _ => rfl
  | a :: x, b :: y, c :: z, h1, h2 => by
    simp only [Op.bytesLess, Bool.or_eq_true, decide_eq_true_eq, Bool.and_eq_true, beq_iff_eq] at h1 h2 ⊢
    rcases h1 with h1 | ⟨rfl, h1⟩
    · rcases h2 with h2 | ⟨rfl, h2⟩
      · left
        rw [UInt8.lt_iff_toNat_lt] at h1 h2 ⊢
        omega
      · exact .inl h1
    · rcases h2 with h2 | ⟨rfl, h2⟩
      · exact .inl h2
      · exact .inr ⟨rfl, bl_trans x y z h1 h2⟩

theorem bl_total : ∀ (x y : List UInt8), Op.bytesLess x y = false → Op.bytesLess y x = false → x = y
  | [], [], _, _ => rfl
  | [], _ :: _, h, _ => by simp [Op.bytesLess] at h
  | _ :: _, [], _, h => by simp [Op.bytesLess] at h
  | a :: x, b :: y, h1, h2 => by
    simp only [Op.bytesLess, Bool.or_eq_false_iff, decide_eq_false_iff_not, Bool.and_eq_false_iff, beq_eq_false_iff_ne] at h1 h2
    have hab : a = b := by
      have h3 := h1.1
      have h4 := h2.1
      rw [UInt8.lt_iff_toNat_lt] at h3 h4
      exact UInt8.toNat_inj.1 (by omega)
    subst hab
    have h3 : Op.bytesLess x y = false := by
      rcases h1.2 with h | h
      · exact (h rfl).elim
      · exact h
    have h4 : Op.bytesLess y x = false := by
      rcases h2.2 with h | h
      · exact (h rfl).elim
      · exact h
    rw [bl_total x y h3 h4]

def fkey (a : Int) : Int := if a < 0 then bits .xor .i64 a 9223372036854775807 else a

theorem fkey_inj {a b : Int} (ha : I64 a) (hb : I64 b) (h : fkey a = fkey b) : a = b := by
  have bv : ∀ x : Int, I64 x → BitVec.ofInt 64 x = BitVec.ofInt 64 x := fun _ _ => rfl
  have xv : ∀ x : Int, bits .xor .i64 x 9223372036854775807 = IntKind.wrap .i64 (((BitVec.ofInt 64 x ^^^ 9223372036854775807#64).toNat : Nat) : Int) := fun x => rfl
  have back : ∀ y : BitVec 64, BitVec.ofInt 64 (IntKind.wrap .i64 ((y.toNat : Nat) : Int)) = y := by
    intro y
    apply BitVec.eq_of_toNat_eq
    rw [BitVec.toNat_ofInt, IntKind.wrap_i64]
    have := y.isLt
    omega
  have ofv : ∀ x : Int, I64 x → IntKind.wrap .i64 (((BitVec.ofInt 64 x).toNat : Nat) : Int) = x := by
    intro x ⟨h0, h1⟩
    rw [BitVec.toNat_ofInt, IntKind.wrap_i64]
    omega
  have neg : ∀ x : Int, I64 x → x < 0 → fkey x < 0 := by
    intro x hx hn
    unfold fkey
    rw [if_pos hn, xv, IntKind.wrap_i64]
    have hm : (BitVec.ofInt 64 x ^^^ 9223372036854775807#64).msb = true := by
      rw [BitVec.msb_xor]
      have : (BitVec.ofInt 64 x).msb = true := by
        rw [BitVec.msb_eq_decide, BitVec.toNat_ofInt]
        obtain ⟨h0, h1⟩ := hx
        simp
        omega
      rw [this]
      decide
    rw [BitVec.msb_eq_decide] at hm
    have hm : 2 ^ 63 ≤ (BitVec.ofInt 64 x ^^^ 9223372036854775807#64).toNat := of_decide_eq_true hm
    have := (BitVec.ofInt 64 x ^^^ 9223372036854775807#64).isLt
    omega
  by_cases h1 : a < 0
  · have n1 := neg a ha h1
    by_cases h2 : b < 0
    · unfold fkey at h
      rw [if_pos h1, if_pos h2, xv, xv] at h
      have h3 := congrArg (BitVec.ofInt 64) h
      rw [back, back] at h3
      have h4 : BitVec.ofInt 64 a = BitVec.ofInt 64 b := by
        have h5 := congrArg (· ^^^ 9223372036854775807#64) h3
        simpa [BitVec.xor_assoc] using h5
      have h5 := ofv a ha
      rw [h4, ofv b hb] at h5
      exact h5.symm
    · have : fkey b = b := by unfold fkey; rw [if_neg h2]
      omega
  · have e1 : fkey a = a := by unfold fkey; rw [if_neg h1]
    by_cases h2 : b < 0
    · have := neg b hb h2
      omega
    · have e2 : fkey b = b := by unfold fkey; rw [if_neg h2]
      omega

theorem vless_vok {t : Int} {a b : TVal} (h : vless t a b = true) : vok t a = true ∧ vok t b = true := by
  unfold vless at h
  split at h
  · assumption
  · cases h

theorem vless_lt_le {t : Int} {a b c : TVal} (hc : vok t c = true) (h1 : vless t a b = true) (h2 : vless t c b = false) : vless t a c = true := by
  obtain ⟨ha, hb⟩ := vless_vok h1
  unfold vless at h1 h2 ⊢
  rw [if_pos ⟨ha, hb⟩] at h1
  rw [if_pos ⟨hc, hb⟩] at h2
  rw [if_pos ⟨ha, hc⟩]
  split at h1
  · rename_i h5
    rw [if_pos h5] at h2 ⊢
    simp only [decide_eq_true_eq, decide_eq_false_iff_not] at h1 h2 ⊢
    omega
  · rename_i h5
    rw [if_neg h5] at h2 ⊢
    split at h1
    · rename_i h6
      rw [if_pos h6] at h2 ⊢
      cases h3 : Op.bytesLess b.2.1.toList c.2.1.toList with
      | true => exact bl_trans _ _ _ h1 h3
      | false => rw [← bl_total _ _ h3 h2]; exact h1
    · rename_i h6
      rw [if_neg h6] at h2 ⊢
      simp only [decide_eq_true_eq, decide_eq_false_iff_not] at h1 h2 ⊢
      omega

theorem vless_le_lt {t : Int} {a b c : TVal} (ha : vok t a = true) (h1 : vless t b a = false) (h2 : vless t b c = true) : vless t a c = true := by
  obtain ⟨hb, hc⟩ := vless_vok h2
  unfold vless at h1 h2 ⊢
  rw [if_pos ⟨hb, hc⟩] at h2
  rw [if_pos ⟨hb, ha⟩] at h1
  rw [if_pos ⟨ha, hc⟩]
  split at h2
  · rename_i h5
    rw [if_pos h5] at h1 ⊢
    simp only [decide_eq_true_eq, decide_eq_false_iff_not] at h1 h2 ⊢
    omega
  · rename_i h5
    rw [if_neg h5] at h1 ⊢
    split at h2
    · rename_i h6
      rw [if_pos h6] at h1 ⊢
      cases h3 : Op.bytesLess a.2.1.toList b.2.1.toList with
      | true => exact bl_trans _ _ _ h3 h2
      | false => rw [bl_total _ _ h3 h1]; exact h2
    · rename_i h6
      rw [if_neg h6] at h1 ⊢
      simp only [decide_eq_true_eq, decide_eq_false_iff_not] at h1 h2 ⊢
      omega

theorem vless_irr (t : Int) (a : TVal) : vless t a a = false := by
  unfold vless
  split
  · split
    · simp
    · split
      · exact bl_irr _
      · simp
  · rfl

theorem vless_asym {t : Int} {a b : TVal} (h : vless t a b = true) : vless t b a = false := by
  obtain ⟨ha, hb⟩ := vless_vok h
  unfold vless at h ⊢
  rw [if_pos ⟨ha, hb⟩] at h
  rw [if_pos ⟨hb, ha⟩]
  split at h
  · rename_i h5
    rw [if_pos h5]
    simp only [decide_eq_true_eq, decide_eq_false_iff_not] at h ⊢
    omega
  · rename_i h5
    rw [if_neg h5]
    split at h
    · rename_i h6
      rw [if_pos h6]
      cases h3 : Op.bytesLess b.2.1.toList a.2.1.toList with
      | false => rfl
      | true => have := bl_trans _ _ _ h h3; rw [bl_irr] at this; cases this
    · rename_i h6
      rw [if_neg h6]
      simp only [decide_eq_true_eq, decide_eq_false_iff_not] at h ⊢
      omega

theorem toList_inj {x y : ByteArray} (h : x.toList = y.toList) : x = y := by
  rw [ByteArray.toList_eq, ByteArray.toList_eq] at h
  exact ByteArray.ext (Array.ext' h)

theorem vless_same {t : Int} {a b : TVal} (ha : vok t a = true) (hb : vok t b = true) (ia : I64 a.1) (ib : I64 b.1) (h1 : vless t a b = false) (h2 : vless t b a = false) : a = b := by
  unfold vless at h1 h2
  rw [if_pos ⟨ha, hb⟩] at h1
  rw [if_pos ⟨hb, ha⟩] at h2
  have fin : a.1 = b.1 → a.2.1 = b.2.1 → a = b := fun e1 e2 => by
    obtain ⟨x, y, ⟨⟩⟩ := a
    obtain ⟨x', y', ⟨⟩⟩ := b
    simp only at e1 e2
    rw [e1, e2]
  have txt : t ≠ 6 → ∀ v : TVal, vok t v = true → v.2.1 = ⟨#[]⟩ := by
    intro h6 v hv
    unfold vok at hv
    split at hv
    · simp only [Bool.and_eq_true, eqS_iff, decide_eq_true_eq] at hv; exact hv.2
    · split at hv
      · simp only [Bool.and_eq_true, eqS_iff, decide_eq_true_eq] at hv; exact hv.2
      · split at hv
        · simp only [eqS_iff, decide_eq_true_eq] at hv; exact hv
        · cases hv
  split at h1
  · rename_i h5
    rw [if_pos h5] at h2
    simp only [decide_eq_false_iff_not] at h1 h2
    have hk : fkey a.1 = fkey b.1 := by unfold fkey; omega
    exact fin (fkey_inj ia ib hk) (by rw [txt (by omega) a ha, txt (by omega) b hb])
  · rename_i h5
    rw [if_neg h5] at h2
    split at h1
    · rename_i h6
      rw [if_pos h6] at h2
      have hn : ∀ v : TVal, vok t v = true → v.1 = 0 := by
        intro v hv
        subst h6
        unfold vok at hv
        rw [if_neg (by decide), if_neg (by decide), if_neg (by decide), if_pos rfl] at hv
        simp only [Bool.and_eq_true, beq_iff_eq] at hv
        exact hv.1
      exact fin (by rw [hn a ha, hn b hb]) (toList_inj (bl_total _ _ h1 h2))
    · rename_i h6
      rw [if_neg h6] at h2
      simp only [decide_eq_false_iff_not] at h1 h2
      exact fin (by omega) (by rw [txt h6 a ha, txt h6 b hb])
end Go.Law
end

section
/- Which leaves are right. -/
set_option linter.unusedVariables false
set_option linter.unusedSimpArgs false
namespace Go.Law
open Go.Am Go.Fn

def lfOk (lf : TLeaf) : Bool := tyOk lf.1 && (decide (0 ≤ lf.2.1) && decide (lf.2.1 ≤ lf.2.2.1) && decide (lf.2.2.1 ≤ 6))

theorem lfOk_eq (k : Nat) (lf : TLeaf) : impl_LeafOk k lf = some (lfOk lf) ∧ spec_LeafOk k lf = some (lfOk lf) := by
  unfold impl_LeafOk spec_LeafOk lfOk
  simp only [typeOk_eq, l5Type_eq, within_eq, l1In_eq, Option.bind_some, csf, Option.some.injEq]
  cases tyOk lf.1 with
  | false => exact ⟨rfl, rfl⟩
  | true =>
    simp only [Bool.true_and]
    constructor <;> (rw [Bool.eq_iff_iff]; simp only [Bool.and_eq_true, decide_eq_true_eq]; omega)
end Go.Law
end

section
/- Statistics of triples that are right. -/
set_option linter.unusedVariables false
set_option linter.unusedSimpArgs false
set_option linter.unusedSectionVars false
namespace Go.Law
open Go.Am Go.Fn

theorem lvD_depth {s : List TCol} {f : TCol → Bool} : ∀ (d a nx : Nat), d ≤ 6 → SubC s d a nx → ∀ L, a ≤ L → L < nx → lvD s f (a + 1) L + 1 ≤ d := by
  intro d
  induction d with
  | zero => intro a nx _ h; exact h.elim
  | succ d ih =>
    intro a nx hd h L h1 h2
    obtain ⟨c, hc, hco, _, hpp⟩ := h
    rcases Nat.eq_or_lt_of_le h1 with rfl | h1
    · unfold lvD
      rw [show a + 1 - (a + 1) = 0 by omega]
      simp [dlv]
    · have key : ∀ (m pl : Nat) (names : List ByteArray), PartsC (SubC s d) s m pl names nx → a + 1 ≤ pl → (∀ u, a + 1 ≤ u → u < pl → colEnd s u ≤ pl) → pl ≤ L → lvD s f (a + 1) L ≤ d := by
        intro m
        induction m with
        | zero =>
          intro pl names hp _ _ hL
          have hp : pl = nx := hp
          omega
        | succ m ihm =>
          intro pl names hp g1 g2 hL
          obtain ⟨cp, mid, hcp, q2, q3, q4⟩ := hp
          have hlt := SubC_lt _ _ _ q3
          have hend := colEnd_eq (by omega) q3
          rcases Nat.lt_or_ge L mid with hm | hm
          · rw [lvD_skip (s := s) (f := f) g1 hL (fun u u1 u2 => by have := g2 u u1 u2; omega), lvD_cons (f := f) hcp hL (by rw [hend]; exact hm)]
            have := ih pl mid (by omega) q3 L hL hm
            split <;> omega
          · refine ihm mid _ q4 (by omega) (fun u u1 u2 => ?_) hm
            rcases Nat.lt_or_ge u pl with u3 | u3
            · have := g2 u u1 u3; omega
            · exact (colEnd_in (by omega) q3 u3 u2).2
      have := key _ _ _ hpp (Nat.le_refl _) (fun u u1 u2 => by omega) (by omega)
      omega

def RT (l : TLeaf) (t : TTriple) : Prop := (0 ≤ t.1 ∧ t.1 ≤ l.2.1) ∧ (0 ≤ t.2.1 ∧ t.2.1 ≤ l.2.2.1) ∧ (t.2.1 < l.2.2.1 → t.2.2.1 = (0, (⟨#[]⟩ : ByteArray), ())) ∧ (¬ t.2.1 < l.2.2.1 → vok l.1 t.2.2.1 = true)

structure StOk (l : TLeaf) (T : List TTriple) (st : TStats) : Prop where
  nul : 0 ≤ st.1 ∧ st.1 ≤ T.length
  nulY : ∀ t, t ∈ T → t.2.1 < l.2.2.1 → 0 < st.1
  hasY : ∀ t, t ∈ T → ¬ t.2.1 < l.2.2.1 → st.2.1 = true
  least : st.2.1 = true → ∃ t, t ∈ T ∧ ¬ t.2.1 < l.2.2.1 ∧ t.2.2.1 = st.2.2.1
  most : st.2.1 = true → ∃ t, t ∈ T ∧ ¬ t.2.1 < l.2.2.1 ∧ t.2.2.1 = st.2.2.2.1
  lo : ∀ t, t ∈ T → ¬ t.2.1 < l.2.2.1 → vless l.1 t.2.2.1 st.2.2.1 = false
  hi : ∀ t, t ∈ T → ¬ t.2.1 < l.2.2.1 → vless l.1 st.2.2.2.1 t.2.2.1 = false

section
variable (k : Nat) (hk : 2000000 ≤ k) (l : TLeaf)
include hk

theorem right_eq (t : TTriple) (h : RT l t) : spec_l15Right k l t = some true := by
  obtain ⟨⟨a1, a2⟩, ⟨b1, b2⟩, c, d⟩ := h
  unfold spec_l15Right
  simp only [l1In_eq, Option.bind_some, svalOk_eq]
  rw [show (decide ((0 : Int) ≤ t.1) && decide (t.1 ≤ l.2.1)) = true by simp; omega, show (decide ((0 : Int) ≤ t.2.1) && decide (t.2.1 ≤ l.2.2.1)) = true by simp; omega]
  simp only [Bool.not_true, cond_false, Option.bind_some]
  by_cases hd : t.2.1 < l.2.2.1
  · rw [decide_eq_true hd, cond_true, c hd]
    simp [eqS_iff]
  · rw [decide_eq_false hd, cond_false, d hd]

theorem all_loop (T : List TTriple) (hT : T.length ≤ 2000) (h : ∀ t, t ∈ T → RT l t) : ∀ (m f i : Nat), i + m = T.length → m < f → spec_l15All.l4 k f T (i : Int) l = some true := by
  intro m
  induction m with
  | zero =>
    intro f i hi hf
    obtain ⟨f, rfl⟩ : ∃ q, f = q + 1 := ⟨f - 1, by omega⟩
    simp only [spec_l15All.l4, decide_eq_false (show ¬ ((i : Int) < (T.length : Int)) by omega), cond_false]
  | succ m ih =>
    intro f i hi hf
    obtain ⟨f, rfl⟩ : ∃ q, f = q + 1 := ⟨f - 1, by omega⟩
    have hx := List.getElem?_eq_getElem (show i < T.length by omega)
    have hi1 : IntKind.wrap .i64 ((i : Int) + 1) = ((i + 1 : Nat) : Int) := by rw [w64 (by omega) (by omega)]; omega
    simp only [spec_l15All.l4, decide_eq_true (show (i : Int) < (T.length : Int) by omega), cond_true, rdL_nat, hx, Option.bind_some, right_eq k hk l _ (h _ (List.mem_of_getElem? hx)), Bool.not_true, cond_false, hi1]
    exact ih f (i + 1) (by omega) (by omega)

theorem stats_loop (T : List TTriple) (hT : T.length ≤ 2000) (h : ∀ t, t ∈ T → RT l t) (o101 : TStats) : ∀ (post pre : List TTriple) (f : Nat) (st : TStats), T = pre ++ post → post.length < f → StOk l pre st →
    ∃ st', spec_StatsOf.l5 k f T (pre.length : Int) l o101 st = some (st', true) ∧ StOk l T st' := by
  intro post
  induction post with
  | nil =>
    intro pre f st h' hf hst
    obtain ⟨f, rfl⟩ : ∃ q, f = q + 1 := ⟨f - 1, by omega⟩
    rw [List.append_nil] at h'
    subst h'
    simp only [spec_StatsOf.l5, decide_eq_false (show ¬ ((T.length : Int) < (T.length : Int)) by omega), cond_false]
    exact ⟨st, rfl, hst⟩
  | cons x post ih =>
    intro pre f st h' hf hst
    simp only [List.length_cons] at hf
    obtain ⟨f, rfl⟩ : ∃ q, f = q + 1 := ⟨f - 1, by omega⟩
    have hlen : T.length = pre.length + (post.length + 1) := by rw [h']; simp
    have hg : rdL T (pre.length : Int) = some x := by rw [h']; exact getMid _ _ _
    have hi1 : IntKind.wrap .i64 ((pre.length : Int) + 1) = ((pre.length + 1 : Nat) : Int) := by rw [w64 (by omega) (by omega)]; omega
    have hx := h x (by rw [h']; simp)
    have hn := hst.nul
    have go : ∀ st', StOk l (pre ++ [x]) st' → ∃ st'', spec_StatsOf.l5 k f T ((pre.length + 1 : Nat) : Int) l o101 st' = some (st'', true) ∧ StOk l T st'' := fun st' hs => by
      have := ih (pre ++ [x]) f st' (by rw [h']; simp) (by omega) hs
      rw [List.length_append, List.length_singleton] at this
      exact this
    have mem : ∀ {P : TTriple → Prop}, (∀ t, t ∈ pre → P t) → P x → ∀ t, t ∈ pre ++ [x] → P t := fun h1 h2 t ht => by
      rcases List.mem_append.1 ht with ht | ht
      · exact h1 t ht
      · rw [List.mem_singleton] at ht; subst ht; exact h2
    simp only [spec_StatsOf.l5, decide_eq_true (show (pre.length : Int) < (T.length : Int) by omega), cond_true, hg, Option.bind_some, spec_StatsOf.c6, hi1]
    by_cases hd : x.2.1 < l.2.2.1
    · rw [decide_eq_true hd, cond_true, w64 (by omega) (by omega)]
      refine go _ ⟨⟨by show 0 ≤ st.1 + 1; omega, by show st.1 + 1 ≤ _; simp; omega⟩, fun _ _ _ => by show 0 < st.1 + 1; omega, mem hst.hasY (fun hh => (hh hd).elim), fun hh => ?_, fun hh => ?_, mem hst.lo (fun hh => (hh hd).elim), mem hst.hi (fun hh => (hh hd).elim)⟩
      · obtain ⟨t, t1, t2⟩ := hst.least hh
        exact ⟨t, List.mem_append_left _ t1, t2⟩
      · obtain ⟨t, t1, t2⟩ := hst.most hh
        exact ⟨t, List.mem_append_left _ t1, t2⟩
    · rw [decide_eq_false hd, cond_false]
      have xv := hx.2.2.2 hd
      have xin : x ∈ pre ++ [x] := by simp
      cases hh : st.2.1 with
      | false =>
        simp only [Bool.not_false, cond_true]
        have none : ∀ t, t ∈ pre → ¬ t.2.1 < l.2.2.1 → False := fun t ht hf => by
          have := hst.hasY t ht hf
          rw [hh] at this
          cases this
        refine go _ ⟨⟨by show 0 ≤ st.1; omega, by show st.1 ≤ _; simp; omega⟩, mem hst.nulY (fun hh => (hd hh).elim), fun _ _ _ => rfl, fun _ => ⟨x, xin, hd, rfl⟩, fun _ => ⟨x, xin, hd, rfl⟩, mem (fun t ht hf => (none t ht hf).elim) (fun _ => vless_irr _ _), mem (fun t ht hf => (none t ht hf).elim) (fun _ => vless_irr _ _)⟩
      | true =>
        obtain ⟨tl, tl1, tl2, tl3⟩ := hst.least hh
        obtain ⟨tm, tm1, tm2, tm3⟩ := hst.most hh
        have vl : vok l.1 st.2.2.1 = true := by rw [← tl3]; exact (h tl (by rw [h']; exact List.mem_append_left _ tl1)).2.2.2 tl2
        have vm : vok l.1 st.2.2.2.1 = true := by rw [← tm3]; exact (h tm (by rw [h']; exact List.mem_append_left _ tm1)).2.2.2 tm2
        have vt : ∀ t, t ∈ pre → ¬ t.2.1 < l.2.2.1 → vok l.1 t.2.2.1 = true := fun t ht hf => (h t (by rw [h']; exact List.mem_append_left _ ht)).2.2.2 hf
        simp only [Bool.not_true, cond_false, (valLess_eq k hk l.1 _ _).1, Option.bind_some, spec_StatsOf.c10, spec_StatsOf.c6, hi1]
        -- the least so far
        have c10 : ∀ mn : TVal, (∃ t, t ∈ pre ++ [x] ∧ ¬ t.2.1 < l.2.2.1 ∧ t.2.2.1 = mn) → (∀ t, t ∈ pre ++ [x] → ¬ t.2.1 < l.2.2.1 → vless l.1 t.2.2.1 mn = false) →
            ∃ st', (cond (vless l.1 st.2.2.2.1 x.2.2.1) (spec_StatsOf.l5 k f T ((pre.length + 1 : Nat) : Int) l o101 (st.1, true, mn, x.2.2.1, ())) (spec_StatsOf.l5 k f T ((pre.length + 1 : Nat) : Int) l o101 (st.1, true, mn, st.2.2.2.1, ()))) = some (st', true) ∧ StOk l T st' := by
          intro mn hmn1 hmn2
          cases hv : vless l.1 st.2.2.2.1 x.2.2.1 with
          | true =>
            refine go _ ⟨⟨by show 0 ≤ st.1; omega, by show st.1 ≤ _; simp; omega⟩, mem hst.nulY (fun hh => (hd hh).elim), fun _ _ _ => rfl, fun _ => hmn1, fun _ => ⟨x, xin, hd, rfl⟩, hmn2, mem (fun t ht hf => ?_) (fun _ => vless_irr _ _)⟩
            have h1 := hst.hi t ht hf
            cases h2 : vless l.1 x.2.2.1 t.2.2.1 with
            | false => rfl
            | true =>
              have h3 := vless_lt_le vm h2 h1
              rw [vless_asym hv] at h3
              cases h3
          | false =>
            refine go _ ⟨⟨by show 0 ≤ st.1; omega, by show st.1 ≤ _; simp; omega⟩, mem hst.nulY (fun hh => (hd hh).elim), fun _ _ _ => rfl, fun _ => hmn1, fun _ => ⟨tm, List.mem_append_left _ tm1, tm2, tm3⟩, hmn2, mem hst.hi (fun _ => hv)⟩
        cases hx1 : vless l.1 x.2.2.1 st.2.2.1 with
        | true =>
          simp only [cond_true]
          refine c10 x.2.2.1 ⟨x, xin, hd, rfl⟩ (mem (fun t ht hf => ?_) (fun _ => vless_irr _ _))
          cases h2 : vless l.1 t.2.2.1 x.2.2.1 with
          | false => rfl
          | true =>
            have h3 := vless_le_lt (vt t ht hf) (vless_asym h2) hx1
            rw [hst.lo t ht hf] at h3
            cases h3
        | false =>
          simp only [cond_false]
          have hse : st = (st.1, true, st.2.2.1, st.2.2.2.1, ()) := by rw [← hh]
          have e : spec_StatsOf.l5 k f T ((pre.length + 1 : Nat) : Int) l o101 st = spec_StatsOf.l5 k f T ((pre.length + 1 : Nat) : Int) l o101 (st.1, true, st.2.2.1, st.2.2.2.1, ()) := congrArg _ hse
          rw [e, hh]
          exact c10 st.2.2.1 ⟨tl, List.mem_append_left _ tl1, tl2, tl3⟩ (mem hst.lo (fun _ => hx1))

theorem stats_ok (lf : lfOk l = true) (T : List TTriple) (hT : T.length ≤ 2000) (h : ∀ t, t ∈ T → RT l t) : ∃ st, spec_StatsOf k l T = some (st, true) ∧ StOk l T st := by
  unfold spec_StatsOf spec_l15All
  have ha := all_loop k hk l T hT h T.length k 0 (by omega) (by omega)
  rw [show ((0 : Nat) : Int) = 0 from rfl] at ha
  simp only [(lfOk_eq k l).2, lf, Option.bind_some, Bool.not_true, cond_false, cst, Bool.false_or, decide_eq_false (show ¬ (T.length : Int) > 2000 by omega), ha]
  have z : StOk l [] (0, false, (0, (⟨#[]⟩ : ByteArray), ()), (0, (⟨#[]⟩ : ByteArray), ()), ()) := ⟨⟨by decide, by decide⟩, fun t ht => (by cases ht), fun t ht => (by cases ht), fun hh => (by cases hh), fun hh => (by cases hh), fun t ht => (by cases ht), fun t ht => (by cases ht)⟩
  have := stats_loop k hk l T hT h (0, false, (0, (⟨#[]⟩ : ByteArray), ()), (0, (⟨#[]⟩ : ByteArray), ()), ()) T [] k _ rfl (by omega) z
  exact this
end
end Go.Law
end

section
/- What is come to: reps in bounds, values right. -/
set_option linter.unusedVariables false
set_option linter.unusedSimpArgs false
set_option linter.unusedSectionVars false
namespace Go.Law
open Go.Am Go.Fn

def RV (s : List TCol) (from_ : Nat) (rep deep : Int) (e : Ev) : Prop :=
  (e.rep = rep ∨ (deep < e.rep ∧ e.rep ≤ deep + (lvD s isRep from_ e.at_ : Nat))) ∧ (e.leaf = true → ∀ c, s[e.at_]? = some c → vok c.2.1 e.v = true) ∧ (e.leaf = false → e.v = zv)

theorem part_RV {s : List TCol} {d pl mid : Nat} (hd : d ≤ 6) (hs : SubC s d pl mid) {C : Int → Int → Int → List TVal → EvR}
    (hr : ∀ rep def_ deep V X W, C rep def_ deep V = some (X, W) → ∀ e, e ∈ X → (pl ≤ e.at_ ∧ e.at_ < mid) ∧ RV s (pl + 1) rep deep e)
    (rep def_ deep : Int) (V : List TVal) (X : List Ev) (W : List TVal) (he : evPart s C mid pl rep def_ deep V = some (X, W)) : ∀ e, e ∈ X → RV s pl rep deep e := by
  have hend := colEnd_eq hd hs
  have hlt := SubC_lt _ _ _ hs
  intro e hm
  unfold evPart at he
  split at he
  · cases he
  · rename_i c hc
    have up : ∀ (r dp : Int), (r = rep ∨ (deep < r ∧ r ≤ deep + (if isRep c = true then 1 else 0 : Nat))) → dp = deep + (if isRep c = true then 1 else 0 : Nat) → ((pl ≤ e.at_ ∧ e.at_ < mid) ∧ RV s (pl + 1) r dp e) → RV s pl rep deep e := by
      rintro r dp hrr hdp ⟨⟨h1, h2⟩, h3, h4, h5⟩
      have hcons := lvD_cons (f := isRep) hc h1 (by rw [hend]; exact h2)
      refine ⟨?_, h4, h5⟩
      rcases h3 with h3 | h3
      · rcases hrr with hrr | hrr
        · exact .inl (by omega)
        · exact .inr (by omega)
      · exact .inr (by omega)
    have ms : ∀ U, some (miss s rep def_ (mid - pl) pl, U) = some (X, W) → RV s pl rep deep e := by
      intro U he
      simp only [Option.some.injEq, Prod.mk.injEq] at he
      obtain ⟨rfl, rfl⟩ := he
      obtain ⟨_, _, m3, m4, _, m6⟩ := miss_mem _ _ _ hm
      exact ⟨.inl m4, fun h => (by rw [m3] at h; cases h), fun _ => m6⟩
    split at he
    · rename_i h0
      have hrp : isRep c = false := by simp [isRep, h0]
      exact up rep deep (.inl rfl) (by rw [hrp]; simp) (hr _ _ _ _ _ _ he e hm)
    · split at he
      · cases he
      · split at he
        · rename_i h2
          have hrp : isRep c = true := by simp [isRep, h2]
          split at he
          · cases he
          · split at he
            · exact ms _ he
            · obtain ⟨x, y, U, g1, g2, rfl⟩ := evPair_some he
              rcases List.mem_append.1 hm with hm | hm
              · exact up rep (deep + 1) (.inl rfl) (by rw [if_pos hrp]; rfl) (hr _ _ _ _ _ _ g1 e hm)
              · have := evItems_mem (P := fun e => (pl ≤ e.at_ ∧ e.at_ < mid) ∧ RV s (pl + 1) (deep + 1) (deep + 1) e) (fun V X W h => hr _ _ _ V X W h) _ _ _ _ g2 e hm
                exact up (deep + 1) (deep + 1) (.inr (by rw [if_pos hrp]; omega)) (by rw [if_pos hrp]; rfl) this
        · rename_i h2
          have hrp : isRep c = false := by simp [isRep, h2]
          split at he
          · cases he
          · split at he
            · exact ms _ he
            · exact up rep deep (.inl rfl) (by rw [hrp]; simp) (hr _ _ _ _ _ _ he e hm)

theorem evC_RV {s : List TCol} : ∀ (d a nx : Nat), d ≤ 6 → SubC s d a nx → ∀ (rep def_ deep : Int) (V : List TVal) (X : List Ev) (W : List TVal), evC s d a rep def_ deep V = some (X, W) → ∀ e, e ∈ X → (a ≤ e.at_ ∧ e.at_ < nx) ∧ RV s (a + 1) rep deep e
  | 0, _, _, _, h, _, _, _, _, _, _, _, _, _ => h.elim
  | d + 1, a, nx, hd, h, rep, def_, deep, V, X, W, he, e, hm => by
    have hlt := SubC_lt _ _ _ h
    have hok := evC_ok (d + 1) a nx hd h rep def_ deep V X W he e hm
    refine ⟨⟨hok.lo, hok.hi⟩, ?_⟩
    obtain ⟨c, hc, hco, _, hpp⟩ := h
    simp only [evC, hc] at he
    split at he
    · rename_i h7
      have key : ∀ (m pl : Nat) (names : List ByteArray) (V : List TVal) (X : List Ev) (W : List TVal), PartsC (SubC s d) s m pl names nx → a + 1 ≤ pl → (∀ u, a + 1 ≤ u → u < pl → colEnd s u ≤ pl) → evParts (fun a V => evPart s (evC s d a) (endC s d a) a rep def_ deep V) (endC s d) m pl V = some (X, W) → ∀ e, e ∈ X → RV s (a + 1) rep deep e := by
        intro m
        induction m with
        | zero =>
          intro pl names V X W hpp h1 h2 he e hm
          simp only [evParts, Option.some.injEq, Prod.mk.injEq] at he
          obtain ⟨rfl, rfl⟩ := he
          cases hm
        | succ m ih =>
          intro pl names V X W hpp h1 h2 he e hm
          obtain ⟨q, mid, q1, q2, q3, q4⟩ := hpp
          have hmn := PartsC_nx (SubC_lt d) _ _ _ _ q4
          have hlt' := SubC_lt _ _ _ q3
          have hend : endC s d pl = mid := endC_eq d q3 d (Nat.le_refl _)
          simp only [evParts] at he
          obtain ⟨x, y, U, g1, g2, rfl⟩ := evPair_some he
          rw [hend] at g1 g2
          have h3 : ∀ u, a + 1 ≤ u → u < mid → colEnd s u ≤ mid := fun u u1 u2 => by
            rcases Nat.lt_or_ge u pl with u3 | u3
            · have := h2 u u1 u3; omega
            · exact (colEnd_in (by omega) q3 u3 u2).2
          rcases List.mem_append.1 hm with hm | hm
          · obtain ⟨p1, p2, p3⟩ := part_RV (by omega) q3 (fun rep def_ deep V X W h => evC_RV d pl mid (by omega) q3 rep def_ deep V X W h) rep def_ deep V x U g1 e hm
            obtain ⟨r1, r2, _⟩ := evPart_ok (by omega) q3 (fun rep def_ deep V => evC_ok d pl mid (by omega) q3 rep def_ deep V) rep def_ deep V x U g1 e hm
            have hsk := lvD_skip (s := s) (f := isRep) h1 r1 (fun u u1 u2 => by have := h2 u u1 u2; omega)
            exact ⟨by rw [hsk]; exact p1, p2, p3⟩
          · exact ih mid _ U y W q4 (by omega) h3 g2 e hm
      exact key _ _ _ _ _ _ hpp (Nat.le_refl _) (fun u u1 u2 => by omega) he e hm
    · split at he
      · cases he
      · split at he
        · rename_i hv
          simp only [Option.some.injEq, Prod.mk.injEq] at he
          obtain ⟨rfl, rfl⟩ := he
          rw [List.mem_singleton] at hm
          subst hm
          refine ⟨.inl rfl, fun _ c' hc' => ?_, fun h => by cases h⟩
          simp only at hc'
          rw [hc] at hc'
          cases hc'
          exact hv
        · cases he
end Go.Law
end

section
/- The reference shreds a record: its triples are what is come to. -/
set_option linter.unusedVariables false
set_option linter.unusedSimpArgs false
set_option linter.unusedSectionVars false
namespace Go.Law
open Go.Am Go.Fn

abbrev TT := List (List TTriple)
def sstp (s : List TCol) (T : TT) (e : Ev) : TT :=
  match T[lnum s e.at_]? with
  | none => T
  | some x => T.set (lnum s e.at_) (x ++ [(e.rep, e.def_, e.v, ())])

def SP (s : List TCol) (m : Nat) (T : TT) : Prop := T.length = lnum s s.length ∧ ∀ (j : Nat) (x : List TTriple), T[j]? = some x → x.length + m ≤ 4294967295
theorem SP.step {s : List TCol} {m : Nat} {T : TT} (h : SP s (m + 1) T) (e : Ev) : SP s m (sstp s T e) := by
  obtain ⟨h1, h2⟩ := h
  unfold sstp
  split
  · exact ⟨h1, fun j x hx => by have := h2 j x hx; omega⟩
  · rename_i x hx
    refine ⟨by simpa using h1, fun i y hy => ?_⟩
    rw [List.getElem?_set] at hy
    split at hy
    · split at hy
      · simp only [Option.some.injEq] at hy
        subst hy
        have := h2 _ _ hx
        simp; omega
      · cases hy
    · have := h2 _ _ hy; omega
theorem SP.le {s : List TCol} {m n : Nat} {T : TT} (h : SP s m T) (hn : n ≤ m) : SP s n T := ⟨h.1, fun j x hx => by have := h.2 j x hx; omega⟩
theorem SP.fold {s : List TCol} : ∀ (X : List Ev) (T : TT) (m : Nat), SP s (m + X.length) T → SP s m (X.foldl (sstp s) T)
  | [], T, m, h => h
  | e :: X, T, m, h => by
    rw [List.foldl_cons]
    refine SP.fold X _ m (SP.step (h.le ?_) e)
    simp; omega

section
variable (k : Nat) (s : List TCol) (hs : s.length ≤ 20) (hn : ∀ c, c ∈ s → c.1.size < k ∧ c.1.size < 1000000000 ∧ I64 c.2.2.2.1) (hk : 2000000 ≤ k)
include hs hk

theorem sleaf_eq (a : Nat) (ha : a ≤ s.length) : spec_l14Leaf k s (a : Int) = some (lnum s a : Int) := by
  have key : ∀ (m i f : Nat), a = i + m → m < f → spec_l14Leaf.l3 k f s (a : Int) (lnum s i : Int) (i : Int) = some (lnum s a : Int) := by
    intro m
    induction m with
    | zero =>
      intro i f h hf
      obtain ⟨f, rfl⟩ : ∃ q, f = q + 1 := ⟨f - 1, by omega⟩
      obtain rfl : a = i := by omega
      simp only [spec_l14Leaf.l3, decide_eq_false (show ¬ ((a : Int) < (a : Int)) by omega), cond_false]
    | succ m ih =>
      intro i f h hf
      obtain ⟨f, rfl⟩ : ∃ q, f = q + 1 := ⟨f - 1, by omega⟩
      have hi : i < s.length := by omega
      have hc := List.getElem?_eq_getElem hi
      have hl := lnum_le s i
      have h1 : IntKind.wrap .i64 ((i : Int) + 1) = ((i + 1 : Nat) : Int) := by rw [w64 (by omega) (by omega)]; omega
      have h2 : IntKind.wrap .i64 ((lnum s i : Int) + 1) = ((lnum s i + 1 : Nat) : Int) := by rw [w64 (by omega) (by omega)]; omega
      have hr := ih (i + 1) f (by omega) (by omega)
      simp only [spec_l14Leaf.l3, decide_eq_true (show (i : Int) < (a : Int) by omega), cond_true, rdL_nat, hc, Option.bind_some, spec_l14Leaf.c4, h1, h2]
      by_cases h7 : (s[i]).2.1 = 7
      · rw [bneF h7, cond_false, ← hr, lnum_group hc h7]
      · rw [bneT h7, cond_true, ← hr, lnum_leaf hc h7]
  have := key a 0 k (by omega) (by omega)
  exact this

theorem sstp_at {T : TT} {m a : Nat} (h : SP s (m + 1) T) {c : TCol} (hc : s[a]? = some c) (h7 : c.2.1 ≠ 7) (lf : Bool) (rep def_ : Int) (v : TVal) :
    ∃ x, T[lnum s a]? = some x ∧ x.length + (m + 1) ≤ 4294967295 ∧ sstp s T ⟨a, lf, rep, def_, v⟩ = T.set (lnum s a) (x ++ [(rep, def_, v, ())]) := by
  have hl : lnum s a < T.length := by rw [h.1]; exact lnum_lt hc h7
  refine ⟨T[lnum s a], List.getElem?_eq_getElem hl, h.2 _ _ (List.getElem?_eq_getElem hl), ?_⟩
  unfold sstp
  rw [List.getElem?_eq_getElem hl]

include hn

theorem snull_eq {d a nx : Nat} (h : SubC s d a nx) (hd : d ≤ 6) (hnx : nx ≤ s.length) (rep def_ : Int) (T : TT) (m : Nat) (hT : SP s (m + (miss s rep def_ (nx - a) a).length) T) :
    spec_l14Null k s (a : Int) (rep, def_, (0, (⟨#[]⟩ : ByteArray), ()), ()) T = some ((), (miss s rep def_ (nx - a) a).foldl (sstp s) T) := by
  have haf := l5After_sub k s hs hn (by omega) h hd hnx
  have hlt := SubC_lt _ _ _ h
  unfold spec_l14Null
  rw [sleaf_eq k s hs hk a (by omega)]
  simp only [Option.bind_some]
  have key : ∀ (n i f : Nat) (T : TT), i + n = nx → n < f → SP s (m + (miss s rep def_ n i).length) T → spec_l14Null.l2 k f s (a : Int) (lnum s i : Int) T (rep, def_, (0, (⟨#[]⟩ : ByteArray), ()), ()) = some ((), (miss s rep def_ n i).foldl (sstp s) T) := by
    intro n
    induction n with
    | zero =>
      intro i f T hi hf hT
      obtain ⟨f, rfl⟩ : ∃ q, f = q + 1 := ⟨f - 1, by omega⟩
      obtain rfl : i = nx := by omega
      simp only [spec_l14Null.l2, haf, Option.bind_some, sleaf_eq k s hs hk i hnx, decide_eq_false (show ¬ ((lnum s i : Int) < (lnum s i : Int)) by omega), cond_false, miss, List.foldl_nil]
    | succ n ih =>
      intro i f T hi hf hT
      have hc := List.getElem?_eq_getElem (show i < s.length by omega)
      by_cases h7 : (s[i]).2.1 = 7
      · simp only [miss, hc] at hT ⊢
        rw [if_pos h7, List.nil_append] at hT ⊢
        rw [← ih (i + 1) f T (by omega) (by omega) hT, lnum_group hc h7]
      · obtain ⟨f, rfl⟩ : ∃ q, f = q + 1 := ⟨f - 1, by omega⟩
        simp only [miss, hc] at hT ⊢
        rw [if_neg h7, List.singleton_append] at hT ⊢
        rw [List.length_cons, ← Nat.add_assoc] at hT
        obtain ⟨x, x1, x2, x3⟩ := sstp_at k s hs hk hT hc h7 false rep def_ zv
        have hle := lnum_mono s (show i + 1 ≤ nx by omega)
        have hle2 := lnum_le s i
        rw [lnum_leaf hc h7] at hle
        have h2 : IntKind.wrap .i64 ((lnum s i : Int) + 1) = ((lnum s i + 1 : Nat) : Int) := by rw [w64 (by omega) (by omega)]; omega
        have hr := ih (i + 1) f (sstp s T ⟨i, false, rep, def_, zv⟩) (by omega) (by omega) (SP.step hT _)
        rw [List.foldl_cons, ← hr, lnum_leaf hc h7, x3]
        simp only [spec_l14Null.l2, haf, Option.bind_some, sleaf_eq k s hs hk nx hnx, decide_eq_true (show (lnum s i : Int) < (lnum s nx : Int) by omega), cond_true, rdL_nat, x1, beq_self_eq_true, Int.toNat_natCast, h2]
        rw [lim_ok (by simp; omega), cond_true]
        rfl
  exact key (nx - a) a k T (by omega) (by omega) hT

variable (V : List TVal) (hV : V.length ≤ 1048576)
include hV

def CG (D a : Nat) (d : Nat) (C : Int → Int → Int → List TVal → EvR) : Prop :=
  ∀ (rep def_ deep : Int) (pos : Nat) (X : List Ev) (W : List TVal) (T : TT) (m : Nat), pos ≤ V.length → C rep def_ deep (V.drop pos) = some (X, W) → 0 ≤ def_ → def_ + d ≤ 1001 → 0 ≤ deep → deep + d ≤ 1001 → SP s (m + X.length) T →
    (spec_l14Content.rec k D).1 s (a : Int) V (pos : Int) rep def_ deep T = some (((), ((V.length - W.length : Nat) : Int)), X.foldl (sstp s) T)

theorem sh_items (D d a : Nat) (C : Int → Int → Int → List TVal → EvR) (hg : ∀ r q p V, EvG V (C r q p V)) (h : CG k s V D a d C) (def_ deep : Int) (n : Int) (hn1 : n ≤ 1000) (b0 : 0 ≤ def_) (b1 : def_ + 1 + d ≤ 1001) (b2 : 0 ≤ deep) (b3 : deep + d ≤ 1001) :
    ∀ (m : Nat) (i : Int) (f pos : Nat) (X : List Ev) (W : List TVal) (T : TT) (j : Nat), pos ≤ V.length → evItems (C deep (def_ + 1) deep) m (V.drop pos) = some (X, W) → n = i + m → 0 ≤ i → SP s (j + X.length) T →
      spec_l14Part.l10 k (spec_l14Content.rec k D).1 (f + 1 + m) s (a : Int) V (pos : Int) deep def_ deep n i T = some (((), ((V.length - W.length : Nat) : Int)), X.foldl (sstp s) T) := by
  intro m
  induction m with
  | zero =>
    intro i f pos X W T j hp he hi h0 hT
    simp only [evItems, Option.some.injEq, Prod.mk.injEq] at he
    obtain ⟨rfl, rfl⟩ := he
    have : V.length - (V.drop pos).length = pos := by simp only [List.length_drop]; omega
    simp only [Nat.add_zero, spec_l14Part.l10, decide_eq_false (show ¬ (i < n) by omega), cond_false, this, List.foldl_nil]
  | succ m ih =>
    intro i f pos X W T j hp he hi h0 hT
    simp only [evItems] at he
    obtain ⟨x, y, U, h1, h2, rfl⟩ := evPair_some he
    obtain ⟨p1, p2, p3, p4⟩ := ev_pos (hg deep (def_ + 1) deep) hp h1
    have hU : U = V.drop (V.length - U.length) := p2.symm
    rw [hU] at h2
    have hi1 : IntKind.wrap .i64 (i + 1) = i + 1 := w64 (by omega) (by omega)
    have hd1 : IntKind.wrap .i64 (def_ + 1) = def_ + 1 := w64 (by omega) (by omega)
    have hT' : SP s (j + y.length + x.length) T := hT.le (by simp; omega)
    rw [show f + 1 + (m + 1) = (f + 1 + m) + 1 by omega]
    simp only [spec_l14Part.l10, decide_eq_true (show i < n by omega), cond_true, hd1, hi1]
    rw [h deep (def_ + 1) deep pos x U T (j + y.length) hp h1 (by omega) (by omega) b2 b3 hT']
    simp only [Option.bind_some]
    rw [ih (i + 1) f (V.length - U.length) y W _ j p1 h2 (by omega) (by omega) (SP.fold x T _ hT'), List.foldl_append]

theorem sh_part (D d a e : Nat) (C : Int → Int → Int → List TVal → EvR) (c : TCol) (hc : s[a]? = some c) (hr : c.2.2.1 = 0 ∨ c.2.2.1 = 1 ∨ c.2.2.1 = 2) (hg : ∀ r q p V, EvG V (C r q p V)) (h : CG k s V D a d C) (hS : SubC s d a e) (hd6 : d ≤ 6) (hel : e ≤ s.length)
    (rep def_ deep : Int) (pos : Nat) (X : List Ev) (W : List TVal) (T : TT) (j : Nat) (hp : pos ≤ V.length) (he : evPart s C e a rep def_ deep (V.drop pos) = some (X, W)) (b0 : 0 ≤ def_) (b1 : def_ + 1 + d ≤ 1001) (b2 : 0 ≤ deep) (b3 : deep + 1 + d ≤ 1001) (hT : SP s (j + X.length) T) :
    (spec_l14Content.rec k (D + 1)).2 s (a : Int) V (pos : Int) rep def_ deep T = some (((), ((V.length - W.length : Nat) : Int)), X.foldl (sstp s) T) := by
  have hp1 : IntKind.wrap .i64 ((pos : Int) + 1) = ((pos + 1 : Nat) : Int) := by rw [w64 (by omega) (by omega)]; omega
  have hd1 : IntKind.wrap .i64 (def_ + 1) = def_ + 1 := w64 (by omega) (by omega)
  have hq1 : IntKind.wrap .i64 (deep + 1) = deep + 1 := w64 (by omega) (by omega)
  unfold evPart at he
  simp only [hc] at he
  simp only [spec_l14Content.rec, spec_l14Part.b, rdL_nat, hc, Option.bind_some]
  by_cases h0 : c.2.2.1 = 0
  · rw [if_pos h0] at he
    rw [beqT h0, cond_true, h rep def_ deep pos X W T j hp he b0 (by omega) b2 (by omega) hT]
    rfl
  · rw [if_neg h0] at he
    rw [beqF h0, cond_false]
    by_cases hlt : pos < V.length
    · have hd : V.drop pos = V[pos] :: V.drop (pos + 1) := List.drop_eq_getElem_cons hlt
      rw [hd] at he
      simp only at he
      rw [List.getElem?_eq_getElem hlt]
      simp only [Option.bind_some, hp1, spec_l14Part.c9, hq1]
      have none_ : some (miss s rep def_ (e - a) a, V.drop (pos + 1)) = some (X, W) → 
          ((spec_l14Null k s (a : Int) (rep, def_, (0, (⟨#[]⟩ : ByteArray), ()), ()) T).bind fun r5 => some (((), ((pos + 1 : Nat) : Int)), r5.2)) = some (((), ((V.length - W.length : Nat) : Int)), X.foldl (sstp s) T) := by
        intro he
        simp only [Option.some.injEq, Prod.mk.injEq] at he
        obtain ⟨rfl, rfl⟩ := he
        have hl : V.length - (V.drop (pos + 1)).length = pos + 1 := by simp only [List.length_drop]; omega
        rw [snull_eq k s hs hn hk hS hd6 hel rep def_ T j hT, hl]
        rfl
      by_cases h2 : c.2.2.1 = 2
      · rw [if_pos h2] at he
        split at he
        · cases he
        · rename_i hb
          have hb := cbad_false (by simpa using hb)
          split at he
          · rename_i hv0
            rw [beqT hv0, cond_true]
            exact none_ he
          · rename_i hv0
            rw [beqF hv0, cond_false, beqT h2, cond_true]
            obtain ⟨n, hn'⟩ : ∃ n : Nat, V[pos].1 = ((n + 1 : Nat) : Int) := ⟨V[pos].1.toNat - 1, by omega⟩
            obtain ⟨x, y, U, g1, g2, rfl⟩ := evPair_some he
            rw [show V[pos].1.toNat - 1 = n by omega] at g2
            obtain ⟨p1, p2, p3, p4⟩ := ev_pos (hg rep (def_ + 1) (deep + 1)) (by omega) g1
            have hU : U = V.drop (V.length - U.length) := p2.symm
            rw [hU] at g2
            have hT' : SP s (j + y.length + x.length) T := hT.le (by simp; omega)
            have s1 := h rep (def_ + 1) (deep + 1) (pos + 1) x U T (j + y.length) (by omega) g1 (by omega) (by omega) (by omega) (by omega) hT'
            have s2 := sh_items k s hs hn hk V hV D d a C hg h def_ (deep + 1) V[pos].1 (by omega) b0 b1 (by omega) (by omega) n (0 + 1) (k - 1 - 1 - n) (V.length - U.length) y W (x.foldl (sstp s) T) j p1 g2 (by omega) (by omega) (SP.fold x T _ hT')
            rw [show k - 1 - 1 - n + 1 + n = k - 1 by omega] at s2
            conv => lhs; arg 3; rw [show k = (k - 1) + 1 by omega]
            simp only [spec_l14Part.l10, decide_eq_true (show (0 : Int) < V[pos].1 by omega), cond_true, hd1, s1, Option.bind_some]
            rw [show IntKind.wrap .i64 ((0 : Int) + 1) = 0 + 1 by decide, s2, List.foldl_append]
      · rw [if_neg h2] at he
        split at he
        · cases he
        · rename_i hb
          have hb := cbad_false (by simpa using hb)
          split at he
          · rename_i hv0
            rw [beqT hv0, cond_true]
            exact none_ he
          · rename_i hv0
            rw [beqF hv0, cond_false, beqF h2, cond_false]
            have hv1 : V[pos].1 = 1 := by omega
            have s1 := h rep (def_ + 1) deep (pos + 1) X W T j (by omega) he (by omega) (by omega) (by omega) (by omega) hT
            conv => lhs; arg 3; rw [show k = (k - 2) + 1 + 1 by omega]
            simp only [spec_l14Part.l10, hv1, decide_eq_true (show (0 : Int) < 1 by omega), cond_true, hd1, s1, Option.bind_some]
            rw [show IntKind.wrap .i64 ((0 : Int) + 1) = 1 by decide]
            simp only [decide_eq_false (show ¬ ((1 : Int) < 1) by omega), cond_false]
    · have hd : V.drop pos = [] := List.drop_of_length_le (by omega)
      rw [hd] at he
      cases he

theorem sh_parts (d D : Nat) (hd : d ≤ 6) (a : Nat) (c : TCol) (hc : s[a]? = some c) (hcm : c.2.2.2.1 ≤ 1000000) (nx : Nat) (hnx : nx ≤ s.length) (rep def_ deep : Int)
    (Q : ∀ pl mid, SubC s d pl mid → mid ≤ s.length → ∀ (pos : Nat) (X : List Ev) (W : List TVal) (T : TT) (j : Nat), pos ≤ V.length → evPart s (evC s d pl) mid pl rep def_ deep (V.drop pos) = some (X, W) → SP s (j + X.length) T →
      (spec_l14Content.rec k D).2 s (pl : Int) V (pos : Int) rep def_ deep T = some (((), ((V.length - W.length : Nat) : Int)), X.foldl (sstp s) T)) :
    ∀ (m pl : Nat) (i : Int) (names : List ByteArray) (f pos : Nat) (X : List Ev) (W : List TVal) (T : TT) (j : Nat), PartsC (SubC s d) s m pl names nx → c.2.2.2.1 - i = m → 0 ≤ i → m < f → pos ≤ V.length → SP s (j + X.length) T →
      evParts (fun a V => evPart s (evC s d a) (endC s d a) a rep def_ deep V) (endC s d) m pl (V.drop pos) = some (X, W) →
      spec_l14Content.l7 k (spec_l14Content.rec k D).2 f s (a : Int) V (pos : Int) rep def_ deep (pl : Int) i T = some (((), ((V.length - W.length : Nat) : Int)), X.foldl (sstp s) T) := by
  intro m
  induction m with
  | zero =>
    intro pl i names f pos X W T j hp hi h0 hf hpos hT he
    obtain ⟨f, rfl⟩ : ∃ q, f = q + 1 := ⟨f - 1, by omega⟩
    simp only [evParts, Option.some.injEq, Prod.mk.injEq] at he
    obtain ⟨rfl, rfl⟩ := he
    have : V.length - (V.drop pos).length = pos := by simp only [List.length_drop]; omega
    simp only [spec_l14Content.l7, rdL_nat, hc, Option.bind_some, decide_eq_false (show ¬ (i < c.2.2.2.1) by omega), cond_false, this, List.foldl_nil]
  | succ m ih =>
    intro pl i names f pos X W T j hp hi h0 hf hpos hT he
    obtain ⟨q, mid, q1, q2, q3, q4⟩ := hp
    have hmn := PartsC_nx (SubC_lt d) _ _ _ _ q4
    obtain ⟨f, rfl⟩ : ∃ q, f = q + 1 := ⟨f - 1, by omega⟩
    have hi1 : IntKind.wrap .i64 (i + 1) = i + 1 := w64 (by omega) (by omega)
    have hend : endC s d pl = mid := endC_eq d q3 d (Nat.le_refl _)
    have haf := l5After_sub k s hs hn (by omega) q3 hd (by omega)
    simp only [evParts] at he
    obtain ⟨x, y, U, h1, h2, rfl⟩ := evPair_some he
    rw [hend] at h1 h2
    obtain ⟨p1, p2, p3, p4⟩ := ev_pos (fun V => EvG.part hs (fun r q p V => evC_G hs d pl r q p V) mid pl rep def_ deep V) hpos h1
    have hU : U = V.drop (V.length - U.length) := p2.symm
    rw [hU] at h2
    have hT' : SP s (j + y.length + x.length) T := hT.le (by simp; omega)
    simp only [spec_l14Content.l7, rdL_nat, hc, Option.bind_some, decide_eq_true (show i < c.2.2.2.1 by omega), cond_true, Q pl mid q3 (by omega) pos x U T (j + y.length) hpos h1 hT', haf, hi1]
    rw [ih mid (i + 1) _ f (V.length - U.length) y W _ j q4 (by omega) (by omega) (by omega) p1 ((SP.fold x T _ hT').le (by omega)) h2, List.foldl_append]

theorem sh_ok : ∀ (d D a nx : Nat), SubC s d a nx → nx ≤ s.length → d ≤ 6 → 2 * d ≤ D → ∀ (rep def_ deep : Int) (pos : Nat) (X : List Ev) (W : List TVal) (T : TT) (m : Nat), pos ≤ V.length → evC s d a rep def_ deep (V.drop pos) = some (X, W) → 0 ≤ def_ → def_ + d ≤ 1001 → 0 ≤ deep → deep + d ≤ 1001 → SP s (m + X.length) T →
    (spec_l14Content.rec k D).1 s (a : Int) V (pos : Int) rep def_ deep T = some (((), ((V.length - W.length : Nat) : Int)), X.foldl (sstp s) T) := by
  intro d
  induction d with
  | zero => intro D a nx h; exact h.elim
  | succ d ih =>
    intro D a nx h hnx hd hD rep def_ deep pos X W T m hpos he b0 b1 b2 b3 hT
    obtain ⟨D, rfl⟩ : ∃ q, D = q + 2 := ⟨D - 2, by omega⟩
    have hlt := SubC_lt _ _ _ h
    obtain ⟨c, hc, hco, _, hp⟩ := h
    have hcm := (hn c (List.mem_of_getElem? hc)).2.2
    have hmp := PartsC_le (SubC_lt d) _ _ _ _ hp
    have ha1 : IntKind.wrap .i64 ((a : Int) + 1) = ((a + 1 : Nat) : Int) := by rw [w64 (by omega) (by omega)]; omega
    have hp1 : IntKind.wrap .i64 ((pos : Int) + 1) = ((pos + 1 : Nat) : Int) := by rw [w64 (by omega) (by omega)]; omega
    simp only [evC, hc] at he
    rw [show D + 2 = (D + 1) + 1 from rfl]
    by_cases h7 : c.2.1 = 7
    · rw [if_pos h7] at he
      have hmn : 0 ≤ c.2.2.2.1 := by
        unfold colOk at hco
        rw [h7, tyOk_7] at hco
        simp at hco
        omega
      have key := sh_parts k s hs hn hk V hV d (D + 1) (by omega) a c hc (by omega) nx hnx rep def_ deep
        (fun pl mid hs1 hm1 pos X W T j hpos he hT => by
          have hs0 := hs1
          obtain ⟨d', rfl⟩ : ∃ q, d = q + 1 := ⟨d - 1, by cases d with
            | zero => exact hs1.elim
            | succ d => omega⟩
          obtain ⟨c', hc', hco', _, _⟩ := hs1
          have hrep : c'.2.2.1 = 0 ∨ c'.2.2.1 = 1 ∨ c'.2.2.1 = 2 := by
            unfold colOk at hco'
            simp only [Bool.and_eq_true, decide_eq_true_eq] at hco'
            omega
          exact sh_part k s hs hn hk V hV D (d' + 1) pl mid (evC s (d' + 1) pl) c' hc' hrep (fun r q p V => evC_G hs _ pl r q p V)
            (fun rep def_ deep pos X W T m h1 h2 h3 h4 h5 h6 h7 => ih D pl mid hs0 hm1 (by omega) (by omega) rep def_ deep pos X W T m h1 h2 h3 h4 h5 h6 h7) hs0 (by omega) hm1 rep def_ deep pos X W T j hpos he b0 (by omega) b2 (by omega) hT)
        c.2.2.2.1.toNat (a + 1) 0 [] k pos X W T m hp (by omega) (by omega) (by omega) hpos hT he
      simp only [spec_l14Content.rec, spec_l14Content.b, rdL_nat, hc, Option.bind_some, bneF h7, cond_false, ha1]
      exact key
    · rw [if_neg h7] at he
      by_cases hlt' : pos < V.length
      · have hd' : V.drop pos = V[pos] :: V.drop (pos + 1) := List.drop_eq_getElem_cons hlt'
        rw [hd'] at he
        simp only at he
        split at he
        · simp only [Option.some.injEq, Prod.mk.injEq] at he
          obtain ⟨rfl, rfl⟩ := he
          have hl : V.length - (V.drop (pos + 1)).length = pos + 1 := by simp only [List.length_drop]; omega
          obtain ⟨x, x1, x2, x3⟩ := sstp_at k s hs hk (m := m) hT hc h7 true rep def_ V[pos]
          rw [hl, List.foldl_cons, List.foldl_nil, x3]
          simp only [spec_l14Content.rec, spec_l14Content.b, rdL_nat, hc, Option.bind_some, bneT h7, cond_true, sleaf_eq k s hs hk a (by omega), x1, List.getElem?_eq_getElem hlt', beq_self_eq_true, Int.toNat_natCast, hp1]
          rw [lim_ok (by simp; omega), cond_true]
        · cases he
      · have hd' : V.drop pos = [] := List.drop_of_length_le (by omega)
        rw [hd'] at he
        cases he

theorem sshred_whole (hS : SubC s 6 0 s.length) (X : List Ev) (he : evC s 6 0 0 0 0 V = some (X, [])) (T : TT) (m : Nat) (hT : SP s (m + X.length) T) :
    spec_l14Content k s 0 V 0 0 0 0 T = some (((), (V.length : Int)), X.foldl (sstp s) T) := by
  have := sh_ok k s hs hn hk V hV 6 k 0 s.length hS (Nat.le_refl _) (by omega) (by omega) 0 0 0 0 X [] T m (Nat.zero_le _) (by simpa using he) (by omega) (by omega) (by omega) (by omega) hT
  rw [List.length_nil, Nat.sub_zero] at this
  exact this
end
end Go.Law
end

section
/- The walker's instance of Shred: it folds what is come to. Printed by program. -/
set_option linter.unusedVariables false
set_option linter.unusedSimpArgs false
set_option linter.unusedSectionVars false
namespace Go.Law
open Go.Am Go.Fn

def WS.P (NL : Nat) (m : Nat) (acc : List TColumn) : Prop := acc.length = NL ∧ ∀ (j : Nat) (x : TColumn), acc[j]? = some x → x.1.length + m ≤ 4294967295
def WS.stp (nums : List Int) (acc : List TColumn) (e : Ev) : List TColumn :=
  match rdL nums (e.at_ : Int) with
  | none => acc
  | some j => match acc[j.toNat]? with
    | none => acc
    | some x => acc.set j.toNat (x.1 ++ [(e.rep, e.def_, e.v, ())], ())
theorem WS.P_stp (nums : List Int) (NL : Nat) (acc : List TColumn) (e : Ev) (m : Nat) (h : WS.P NL (m + 1) acc) : WS.P NL m (WS.stp nums acc e) := by
  obtain ⟨h1, h2⟩ := h
  unfold WS.stp
  split
  · exact ⟨h1, fun j x hx => by have := h2 j x hx; omega⟩
  · rename_i j hj
    split
    · exact ⟨h1, fun j x hx => by have := h2 j x hx; omega⟩
    · rename_i x hx
      refine ⟨by simpa using h1, fun i y hy => ?_⟩
      rw [List.getElem?_set] at hy
      split at hy
      · split at hy
        · simp only [Option.some.injEq] at hy
          subst hy
          have := h2 _ _ hx
          simp; omega
        · cases hy
      · have := h2 _ _ hy; omega
theorem WS.P_le (NL : Nat) (acc : List TColumn) (m n : Nat) (h : WS.P NL m acc) (hn : n ≤ m) : WS.P NL n acc := ⟨h.1, fun j x hx => by have := h.2 j x hx; omega⟩

section
variable (k : Nat) (s : List TCol) (nums : List Int) (NL : Nat) (hN : ∀ a, a < s.length → (∀ c, s[a]? = some c → c.2.1 ≠ 7) → ∃ j : Nat, rdL nums (a : Int) = some (j : Int) ∧ j < NL)
include hN
theorem WS.leaf_ok (a : Nat) (rep def_ : Int) (v : TVal) (acc : List TColumn) (m : Nat) (hP : WS.P NL (m + 1) acc) (ha : a < s.length) (hc : ∀ c, s[a]? = some c → c.2.1 ≠ 7) :
    impl_Shred_1 k (a : Int) rep def_ v () () acc nums = some ((), ((), (), WS.stp nums acc ⟨a, true, rep, def_, v⟩, nums)) := by
  obtain ⟨j, h1, h2⟩ := hN a ha hc
  obtain ⟨q1, q2⟩ := hP
  have h3 : j < acc.length := by omega
  have h4 : rdL acc (j : Int) = some acc[j] := by rw [rdL_nat, List.getElem?_eq_getElem h3]
  have h5 := q2 j acc[j] (List.getElem?_eq_getElem h3)
  unfold impl_Shred_1 WS.stp
  simp only [h1, h4, Option.bind_some, beq_self_eq_true, cond_true, Int.toNat_natCast, List.getElem?_eq_getElem h3]
  rw [lim_ok (by simp; omega), cond_true]
theorem WS.none_ok (a : Nat) (rep def_ : Int) (acc : List TColumn) (m : Nat) (hP : WS.P NL (m + 1) acc) (ha : a < s.length) (hc : ∀ c, s[a]? = some c → c.2.1 ≠ 7) :
    impl_Shred_2_of_Shred_1 k (a : Int) rep def_ ((), (), ()) () acc () nums = some ((), (((), (), ()), (), WS.stp nums acc ⟨a, false, rep, def_, zv⟩, (), nums)) := by
  unfold impl_Shred_2_of_Shred_1
  have := WS.leaf_ok k s nums NL hN a rep def_ zv acc m hP ha hc
  have this : impl_Shred_1 k (a : Int) rep def_ (0, (⟨#[]⟩ : ByteArray), ()) () () acc nums = _ := this
  rw [this]
  rfl
end

section
variable (k : Nat) (s : List TCol) (hs : s.length ≤ 20) (hn : ∀ c, c ∈ s → c.1.size < k ∧ c.1.size < 1000000000 ∧ I64 c.2.2.2.1) (hk : 2000000 ≤ k) (nums : List Int) (NL : Nat) (hN : ∀ a, a < s.length → (∀ c, s[a]? = some c → c.2.1 ≠ 7) → ∃ j : Nat, rdL nums (a : Int) = some (j : Int) ∧ j < NL)
include hs hn hk hN

theorem WS.P_fold : ∀ (X : List Ev) (acc : (List TColumn)) (m : Nat), WS.P NL (m + X.length) (acc) → WS.P NL (m) (X.foldl (WS.stp nums) acc)
  | [], acc, m, h => h
  | e :: X, acc, m, h => by
    rw [List.foldl_cons]
    refine WS.P_fold X ((WS.stp nums) acc e) m (WS.P_stp nums NL acc e (m + X.length) ?_)
    have e1 : m + X.length + 1 = m + (e :: X).length := by simp; omega
    rw [e1]; exact h

theorem WS.next_cons (v : TVal) (V : List TVal) (hV : V.length ≤ 1048576) (acc : (List TColumn)) :
    impl_walker_next_of_Shred_1_Shred_2 k (s, v :: V, false, ((), (), ()), ((), ()), ()) () acc () nums ((), (), ()) = some (v, ((s, V, false, ((), (), ()), ((), ()), ()), (), acc, (), nums, ((), (), ()))) := by
  unfold impl_walker_next_of_Shred_1_Shred_2
  have hz : (((v :: V).length : Int) == 0) = false := beqF (by simp; omega)
  have hcut : cutL (v :: V) 1 ((v :: V).length : Int) = V := by
    unfold cutL
    rw [Int.toNat_natCast, List.take_length]; rfl
  have hr : rdL (v :: V) 0 = some v := rfl
  simp only [cond_false, hz, Option.bind_some, hr, hcut]
  rw [inSl_ok (by omega) (by simp; omega) (by omega), cond_true]

theorem WS.next_nil (acc : (List TColumn)) : impl_walker_next_of_Shred_1_Shred_2 k (s, [], false, ((), (), ()), ((), ()), ()) () acc () nums ((), (), ()) = some (zv, ((s, [], true, ((), (), ()), ((), ()), ()), (), acc, (), nums, ((), (), ()))) := by
  unfold impl_walker_next_of_Shred_1_Shred_2
  simp only [cond_false, List.length_nil, Option.bind_some]
  rfl

theorem WS.count_cons (v : TVal) (V : List TVal) (hV : V.length ≤ 1048576) (most : Int) (acc : (List TColumn)) :
    impl_walker_count_of_Shred_1_Shred_2 k most (s, v :: V, false, ((), (), ()), ((), ()), ()) () acc () nums ((), (), ()) = some (if cbad v most then 0 else v.1, ((s, V, cbad v most, ((), (), ()), ((), ()), ()), (), acc, (), nums, ((), (), ()))) := by
  unfold impl_walker_count_of_Shred_1_Shred_2 cbad
  simp only [WS.next_cons k s hs hn hk nums NL hN v V hV acc, Option.bind_some, within_eq, cst]
  generalize (!eqS v.2.1 ⟨#[]⟩ || !(decide (0 ≤ v.1) && decide (v.1 ≤ most))) = b
  cases b <;> rfl

theorem WS.count_nil (most : Int) (hm : 0 ≤ most) (acc : (List TColumn)) : impl_walker_count_of_Shred_1_Shred_2 k most (s, [], false, ((), (), ()), ((), ()), ()) () acc () nums ((), (), ()) = some (0, ((s, [], true, ((), (), ()), ((), ()), ()), (), acc, (), nums, ((), (), ()))) := by
  unfold impl_walker_count_of_Shred_1_Shred_2
  have hz : eqS (⟨#[]⟩ : ByteArray) ⟨#[]⟩ = true := by rw [eqS_iff]; simp
  have hw : (decide ((0 : Int) ≤ 0) && decide ((0 : Int) ≤ most)) = true := by simp; omega
  simp only [WS.next_nil k s hs hn hk nums NL hN acc, Option.bind_some, zv, within_eq, hz, hw, Bool.not_true, cond_false]

theorem WS.miss_ok (d a nx : Nat) (h : SubC s d a nx) (hd : d ≤ 6) (hnx : nx ≤ s.length) (rep def_ : Int) (V : List TVal) (bad : Bool) (acc : (List TColumn)) (hP : WS.P NL (20) (acc)) :
    impl_walker_missing_of_Shred_1_Shred_2 k (a : Int) rep def_ (s, V, bad, ((), (), ()), ((), ()), ()) () acc () nums ((), (), ()) = some ((nx : Int), ((s, V, bad, ((), (), ()), ((), ()), ()), (), (miss s rep def_ (nx - a) a).foldl (WS.stp nums) acc, (), nums, ((), (), ()))) := by
  have key : ∀ (m n i : Nat) (acc : (List TColumn)), i + m = nx → m < n → WS.P NL (m) (acc) → impl_walker_missing_of_Shred_1_Shred_2.l3 k n rep def_ (nx : Int) (i : Int) (s, V, bad, ((), (), ()), ((), ()), ()) () acc () nums ((), (), ()) = some ((nx : Int), ((s, V, bad, ((), (), ()), ((), ()), ()), (), (miss s rep def_ m i).foldl (WS.stp nums) acc, (), nums, ((), (), ()))) := by
    intro m
    induction m with
    | zero =>
      intro n i acc hi hn _
      obtain ⟨n, rfl⟩ : ∃ j, n = j + 1 := ⟨n - 1, by omega⟩
      simp only [impl_walker_missing_of_Shred_1_Shred_2.l3, decide_eq_false (show ¬ (i : Int) < (nx : Int) by omega), cond_false, miss, List.foldl_nil]
    | succ m ih =>
      intro n i acc hi hn hP
      obtain ⟨n, rfl⟩ : ∃ j, n = j + 1 := ⟨n - 1, by omega⟩
      obtain ⟨c, hc, hc'⟩ := rdL_some (xs := s) (i := (i : Int)) (by omega) (by omega)
      have hc' : s[i]? = some c := by simpa using hc'
      have hi1 : IntKind.wrap .i64 ((i : Int) + 1) = ((i + 1 : Nat) : Int) := by rw [w64 (by omega) (by omega)]; omega
      simp only [impl_walker_missing_of_Shred_1_Shred_2.l3, decide_eq_true (show (i : Int) < (nx : Int) by omega), cond_true, hc, Option.bind_some, impl_walker_missing_of_Shred_1_Shred_2.c4, hi1, miss, hc', List.foldl_append]
      by_cases h7 : c.2.1 = 7
      · rw [bneF h7, cond_false, if_pos h7, List.foldl_nil]
        exact ih n (i + 1) acc (by omega) (by omega) (WS.P_le NL acc (m + 1) m hP (by omega))
      · have hno := WS.none_ok k s nums NL hN i rep def_ acc m hP (by omega) (fun c' h' => by rw [hc'] at h'; cases h'; exact h7)
        rw [bneT h7, cond_true, if_neg h7, List.foldl_cons, List.foldl_nil]
        simp only [hno, Option.bind_some, Option.bind_some]
        exact ih n (i + 1) _ (by omega) (by omega) (WS.P_stp nums NL acc _ m hP)
  unfold impl_walker_missing_of_Shred_1_Shred_2
  have hlt := SubC_lt _ _ _ h
  have hca := colAfter_sub k s hs hn (by omega) h hd hnx
  simp only [hca, Option.bind_some]
  exact key (nx - a) k a acc (by omega) (by omega) (WS.P_le NL acc 20 (nx - a) hP (by omega))

def WS.Good (s : List TCol) (nums : List Int) (NL : Nat) (r : EvR) (o : Option (Int × ((List TCol) × (List TVal) × Bool × (Unit × Unit × Unit) × (Unit × Unit) × Unit) × Unit × (List TColumn) × Unit × (List Int) × (Unit × Unit × Unit))) (nx : Nat) (acc : (List TColumn)) : Prop :=
  match r with
  | some (X, W) => o = some ((nx : Int), ((s, W, false, ((), (), ()), ((), ()), ()), (), X.foldl (WS.stp nums) acc, (), nums, ((), (), ())))
  | none => ∃ (nx' : Int) (V' : List TVal) (acc' : (List TColumn)), o = some (nx', ((s, V', true, ((), (), ()), ((), ()), ()), (), acc', (), nums, ((), (), ())))

theorem WS.items_ok (S : Int → Int → Int → Int → ((List TCol) × (List TVal) × Bool × (Unit × Unit × Unit) × (Unit × Unit) × Unit) → Unit → (List TColumn) → Unit → (List Int) → (Unit × Unit × Unit) → Option (Int × ((List TCol) × (List TVal) × Bool × (Unit × Unit × Unit) × (Unit × Unit) × Unit) × Unit × (List TColumn) × Unit × (List Int) × (Unit × Unit × Unit))) (a nx : Nat) (hca : impl_colAfter k s (a : Int) 1 = some (nx : Int)) (C : List TVal → EvR) (hC : ∀ V, EvG V (C V)) (rep def_ deep : Int) (n : Nat) (hn100 : n ≤ 100) (hdef : IntKind.wrap .i64 (def_ + 1) = def_ + 1)
    (h : ∀ V acc, V.length ≤ 1048576 → WS.P NL (20 * V.length + 20) (acc) → WS.Good s nums NL (C V) (S (a : Int) deep (def_ + 1) deep (s, V, false, ((), (), ()), ((), ()), ()) () acc () nums ((), (), ())) nx acc) :
    ∀ (m j f : Nat) (V : List TVal) (acc : (List TColumn)), n = j + m → 1 ≤ j → m < f → V.length ≤ 1048576 → WS.P NL (20 * V.length + 20) (acc) →
      WS.Good s nums NL (evItems C m V) (impl_walker_col_of_Shred_1_Shred_2.l14 k S f (a : Int) def_ deep (n : Int) (j : Int) (s, V, false, ((), (), ()), ((), ()), ()) () acc () nums ((), (), ())) nx acc := by
  intro m
  induction m with
  | zero =>
    intro j f V acc hj h1 hf hV hP
    obtain ⟨f, rfl⟩ : ∃ q, f = q + 1 := ⟨f - 1, by omega⟩
    simp only [evItems, WS.Good, impl_walker_col_of_Shred_1_Shred_2.l14, decide_eq_false (show ¬ (j : Int) < (n : Int) by omega), cond_false, Option.bind_some, hca, List.foldl_nil]
  | succ m ih =>
    intro j f V acc hj h1 hf hV hP
    obtain ⟨f, rfl⟩ : ∃ q, f = q + 1 := ⟨f - 1, by omega⟩
    have hj1 : IntKind.wrap .i64 ((j : Int) + 1) = ((j + 1 : Nat) : Int) := by rw [w64 (by omega) (by omega)]; omega
    have g := h V acc hV hP
    simp only [evItems, evPair, impl_walker_col_of_Shred_1_Shred_2.l14, decide_eq_true (show (j : Int) < (n : Int) by omega), cond_true, Bool.not_false, Option.bind_some, hdef, hj1]
    cases hr : C V with
    | none =>
      rw [hr] at g
      obtain ⟨nx', V', acc', e⟩ := g
      simp only [WS.Good]
      simp only [e, Option.bind_some]
      obtain ⟨f, rfl⟩ : ∃ q, f = q + 1 := ⟨f - 1, by omega⟩
      simp only [impl_walker_col_of_Shred_1_Shred_2.l14, csf, Bool.not_true, Bool.and_false, Option.bind_some, cond_false, hca]
      exact ⟨_, _, _, rfl⟩
    | some q =>
      obtain ⟨X, W⟩ := q
      rw [hr] at g
      simp only [WS.Good] at g
      obtain ⟨g1, g2, _⟩ := hC V X W hr
      have i := ih (j + 1) f W (X.foldl (WS.stp nums) acc) (by omega) (by omega) (by omega) (by omega) (WS.P_fold k s hs hn hk nums NL hN X acc (20 * W.length + 20) (WS.P_le NL acc _ _ hP (by omega)))
      simp only [g, Option.bind_some]
      cases hr2 : evItems C m W with
      | none => rw [hr2] at i; exact i
      | some q2 =>
        obtain ⟨Y, U⟩ := q2
        rw [hr2] at i
        simp only [WS.Good] at i ⊢
        rw [i, List.foldl_append]

theorem WS.part_ok (d D a nx : Nat) (h : SubC s d a nx) (hd : d ≤ 6) (hnx : nx ≤ s.length) (rep def_ deep : Int) (h0 : 0 ≤ def_) (h1 : def_ ≤ 1000) (h2 : 0 ≤ deep) (h3 : deep ≤ 1000)
    (P : ∀ (r q p : Int) (V : List TVal) (acc : (List TColumn)), 0 ≤ q → q ≤ def_ + 1 → 0 ≤ p → p ≤ deep + 1 → V.length ≤ 1048576 → WS.P NL (20 * V.length + 20) (acc) → WS.Good s nums NL (evC s d a r q p V) ((impl_walker_body_of_Shred_1_Shred_2.rec k D).1 (a : Int) r q p (s, V, false, ((), (), ()), ((), ()), ()) () acc () nums ((), (), ())) nx acc)
    (V : List TVal) (acc : (List TColumn)) (hV : V.length ≤ 1048576) (hP : WS.P NL (20 * V.length + 20) (acc)) :
    WS.Good s nums NL (evPart s (evC s d a) nx a rep def_ deep V) ((impl_walker_body_of_Shred_1_Shred_2.rec k (D + 1)).2 (a : Int) rep def_ deep (s, V, false, ((), (), ()), ((), ()), ()) () acc () nums ((), (), ())) nx acc := by
  have hlt := SubC_lt _ _ _ h
  have hmiss := WS.miss_ok k s hs hn hk nums NL hN d a nx h hd hnx
  have hca := colAfter_sub k s hs hn (by omega) h hd hnx
  have hG := fun r p q V => evC_G hs d a r p q V
  obtain ⟨d', rfl⟩ : ∃ q, d = q + 1 := ⟨d - 1, by cases d with
    | zero => exact h.elim
    | succ d => omega⟩
  obtain ⟨c, hc, hco, _, _⟩ := h
  have hrep : c.2.2.1 = 0 ∨ c.2.2.1 = 1 ∨ c.2.2.1 = 2 := by
    unfold colOk at hco
    simp only [Bool.and_eq_true, decide_eq_true_eq] at hco
    omega
  have hd1 : IntKind.wrap .i64 (def_ + 1) = def_ + 1 := w64 (by omega) (by omega)
  have hp1 : IntKind.wrap .i64 (deep + 1) = deep + 1 := w64 (by omega) (by omega)
  simp only [impl_walker_body_of_Shred_1_Shred_2.rec, impl_walker_col_of_Shred_1_Shred_2.b, rdL_nat, hc, Option.bind_some, evPart]
  generalize hgC : evC s (d' + 1) a = C at *
  rcases hrep with hr | hr | hr
  · -- Required
    rw [if_pos hr]
    simp only [beqF (show ¬ c.2.2.1 = 1 by omega), beqF (show ¬ c.2.2.1 = 2 by omega), cond_false, impl_walker_col_of_Shred_1_Shred_2.c18]
    have g := P rep def_ deep V acc h0 (by omega) h2 (by omega) hV hP
    cases hr2 : C rep def_ deep V with
    | none =>
      rw [hr2] at g
      obtain ⟨nx', V', acc', e⟩ := g
      simp only [WS.Good, e, Option.bind_some]
      exact ⟨_, _, _, rfl⟩
    | some q =>
      obtain ⟨X, W⟩ := q
      rw [hr2] at g
      simp only [WS.Good] at g ⊢
      rw [g]; rfl
  · -- Optional
    rw [if_neg (by omega)]
    simp only [beqT hr, cond_true, impl_walker_col_of_Shred_1_Shred_2.c18]
    cases V with
    | nil =>
      simp only [WS.count_nil k s hs hn hk nums NL hN 1 (by omega) acc, Option.bind_some, beqT (show (0 : Int) = 0 from rfl), cond_true, hmiss rep def_ [] true acc (WS.P_le NL acc _ _ hP (by simp))]
      exact ⟨_, _, _, rfl⟩
    | cons v V =>
      have hV' : V.length ≤ 1048576 := by simp at hV; omega
      have hl20 : 20 * (v :: V).length + 20 = 20 * V.length + 40 := by simp; omega
      rw [hl20] at hP
      simp only [WS.count_cons k s hs hn hk nums NL hN v V hV' 1 acc, Option.bind_some]
      rw [if_neg (by omega)]
      cases hb : cbad v 1 with
      | true =>
        simp only [if_true, beqT (show (0 : Int) = 0 from rfl), cond_true, hmiss rep def_ V true acc (WS.P_le NL acc _ _ hP (by omega)), Option.bind_some]
        exact ⟨_, _, _, rfl⟩
      | false =>
        simp only [Bool.false_eq_true, if_false]
        by_cases hv0 : v.1 = 0
        · rw [if_pos hv0, beqT hv0, cond_true]
          simp only [hmiss rep def_ V false acc (WS.P_le NL acc _ _ hP (by omega)), Option.bind_some]
          rfl
        · rw [if_neg hv0, beqF hv0, cond_false]
          simp only [hd1]
          have g := P rep (def_ + 1) deep V acc (by omega) (by omega) h2 (by omega) hV' (WS.P_le NL acc _ _ hP (by omega))
          cases hr2 : C rep (def_ + 1) deep V with
          | none =>
            rw [hr2] at g
            obtain ⟨nx', V', acc', e⟩ := g
            simp only [WS.Good, e, Option.bind_some]
            exact ⟨_, _, _, rfl⟩
          | some q =>
            obtain ⟨X, W⟩ := q
            rw [hr2] at g
            simp only [WS.Good] at g ⊢
            rw [g]; rfl
  · -- Repeated
    rw [if_neg (by omega)]
    simp only [beqF (show ¬ c.2.2.1 = 1 by omega), beqT hr, cond_true, cond_false]
    cases V with
    | nil =>
      simp only [WS.count_nil k s hs hn hk nums NL hN 20 (by omega) acc, Option.bind_some, beqT (show (0 : Int) = 0 from rfl), cond_true, hmiss rep def_ [] true acc (WS.P_le NL acc _ _ hP (by simp))]
      exact ⟨_, _, _, rfl⟩
    | cons v V =>
      have hV' : V.length ≤ 1048576 := by simp at hV; omega
      have hl20 : 20 * (v :: V).length + 20 = 20 * V.length + 40 := by simp; omega
      rw [hl20] at hP
      simp only [WS.count_cons k s hs hn hk nums NL hN v V hV' 20 acc, Option.bind_some]
      rw [if_pos hr]
      cases hb : cbad v 20 with
      | true =>
        simp only [if_true, beqT (show (0 : Int) = 0 from rfl), cond_true, hmiss rep def_ V true acc (WS.P_le NL acc _ _ hP (by omega)), Option.bind_some]
        exact ⟨_, _, _, rfl⟩
      | false =>
        simp only [Bool.false_eq_true, if_false]
        have hcb := cbad_false hb
        by_cases hv0 : v.1 = 0
        · rw [if_pos hv0, beqT hv0, cond_true]
          simp only [hmiss rep def_ V false acc (WS.P_le NL acc _ _ hP (by omega)), Option.bind_some]
          rfl
        · rw [if_neg hv0, beqF hv0, cond_false]
          simp only [hd1, hp1]
          obtain ⟨n, hn'⟩ : ∃ n : Nat, v.1 = (n : Int) := ⟨v.1.toNat, by omega⟩
          rw [hn', Int.toNat_natCast]
          have g := P rep (def_ + 1) (deep + 1) V acc (by omega) (by omega) (by omega) (by omega) hV' (WS.P_le NL acc _ _ hP (by omega))
          simp only [evPair]
          cases hr2 : C rep (def_ + 1) (deep + 1) V with
          | none =>
            rw [hr2] at g
            obtain ⟨nx', V', acc', e⟩ := g
            simp only [WS.Good, e, Option.bind_some]
            obtain ⟨k', hk'⟩ : ∃ q, k = q + 1 := ⟨k - 1, by omega⟩
            have hbad : impl_walker_col_of_Shred_1_Shred_2.l14 k (impl_walker_body_of_Shred_1_Shred_2.rec k D).1 k (a : Int) def_ (deep + 1) (n : Int) 1 (s, V', true, ((), (), ()), ((), ()), ()) () acc' () nums ((), (), ()) = some ((nx : Int), ((s, V', true, ((), (), ()), ((), ()), ()), (), acc', (), nums, ((), (), ()))) := by
              conv => lhs; arg 3; rw [hk']
              simp only [impl_walker_col_of_Shred_1_Shred_2.l14, csf, Bool.not_true, Bool.and_false, Option.bind_some, cond_false, hca]
            rw [hbad]
            exact ⟨_, _, _, rfl⟩
          | some q =>
            obtain ⟨X, W⟩ := q
            rw [hr2] at g
            simp only [WS.Good] at g
            obtain ⟨g1, g2, _⟩ := hG rep (def_ + 1) (deep + 1) V X W hr2
            have i := WS.items_ok k s hs hn hk nums NL hN (impl_walker_body_of_Shred_1_Shred_2.rec k D).1 a nx hca (C (deep + 1) (def_ + 1) (deep + 1)) (hG _ _ _) rep def_ (deep + 1) n (by omega) hd1
              (fun V acc hV hP => P (deep + 1) (def_ + 1) (deep + 1) V acc (by omega) (by omega) (by omega) (by omega) hV hP) (n - 1) 1 k W (X.foldl (WS.stp nums) acc) (by omega) (by omega) (by omega) (by omega)
              (WS.P_fold k s hs hn hk nums NL hN X acc (20 * W.length + 20) (WS.P_le NL acc _ _ hP (by omega)))
            simp only [g, Option.bind_some]
            cases hr3 : evItems (C (deep + 1) (def_ + 1) (deep + 1)) (n - 1) W with
            | none => rw [hr3] at i; exact i
            | some q2 =>
              obtain ⟨Y, U⟩ := q2
              rw [hr3] at i
              simp only [WS.Good] at i ⊢
              rw [List.foldl_append]
              exact i

theorem WS.parts_ok (d D : Nat) (hd : d ≤ 6) (many : Int) (hm : many ≤ 1000000) (nx : Nat) (hnx : nx ≤ s.length) (rep def_ deep : Int)
    (Q : ∀ pl mid, SubC s d pl mid → mid ≤ s.length → ∀ (V : List TVal) (acc : (List TColumn)), V.length ≤ 1048576 → WS.P NL (20 * V.length + 20) (acc) →
      WS.Good s nums NL (evPart s (evC s d pl) mid pl rep def_ deep V) ((impl_walker_body_of_Shred_1_Shred_2.rec k D).2 (pl : Int) rep def_ deep (s, V, false, ((), (), ()), ((), ()), ()) () acc () nums ((), (), ())) mid acc) :
    ∀ (m pl : Nat) (i : Int) (names : List ByteArray) (f : Nat) (V : List TVal) (acc : (List TColumn)), PartsC (SubC s d) s m pl names nx → many - i = m → 0 ≤ i → m < f → V.length ≤ 1048576 → WS.P NL (20 * V.length + 20) (acc) →
      WS.Good s nums NL (evParts (fun a V => evPart s (evC s d a) (endC s d a) a rep def_ deep V) (endC s d) m pl V) (impl_walker_body_of_Shred_1_Shred_2.l10 k (impl_walker_body_of_Shred_1_Shred_2.rec k D).2 f rep def_ deep (pl : Int) many i (s, V, false, ((), (), ()), ((), ()), ()) () acc () nums ((), (), ())) nx acc := by
  intro m
  induction m with
  | zero =>
    intro pl i names f V acc hp hi h0 hf hV hP
    have hp : pl = nx := hp
    subst hp
    obtain ⟨f, rfl⟩ : ∃ q, f = q + 1 := ⟨f - 1, by omega⟩
    simp only [evParts, WS.Good, impl_walker_body_of_Shred_1_Shred_2.l10, decide_eq_false (show ¬ (i < many) by omega), cond_false, impl_walker_body_of_Shred_1_Shred_2.c14, List.foldl_nil]
  | succ m ih =>
    intro pl i names f V acc hp hi h0 hf hV hP
    obtain ⟨q, mid, q1, q2, q3, q4⟩ := hp
    have hmn := PartsC_nx (SubC_lt d) _ _ _ _ q4
    obtain ⟨f, rfl⟩ : ∃ q, f = q + 2 := ⟨f - 2, by omega⟩
    have hi1 : IntKind.wrap .i64 (i + 1) = i + 1 := w64 (by omega) (by omega)
    have hend : endC s d pl = mid := endC_eq d q3 d (Nat.le_refl _)
    have g := Q pl mid q3 (by omega) V acc hV hP
    have hG : EvG V (evPart s (evC s d pl) mid pl rep def_ deep V) := EvG.part hs (fun r p q V => evC_G hs d pl r p q V) mid pl rep def_ deep V
    rw [show f + 2 = (f + 1) + 1 by rfl]
    simp only [evParts, evPair, hend, impl_walker_body_of_Shred_1_Shred_2.l10, decide_eq_true (show i < many by omega), cond_true, cond_false, hi1]
    cases hr : evPart s (evC s d pl) mid pl rep def_ deep V with
    | none =>
      rw [hr] at g
      obtain ⟨nx', V', acc', e⟩ := g
      simp only [WS.Good, e, Option.bind_some, impl_walker_body_of_Shred_1_Shred_2.c14, cond_true]
      by_cases h2 : i + 1 < many
      · rw [decide_eq_true h2, cond_true]; exact ⟨_, _, _, rfl⟩
      · rw [decide_eq_false h2, cond_false]; exact ⟨_, _, _, rfl⟩
    | some q =>
      obtain ⟨X, W⟩ := q
      rw [hr] at g
      simp only [WS.Good] at g
      obtain ⟨g1, g2, _⟩ := hG X W hr
      have i2 := ih mid (i + 1) _ (f + 1) W (X.foldl (WS.stp nums) acc) q4 (by omega) (by omega) (by omega) (by omega) (WS.P_fold k s hs hn hk nums NL hN X acc (20 * W.length + 20) (WS.P_le NL acc _ _ hP (by omega)))
      simp only [g, Option.bind_some]
      cases hr2 : evParts (fun a V => evPart s (evC s d a) (endC s d a) a rep def_ deep V) (endC s d) m mid W with
      | none => rw [hr2] at i2; exact i2
      | some q2 =>
        obtain ⟨Y, U⟩ := q2
        rw [hr2] at i2
        simp only [WS.Good] at i2 ⊢
        rw [List.foldl_append]
        exact i2

theorem WS.body_ok : ∀ (d D a nx : Nat), SubC s d a nx → nx ≤ s.length → d ≤ 6 → 2 * d ≤ D → ∀ (rep def_ deep : Int) (V : List TVal) (acc : (List TColumn)), 0 ≤ def_ → def_ + d ≤ 1001 → 0 ≤ deep → deep + d ≤ 1001 → V.length ≤ 1048576 → WS.P NL (20 * V.length + 20) (acc) →
    WS.Good s nums NL (evC s d a rep def_ deep V) ((impl_walker_body_of_Shred_1_Shred_2.rec k D).1 (a : Int) rep def_ deep (s, V, false, ((), (), ()), ((), ()), ()) () acc () nums ((), (), ())) nx acc := by
  intro d
  induction d with
  | zero => intro D a nx h; exact h.elim
  | succ d ih =>
    intro D a nx h hnx hd hD rep def_ deep V acc h0 h1 h2 h3 hV hP
    obtain ⟨D, rfl⟩ : ∃ q, D = q + 2 := ⟨D - 2, by omega⟩
    have hlt := SubC_lt _ _ _ h
    obtain ⟨c, hc, hco, _, hp⟩ := h
    have hcm := (hn c (List.mem_of_getElem? hc)).2.2
    have ha1 : IntKind.wrap .i64 ((a : Int) + 1) = ((a + 1 : Nat) : Int) := by rw [w64 (by omega) (by omega)]; omega
    have hmp := PartsC_le (SubC_lt d) _ _ _ _ hp
    by_cases h7 : c.2.1 = 7
    · have hmn : 0 ≤ c.2.2.2.1 := by
        unfold colOk at hco
        rw [h7, tyOk_7] at hco
        simp at hco
        omega
      have key := WS.parts_ok k s hs hn hk nums NL hN d (D + 1) (by omega) c.2.2.2.1 (by omega) nx hnx rep def_ deep
        (fun pl mid hs1 hm1 V acc hV hP => WS.part_ok k s hs hn hk nums NL hN d D pl mid hs1 (by omega) hm1 rep def_ deep h0 (by omega) h2 (by omega)
          (fun r q p V acc q0 q1 q2 q3 hV hP => ih D pl mid hs1 hm1 (by omega) (by omega) r q p V acc q0 (by omega) q2 (by omega) hV hP) V acc hV hP) c.2.2.2.1.toNat (a + 1) 0 [] k V acc hp (by omega) (by omega) (by omega) hV hP
      have e : (impl_walker_body_of_Shred_1_Shred_2.rec k (D + 2)).1 (a : Int) rep def_ deep (s, V, false, ((), (), ()), ((), ()), ()) () acc () nums ((), (), ()) = impl_walker_body_of_Shred_1_Shred_2.l10 k (impl_walker_body_of_Shred_1_Shred_2.rec k (D + 1)).2 k rep def_ deep ((a + 1 : Nat) : Int) c.2.2.2.1 0 (s, V, false, ((), (), ()), ((), ()), ()) () acc () nums ((), (), ()) := by
        rw [show D + 2 = (D + 1) + 1 from rfl]
        simp only [impl_walker_body_of_Shred_1_Shred_2.rec, impl_walker_body_of_Shred_1_Shred_2.b, rdL_nat, hc, Option.bind_some, bneF h7, cond_false, ha1]
      rw [e]
      simp only [evC, hc]
      rw [if_pos h7]
      exact key
    · have hm0 : c.2.2.2.1.toNat = 0 := by
        unfold colOk at hco
        rw [beqF h7] at hco
        simp at hco
        omega
      rw [hm0] at hp
      have hp : a + 1 = nx := hp
      subst hp
      rw [show D + 2 = (D + 1) + 1 from rfl]
      simp only [evC, impl_walker_body_of_Shred_1_Shred_2.rec, impl_walker_body_of_Shred_1_Shred_2.b, rdL_nat, hc, Option.bind_some, bneT h7, cond_true]
      rw [if_neg h7]
      cases V with
      | nil =>
        simp only [WS.next_nil k s hs hn hk nums NL hN acc, Option.bind_some, impl_walker_body_of_Shred_1_Shred_2.d3, Bool.not_true, cond_false, impl_walker_body_of_Shred_1_Shred_2.c5, impl_walker_body_of_Shred_1_Shred_2.c7]
        exact ⟨_, _, _, rfl⟩
      | cons v V =>
        have hV' : V.length ≤ 1048576 := by simp at hV; omega
        have hle := WS.leaf_ok k s nums NL hN a rep def_ v acc (20 * V.length + 39) (WS.P_le NL acc _ _ hP (by simp; omega)) (by omega) (fun c' h' => by rw [hc] at h'; cases h'; exact h7)
        simp only [WS.next_cons k s hs hn hk nums NL hN v V hV' acc, Option.bind_some, impl_walker_body_of_Shred_1_Shred_2.d3, Bool.not_false, cond_true, rdL_nat, hc, valOk_eq]
        cases hvo : vok c.2.1 v with
        | false =>
          simp only [Bool.not_false, cond_true, impl_walker_body_of_Shred_1_Shred_2.c5, Bool.not_true, cond_false, impl_walker_body_of_Shred_1_Shred_2.c7, Bool.false_eq_true, if_false]
          exact ⟨_, _, _, rfl⟩
        | true =>
          simp only [Bool.not_true, cond_false, impl_walker_body_of_Shred_1_Shred_2.c5, Bool.not_false, cond_true, hle, Option.bind_some, impl_walker_body_of_Shred_1_Shred_2.c7, ha1, if_true]
          rfl

theorem WS.walk_ok (hS : SubC s 6 0 s.length) (c0 : TCol) (hc0 : s[0]? = some c0) (h7 : c0.2.1 = 7) (hm0 : 0 < c0.2.2.2.1) (V : List TVal) (acc : (List TColumn)) (hP : WS.P NL (6020) (acc)) :
    (∀ X, V.length ≤ 300 → evC s 6 0 0 0 0 V = some (X, []) → impl_walk_of_Shred_1_Shred_2 k s (V, ()) ((), (), ()) ((), ()) () acc () nums ((), (), ()) = some ((true, (), (X.foldl (WS.stp nums) acc), (), nums, ((), (), ())))) ∧
    ((V.length ≤ 300 → ∀ X, evC s 6 0 0 0 0 V ≠ some (X, [])) → ∃ acc' : (List TColumn), impl_walk_of_Shred_1_Shred_2 k s (V, ()) ((), (), ()) ((), ()) () acc () nums ((), (), ()) = some ((false, (), acc', (), nums, ((), (), ())))) := by
  obtain ⟨k', hk'⟩ : ∃ q, k = q + 2 := ⟨k - 2, by omega⟩
  have hb : V.length ≤ 300 → WS.Good s nums NL (evC s 6 0 0 0 0 V) (impl_walker_body_of_Shred_1_Shred_2 k 0 0 0 0 (s, V, false, ((), (), ()), ((), ()), ()) () acc () nums ((), (), ())) s.length acc := fun h300 =>
    WS.body_ok k s hs hn hk nums NL hN 6 k 0 s.length hS (Nat.le_refl _) (by omega) (by omega) 0 0 0 V acc (by omega) (by omega) (by omega) (by omega) (by omega) (WS.P_le NL acc _ _ hP (by omega))
  refine ⟨fun X h300 he => ?_, fun hno => ?_⟩
  · have g := hb h300
    rw [he] at g
    have g : impl_walker_body_of_Shred_1_Shred_2 k 0 0 0 0 (s, V, false, ((), (), ()), ((), ()), ()) () acc () nums ((), (), ()) = some ((s.length : Int), ((s, [], false, ((), (), ()), ((), ()), ()), (), (X.foldl (WS.stp nums) acc), (), nums, ((), (), ()))) := g
    unfold impl_walk_of_Shred_1_Shred_2
    simp only [decide_eq_false (show ¬ (V.length : Int) > 300 by omega), g, Option.bind_some, Bool.not_false, cond_true, List.length_nil]
    rfl
  · by_cases h300 : V.length ≤ 300
    · have g := hb h300
      unfold impl_walk_of_Shred_1_Shred_2
      simp only [decide_eq_false (show ¬ (V.length : Int) > 300 by omega)]
      cases he : evC s 6 0 0 0 0 V with
      | none =>
        rw [he] at g
        obtain ⟨nx', V', acc', g⟩ := g
        simp only [g, Option.bind_some, Bool.not_true, cond_false]
        exact ⟨_, rfl⟩
      | some q =>
        obtain ⟨X, W⟩ := q
        rw [he] at g
        have g : impl_walker_body_of_Shred_1_Shred_2 k 0 0 0 0 (s, V, false, ((), (), ()), ((), ()), ()) () acc () nums ((), (), ()) = some ((s.length : Int), ((s, W, false, ((), (), ()), ((), ()), ()), (), (X.foldl (WS.stp nums) acc), (), nums, ((), (), ()))) := g
        have hW : ((W.length : Int) == 0) = false := beqF (fun h0 => hno h300 X (by
          have : W = [] := List.eq_nil_of_length_eq_zero (by omega)
          rw [he, this]))
        simp only [g, Option.bind_some, Bool.not_false, cond_true, hW]
        exact ⟨_, rfl⟩
    · have hr0 : rdL s 0 = some c0 := hc0
      have e : impl_walker_body_of_Shred_1_Shred_2 k 0 0 0 0 (s, V, true, ((), (), ()), ((), ()), ()) () acc () nums ((), (), ()) = some (1, ((s, V, true, ((), (), ()), ((), ()), ()), (), acc, (), nums, ((), (), ()))) := by
        show impl_walker_body_of_Shred_1_Shred_2.d k k 0 0 0 0 (s, V, true, ((), (), ()), ((), ()), ()) () acc () nums ((), (), ()) = _
        unfold impl_walker_body_of_Shred_1_Shred_2.d
        conv => lhs; arg 1; arg 2; rw [hk']
        conv => lhs; rw [show impl_walker_body_of_Shred_1_Shred_2.rec k (k' + 2) = (_, _) from rfl]
        obtain ⟨k2, hk2⟩ : ∃ q, k = q + 1 := ⟨k - 1, by omega⟩
        simp only [impl_walker_body_of_Shred_1_Shred_2.b, hr0, Option.bind_some, bneF h7, cond_false]
        conv => lhs; arg 3; rw [hk2]
        simp only [impl_walker_body_of_Shred_1_Shred_2.l10, decide_eq_true hm0, cond_true, impl_walker_body_of_Shred_1_Shred_2.c14]
        rfl
      unfold impl_walk_of_Shred_1_Shred_2
      simp only [decide_eq_true (show (V.length : Int) > 300 by omega), e, Option.bind_some, Bool.not_true, cond_false]
      exact ⟨_, rfl⟩
end

end Go.Law
end

section
/- Each leaf knows its number. -/
set_option linter.unusedVariables false
set_option linter.unusedSimpArgs false
set_option linter.unusedSectionVars false
namespace Go.Law
open Go.Am Go.Fn

section
variable (k : Nat) (s : List TCol) (hs : s.length ≤ 20) (hk : 2000000 ≤ k)
include hs hk

theorem leafNumbers_eq : ∃ nums, impl_leafNumbers k s = some ((), nums) ∧ ∀ (a : Nat) (c : TCol), s[a]? = some c → c.2.1 ≠ 7 → rdL nums (a : Int) = some (lnum s a : Int) := by
  obtain ⟨v1, _⟩ := leaves_eq k (by omega) s (by omega)
  have hll := leavesFrom_len 0 s
  generalize hlv : leavesFrom 0 s = lv at v1 hll
  have key : ∀ (m i f : Nat) (nums : List Int), lv.length = i + m → m < f → nums.length = s.length → (∀ (j : Nat) (a : Nat), j < i → lv[j]? = some (a : Int) → nums[a]? = some (j : Int)) →
      ∃ nums', impl_leafNumbers.l3 k f (lv.length : Int) (i : Int) nums lv = some ((), nums') ∧ (∀ (j : Nat) (a : Nat), j < lv.length → lv[j]? = some (a : Int) → nums'[a]? = some (j : Int)) := by
    intro m
    induction m with
    | zero =>
      intro i f nums h hf hl hh
      obtain ⟨f, rfl⟩ : ∃ q, f = q + 1 := ⟨f - 1, by omega⟩
      simp only [impl_leafNumbers.l3, decide_eq_false (show ¬ ((i : Int) < (lv.length : Int)) by omega), cond_false]
      exact ⟨_, rfl, fun j a hj => hh j a (by omega)⟩
    | succ m ih =>
      intro i f nums h hf hl hh
      obtain ⟨f, rfl⟩ : ∃ q, f = q + 1 := ⟨f - 1, by omega⟩
      have hi : i < lv.length := by omega
      have hg := List.getElem?_eq_getElem hi
      obtain ⟨a, e1, _, e3, c, e4, e5⟩ := leavesFrom_get s [] s rfl i _ (by rw [← hg, ← hlv]; rfl)
      have ha : a < nums.length := by rw [hl]; exact (List.getElem?_eq_some_iff.1 e4).1
      have h1 : IntKind.wrap .i64 ((i : Int) + 1) = ((i + 1 : Nat) : Int) := by rw [w64 (by omega) (by omega)]; omega
      simp only [impl_leafNumbers.l3, decide_eq_true (show (i : Int) < (lv.length : Int) by omega), cond_true, rdL_nat, hg, Option.bind_some, e1, List.getElem?_eq_getElem ha, Int.toNat_natCast, h1]
      refine ih (i + 1) f _ (by omega) (by omega) (by simpa using hl) ?_
      intro j b hj hb
      rw [List.getElem?_set]
      by_cases hab : a = b
      · subst hab
        have hji : j = i := by
          obtain ⟨b', f1, _, f3, d, f4, f5⟩ := leavesFrom_get s [] s rfl j _ (by rw [← hb, ← hlv]; rfl)
          have : b' = a := by omega
          subst this
          have e3 : lnum s b' = 0 + i := e3
          have f3 : lnum s b' = 0 + j := f3
          omega
        rw [if_pos rfl, if_pos ha, hji]
      · rw [if_neg hab]
        rcases Nat.lt_or_ge j i with q | q
        · exact hh j b q hb
        · have hji : j = i := by omega
          subst hji
          rw [hg] at hb
          simp only [Option.some.injEq] at hb
          omega
  have hok : okLen (s.length : Int) = true := okLen_ok (by omega) (by omega)
  obtain ⟨nums', q1, q2⟩ := key lv.length 0 k (List.replicate (Int.toNat (s.length : Int)) 0) (by omega) (by omega) (by simp) (fun j a hj => by omega)
  unfold impl_leafNumbers
  rw [hok, cond_true, v1]
  simp only [Option.bind_some]
  refine ⟨nums', q1, fun a c hc h7 => ?_⟩
  have hat := leaves_at hc h7
  rw [hlv] at hat
  rw [rdL_nat]
  exact q2 _ a (List.getElem?_eq_some_iff.1 hat).1 hat
end

end Go.Law
end

section
/- Shred: the program's is the reference's. -/
set_option linter.unusedVariables false
set_option linter.unusedSimpArgs false
set_option linter.unusedSectionVars false
namespace Go.Law
open Go.Am Go.Fn

/-! ### columns are triples -/
abbrev colOf (x : List TTriple) : TColumn := (x, ())
theorem stp_col {s : List TCol} {nums : List Int} (hN : ∀ (a : Nat) (c : TCol), s[a]? = some c → c.2.1 ≠ 7 → rdL nums (a : Int) = some (lnum s a : Int)) (T : TT) (e : Ev) (he : ∃ c, s[e.at_]? = some c ∧ c.2.1 ≠ 7) :
    WS.stp nums (T.map colOf) e = (sstp s T e).map colOf := by
  obtain ⟨c, hc, h7⟩ := he
  unfold WS.stp sstp
  rw [hN _ c hc h7]
  simp only [Int.toNat_natCast, List.getElem?_map]
  cases T[lnum s e.at_]? with
  | none => rfl
  | some x => simp only [Option.map_some, List.map_set]
theorem fold_col {s : List TCol} {nums : List Int} (hN : ∀ (a : Nat) (c : TCol), s[a]? = some c → c.2.1 ≠ 7 → rdL nums (a : Int) = some (lnum s a : Int)) : ∀ (X : List Ev) (T : TT), evLeaf s X →
    X.foldl (WS.stp nums) (T.map colOf) = (X.foldl (sstp s) T).map colOf
  | [], T, _ => rfl
  | e :: X, T, h => by
    rw [List.foldl_cons, List.foldl_cons, stp_col hN T e (h e (List.mem_cons_self ..))]
    exact fold_col hN X _ (fun e' he' => h e' (List.mem_cons_of_mem _ he'))

def recsEv (s : List TCol) : List TRec → Option (List Ev)
  | [] => some []
  | r :: R => match recEv s r.1 with
    | none => none
    | some X => match recsEv s R with
      | none => none
      | some Y => some (X ++ Y)

def small (T : TT) : Bool := T.all fun x => decide (x.length ≤ 2000)
def emptyT (s : List TCol) : TT := List.replicate (lnum s s.length) []
def shr (s : List TCol) (R : List TRec) : Option TT :=
  match recsEv s R with
  | none => none
  | some X => let T := X.foldl (sstp s) (emptyT s)
    if small T = true then some T else none
def shrOut (r : Option TT) : (Unit × Bool) × List TColumn := match r with
  | none => (((), false), [])
  | some T => (((), true), T.map colOf)

section
variable (k : Nat) (s : List TCol) (hn : ∀ c, c ∈ s → c.1.size < k ∧ c.1.size < 1000000000 ∧ I64 c.2.2.2.1) (hk : 2000000 ≤ k)
include hn hk

theorem sl12_ok (T : TT) (hT : T.length ≤ 20) : ∀ (post pre : TT) (f : Nat), T = pre ++ post → post.length < f →
    spec_Shred.l12 k f T (pre.length : Int) (pre.map colOf) = some (if small post = true then (((), true), T.map colOf) else (((), false), [])) := by
  intro post
  induction post with
  | nil =>
    intro pre f h hf
    obtain ⟨f, rfl⟩ : ∃ q, f = q + 1 := ⟨f - 1, by omega⟩
    rw [List.append_nil] at h
    subst h
    simp only [spec_Shred.l12, decide_eq_false (show ¬ ((T.length : Int) < (T.length : Int)) by omega), cond_false]
    rfl
  | cons x post ih =>
    intro pre f h hf
    simp only [List.length_cons] at hf
    obtain ⟨f, rfl⟩ : ∃ q, f = q + 1 := ⟨f - 1, by omega⟩
    have hlen : T.length = pre.length + (post.length + 1) := by rw [h]; simp
    have hg : rdL T (pre.length : Int) = some x := by rw [h]; exact getMid _ _ _
    have hi1 : IntKind.wrap .i64 ((pre.length : Int) + 1) = ((pre.length + 1 : Nat) : Int) := by rw [w64 (by omega) (by omega)]; omega
    simp only [spec_Shred.l12, decide_eq_true (show (pre.length : Int) < (T.length : Int) by omega), cond_true, hg, Option.bind_some]
    by_cases hx : x.length ≤ 2000
    · rw [decide_eq_false (show ¬ ((x.length : Int) > 2000) by omega), cond_false, hi1, lim_ok (by simp; omega), cond_true]
      have := ih (pre ++ [x]) f (by rw [h]; simp) (by omega)
      rw [List.length_append, List.length_singleton] at this
      have e : pre.map colOf ++ [(x, ())] = (pre ++ [x]).map colOf := by simp
      rw [e, this]
      have : small (x :: post) = small post := by simp [small, hx]
      rw [this]
    · rw [decide_eq_true (show ((x.length : Int) > 2000) by omega), cond_true]
      have : small (x :: post) = false := by simp [small, hx]
      rw [this]; rfl

theorem il14_ok (T : TT) (hT : T.length ≤ 20) : ∀ (post pre : TT) (f : Nat), T = pre ++ post → post.length < f →
    impl_Shred.l14 k f (T.length : Int) (pre.length : Int) () (T.map colOf) = some (if small post = true then (((), true), T.map colOf) else (((), false), [])) := by
  intro post
  induction post with
  | nil =>
    intro pre f h hf
    obtain ⟨f, rfl⟩ : ∃ q, f = q + 1 := ⟨f - 1, by omega⟩
    rw [List.append_nil] at h
    subst h
    simp only [impl_Shred.l14, decide_eq_false (show ¬ ((T.length : Int) < (T.length : Int)) by omega), cond_false]
    rfl
  | cons x post ih =>
    intro pre f h hf
    simp only [List.length_cons] at hf
    obtain ⟨f, rfl⟩ : ∃ q, f = q + 1 := ⟨f - 1, by omega⟩
    have hlen : T.length = pre.length + (post.length + 1) := by rw [h]; simp
    have hg : rdL (T.map colOf) (pre.length : Int) = some (colOf x) := by rw [h, List.map_append, List.map_cons]; have := getMid (pre.map colOf) (post.map colOf) (colOf x); rwa [List.length_map] at this
    have hi1 : IntKind.wrap .i64 ((pre.length : Int) + 1) = ((pre.length + 1 : Nat) : Int) := by rw [w64 (by omega) (by omega)]; omega
    simp only [impl_Shred.l14, decide_eq_true (show (pre.length : Int) < (T.length : Int) by omega), cond_true, hg, Option.bind_some]
    by_cases hx : x.length ≤ 2000
    · rw [decide_eq_false (show ¬ ((x.length : Int) > 2000) by omega), cond_false, hi1]
      have := ih (pre ++ [x]) f (by rw [h]; simp) (by omega)
      rw [List.length_append, List.length_singleton] at this
      rw [this]
      have : small (x :: post) = small post := by simp [small, hx]
      rw [this]
    · rw [decide_eq_true (show ((x.length : Int) > 2000) by omega), cond_true]
      have : small (x :: post) = false := by simp [small, hx]
      rw [this]; rfl

theorem sl6_ok (hok : spec_SchemaOk k s = some true) (hS : IsSchema s) (R : List TRec) (hR : R.length ≤ 200) :
    ∀ (post pre : List TRec) (f : Nat) (T : TT), R = pre ++ post → post.length < f → SP s (6000 * post.length) T →
    spec_Shred.l6 k f s R (pre.length : Int) [] T = some (match recsEv s post with
      | none => (((), false), [])
      | some X => if small (X.foldl (sstp s) T) = true then (((), true), (X.foldl (sstp s) T).map colOf) else (((), false), [])) := by
  intro post
  induction post with
  | nil =>
    intro pre f T h hf hT
    obtain ⟨f, rfl⟩ : ∃ q, f = q + 1 := ⟨f - 1, by omega⟩
    rw [List.append_nil] at h
    subst h
    have hl := lnum_le s s.length
    have := hS.2.1
    have hTl := hT.1
    simp only [spec_Shred.l6, decide_eq_false (show ¬ ((R.length : Int) < (R.length : Int)) by omega), cond_false, recsEv, List.foldl_nil]
    exact sl12_ok k s hn hk T (by omega) T [] k rfl (by omega)
  | cons r post ih =>
    intro pre f T h hf hT
    simp only [List.length_cons] at hf hT
    obtain ⟨f, rfl⟩ : ∃ q, f = q + 1 := ⟨f - 1, by omega⟩
    have hlen : R.length = pre.length + (post.length + 1) := by rw [h]; simp
    have hg : rdL R (pre.length : Int) = some r := by rw [h]; exact getMid _ _ _
    have hi1 : IntKind.wrap .i64 ((pre.length : Int) + 1) = ((pre.length + 1 : Nat) : Int) := by rw [w64 (by omega) (by omega)]; omega
    obtain ⟨b, e1, e2, e3, e4, e5⟩ := recOk_eq k hk s hn r.1
    have hb : b = true := by
      rw [hok] at e1
      simpa using e1.symm
    subst hb
    have e4 : spec_RecOk k s r = some (true && (recEv s r.1).isSome) := e4
    simp only [spec_Shred.l6, decide_eq_true (show (pre.length : Int) < (R.length : Int) by omega), cond_true, hg, Option.bind_some, e4, Bool.true_and, recsEv]
    cases hr : recEv s r.1 with
    | none => rfl
    | some X =>
      obtain ⟨x1, x2⟩ := recEv_some hr
      have x3 := recEv_len hS.2.1 hr
      have hT' : SP s (6000 * post.length + X.length) T := hT.le (by omega)
      simp only [Option.isSome_some, Bool.not_true, cond_false, sshred_whole k s hS.2.1 hn hk r.1 (by omega) hS.2.2.1 X x2 T (6000 * post.length) hT', Option.bind_some, hi1]
      have := ih (pre ++ [r]) f (X.foldl (sstp s) T) (by rw [h]; simp) (by omega) (SP.fold X T _ hT')
      rw [List.length_append, List.length_singleton] at this
      rw [this]
      cases recsEv s post with
      | none => rfl
      | some Y => simp only [List.foldl_append]

theorem il8_ok (hS : IsSchema s) (nums : List Int) (hN : ∀ (a : Nat) (c : TCol), s[a]? = some c → c.2.1 ≠ 7 → rdL nums (a : Int) = some (lnum s a : Int)) (R : List TRec) (hR : R.length ≤ 200) :
    ∀ (post pre : List TRec) (f : Nat) (T : TT), R = pre ++ post → post.length < f → SP s (6000 * post.length + 100000000) T →
    impl_Shred.l8 k f s ((), ()) R (R.length : Int) (pre.length : Int) () ((), (), ()) (T.map colOf) () nums = some (match recsEv s post with
      | none => (((), false), [])
      | some X => if small (X.foldl (sstp s) T) = true then (((), true), (X.foldl (sstp s) T).map colOf) else (((), false), [])) := by
  intro post
  induction post with
  | nil =>
    intro pre f T h hf hT
    obtain ⟨f, rfl⟩ : ∃ q, f = q + 1 := ⟨f - 1, by omega⟩
    rw [List.append_nil] at h
    subst h
    have hl := lnum_le s s.length
    have := hS.2.1
    have hTl := hT.1
    simp only [impl_Shred.l8, decide_eq_false (show ¬ ((R.length : Int) < (R.length : Int)) by omega), cond_false, recsEv, List.foldl_nil, List.length_map]
    exact il14_ok k s hn hk T (by omega) T [] k rfl (by omega)
  | cons r post ih =>
    intro pre f T h hf hT
    simp only [List.length_cons] at hf hT
    obtain ⟨f, rfl⟩ : ∃ q, f = q + 1 := ⟨f - 1, by omega⟩
    have hlen : R.length = pre.length + (post.length + 1) := by rw [h]; simp
    have hg : rdL R (pre.length : Int) = some r := by rw [h]; exact getMid _ _ _
    have hi1 : IntKind.wrap .i64 ((pre.length : Int) + 1) = ((pre.length + 1 : Nat) : Int) := by rw [w64 (by omega) (by omega)]; omega
    obtain ⟨c0, hc0, h7, hm0⟩ := schema_top hS
    have hw := WS.walk_ok k s hS.2.1 hn hk nums (lnum s s.length) (fun a ha hc => by
      have hg := List.getElem?_eq_getElem ha
      exact ⟨_, hN a _ hg (hc _ hg), lnum_lt hg (hc _ hg)⟩) hS.2.2.1 c0 hc0 h7 hm0 r.1 (T.map colOf) ⟨by rw [List.length_map]; exact hT.1, fun j x hx => by
        rw [List.getElem?_map] at hx
        cases hj : T[j]? with
        | none => rw [hj] at hx; cases hx
        | some y =>
          rw [hj] at hx
          simp only [Option.map_some, Option.some.injEq] at hx
          subst hx
          have h1 := hT.2 j y hj
          have h2 : 6020 ≤ 6000 * (post.length + 1) + 100000000 := Nat.le_trans (Nat.le_of_ble_eq_true rfl : 6020 ≤ 100000000) (Nat.le_add_left _ _)
          exact Nat.le_trans (Nat.add_le_add_left h2 _) h1⟩
    simp only [impl_Shred.l8, decide_eq_true (show (pre.length : Int) < (R.length : Int) by omega), cond_true, hg, Option.bind_some, recsEv]
    cases hr : recEv s r.1 with
    | none =>
      obtain ⟨acc', q⟩ := hw.2 (recEv_none hr)
      have q : impl_walk_of_Shred_1_Shred_2 k s r ((), (), ()) ((), ()) () (T.map colOf) () nums ((), (), ()) = _ := q
      rw [q]; rfl
    | some X =>
      obtain ⟨x1, x2⟩ := recEv_some hr
      have x3 := recEv_len hS.2.1 hr
      have q := hw.1 X x1 x2
      have q : impl_walk_of_Shred_1_Shred_2 k s r ((), (), ()) ((), ()) () (T.map colOf) () nums ((), (), ()) = _ := q
      rw [fold_col hN X T (recEv_leaf hr)] at q
      have hT' : SP s (6000 * post.length + 100000000 + X.length) T := hT.le (by omega)
      simp only [q, Option.bind_some, Bool.not_true, cond_false, hi1]
      have := ih (pre ++ [r]) f (X.foldl (sstp s) T) (by rw [h]; simp) (by omega) (SP.fold X T _ hT')
      rw [List.length_append, List.length_singleton] at this
      rw [this]
      cases recsEv s post with
      | none => rfl
      | some Y => simp only [List.foldl_append]

theorem shred_eq (R : List TRec) :
    ∃ b, spec_SchemaOk k s = some b ∧ impl_SchemaOk k s = some b ∧ (b = true → IsSchema s) ∧
      spec_Shred k s R = some (if b = true ∧ R.length ≤ 200 then shrOut (shr s R) else (((), false), [])) ∧
      impl_Shred k s R = some (if b = true ∧ R.length ≤ 200 then shrOut (shr s R) else (((), false), [])) := by
  obtain ⟨b, h1, h2, h3⟩ := schemaOk_eq k (by omega) s hn
  refine ⟨b, h1, h2, fun h => (h3 h).1, ?_⟩
  unfold spec_Shred impl_Shred
  rw [h1, h2]
  simp only [Option.bind_some]
  cases b with
  | false =>
    simp only [Bool.not_false, cond_true, Option.bind_some, Bool.false_eq_true, false_and, if_false]
    trivial
  | true =>
    have hS := (h3 rfl).1
    simp only [Bool.not_true, cond_false, Option.bind_some, true_and]
    by_cases hR : R.length ≤ 200
    · rw [decide_eq_false (show ¬ ((R.length : Int) > 200) by omega), cond_false, cond_false, if_pos hR]
      obtain ⟨v1, v2⟩ := leaves_eq k (by omega) s (by have := hS.2.1; omega)
      have hl : (leavesFrom 0 s).length = lnum s s.length := leavesFrom_lnum s [] s rfl
      have hle := lnum_le s s.length
      have hs20 := hS.2.1
      obtain ⟨nums, n1, n2⟩ := leafNumbers_eq k s hs20 hk
      rw [v1, v2, n1]
      simp only [Option.bind_some]
      rw [okLen_ok (by omega) (by omega), cond_true, cond_true, hl, Int.toNat_natCast]
      have hT : SP s (6000 * R.length + 100000000) (emptyT s) := ⟨by simp [emptyT], fun j x hx => by
        unfold emptyT at hx
        rw [List.getElem?_replicate] at hx
        split at hx
        · cases hx; simp; omega
        · cases hx⟩
      have a1 := sl6_ok k s hn hk h1 hS R hR R [] k (emptyT s) rfl (by omega) (hT.le (by omega))
      have a2 := il8_ok k s hn hk hS nums n2 R hR R [] k (emptyT s) rfl (by omega) hT
      have ee : List.replicate (lnum s s.length) (([], ()) : TColumn) = (emptyT s).map colOf := by simp [emptyT]
      have a1 : spec_Shred.l6 k k s R 0 [] (List.replicate (lnum s s.length) []) = _ := a1
      rw [a1, ee]
      have a2 : impl_Shred.l8 k k s ((), ()) R (R.length : Int) 0 () ((), (), ()) ((emptyT s).map colOf) () nums = _ := a2
      rw [a2]
      unfold shr
      cases recsEv s R with
      | none => exact ⟨rfl, rfl⟩
      | some X =>
        simp only
        by_cases hsm : small (X.foldl (sstp s) (emptyT s)) = true
        · rw [if_pos hsm, if_pos hsm]; exact ⟨rfl, rfl⟩
        · rw [if_neg hsm, if_neg hsm]; exact ⟨rfl, rfl⟩
    · rw [decide_eq_true (show ((R.length : Int) > 200) by omega), cond_true, cond_true, if_neg hR]
      exact ⟨rfl, rfl⟩
end
end Go.Law
end

section
/- A column of records: what is come to at its leaf. -/
set_option linter.unusedVariables false
set_option linter.unusedSimpArgs false
namespace Go.Law
open Go.Am Go.Fn

abbrev trip (e : Ev) : TTriple := (e.rep, e.def_, e.v, ())
def evAt (L : Nat) (X : List Ev) : List Ev := X.filter fun e => e.at_ == L
theorem evAt_append (L : Nat) (X Y : List Ev) : evAt L (X ++ Y) = evAt L X ++ evAt L Y := by simp [evAt]
theorem evAt_mem {L : Nat} {X : List Ev} {e : Ev} (h : e ∈ evAt L X) : e ∈ X ∧ e.at_ = L := by
  unfold evAt at h
  rw [List.mem_filter] at h
  exact ⟨h.1, by simpa using h.2⟩
theorem colT {s : List TCol} {L : Nat} {c : TCol} (hc : s[L]? = some c) (h7 : c.2.1 ≠ 7) : ∀ (X : List Ev) (T : TT) (x : List TTriple), evLeaf s X → T[lnum s L]? = some x → (X.foldl (sstp s) T)[lnum s L]? = some (x ++ (evAt L X).map trip)
  | [], T, x, _, h => by simp [evAt, h]
  | e :: X, T, x, hl, h => by
    rw [List.foldl_cons]
    obtain ⟨ce, h1, h2⟩ := hl e (List.mem_cons_self ..)
    have hl' : evLeaf s X := fun e' he' => hl e' (List.mem_cons_of_mem _ he')
    have e1 : evAt L (e :: X) = evAt L [e] ++ evAt L X := evAt_append L [e] X
    by_cases hat : e.at_ = L
    · have hs : (sstp s T e)[lnum s L]? = some (x ++ [trip e]) := by
        unfold sstp
        rw [hat, h]
        simp only
        rw [List.getElem?_set_self (List.getElem?_eq_some_iff.1 h).1]
      rw [colT hc h7 X _ _ hl' hs, e1]
      have : evAt L [e] = [e] := by simp [evAt, hat]
      rw [this]
      simp
    · have hs : (sstp s T e)[lnum s L]? = some x := by
        unfold sstp
        split
        · exact h
        · rw [List.getElem?_set_ne (fun hh => hat (lnum_inj h1 hc h2 h7 hh))]
          exact h
      rw [colT hc h7 X _ _ hl' hs, e1]
      have : evAt L [e] = [] := by simp [evAt, hat]
      rw [this, List.nil_append]

theorem sfold_len (s : List TCol) : ∀ (X : List Ev) (T : TT), (X.foldl (sstp s) T).length = T.length
  | [], T => rfl
  | e :: X, T => by
    rw [List.foldl_cons, sfold_len s X]
    unfold sstp
    split
    · rfl
    · simp

theorem recsEv_leaf {s : List TCol} : ∀ (R : List TRec) (X : List Ev), recsEv s R = some X → evLeaf s X
  | [], X, h => by
    simp only [recsEv, Option.some.injEq] at h
    subst h
    exact fun e he => by cases he
  | r :: R, X, h => by
    simp only [recsEv] at h
    split at h
    · cases h
    · rename_i Y hY
      split at h
      · cases h
      · rename_i Z hZ
        simp only [Option.some.injEq] at h
        subst h
        exact evLeaf_append (recEv_leaf hY) (recsEv_leaf R Z hZ)
theorem recsEv_ok {s : List TCol} (hS : IsSchema s) : ∀ (R : List TRec) (X : List Ev), recsEv s R = some X → (∀ e, e ∈ X → EvOk s 0 s.length 0 e) ∧ X.length ≤ 6000 * R.length
  | [], X, h => by
    simp only [recsEv, Option.some.injEq] at h
    subst h
    exact ⟨fun e he => (by cases he), by simp⟩
  | r :: R, X, h => by
    simp only [recsEv] at h
    split at h
    · cases h
    · rename_i Y hY
      split at h
      · cases h
      · rename_i Z hZ
        simp only [Option.some.injEq] at h
        subst h
        obtain ⟨a1, a2⟩ := recsEv_ok hS R Z hZ
        have := recEv_len hS.2.1 hY
        have := (recEv_some hY).1
        refine ⟨fun e he => (List.mem_append.1 he).elim (recEv_ok hS hY e) (a1 e), ?_⟩
        rw [List.length_append, List.length_cons]; omega

theorem shr_some {s : List TCol} {R : List TRec} {T : TT} (h : shr s R = some T) : ∃ X, recsEv s R = some X ∧ T = X.foldl (sstp s) (emptyT s) ∧ T.length = lnum s s.length ∧ ∀ x, x ∈ T → x.length ≤ 2000 := by
  unfold shr at h
  split at h
  · cases h
  · rename_i X hX
    simp only at h
    split at h
    · rename_i hsm
      simp only [Option.some.injEq] at h
      subst h
      refine ⟨X, hX, rfl, ?_, fun x hx => ?_⟩
      · rw [sfold_len]; simp [emptyT]
      · have := List.all_eq_true.1 hsm x hx
        simpa using this
    · cases h

theorem shr_col {s : List TCol} {R : List TRec} {T : TT} {X : List Ev} (h : shr s R = some T) (hX : recsEv s R = some X) {L : Nat} {c : TCol} (hc : s[L]? = some c) (h7 : c.2.1 ≠ 7) : T[lnum s L]? = some ((evAt L X).map trip) := by
  obtain ⟨X', e1, e2, _⟩ := shr_some h
  rw [hX] at e1
  cases e1
  have := colT hc h7 X (emptyT s) [] (recsEv_leaf R X hX) (by
    unfold emptyT
    rw [List.getElem?_replicate, if_pos (lnum_lt hc h7)])
  rw [e2, this, List.nil_append]
end Go.Law
end

section
/- Which rep the triples of a leaf have. -/
set_option linter.unusedVariables false
set_option linter.unusedSimpArgs false
set_option linter.unusedSectionVars false
namespace Go.Law
open Go.Am Go.Fn

def HeadRep (rep deep : Int) (E : List Ev) : Prop := ∃ e r, E = e :: r ∧ e.rep = rep ∧ ∀ x, x ∈ r → deep < x.rep

theorem evAt_none {L : Nat} {X : List Ev} (h : ∀ e, e ∈ X → e.at_ ≠ L) : evAt L X = [] := by
  unfold evAt
  rw [List.filter_eq_nil_iff]
  intro e he
  simpa using h e he

theorem miss_at {s : List TCol} {rep def_ : Int} {L : Nat} {c : TCol} (hc : s[L]? = some c) (h7 : c.2.1 ≠ 7) : ∀ (n i : Nat), i ≤ L → L < i + n → evAt L (miss s rep def_ n i) = [⟨L, false, rep, def_, zv⟩]
  | 0, i, h1, h2 => by omega
  | n + 1, i, h1, h2 => by
    simp only [miss]
    rw [evAt_append]
    rcases Nat.eq_or_lt_of_le h1 with rfl | h1
    · rw [evAt_none (X := miss s rep def_ n (i + 1)) (fun e he => by have := (miss_mem _ _ _ he).1; omega), List.append_nil, hc]
      simp only
      rw [if_neg h7]
      simp [evAt]
    · rw [miss_at hc h7 n (i + 1) (by omega) (by omega)]
      refine (congrArg (· ++ [(⟨L, false, rep, def_, zv⟩ : Ev)]) (evAt_none fun e he => ?_)).trans (List.nil_append _)
      split at he
      · cases he
      · split at he
        · cases he
        · rw [List.mem_singleton] at he
          rw [he]
          show i ≠ L
          omega

theorem items_rep {F : List TVal → EvR} {L : Nat} {deep : Int} (h : ∀ V X W, F V = some (X, W) → HeadRep deep deep (evAt L X)) : ∀ (m : Nat) (V : List TVal) (X : List Ev) (W : List TVal), evItems F m V = some (X, W) →
    (m = 0 ∧ X = []) ∨ (0 < m ∧ ∃ e r, evAt L X = e :: r ∧ e.rep = deep ∧ ∀ x, x ∈ r → deep ≤ x.rep)
  | 0, V, X, W, he => by
    simp only [evItems, Option.some.injEq, Prod.mk.injEq] at he
    exact .inl ⟨rfl, he.1.symm⟩
  | m + 1, V, X, W, he => by
    simp only [evItems] at he
    obtain ⟨x, y, U, h1, h2, rfl⟩ := evPair_some he
    obtain ⟨e, r, e1, e2, e3⟩ := h _ _ _ h1
    refine .inr ⟨by omega, e, r ++ evAt L y, by rw [evAt_append, e1]; rfl, e2, fun z hz => ?_⟩
    rcases List.mem_append.1 hz with hz | hz
    · have := e3 z hz; omega
    · rcases items_rep h m U y W h2 with ⟨_, rfl⟩ | ⟨_, e', r', f1, f2, f3⟩
      · cases hz
      · rw [f1] at hz
        rcases List.mem_cons.1 hz with rfl | hz
        · omega
        · exact f3 z hz

theorem part_rep {s : List TCol} {d pl mid : Nat} (hs : SubC s d pl mid) {C : Int → Int → Int → List TVal → EvR} {L : Nat} {cL : TCol} (hcL : s[L]? = some cL) (hL7 : cL.2.1 ≠ 7) (h1 : pl ≤ L) (h2 : L < mid) (hC : ∀ rep def_ deep V X W, C rep def_ deep V = some (X, W) → HeadRep rep deep (evAt L X)) (rep def_ deep : Int) (V : List TVal) (X : List Ev) (W : List TVal)
    (he : evPart s C mid pl rep def_ deep V = some (X, W)) : HeadRep rep deep (evAt L X) := by
  have ms : ∀ U, some (miss s rep def_ (mid - pl) pl, U) = some (X, W) → HeadRep rep deep (evAt L X) := by
    intro U he
    simp only [Option.some.injEq, Prod.mk.injEq] at he
    obtain ⟨rfl, rfl⟩ := he
    rw [miss_at hcL hL7 _ _ h1 (by omega)]
    exact ⟨_, [], rfl, rfl, fun x hx => by cases hx⟩
  unfold evPart at he
  split at he
  · cases he
  · split at he
    · exact hC _ _ _ _ _ _ he
    · split at he
      · cases he
      · split at he
        · split at he
          · cases he
          · split at he
            · exact ms _ he
            · obtain ⟨x, y, U, g1, g2, rfl⟩ := evPair_some he
              obtain ⟨e, r, e1, e2, e3⟩ := hC _ _ _ _ _ _ g1
              refine ⟨e, r ++ evAt L y, by rw [evAt_append, e1]; rfl, e2, fun z hz => ?_⟩
              rcases List.mem_append.1 hz with hz | hz
              · have := e3 z hz; omega
              · rcases items_rep (L := L) (deep := deep + 1) (fun V X W h => hC _ _ _ V X W h) _ _ _ _ g2 with ⟨_, rfl⟩ | ⟨_, e', r', f1, f2, f3⟩
                · cases hz
                · rw [f1] at hz
                  rcases List.mem_cons.1 hz with rfl | hz
                  · omega
                  · have := f3 z hz; omega
        · split at he
          · cases he
          · split at he
            · exact ms _ he
            · exact hC _ _ _ _ _ _ he

theorem evC_rep {s : List TCol} : ∀ (d a nx : Nat), d ≤ 6 → SubC s d a nx → ∀ (rep def_ deep : Int) (V : List TVal) (X : List Ev) (W : List TVal), evC s d a rep def_ deep V = some (X, W) → ∀ L c, a ≤ L → L < nx → s[L]? = some c → c.2.1 ≠ 7 → HeadRep rep deep (evAt L X)
  | 0, _, _, _, h, _, _, _, _, _, _, _, _, _, _, _, _, _ => h.elim
  | d + 1, a, nx, hd, h, rep, def_, deep, V, X, W, he, L, cL, hL1, hL2, hcL, hL7 => by
    obtain ⟨c, hc, hco, _, hpp⟩ := h
    simp only [evC, hc] at he
    split at he
    · rename_i h7
      have hne : L ≠ a := fun hh => by
        subst hh
        rw [hc] at hcL
        cases hcL
        exact hL7 h7
      have key : ∀ (m pl : Nat) (names : List ByteArray) (V : List TVal) (X : List Ev) (W : List TVal), PartsC (SubC s d) s m pl names nx → evParts (fun a V => evPart s (evC s d a) (endC s d a) a rep def_ deep V) (endC s d) m pl V = some (X, W) →
          (pl ≤ L → HeadRep rep deep (evAt L X)) ∧ (L < pl → evAt L X = []) := by
        intro m
        induction m with
        | zero =>
          intro pl names V X W hpp he
          have hpp : pl = nx := hpp
          simp only [evParts, Option.some.injEq, Prod.mk.injEq] at he
          obtain ⟨rfl, rfl⟩ := he
          exact ⟨fun h => by omega, fun _ => rfl⟩
        | succ m ih =>
          intro pl names V X W hpp he
          obtain ⟨cp, mid, hcp, q2, q3, q4⟩ := hpp
          have hmn := PartsC_nx (SubC_lt d) _ _ _ _ q4
          have hlt' := SubC_lt _ _ _ q3
          have hend : endC s d pl = mid := endC_eq d q3 d (Nat.le_refl _)
          simp only [evParts] at he
          obtain ⟨x, y, U, g1, g2, rfl⟩ := evPair_some he
          rw [hend] at g1 g2
          obtain ⟨i1, i2⟩ := ih mid _ U y W q4 g2
          have hrange : ∀ e, e ∈ x → pl ≤ e.at_ ∧ e.at_ < mid := fun e he => by
            obtain ⟨r1, r2, _⟩ := evPart_ok (by omega) q3 (fun rep def_ deep V => evC_ok d pl mid (by omega) q3 rep def_ deep V) rep def_ deep V x U g1 e he
            exact ⟨r1, r2⟩
          rw [evAt_append]
          constructor
          · intro hpl
            rcases Nat.lt_or_ge L mid with hLm | hLm
            · rw [i2 hLm, List.append_nil]
              exact part_rep q3 hcL hL7 hpl hLm (fun rep def_ deep V X W h => evC_rep d pl mid (by omega) q3 rep def_ deep V X W h L cL hpl hLm hcL hL7) rep def_ deep V x U g1
            · rw [evAt_none (fun e he => by have := hrange e he; omega), List.nil_append]
              exact i1 hLm
          · intro hpl
            rw [evAt_none (fun e he => by have := hrange e he; omega), i2 (by omega)]
            rfl
      exact (key _ _ _ _ _ _ hpp he).1 (by omega)
    · rename_i h7
      split at he
      · cases he
      · split at he
        · simp only [Option.some.injEq, Prod.mk.injEq] at he
          obtain ⟨rfl, rfl⟩ := he
          have hm0 : c.2.2.2.1.toNat = 0 := by
            unfold colOk at hco
            rw [beqF h7] at hco
            simp at hco
            omega
          rw [hm0] at hpp
          have hpp : a + 1 = nx := hpp
          have : L = a := by omega
          subst this
          refine ⟨⟨L, true, rep, def_, ‹TVal›⟩, [], by simp [evAt], rfl, fun x hx => by cases hx⟩
        · cases he
end Go.Law
end

section
/- Values that are come to are values of the record. -/
set_option linter.unusedVariables false
set_option linter.unusedSimpArgs false
namespace Go.Law
open Go.Am Go.Fn

def EvM (V : List TVal) (r : EvR) : Prop := ∀ X W, r = some (X, W) → (∀ e, e ∈ X → e.leaf = true → e.v ∈ V) ∧ ∀ w, w ∈ W → w ∈ V
theorem EvM.pair {V : List TVal} {a : EvR} {f : List TVal → EvR} (h : EvM V a) (g : ∀ U, EvM U (f U)) : EvM V (evPair a f) := by
  intro X W he
  obtain ⟨x, y, U, h1, h2, rfl⟩ := evPair_some he
  obtain ⟨a1, a2⟩ := h _ _ h1
  obtain ⟨b1, b2⟩ := g U _ _ h2
  refine ⟨fun e he hl => ?_, fun w hw => a2 w (b2 w hw)⟩
  rcases List.mem_append.1 he with he | he
  · exact a1 e he hl
  · exact a2 _ (b1 e he hl)
theorem EvM.nil (V : List TVal) : EvM V (some ([], V)) := by
  intro X W h
  simp only [Option.some.injEq, Prod.mk.injEq] at h
  obtain ⟨rfl, rfl⟩ := h
  exact ⟨fun e he => (by cases he), fun w hw => hw⟩
theorem EvM.parts {F : Nat → List TVal → EvR} {e : Nat → Nat} (h : ∀ a V, EvM V (F a V)) : ∀ (m a : Nat) (V : List TVal), EvM V (evParts F e m a V)
  | 0, _, V => EvM.nil V
  | m + 1, a, V => (h a V).pair (EvM.parts h m (e a))
theorem EvM.items {F : List TVal → EvR} (h : ∀ V, EvM V (F V)) : ∀ (m : Nat) (V : List TVal), EvM V (evItems F m V)
  | 0, V => EvM.nil V
  | m + 1, V => (h V).pair (EvM.items h m)
theorem EvM.part {s : List TCol} {C : Int → Int → Int → List TVal → EvR} (h : ∀ r d p V, EvM V (C r d p V)) (e a : Nat) (rep def_ deep : Int) (V : List TVal) : EvM V (evPart s C e a rep def_ deep V) := by
  intro X W hr
  unfold evPart at hr
  split at hr
  · cases hr
  · split at hr
    · exact h _ _ _ _ _ _ hr
    · split at hr
      · cases hr
      · rename_i v V
        have ms : some (miss s rep def_ (e - a) a, V) = some (X, W) → (∀ e, e ∈ X → e.leaf = true → e.v ∈ v :: V) ∧ ∀ w, w ∈ W → w ∈ v :: V := by
          intro hr
          simp only [Option.some.injEq, Prod.mk.injEq] at hr
          obtain ⟨rfl, rfl⟩ := hr
          exact ⟨fun e he hl => (by rw [(miss_mem _ _ _ he).2.2.1] at hl; cases hl), fun w hw => List.mem_cons_of_mem _ hw⟩
        have up : ((∀ e, e ∈ X → e.leaf = true → e.v ∈ V) ∧ ∀ w, w ∈ W → w ∈ V) → (∀ e, e ∈ X → e.leaf = true → e.v ∈ v :: V) ∧ ∀ w, w ∈ W → w ∈ v :: V := fun h => ⟨fun e he hl => List.mem_cons_of_mem _ (h.1 e he hl), fun w hw => List.mem_cons_of_mem _ (h.2 w hw)⟩
        split at hr
        · split at hr
          · cases hr
          · split at hr
            · exact ms hr
            · exact up ((EvM.pair (h _ _ _ _) (fun V => EvM.items (h _ _ _) _ V)) _ _ hr)
        · split at hr
          · cases hr
          · split at hr
            · exact ms hr
            · exact up (h _ _ _ _ _ _ hr)
theorem evC_M {s : List TCol} : ∀ (d a : Nat) (rep def_ deep : Int) (V : List TVal), EvM V (evC s d a rep def_ deep V)
  | 0, _, _, _, _, _ => fun X W h => by cases h
  | d + 1, a, rep, def_, deep, V => by
    intro X W h
    simp only [evC] at h
    split at h
    · cases h
    · split at h
      · exact EvM.parts (fun a V => EvM.part (fun r d p V => evC_M _ a r d p V) _ a rep def_ deep V) _ _ _ _ _ h
      · split at h
        · cases h
        · split at h
          · simp only [Option.some.injEq, Prod.mk.injEq] at h
            obtain ⟨rfl, rfl⟩ := h
            refine ⟨fun e he _ => ?_, fun w hw => List.mem_cons_of_mem _ hw⟩
            rw [List.mem_singleton] at he
            subst he
            exact List.mem_cons_self ..
          · cases h
theorem recEv_M {s : List TCol} {V : List TVal} {X : List Ev} (h : recEv s V = some X) : ∀ e, e ∈ X → e.leaf = true → e.v ∈ V := (evC_M 6 0 0 0 0 V X [] (recEv_some h).2).1
end Go.Law
end

section
/- What may be of conditions, by what is known: PredMay of both, and that it tells no wrong. -/
set_option linter.unusedVariables false
set_option linter.unusedSimpArgs false
set_option linter.unusedSectionVars false
namespace Go.Law
open Go.Am Go.Fn

def eqV (a b : TVal) : Bool := (a.1 == b.1) && (eqS a.2.1 b.2.1 && true)

def mayT (t : Int) (x : TPred) (K : TKnown) : Bool × Bool :=
  if K.1 = false then (true, true)
  else if x.1 = 1 then (K.2.1.2.1 && (!vless t x.2.2.1 K.2.1.2.2.1 && !vless t K.2.1.2.2.2.1 x.2.2.1), decide (K.2.1.1 > 0) || (K.2.1.2.1 && (!eqV K.2.1.2.2.1 x.2.2.1 || !eqV K.2.1.2.2.2.1 x.2.2.1)))
  else if x.1 = 2 then (K.2.1.2.1 && vless t K.2.1.2.2.1 x.2.2.1, decide (K.2.1.1 > 0) || (K.2.1.2.1 && !vless t K.2.1.2.2.2.1 x.2.2.1))
  else if x.1 = 3 then (K.2.1.2.1 && !vless t x.2.2.1 K.2.1.2.2.1, decide (K.2.1.1 > 0) || (K.2.1.2.1 && vless t x.2.2.1 K.2.1.2.2.2.1))
  else (decide (K.2.1.1 > 0), K.2.1.2.1)

theorem imay_eq (k : Nat) (hk : 2000000 ≤ k) (t : Int) (x : TPred) (K : TKnown) : impl_may k t x K = some (mayT t x K) := by
  obtain ⟨is, ⟨nul, has, mn, mx, ⟨⟩⟩, ⟨⟩⟩ := K
  unfold impl_may mayT
  simp only [(valLess_eq k hk t _ _).2, Option.bind_some, csf, cst]
  cases is with
  | false => rfl
  | true =>
    simp only [Bool.not_true, cond_false, if_neg (show ¬ (true = false) by decide)]
    by_cases h1 : x.1 = 1
    · rw [beqT h1, cond_true, if_pos h1]; rfl
    rw [beqF h1, cond_false, if_neg h1]
    by_cases h2 : x.1 = 2
    · rw [beqT h2, cond_true, if_pos h2]
    rw [beqF h2, cond_false, if_neg h2]
    by_cases h3 : x.1 = 3
    · rw [beqT h3, cond_true, if_pos h3]
    rw [beqF h3, cond_false, if_neg h3]

theorem smay_eq (k : Nat) (hk : 2000000 ≤ k) (l : TLeaf) (x : TPred) (K : TKnown) :
    (cond (!K.1)
          (some (true, true))
          (cond (x.1 == 1)
             (spec_l20May.d21 k (decide (K.2.1.1 > 0)) x l K.2.1)
             (cond (x.1 == 2)
                ((cond K.2.1.2.1 ((spec_ValLess k l.1 K.2.1.2.2.1 x.2.2.1).bind fun r31 => some (r31)) (some (false))).bind fun b32 =>
                 (cond (decide (K.2.1.1 > 0))
                    (some (true))
                    ((cond K.2.1.2.1 ((spec_ValLess k l.1 K.2.1.2.2.2.1 x.2.2.1).bind fun r33 => some (!r33)) (some (false))).bind fun b34 =>
                     some (b34))).bind fun b35 =>
                 some (b32, b35))
                (cond (x.1 == 3)
                   ((cond K.2.1.2.1 ((spec_ValLess k l.1 x.2.2.1 K.2.1.2.2.1).bind fun r36 => some (!r36)) (some (false))).bind fun b37 =>
                    (cond (decide (K.2.1.1 > 0))
                       (some (true))
                       ((cond K.2.1.2.1 ((spec_ValLess k l.1 x.2.2.1 K.2.1.2.2.2.1).bind fun r38 => some (r38)) (some (false))).bind fun b39 =>
                        some (b39))).bind fun b40 =>
                    some (b37, b40))
                   (some (decide (K.2.1.1 > 0), K.2.1.2.1)))))) = some (mayT l.1 x K) := by
  obtain ⟨is, ⟨nul, has, mn, mx, ⟨⟩⟩, ⟨⟩⟩ := K
  unfold mayT spec_l20May.d21
  simp only [(valLess_eq k hk l.1 _ _).1, Option.bind_some, csf, cst]
  cases is with
  | false => rfl
  | true =>
    simp only [Bool.not_true, cond_false, if_neg (show ¬ (true = false) by decide)]
    by_cases h1 : x.1 = 1
    · rw [beqT h1, cond_true, if_pos h1]
      simp only [eqV]
      cases has <;> cases vless l.1 x.2.2.1 mn <;> cases vless l.1 mx x.2.2.1 <;> cases decide (nul > 0) <;> cases ((mn.1 == x.2.2.1.1) && (eqS mn.2.1 x.2.2.1.2.1 && true)) <;> rfl
    rw [beqF h1, cond_false, if_neg h1]
    by_cases h2 : x.1 = 2
    · rw [beqT h2, cond_true, if_pos h2]
    rw [beqF h2, cond_false, if_neg h2]
    by_cases h3 : x.1 = 3
    · rw [beqT h3, cond_true, if_pos h3]
    rw [beqF h3, cond_false, if_neg h3]

section
variable (k : Nat) (s : List TCol) (hn : ∀ c, c ∈ s → c.1.size < k ∧ c.1.size < 1000000000 ∧ I64 c.2.2.2.1) (hk : 2000000 ≤ k)

def leafT (j : Int) : Int := ((spec_LeafOf k s j).map (·.1.1)).getD 0
def mayS (known : List TKnown) (x : TPred) : Bool × Bool := match rdL known x.2.1 with
  | none => (false, false)
  | some K => mayT (leafT k s x.2.1) x K

def mayV (p : List TPred) (known : List TKnown) : Nat → Int → Bool × Bool
  | 0, _ => (false, false)
  | d + 1, a => match rdL p a with
    | none => (false, false)
    | some x =>
      if x.1 = 5 then ((mayV p known d x.2.2.2.1).1 && (mayV p known d x.2.2.2.2.1).1, (mayV p known d x.2.2.2.1).2 || (mayV p known d x.2.2.2.2.1).2)
      else if x.1 = 6 then ((mayV p known d x.2.2.2.1).1 || (mayV p known d x.2.2.2.2.1).1, (mayV p known d x.2.2.2.1).2 && (mayV p known d x.2.2.2.2.1).2)
      else if x.1 = 7 then ((mayV p known d x.2.2.2.1).2, (mayV p known d x.2.2.2.1).1)
      else mayS k s known x

include hn hk

theorem plain_leaf (hS : IsSchema s) (hok : spec_SchemaOk k s = some true) (hok2 : impl_SchemaOk k s = some true) (x : TPred) (h14 : 1 ≤ x.1 ∧ x.1 ≤ 4) (hp : plainB k s x = true) :
    ∃ L c, rdL (leavesFrom 0 s) x.2.1 = some ((L : Nat) : Int) ∧ s[L]? = some c ∧ c.2.1 ≠ 7 ∧ x.2.1 = (lnum s L : Int) ∧ lvD s isRep 1 L = 0 ∧
      spec_LeafOf k s x.2.1 = some ((c.2.1, 0, (lvD s isOpt 1 L : Int), ()), true) ∧ impl_LeafOf k s x.2.1 = some ((c.2.1, 0, (lvD s isOpt 1 L : Int), ()), true) := by
  obtain ⟨b, p1, p2, _⟩ := plain_eq k s hn hk hS hok hok2 x
  unfold plainB at hp
  rw [p1] at hp
  have hb : b = true := hp
  subst hb
  have p2 := p2 h14
  obtain ⟨l, b, e1, e2, e3⟩ := leafOf_eq k s hn hk hS hok hok2 x.2.1
  unfold impl_plainPred at p2
  rw [e2] at p2
  simp only [Option.bind_some, cst] at p2
  cases b with
  | false => simp at p2
  | true =>
    obtain ⟨L, c, f1, f2, f3, f4, f5⟩ := e3 rfl
    by_cases hr : l.2.1 = 0
    · have : lvD s isRep 1 L = 0 := by rw [f5] at hr; simpa using hr
      refine ⟨L, c, f1, f2, f3, f4, this, ?_, ?_⟩
      · rw [e1, f5, this]; rfl
      · rw [e2, f5, this]; rfl
    · rw [bneT hr] at p2
      simp at p2

theorem mayV_fuel {p : List TPred} (g : GoodPreds k s p) (known : List TKnown) : ∀ (d d' a : Nat), a < p.length → a < d → a < d' → mayV k s p known d a = mayV k s p known d' a
  | 0, _, _, _, h, _ => by omega
  | _ + 1, 0, _, _, _, h => by omega
  | d + 1, d' + 1, a, ha, h1, h2 => by
    have hx := List.getElem?_eq_getElem ha
    generalize p[a] = x at hx
    obtain ⟨k1, k2, k3⟩ := predKinds hn hk g a ha x hx
    simp only [mayV, rdL_nat, hx]
    have sub : ∀ b : Int, 0 ≤ b → b < a → mayV k s p known d b = mayV k s p known d' b := fun b b0 b1 => by
      obtain ⟨n, rfl⟩ := Int.eq_ofNat_of_zero_le b0
      exact mayV_fuel g known d d' n (by omega) (by omega) (by omega)
    by_cases h5 : x.1 = 5
    · obtain ⟨c1, c2, c3⟩ := k2 (.inl h5)
      rw [if_pos h5, if_pos h5, sub _ c2 (by omega), sub _ (by omega) (by omega)]
    · rw [if_neg h5, if_neg h5]
      by_cases h6 : x.1 = 6
      · obtain ⟨c1, c2, c3⟩ := k2 (.inr h6)
        rw [if_pos h6, if_pos h6, sub _ c2 (by omega), sub _ (by omega) (by omega)]
      · rw [if_neg h6, if_neg h6]
        by_cases h7 : x.1 = 7
        · obtain ⟨c1, c2⟩ := k3 h7
          rw [if_pos h7, if_pos h7, sub _ c2 (by omega)]
        · rw [if_neg h7, if_neg h7]

theorem known_at {p : List TPred} (g : GoodPreds k s p) (known : List TKnown) (hkl : known.length = (leavesFrom 0 s).length) (x : TPred) (hx : x ∈ p) (h14 : 1 ≤ x.1 ∧ x.1 ≤ 4) :
    ∃ l K, spec_LeafOf k s x.2.1 = some (l, true) ∧ impl_LeafOf k s x.2.1 = some (l, true) ∧ rdL known x.2.1 = some K ∧ mayS k s known x = mayT l.1 x K := by
  obtain ⟨L, c, f1, f2, f3, f4, f5, f6, f7⟩ := plain_leaf k s hn hk g.sch g.ok g.ok2 x h14 (g.plain x hx)
  rw [f4, rdL_nat] at f1
  have hlt := (List.getElem?_eq_some_iff.1 f1).1
  have hK := List.getElem?_eq_getElem (show lnum s L < known.length by omega)
  refine ⟨_, _, f6, f7, by rw [f4, rdL_nat]; exact hK, ?_⟩
  unfold mayS leafT
  rw [f6, show rdL known x.2.1 = known[lnum s L]? by rw [f4, rdL_nat], hK]
  rfl

theorem smay_rec {p : List TPred} (g : GoodPreds k s p) (known : List TKnown) (hkl : known.length = (leavesFrom 0 s).length) : ∀ (d a : Nat), a < p.length → a < d → spec_l20May.rec k d s p (a : Int) known = some (mayV k s p known d a) := by
  intro d
  induction d with
  | zero => intro a ha h; omega
  | succ d ih =>
    intro a ha h
    have hx := List.getElem?_eq_getElem ha
    have hxm : p[a] ∈ p := List.getElem_mem ha
    generalize p[a] = x at hx hxm
    obtain ⟨k1, k2, k3⟩ := predKinds hn hk g a ha x hx
    have sub : ∀ b : Int, 0 ≤ b → b < a → spec_l20May.rec k d s p b known = some (mayV k s p known d b) := fun b b0 b1 => by
      obtain ⟨n, rfl⟩ := Int.eq_ofNat_of_zero_le b0
      exact ih n (by omega) (by omega)
    simp only [spec_l20May.rec, spec_l20May.b, mayV, rdL_nat, hx, Option.bind_some, spec_l20May.c5, cst, csf]
    by_cases h5 : x.1 = 5
    · obtain ⟨c1, c2, c3⟩ := k2 (.inl h5)
      rw [beqT h5, cond_true, if_pos h5, sub _ c2 (by omega), sub _ (by omega) (by omega)]
      rfl
    · rw [beqF h5, cond_false, if_neg h5]
      by_cases h6 : x.1 = 6
      · obtain ⟨c1, c2, c3⟩ := k2 (.inr h6)
        rw [beqT h6, cond_true, if_pos h6, sub _ c2 (by omega), sub _ (by omega) (by omega)]
        rfl
      · rw [beqF h6, cond_false, if_neg h6]
        by_cases h7 : x.1 = 7
        · obtain ⟨c1, c2⟩ := k3 h7
          rw [beqT h7, cond_true, if_pos h7, sub _ c2 (by omega)]
          rfl
        · rw [beqF h7, cond_false, if_neg h7]
          obtain ⟨l, K, e1, e2, e3, e4⟩ := known_at k s hn hk g known hkl x hxm (by omega)
          have := smay_eq k hk l x K
          simp only [Option.bind_some, cst, csf] at this
          rw [e3, e4]
          simp only [Option.bind_some, e1]
          exact this

theorem imay_loop {p : List TPred} (g : GoodPreds k s p) (known : List TKnown) (hkl : known.length = (leavesFrom 0 s).length) : ∀ (post pre : List TPred) (f : Nat) (o q : List Bool), p = pre ++ post → post.length < f → o.length = p.length → q.length = p.length →
    (∀ j : Nat, j < pre.length → o[j]? = some (mayV k s p known 100 j).1 ∧ q[j]? = some (mayV k s p known 100 j).2) →
    impl_PredMay.l6 k f s p known p (p.length : Int) (pre.length : Int) o q = some (mayV k s p known 100 ((p.length : Int) - 1)) := by
  intro post
  have hl := g.len
  induction post with
  | nil =>
    intro pre f o q h hf ho hq hb
    obtain ⟨f, rfl⟩ : ∃ q, f = q + 1 := ⟨f - 1, by omega⟩
    rw [List.append_nil] at h
    subst h
    have hw : IntKind.wrap .i64 ((p.length : Int) - 1) = ((p.length - 1 : Nat) : Int) := by rw [w64 (by omega) (by omega)]; omega
    obtain ⟨l1, l2⟩ := hb (p.length - 1) (by omega)
    have he : (p.length : Int) - 1 = ((p.length - 1 : Nat) : Int) := by omega
    simp only [impl_PredMay.l6, decide_eq_false (show ¬ ((p.length : Int) < (p.length : Int)) by omega), cond_false, hw, rdL_nat, l1, l2, Option.bind_some]
    rw [he]
  | cons x post ih =>
    intro pre f o q h hf ho hq hb
    simp only [List.length_cons] at hf
    obtain ⟨f, rfl⟩ : ∃ q, f = q + 1 := ⟨f - 1, by omega⟩
    have hlen : p.length = pre.length + (post.length + 1) := by rw [h]; simp
    have hxm : x ∈ p := by rw [h]; simp
    have hg : rdL p (pre.length : Int) = some x := by rw [h]; exact getMid _ _ _
    have hi1 : IntKind.wrap .i64 ((pre.length : Int) + 1) = ((pre.length + 1 : Nat) : Int) := by rw [w64 (by omega) (by omega)]; omega
    have hol : pre.length < o.length := by omega
    have hql : pre.length < q.length := by omega
    have ho1 : o[pre.length]? = some o[pre.length] := List.getElem?_eq_getElem hol
    have hq1 : q[pre.length]? = some q[pre.length] := List.getElem?_eq_getElem hql
    obtain ⟨k1, k2, k3⟩ := predKinds hn hk g pre.length (by omega) x hg
    have go : impl_PredMay.l6 k f s p known p (p.length : Int) ((pre.length + 1 : Nat) : Int) (o.set pre.length (mayV k s p known 100 pre.length).1) (q.set pre.length (mayV k s p known 100 pre.length).2) = some (mayV k s p known 100 ((p.length : Int) - 1)) := by
      have hi := ih (pre ++ [x]) f (o.set pre.length (mayV k s p known 100 pre.length).1) (q.set pre.length (mayV k s p known 100 pre.length).2) (by rw [h]; simp) (by omega) (by simpa using ho) (by simpa using hq) (fun j hj => by
        rw [List.length_append, List.length_singleton] at hj
        rcases Nat.lt_or_ge j pre.length with c | c
        · rw [List.getElem?_set_ne (by omega), List.getElem?_set_ne (by omega)]; exact hb j c
        · have : j = pre.length := by omega
          subst this
          rw [List.getElem?_set_self hol, List.getElem?_set_self hql]
          exact ⟨rfl, rfl⟩)
      rw [List.length_append, List.length_singleton] at hi
      exact hi
    have sub : ∀ b : Int, 0 ≤ b → b < pre.length → rdL o b = some (mayV k s p known 99 b).1 ∧ rdL q b = some (mayV k s p known 99 b).2 := fun b b0 b1 => by
      obtain ⟨n, rfl⟩ := Int.eq_ofNat_of_zero_le b0
      rw [rdL_nat, rdL_nat, (hb n (by omega)).1, (hb n (by omega)).2, mayV_fuel k s hn hk g known 100 99 n (by omega) (by omega) (by omega)]
      exact ⟨rfl, rfl⟩
    have hun : mayV k s p known 100 pre.length = (if x.1 = 5 then ((mayV k s p known 99 x.2.2.2.1).1 && (mayV k s p known 99 x.2.2.2.2.1).1, (mayV k s p known 99 x.2.2.2.1).2 || (mayV k s p known 99 x.2.2.2.2.1).2)
      else if x.1 = 6 then ((mayV k s p known 99 x.2.2.2.1).1 || (mayV k s p known 99 x.2.2.2.2.1).1, (mayV k s p known 99 x.2.2.2.1).2 && (mayV k s p known 99 x.2.2.2.2.1).2)
      else if x.1 = 7 then ((mayV k s p known 99 x.2.2.2.1).2, (mayV k s p known 99 x.2.2.2.1).1)
      else mayS k s known x) := by
      conv => lhs; unfold mayV
      rw [hg]
    simp only [impl_PredMay.l6, decide_eq_true (show (pre.length : Int) < (p.length : Int) by omega), cond_true, hg, Option.bind_some, impl_PredMay.c17, hi1, Int.toNat_natCast, cst, csf, rdL_nat, ho1, hq1]
    by_cases h5 : x.1 = 5
    · obtain ⟨c1, c2, c3⟩ := k2 (.inl h5)
      rw [if_pos h5] at hun
      rw [hun] at go
      rw [beqT h5, cond_true, (sub _ c2 (by omega)).1, (sub _ c2 (by omega)).2, (sub _ (by omega) (by omega)).1, (sub _ (by omega) (by omega)).2]
      simp only [Option.bind_some, csf, cst]
      exact go
    · rw [if_neg h5] at hun
      rw [beqF h5, cond_false]
      by_cases h6 : x.1 = 6
      · obtain ⟨c1, c2, c3⟩ := k2 (.inr h6)
        rw [if_pos h6] at hun
        rw [hun] at go
        rw [beqT h6, cond_true, (sub _ c2 (by omega)).1, (sub _ c2 (by omega)).2, (sub _ (by omega) (by omega)).1, (sub _ (by omega) (by omega)).2]
        simp only [Option.bind_some, cst, csf]
        exact go
      · rw [if_neg h6] at hun
        rw [beqF h6, cond_false]
        by_cases h7 : x.1 = 7
        · obtain ⟨c1, c2⟩ := k3 h7
          rw [if_pos h7] at hun
          rw [hun] at go
          rw [beqT h7, cond_true, (sub _ c2 (by omega)).1, (sub _ c2 (by omega)).2]
          simp only [Option.bind_some]
          exact go
        · rw [if_neg h7] at hun
          obtain ⟨l, K, e1, e2, e3, e4⟩ := known_at k s hn hk g known hkl x hxm (by omega)
          rw [hun, e4] at go
          rw [beqF h7, cond_false, e2]
          simp only [Option.bind_some, e3, imay_eq k hk]
          exact go

theorem predMay_eq (hS : IsSchema s) (hok : spec_SchemaOk k s = some true) (hok2 : impl_SchemaOk k s = some true) (p : List TPred) (known : List TKnown) :
    (predOkV k s p = true → known.length = (leavesFrom 0 s).length → GoodPreds k s p ∧ impl_PredMay k s p known = some (mayV k s p known 100 ((p.length : Int) - 1)) ∧ spec_PredMay k s p known = some (mayV k s p known 100 ((p.length : Int) - 1))) ∧
    (predOkV k s p = false ∨ known.length ≠ (leavesFrom 0 s).length → impl_PredMay k s p known = some (false, false) ∧ spec_PredMay k s p known = some (false, false)) := by
  obtain ⟨o1, o2⟩ := predOk_val k s hn hk hS hok hok2 p
  obtain ⟨v1, v2⟩ := leaves_eq k (by omega) s (by have := hS.2.1; omega)
  constructor
  · intro hp hkl
    obtain ⟨_, _, q1, q2⟩ := predOk_eq k s hn hk p
    have g := q2 (by rw [o2] at q1; rw [← Option.some.inj q1]; exact hp)
    refine ⟨g, ?_⟩
    have hl := g.len
    have hw : IntKind.wrap .i64 ((p.length : Int) - 1) = ((p.length - 1 : Nat) : Int) := by rw [w64 (by omega) (by omega)]; omega
    have he : (p.length : Int) - 1 = ((p.length - 1 : Nat) : Int) := by omega
    have a1 : spec_l20May k s p ((p.length - 1 : Nat) : Int) known = some (mayV k s p known k ((p.length - 1 : Nat) : Int)) := smay_rec k s hn hk g known hkl k (p.length - 1) (by omega) (by omega)
    have a2 := imay_loop k s hn hk g known hkl p [] k (List.replicate (Int.toNat (p.length : Int)) false) (List.replicate (Int.toNat (p.length : Int)) false) rfl (by omega) (by simp) (by simp) (fun j hj => by simp at hj)
    have a2 : impl_PredMay.l6 k k s p known p (p.length : Int) 0 _ _ = _ := a2
    unfold spec_PredMay impl_PredMay
    simp only [o1, o2, hp, v1, v2, Option.bind_some, Bool.not_true, cond_false, bneF (show (known.length : Int) = ((leavesFrom 0 s).length : Int) by omega), hw, a1]
    rw [okLen_ok (by omega) (by omega), cond_true, cond_true, a2, he, mayV_fuel k s hn hk g known k 100 (p.length - 1) (by omega) (by omega) (by omega)]
    exact ⟨rfl, rfl⟩
  · intro h
    unfold spec_PredMay impl_PredMay
    simp only [o1, o2, v1, v2, Option.bind_some, cst]
    have : (!predOkV k s p || ((known.length : Int) != ((leavesFrom 0 s).length : Int))) = true := by
      rcases h with h | h
      · rw [h]; rfl
      · rw [bneT (show ¬ (known.length : Int) = ((leavesFrom 0 s).length : Int) by omega), Bool.or_true]
    rw [this]
    exact ⟨rfl, rfl⟩

theorem may_sound {p : List TPred} (g : GoodPreds k s p) (known : List TKnown) (r : TRec)
    (h : ∀ x, x ∈ p → 1 ≤ x.1 ∧ x.1 ≤ 4 → (single k s r x = true → (mayS k s known x).1 = true) ∧ (single k s r x = false → (mayS k s known x).2 = true)) :
    ∀ (d a : Nat), a < p.length → a < d → (hld k s p r d a = true → (mayV k s p known d a).1 = true) ∧ (hld k s p r d a = false → (mayV k s p known d a).2 = true) := by
  intro d
  induction d with
  | zero => intro a ha h; omega
  | succ d ih =>
    intro a ha had
    have hx := List.getElem?_eq_getElem ha
    have hxm : p[a] ∈ p := List.getElem_mem ha
    generalize p[a] = x at hx hxm
    obtain ⟨k1, k2, k3⟩ := predKinds hn hk g a ha x hx
    have sub : ∀ b : Int, 0 ≤ b → b < a → (hld k s p r d b = true → (mayV k s p known d b).1 = true) ∧ (hld k s p r d b = false → (mayV k s p known d b).2 = true) := fun b b0 b1 => by
      obtain ⟨n, rfl⟩ := Int.eq_ofNat_of_zero_le b0
      exact ih n (by omega) (by omega)
    simp only [hld, mayV, rdL_nat, hx]
    by_cases h5 : x.1 = 5
    · obtain ⟨c1, c2, c3⟩ := k2 (.inl h5)
      obtain ⟨a1, a2⟩ := sub _ c2 (by omega)
      obtain ⟨b1, b2⟩ := sub x.2.2.2.2.1 (by omega) (by omega)
      rw [if_pos h5, if_pos h5]
      simp only [Bool.and_eq_true, Bool.and_eq_false_iff, Bool.or_eq_true]
      exact ⟨fun hh => ⟨a1 hh.1, b1 hh.2⟩, fun hh => hh.elim (fun q => .inl (a2 q)) (fun q => .inr (b2 q))⟩
    · rw [if_neg h5, if_neg h5]
      by_cases h6 : x.1 = 6
      · obtain ⟨c1, c2, c3⟩ := k2 (.inr h6)
        obtain ⟨a1, a2⟩ := sub _ c2 (by omega)
        obtain ⟨b1, b2⟩ := sub x.2.2.2.2.1 (by omega) (by omega)
        rw [if_pos h6, if_pos h6]
        simp only [Bool.and_eq_true, Bool.or_eq_false_iff, Bool.or_eq_true]
        exact ⟨fun hh => hh.elim (fun q => .inl (a1 q)) (fun q => .inr (b1 q)), fun hh => ⟨a2 hh.1, b2 hh.2⟩⟩
      · rw [if_neg h6, if_neg h6]
        by_cases h7 : x.1 = 7
        · obtain ⟨c1, c2⟩ := k3 h7
          obtain ⟨a1, a2⟩ := sub _ c2 (by omega)
          rw [if_pos h7, if_pos h7]
          simp only [Bool.not_eq_true', Bool.not_eq_false']
          exact ⟨a2, a1⟩
        · rw [if_neg h7, if_neg h7]
          exact h x hxm (by omega)
end

theorem mayT_val {l : TLeaf} {T : List TTriple} {st : TStats} (hst : StOk l T st) (hT : ∀ t, t ∈ T → RT l t ∧ I64 t.2.2.1.1) (t : TTriple) (ht : t ∈ T) (hd : ¬ t.2.1 < l.2.2.1) (x : TPred) (h14 : 1 ≤ x.1 ∧ x.1 ≤ 4) :
    let b := if x.1 = 1 then eqV t.2.2.1 x.2.2.1 else if x.1 = 2 then vless l.1 t.2.2.1 x.2.2.1 else if x.1 = 3 then !vless l.1 x.2.2.1 t.2.2.1 else false
    (b = true → (mayT l.1 x (true, st, ())).1 = true) ∧ (b = false → (mayT l.1 x (true, st, ())).2 = true) := by
  obtain ⟨hr, hi⟩ := hT t ht
  have vt := hr.2.2.2 hd
  have hh := hst.hasY t ht hd
  obtain ⟨a, a1, a2, a3⟩ := hst.least hh
  obtain ⟨c, c1, c2, c3⟩ := hst.most hh
  have va := (hT a a1).1.2.2.2 a2
  have vc := (hT c c1).1.2.2.2 c2
  have ia := (hT a a1).2
  have ic := (hT c c1).2
  rw [a3] at va ia
  rw [c3] at vc ic
  have lo := hst.lo t ht hd
  have hi' := hst.hi t ht hd
  intro b
  have heq : ∀ u v : TVal, eqV u v = true ↔ u = v := fun u v => by
    obtain ⟨u1, u2, ⟨⟩⟩ := u
    obtain ⟨v1, v2, ⟨⟩⟩ := v
    unfold eqV
    simp only [Bool.and_true, Bool.and_eq_true, beq_iff_eq, eqS_iff, decide_eq_true_eq, Prod.mk.injEq, and_true]
  simp only [mayT, hh, Bool.true_and, if_neg (show ¬ (true = false) by decide)]
  by_cases h1 : x.1 = 1
  · simp only [b, if_pos h1]
    constructor
    · intro e
      have := (heq _ _).1 e
      rw [← this, lo, hi']; rfl
    · intro e
      have hne : ¬ t.2.2.1 = x.2.2.1 := fun q => by rw [(heq _ _).2 q] at e; cases e
      cases e1 : eqV st.2.2.1 x.2.2.1 with
      | false => simp
      | true =>
        cases e2 : eqV st.2.2.2.1 x.2.2.1 with
        | false => simp
        | true =>
          have q1 := (heq _ _).1 e1
          have q2 := (heq _ _).1 e2
          refine (hne ?_).elim
          rw [q2, ← q1] at hi'
          rw [← q1]
          exact vless_same vt va hi ia lo hi'
  · simp only [b, if_neg h1]
    by_cases h2 : x.1 = 2
    · simp only [if_pos h2]
      constructor
      · intro e
        exact vless_le_lt va lo e
      · intro e
        cases e1 : vless l.1 st.2.2.2.1 x.2.2.1 with
        | false => simp
        | true =>
          have := vless_le_lt vt hi' e1
          rw [e] at this
          cases this
    · simp only [if_neg h2]
      by_cases h3 : x.1 = 3
      · simp only [if_pos h3]
        constructor
        · intro e
          cases e1 : vless l.1 x.2.2.1 st.2.2.1 with
          | false => rfl
          | true =>
            have := vless_lt_le vt e1 lo
            rw [this] at e
            cases e
        · intro e
          have e : vless l.1 x.2.2.1 t.2.2.1 = true := by simpa using e
          rw [vless_lt_le vc e hi', Bool.or_true]
      · simp only [if_neg h3]
        exact ⟨fun e => (by cases e), fun _ => trivial⟩

theorem mayT_null {l : TLeaf} {T : List TTriple} {st : TStats} (hst : StOk l T st) (t : TTriple) (ht : t ∈ T) (hd : t.2.1 < l.2.2.1) (x : TPred) (h14 : 1 ≤ x.1 ∧ x.1 ≤ 4) :
    (x.1 = 4 → (mayT l.1 x (true, st, ())).1 = true) ∧ (x.1 ≠ 4 → (mayT l.1 x (true, st, ())).2 = true) := by
  have h0 := hst.nulY t ht hd
  simp only [mayT, if_neg (show ¬ (true = false) by decide), decide_eq_true (show st.1 > 0 by omega), Bool.true_or]
  constructor
  · intro h4
    rw [if_neg (by omega), if_neg (by omega), if_neg (by omega)]
  · intro h4
    by_cases h1 : x.1 = 1
    · rw [if_pos h1]
    · rw [if_neg h1]
      by_cases h2 : x.1 = 2
      · rw [if_pos h2]
      · rw [if_neg h2, if_pos (by omega)]
end Go.Law
end

section
/- Putting records together: what comes of columns, in plain Lean. -/
set_option linter.unusedVariables false
set_option linter.unusedSimpArgs false
set_option linter.unusedSectionVars false
namespace Go.Law
open Go.Am Go.Fn

abbrev TRows := List (List TTriple)
/-! ### how far the columns are -/
def PosOk (T : TRows) (pos : List Nat) : Prop := pos.length = T.length ∧ ∀ (j p : Nat) (x : List TTriple), pos[j]? = some p → T[j]? = some x → p ≤ x.length
structure Adv (T : TRows) (pos q : List Nat) : Prop where
  ok : PosOk T q
  le : ∀ (j p : Nat), pos[j]? = some p → ∃ p' : Nat, q[j]? = some p' ∧ p ≤ p'
  sum : pos.sum ≤ q.sum
theorem Adv.refl {T : TRows} {pos : List Nat} (h : PosOk T pos) : Adv T pos pos := ⟨h, fun j p hp => ⟨p, hp, Nat.le_refl _⟩, Nat.le_refl _⟩
theorem Adv.trans {T : TRows} {a b c : List Nat} (h1 : Adv T a b) (h2 : Adv T b c) : Adv T a c :=
  ⟨h2.ok, fun j p hp => by
    obtain ⟨p', e1, e2⟩ := h1.le j p hp
    obtain ⟨p'', e3, e4⟩ := h2.le j p' e1
    exact ⟨p'', e3, by omega⟩, Nat.le_trans h1.sum h2.sum⟩

end Go.Law
end

section
/- The reference puts records together as told in LawJoin. -/
set_option linter.unusedVariables false
set_option linter.unusedSimpArgs false
set_option linter.unusedSectionVars false
namespace Go.Law
open Go.Am Go.Fn

def Room (d : Nat) (vals : List TVal) (pos : List Nat) : Prop := vals.length + 280000 + d ≤ 1000000 + 7 * pos.sum

theorem Room.lim {d n : Nat} {vals : List TVal} {pos : List Nat} (h : Room d vals pos) (hs : pos.sum ≤ 40000) (hn : n ≤ 10) : lim (vals.length + n) = true := by
  unfold Room at h
  exact lim_ok (by omega)
theorem Room.more {d m : Nat} {vals Y : List TVal} {pos q : List Nat} (h : Room d vals pos) (hs : pos.sum ≤ q.sum) (hY : Y.length + m * pos.sum ≤ m * q.sum) (hm : m ≤ 7) : Room d (vals ++ Y) q := by
  unfold Room at *
  rw [List.length_append]
  have h1 : Y.length ≤ 7 * (q.sum - pos.sum) := by
    have h2 : Y.length ≤ m * (q.sum - pos.sum) := by rw [Nat.mul_sub]; omega
    exact Nat.le_trans h2 (Nat.mul_le_mul_right _ hm)
  omega
theorem Room.one {d : Nat} {vals : List TVal} {pos : List Nat} (h : Room (d + 1) vals pos) (v : TVal) : Room d (vals ++ [v]) pos := by
  unfold Room at *
  rw [List.length_append, List.length_singleton]; omega
theorem Room.le {d e : Nat} {vals : List TVal} {pos : List Nat} (h : Room d vals pos) (he : e ≤ d) : Room e vals pos := by
  unfold Room at *; omega

section
variable (k : Nat) (s : List TCol) (hs : s.length ≤ 20) (hn : ∀ c, c ∈ s → c.1.size < k ∧ c.1.size < 1000000000 ∧ I64 c.2.2.2.1) (hk : 2000000 ≤ k)
variable (T : TRows) (hT : T.length = lnum s s.length) (hT2 : ∀ x, x ∈ T → x.length ≤ 2000)
include hs hn hk hT hT2

end
end Go.Law
end

section
/- The program puts records together as told in LawJoin. -/
set_option linter.unusedVariables false
set_option linter.unusedSimpArgs false
set_option linter.unusedSectionVars false
namespace Go.Law
open Go.Am Go.Fn

section
variable (k : Nat) (s : List TCol) (hs : s.length ≤ 20) (hn : ∀ c, c ∈ s → c.1.size < k ∧ c.1.size < 1000000000 ∧ I64 c.2.2.2.1) (hk : 2000000 ≤ k)
variable (T : TRows) (hT : T.length = lnum s s.length) (hT2 : ∀ x, x ∈ T → x.length ≤ 2000)
variable (nums : List Int) (hN : ∀ (a : Nat) (c : TCol), s[a]? = some c → c.2.1 ≠ 7 → rdL nums (a : Int) = some (lnum s a : Int))
include hs hn hk hT hT2 hN

end
end Go.Law
end

section
/- What is put together is a record, if it is not too large. -/
set_option linter.unusedVariables false
set_option linter.unusedSimpArgs false
set_option linter.unusedSectionVars false
namespace Go.Law
open Go.Am Go.Fn

end Go.Law
end

section
/- Assemble: the program's is the reference's. -/
set_option linter.unusedVariables false
set_option linter.unusedSimpArgs false
set_option linter.unusedSectionVars false
namespace Go.Law
open Go.Am Go.Fn

section
variable (k : Nat) (s : List TCol) (hn : ∀ c, c ∈ s → c.1.size < k ∧ c.1.size < 1000000000 ∧ I64 c.2.2.2.1) (hk : 2000000 ≤ k)
variable (hS : IsSchema s) (hok : spec_SchemaOk k s = some true) (hok2 : impl_SchemaOk k s = some true)
include hn hk hS hok hok2

end
end Go.Law
end

section
/- Assemble as a whole: both. -/
set_option linter.unusedVariables false
set_option linter.unusedSimpArgs false
set_option linter.unusedSectionVars false
namespace Go.Law
open Go.Am Go.Fn

section
variable (k : Nat) (s : List TCol) (hn : ∀ c, c ∈ s → c.1.size < k ∧ c.1.size < 1000000000 ∧ I64 c.2.2.2.1) (hk : 2000000 ≤ k)
variable (hS : IsSchema s) (hok : spec_SchemaOk k s = some true) (hok2 : impl_SchemaOk k s = some true)
include hn hk hS hok hok2

end

section
variable (k : Nat) (s : List TCol) (hn : ∀ c, c ∈ s → c.1.size < k ∧ c.1.size < 1000000000 ∧ I64 c.2.2.2.1) (hk : 2000000 ≤ k)
include hn hk

end
end Go.Law
end

section
/- What is come to in records, column by column. -/
set_option linter.unusedVariables false
set_option linter.unusedSimpArgs false
set_option linter.unusedSectionVars false
namespace Go.Law
open Go.Am Go.Fn

theorem recEv_head {s : List TCol} (hS : IsSchema s) {V : List TVal} {X : List Ev} (h : recEv s V = some X) {L : Nat} {c : TCol} (hc : s[L]? = some c) (h7 : c.2.1 ≠ 7) : HeadRep 0 0 (evAt L X) :=
  evC_rep 6 0 s.length (Nat.le_refl _) hS.2.2.1 0 0 0 V X [] (recEv_some h).2 L c (Nat.zero_le _) (List.getElem?_eq_some_iff.1 hc).1 hc h7

theorem recs_RV {s : List TCol} (hS : IsSchema s) : ∀ (R : List TRec) (X : List Ev), recsEv s R = some X → ∀ e, e ∈ X → RV s 1 0 0 e
  | [], X, h, e, he => by
    simp only [recsEv, Option.some.injEq] at h
    subst h
    cases he
  | r :: R, X, h, e, he => by
    simp only [recsEv] at h
    split at h
    · cases h
    · rename_i Y hY
      split at h
      · cases h
      · rename_i Z hZ
        simp only [Option.some.injEq] at h
        subst h
        rcases List.mem_append.1 he with he | he
        · exact (evC_RV 6 0 s.length (Nat.le_refl _) hS.2.2.1 0 0 0 r.1 Y [] (recEv_some hY).2 e he).2
        · exact recs_RV hS R Z hZ e he

theorem recs_mem {s : List TCol} : ∀ (R : List TRec) (X : List Ev), recsEv s R = some X → (∀ e, e ∈ X → ∃ r Y, r ∈ R ∧ recEv s r.1 = some Y ∧ e ∈ Y) ∧ (∀ r, r ∈ R → ∃ Y, recEv s r.1 = some Y ∧ ∀ e, e ∈ Y → e ∈ X)
  | [], X, h => by
    simp only [recsEv, Option.some.injEq] at h
    subst h
    exact ⟨fun e he => (by cases he), fun r hr => (by cases hr)⟩
  | r :: R, X, h => by
    simp only [recsEv] at h
    split at h
    · cases h
    · rename_i Y hY
      split at h
      · cases h
      · rename_i Z hZ
        simp only [Option.some.injEq] at h
        subst h
        obtain ⟨a1, a2⟩ := recs_mem R Z hZ
        refine ⟨fun e he => ?_, fun r' hr => ?_⟩
        · rcases List.mem_append.1 he with he | he
          · exact ⟨r, Y, List.mem_cons_self .., hY, he⟩
          · obtain ⟨r', Y', h1, h2, h3⟩ := a1 e he
            exact ⟨r', Y', List.mem_cons_of_mem _ h1, h2, h3⟩
        · rcases List.mem_cons.1 hr with rfl | hr
          · exact ⟨Y, hY, fun e he => List.mem_append_left _ he⟩
          · obtain ⟨Y', h1, h2⟩ := a2 r' hr
            exact ⟨Y', h1, fun e he => List.mem_append_right _ (h2 e he)⟩

theorem dlv_mono {s : List TCol} {f g : TCol → Bool} (h : ∀ c, f c = true → g c = true) (L : Nat) : ∀ n t, dlv s f L n t ≤ dlv s g L n t
  | 0, _ => Nat.le_refl _
  | n + 1, t => by
    have := dlv_mono h L n (t + 1) (s := s)
    simp only [dlv]
    split
    · omega
    · rename_i c hc
      by_cases h1 : L < colEnd s t ∧ f c = true
      · rw [if_pos h1, if_pos ⟨h1.1, h c h1.2⟩]; omega
      · rw [if_neg h1]; omega
theorem lvD_rep_opt (s : List TCol) (a L : Nat) : lvD s isRep a L ≤ lvD s isOpt a L := dlv_mono (fun c h => by simp [isRep] at h; simp [isOpt, h]) _ _ _

theorem evAt_one {s : List TCol} (hS : IsSchema s) {V : List TVal} {X : List Ev} (h : recEv s V = some X) {L : Nat} {c : TCol} (hc : s[L]? = some c) (h7 : c.2.1 ≠ 7) (h0 : lvD s isRep 1 L = 0) : ∃ e, evAt L X = [e] := by
  obtain ⟨e, q, e1, e2, e3⟩ := recEv_head hS h hc h7
  cases q with
  | nil => exact ⟨e, e1⟩
  | cons x q =>
    have hx := e3 x (List.mem_cons_self ..)
    have hm : x ∈ evAt L X := by rw [e1]; simp
    obtain ⟨m1, m2⟩ := evAt_mem hm
    have := (evC_RV 6 0 s.length (Nat.le_refl _) hS.2.2.1 0 0 0 V X [] (recEv_some h).2 x m1).2.1
    rw [m2, h0] at this
    omega

theorem col_RT {s : List TCol} (hS : IsSchema s) {R : List TRec} {X : List Ev} (hX : recsEv s R = some X) {L : Nat} {c : TCol} (hc : s[L]? = some c) : ∀ t, t ∈ (evAt L X).map trip →
    (0 ≤ t.1 ∧ t.1 ≤ (lvD s isRep 1 L : Int)) ∧ (0 ≤ t.2.1 ∧ t.2.1 ≤ (lvD s isOpt 1 L : Int)) ∧ (t.2.1 < (lvD s isOpt 1 L : Int) → t.2.2.1 = zv) ∧ (¬ t.2.1 < (lvD s isOpt 1 L : Int) → vok c.2.1 t.2.2.1 = true) := by
  intro t ht
  obtain ⟨hevs, _⟩ := recsEv_ok hS R X hX
  obtain ⟨e, he, rfl⟩ := List.mem_map.1 ht
  obtain ⟨m1, m2⟩ := evAt_mem he
  have ho := hevs e m1
  obtain ⟨rv1, rv2, rv3⟩ := recs_RV hS R X hX e m1
  have hy := ho.yes
  have hno := ho.no
  have hge := ho.ge
  rw [m2, Nat.zero_add] at hy hno
  rw [m2] at rv1 rv2
  refine ⟨⟨?_, ?_⟩, ⟨?_, ?_⟩, ?_, ?_⟩
  · show 0 ≤ e.rep; omega
  · show e.rep ≤ _; omega
  · show 0 ≤ e.def_; omega
  · show e.def_ ≤ _
    cases hlf : e.leaf with
    | true => have := hy hlf; omega
    | false => have := hno hlf; omega
  · intro hd
    have hd : e.def_ < _ := hd
    cases hlf : e.leaf with
    | true => have := hy hlf; omega
    | false => exact rv3 hlf
  · intro hd
    have hd : ¬ e.def_ < _ := hd
    cases hlf : e.leaf with
    | true => exact rv2 hlf c hc
    | false => have := hno hlf; omega
end Go.Law
end

section
/- Which encodings may be of which types. -/
set_option linter.unusedVariables false
set_option linter.unusedSimpArgs false
namespace Go.Law
open Go.Am Go.Fn

def encOkV (e t : Int) : Bool := tyOk t && (e == 0 || e == 8 || (e == 3 && t == 0) || (e == 5 && (t == 1 || t == 2)) || (e == 6 && t == 6) || (e == 7 && t == 6) || (e == 9 && (t == 1 || t == 2 || t == 5)))

theorem sencOk_val (k : Nat) (e t : Int) : spec_EncOk k e t = some (encOkV e t) := by
  unfold spec_EncOk spec_EncOk.c6 spec_EncOk.c13 spec_SplitWide spec_SplitWide.c6 encOkV
  simp only [l5Type_eq, Option.bind_some, cst, csf]
  cases ht : tyOk t with
  | false => rfl
  | true =>
    simp only [Bool.not_true, cond_false, Bool.true_and]
    by_cases h0 : e = 0
    · subst h0; rfl
    by_cases h8 : e = 8
    · subst h8; rfl
    by_cases h3 : e = 3
    · subst h3; simp
    by_cases h5 : e = 5
    · subst h5; simp
    by_cases h6 : e = 6
    · subst h6; simp
    by_cases h7 : e = 7
    · subst h7; simp
    by_cases h9 : e = 9
    · subst h9
      by_cases t1 : t = 1
      · subst t1; rfl
      by_cases t2 : t = 2
      · subst t2; rfl
      by_cases t5 : t = 5
      · subst t5; rfl
      simp [beqF t1, beqF t2, beqF t5, t1, t2, t5]
    simp [beqF h0, beqF h8, beqF h3, beqF h5, beqF h6, beqF h7, beqF h9, h0, h8, h3, h5, h6, h7, h9]
end Go.Law
end

section
/- Draws: they come to an end, whatever the bytes, and what is drawn is within its bounds. -/
set_option linter.unusedVariables false
set_option linter.unusedSimpArgs false
namespace Go.Law
open Go.Am Go.Fn

def CurOk (c : TL1Cur) : Prop := 0 ≤ c.2.1 ∧ c.2.1 ≤ (c.1.length : Int) ∧ c.1.length ≤ 1048576

variable (k : Nat)

theorem byte_ok (c : TL1Cur) (hc : CurOk c) : ∃ v c', spec_l1Byte k c = some (v, c') ∧ 0 ≤ v ∧ v < 256 ∧ CurOk c' := by
  obtain ⟨h0, h1, h2⟩ := hc
  unfold spec_l1Byte spec_l1Byte.c6
  by_cases h : c.2.1 < (c.1.length : Int)
  · obtain ⟨x, hx, _⟩ := rdL_some h0 h
    simp only [decide_eq_true h, cond_true, hx, Option.bind_some]
    refine ⟨_, _, rfl, ?_, ?_, ?_, ?_, ?_⟩
    · simp only [and255]; omega
    · simp only [and255]; omega
    · show 0 ≤ IntKind.wrap .i64 (c.2.1 + 1)
      rw [w64 (by omega) (by omega)]; omega
    · show IntKind.wrap .i64 (c.2.1 + 1) ≤ (c.1.length : Int)
      rw [w64 (by omega) (by omega)]; omega
    · exact h2
  · simp only [decide_eq_false h, cond_false]
    refine ⟨_, _, rfl, ?_, ?_, h0, h1, h2⟩
    · simp only [and255]; omega
    · simp only [and255]; omega

theorem below_ok (n : Int) (hn : n < 9223372036854775808) (c : TL1Cur) (hc : CurOk c) : ∃ v c', spec_l1Below k n c = some (v, c') ∧ (n ≤ 0 → v = 0) ∧ (0 < n → 0 ≤ v ∧ v < n) ∧ CurOk c' := by
  unfold spec_l1Below
  by_cases h0 : n ≤ 0
  · simp only [decide_eq_true h0, cond_true]
    exact ⟨_, _, rfl, fun _ => rfl, fun h => by omega, hc⟩
  · have hne : decide (n ≠ 0) = true := decide_eq_true (by omega)
    simp only [decide_eq_false h0, cond_false, hne, cond_true]
    have fin : ∀ v : Int, 0 ≤ v → 0 ≤ Int.tmod v n ∧ Int.tmod v n < n := fun v hv => by
      rw [Int.tmod_eq_emod_of_nonneg hv]
      exact ⟨Int.emod_nonneg _ (by omega), Int.emod_lt_of_pos _ (by omega)⟩
    by_cases h256 : n ≤ 256
    · simp only [decide_eq_true h256, cond_true]
      obtain ⟨v, c', hv, v0, v1, hc'⟩ := byte_ok k c hc
      simp only [hv, Option.bind_some]
      exact ⟨_, _, rfl, fun h => by omega, fun _ => fin v v0, hc'⟩
    · simp only [decide_eq_false h256, cond_false]
      obtain ⟨v1, c1, hv1, a1, b1, hc1⟩ := byte_ok k c hc
      simp only [hv1, Option.bind_some]
      obtain ⟨v2, c2, hv2, a2, b2, hc2⟩ := byte_ok k c1 hc1
      simp only [hv2, Option.bind_some]
      obtain ⟨v3, c3, hv3, a3, b3, hc3⟩ := byte_ok k c2 hc2
      simp only [hv3, Option.bind_some]
      obtain ⟨v4, c4, hv4, a4, b4, hc4⟩ := byte_ok k c3 hc3
      simp only [hv4, Option.bind_some]
      rw [w64 (show -9223372036854775808 ≤ v1 * 16777216 by omega) (by omega), w64 (show -9223372036854775808 ≤ v2 * 65536 by omega) (by omega), w64 (show -9223372036854775808 ≤ v1 * 16777216 + v2 * 65536 by omega) (by omega),
        w64 (show -9223372036854775808 ≤ v3 * 256 by omega) (by omega), w64 (show -9223372036854775808 ≤ v1 * 16777216 + v2 * 65536 + v3 * 256 by omega) (by omega), w64 (show -9223372036854775808 ≤ v1 * 16777216 + v2 * 65536 + v3 * 256 + v4 by omega) (by omega)]
      exact ⟨_, _, rfl, fun h => by omega, fun _ => fin _ (by omega), hc4⟩

theorem pick_ok (l : List Int) (hl : 0 < l.length) (hl2 : l.length < 1000000) (c : TL1Cur) (hc : CurOk c) : ∃ v c', spec_l1PickInt k l c = some (v, c') ∧ v ∈ l ∧ CurOk c' := by
  unfold spec_l1PickInt
  obtain ⟨v, c', hv, _, h1, hc'⟩ := below_ok k (l.length : Int) (by omega) c hc
  obtain ⟨h1, h2⟩ := h1 (by omega)
  simp only [hv, Option.bind_some]
  obtain ⟨x, hx, hx2⟩ := rdL_some h1 h2
  simp only [hx, Option.bind_some]
  exact ⟨_, _, rfl, List.mem_of_getElem? hx2, hc'⟩

theorem once_ok (n : Int) (hn : n < 9223372036854775808) (c : TL1Cur) (hc : CurOk c) : ∃ v c', spec_l1Once k n c = some (v, c') ∧ CurOk c' := by
  unfold spec_l1Once
  obtain ⟨v, c', hv, _, _, hc'⟩ := below_ok k n hn c hc
  simp only [hv, Option.bind_some]
  exact ⟨_, _, rfl, hc'⟩

theorem bytesLoop_ok (t6 : Int) (h6 : t6 ≤ 1000000) : ∀ (m n : Nat) (i : Int) (c : TL1Cur) (acc : List Int), CurOk c → 0 ≤ i → t6 - i ≤ m → m < n → acc.length + m ≤ 4000000 → (∀ x, x ∈ acc → 0 ≤ x ∧ x < 256) →
    ∃ c' out, spec_l1DrawBytes.l4 k n t6 i c acc = some ((), (c', out)) ∧ CurOk c' ∧ out.length ≤ acc.length + m ∧ ∀ x, x ∈ out → 0 ≤ x ∧ x < 256 := by
  intro m
  induction m with
  | zero =>
    intro n i c acc hc hi hm hn ha hb
    obtain ⟨n, rfl⟩ : ∃ j, n = j + 1 := ⟨n - 1, by omega⟩
    simp only [spec_l1DrawBytes.l4, decide_eq_false (show ¬ i < t6 by omega), cond_false]
    exact ⟨_, _, rfl, hc, by omega, hb⟩
  | succ m ih =>
    intro n i c acc hc hi hm hn ha hb
    obtain ⟨n, rfl⟩ : ∃ j, n = j + 1 := ⟨n - 1, by omega⟩
    by_cases h : i < t6
    · obtain ⟨v, c1, hv, v0, v1, hc1⟩ := byte_ok k c hc
      simp only [spec_l1DrawBytes.l4, decide_eq_true h, cond_true, hv, Option.bind_some]
      rw [lim_ok (by simp; omega), cond_true, w8 v0 v1, w64 (by omega) (by omega)]
      obtain ⟨c', out, h1, h2, h3, h4⟩ := ih n (i + 1) c1 (acc ++ [v]) hc1 (by omega) (by omega) (by omega) (by simp; omega) (fun x hx => by
        rcases List.mem_append.1 hx with hx | hx
        · exact hb x hx
        · simp at hx; subst hx; exact ⟨v0, v1⟩)
      exact ⟨c', out, h1, h2, by simp at h3; omega, h4⟩
    · simp only [spec_l1DrawBytes.l4, decide_eq_false h, cond_false]
      exact ⟨_, _, rfl, hc, by omega, hb⟩

theorem drawBytes_ok (most : Nat) (hm : most < 900000) (hk : 1000000 ≤ k) (c : TL1Cur) (hc : CurOk c) : ∃ c' out, spec_l1DrawBytes k (most : Int) c = some ((), (c', out)) ∧ CurOk c' ∧ out.length ≤ most ∧ ∀ x, x ∈ out → 0 ≤ x ∧ x < 256 := by
  unfold spec_l1DrawBytes
  rw [w64 (by omega) (by omega)]
  obtain ⟨v, c1, hv, _, h1, hc1⟩ := below_ok k ((most : Int) + 1) (by omega) c hc
  obtain ⟨h1, h2⟩ := h1 (by omega)
  simp only [hv, Option.bind_some]
  obtain ⟨c', out, g1, g2, g3, g4⟩ := bytesLoop_ok k v (by omega) most k 0 c1 [] hc1 (by omega) (by omega) (by omega) (by simp; omega) (by simp)
  exact ⟨c', out, g1, g2, by simpa using g3, g4⟩

theorem drawText_ok (most : Nat) (hm : most < 900000) (hk : 1000000 ≤ k) (c : TL1Cur) (hc : CurOk c) : ∃ v c', spec_l4DrawText k (most : Int) c = some (v, c') ∧ CurOk c' ∧ v.size ≤ most := by
  unfold spec_l4DrawText
  obtain ⟨c', out, g1, g2, g3, g4⟩ := drawBytes_ok k most hm hk c hc
  simp only [g1, Option.bind_some]
  exact ⟨_, _, rfl, g2, by rw [intsStr_size]; exact g3⟩

theorem drawNum_ok (c : TL1Cur) (hc : CurOk c) : ∃ v c', spec_l2DrawNum k c = some (v, c') ∧ CurOk c' ∧ I64 v := by
  unfold spec_l2DrawNum
  obtain ⟨v1, c1, hv1, _, a1, hc1⟩ := below_ok k 1000000 (by omega) c hc
  have a1 := a1 (by omega)
  simp only [hv1, Option.bind_some]
  obtain ⟨v2, c2, hv2, _, a2, hc2⟩ := below_ok k 1000000 (by omega) c1 hc1
  have a2 := a2 (by omega)
  simp only [hv2, Option.bind_some]
  obtain ⟨v3, c3, hv3, _, a3, hc3⟩ := below_ok k 300 (by omega) c2 hc2
  have a3 := a3 (by omega)
  simp only [hv3, Option.bind_some]
  rw [w64 (show -9223372036854775808 ≤ 0 - v2 by omega) (by omega)]
  obtain ⟨v, c4, hv, hm, hc4⟩ := pick_ok k [0, 1, (-1), 63, 64, (-64), (-65), 127, 128, 16383, 16384, 2147483647, (-2147483648), 9223372036854775807, (-9223372036854775808), 4611686018427387904, v1, 0 - v2, v3] (by simp) (by simp) c3 hc3
  simp only [hv, Option.bind_some]
  refine ⟨_, _, rfl, hc4, ?_⟩
  simp only [List.mem_cons, List.not_mem_nil, or_false] at hm
  unfold I64
  omega

theorem newLoop_ok (t : List Int) (ht : t.length ≤ 1048576) : ∀ (m n : Nat) (h i : Int), 0 ≤ i → 4000 - i ≤ m → m < n →
    ∃ c, spec_l1New.l3 k n t h i = some ((), c) ∧ CurOk c := by
  intro m
  induction m with
  | zero =>
    intro n h i hi hm hn
    obtain ⟨n, rfl⟩ : ∃ j, n = j + 1 := ⟨n - 1, by omega⟩
    simp only [spec_l1New.l3, csf, decide_eq_false (show ¬ i < 4000 by omega), Bool.and_false, Option.bind_some, cond_false]
    exact ⟨_, rfl, Int.le_refl _, by simp, ht⟩
  | succ m ih =>
    intro n h i hi hm hn
    obtain ⟨n, rfl⟩ : ∃ j, n = j + 1 := ⟨n - 1, by omega⟩
    by_cases hb : i < (t.length : Int) ∧ i < 4000
    · obtain ⟨x, hx, _⟩ := rdL_some hi hb.1
      simp only [spec_l1New.l3, csf, decide_eq_true hb.1, decide_eq_true hb.2, Bool.and_self, Option.bind_some, cond_true, hx]
      rw [w64 (show -9223372036854775808 ≤ i + 1 by omega) (by omega)]
      exact ih n _ (i + 1) (by omega) (by omega) (by omega)
    · have : (decide (i < (t.length : Int)) && decide (i < 4000)) = false := by
        rw [Bool.eq_false_iff]; intro hh
        simp only [Bool.and_eq_true, decide_eq_true_eq] at hh
        exact hb hh
      simp only [spec_l1New.l3, csf, this, Option.bind_some, cond_false]
      exact ⟨_, rfl, Int.le_refl _, by simp, ht⟩

theorem new_ok (hk : 1000000 ≤ k) (t : List Int) (ht : t.length ≤ 1048576) : ∃ c, spec_l1New k t = some ((), c) ∧ CurOk c := by
  unfold spec_l1New
  exact newLoop_ok k t ht 4000 k _ 0 (by omega) (by omega) (by omega)
end Go.Law
end

section
/- Configs are drawn. -/
set_option linter.unusedVariables false
set_option linter.unusedSimpArgs false
set_option linter.unusedSectionVars false
namespace Go.Law
open Go.Am Go.Fn
variable (k : Nat)

theorem drawEnc_ok (hk : 1000 ≤ k) (t : Int) (c : TL1Cur) (hc : CurOk c) : ∃ e c', spec_l16DrawEnc k t c = some (e, c') ∧ 0 ≤ e ∧ e ≤ 10 ∧ CurOk c' := by
  have key : ∀ (m f : Nat) (i : Int) (o : List Int), 10 - i ≤ m → 0 ≤ i → m < f → 0 < o.length → o.length + 2 * m ≤ 100 → (∀ x, x ∈ o → 0 ≤ x ∧ x ≤ 10) →
      ∃ e c', spec_l16DrawEnc.l3 k f t i c o = some (e, c') ∧ 0 ≤ e ∧ e ≤ 10 ∧ CurOk c' := by
    intro m
    induction m with
    | zero =>
      intro f i o hi h0 hf ho hl hx
      obtain ⟨f, rfl⟩ : ∃ q, f = q + 1 := ⟨f - 1, by omega⟩
      obtain ⟨b, c1, e1, hc1⟩ := once_ok k 20 (by decide) c hc
      simp only [spec_l16DrawEnc.l3, decide_eq_false (show ¬ i < 10 by omega), cond_false, e1, Option.bind_some]
      cases b with
      | true =>
        obtain ⟨v, c2, e2, _, b2, hc2⟩ := below_ok k 11 (by decide) c1 hc1
        have b2 := b2 (by decide)
        simp only [cond_true, e2, Option.bind_some]
        exact ⟨v, c2, rfl, b2.1, by omega, hc2⟩
      | false =>
        obtain ⟨v, c2, e2, hv, hc2⟩ := pick_ok k o ho (by omega) c1 hc1
        simp only [cond_false, e2, Option.bind_some]
        exact ⟨v, c2, rfl, (hx v hv).1, (hx v hv).2, hc2⟩
    | succ m ih =>
      intro f i o hi h0 hf ho hl hx
      obtain ⟨f, rfl⟩ : ∃ q, f = q + 1 := ⟨f - 1, by omega⟩
      by_cases hlt : i < 10
      · have hi1 : IntKind.wrap .i64 (i + 1) = i + 1 := w64 (by omega) (by omega)
        simp only [spec_l16DrawEnc.l3, decide_eq_true hlt, cond_true, sencOk_val, Option.bind_some, csf, spec_l16DrawEnc.c4, hi1]
        cases (i != 8 && encOkV i t) with
        | true =>
          rw [cond_true, lim_ok (by simp; omega), cond_true]
          exact ih f (i + 1) (o ++ [i, i]) (by omega) (by omega) (by omega) (by simp) (by simp; omega) (fun x hx' => by
            rcases List.mem_append.1 hx' with h | h
            · exact hx x h
            · simp at h; omega)
        | false =>
          rw [cond_false]
          exact ih f (i + 1) o (by omega) (by omega) (by omega) ho (by omega) hx
      · obtain ⟨b, c1, e1, hc1⟩ := once_ok k 20 (by decide) c hc
        simp only [spec_l16DrawEnc.l3, decide_eq_false hlt, cond_false, e1, Option.bind_some]
        cases b with
        | true =>
          obtain ⟨v, c2, e2, _, b2, hc2⟩ := below_ok k 11 (by decide) c1 hc1
          have b2 := b2 (by decide)
          simp only [cond_true, e2, Option.bind_some]
          exact ⟨v, c2, rfl, b2.1, by omega, hc2⟩
        | false =>
          obtain ⟨v, c2, e2, hv, hc2⟩ := pick_ok k o ho (by omega) c1 hc1
          simp only [cond_false, e2, Option.bind_some]
          exact ⟨v, c2, rfl, (hx v hv).1, (hx v hv).2, hc2⟩
  exact key 10 k 1 [0, 8] (by omega) (by omega) (by omega) (by simp) (by simp) (fun x hx => by simp at hx; omega)

def EncsFit (s : List TCol) (E : List Int) : Prop := E.length = (leavesFrom 0 s).length ∧ ∀ (j : Nat) (L : Nat) (c : TCol) (e : Int), (leavesFrom 0 s)[j]? = some (L : Int) → s[L]? = some c → E[j]? = some e → encOkV e c.2.1 = true

theorem drawConfig_ok (hk : 3000 ≤ k) (s : List TCol) (hs : s.length ≤ 1000) (hty : ∀ (L : Nat) (c : TCol), s[L]? = some c → c.2.1 ≠ 7 → tyOk c.2.1 = true) (c : TL1Cur) (hc : CurOk c) :
    ∃ v b p g m E c', spec_l16DrawConfig k s c = some ((v, b, p, g, m, (), ()), (c', E)) ∧ (1 ≤ v ∧ v ≤ 2) ∧ (1 ≤ p ∧ p ≤ 4) ∧ (1 ≤ g ∧ g ≤ 8) ∧ (m = 0 ∨ m = 10 ∨ m = 200 ∨ m = 20000) ∧ EncsFit s E ∧ CurOk c' := by
  unfold spec_l16DrawConfig
  obtain ⟨x1, c1, e1, _, b1, hc1⟩ := below_ok k 2 (by decide) c hc
  have b1 := b1 (by decide)
  obtain ⟨x2, c2, e2, hc2⟩ := once_ok k 2 (by decide) c1 hc1
  obtain ⟨x3, c3, e3, _, b3, hc3⟩ := below_ok k 4 (by decide) c2 hc2
  have b3 := b3 (by decide)
  obtain ⟨x4, c4, e4, _, b4, hc4⟩ := below_ok k 8 (by decide) c3 hc3
  have b4 := b4 (by decide)
  obtain ⟨x5, c5, e5, hm, hc5⟩ := pick_ok k [0, 10, 200, 20000] (by decide) (by decide) c4 hc4
  obtain ⟨_, hlv⟩ := leaves_eq k (by omega) s hs
  have hll := leavesFrom_len 0 s
  simp only [e1, e2, e3, e4, e5, hlv, Option.bind_some, w64 (show (-9223372036854775808 : Int) ≤ 1 + x1 by omega) (by omega), w64 (show (-9223372036854775808 : Int) ≤ 1 + x3 by omega) (by omega), w64 (show (-9223372036854775808 : Int) ≤ 1 + x4 by omega) (by omega)]
  generalize hlvs : leavesFrom 0 s = lv at hll
  have key : ∀ (m f i : Nat) (c : TL1Cur) (o : List Int), i + m = lv.length → m < f → CurOk c → o.length = i →
      (∀ (j : Nat) (L : Nat) (c : TCol) (e : Int), j < i → lv[j]? = some (L : Int) → s[L]? = some c → o[j]? = some e → encOkV e c.2.1 = true) →
      ∃ E c', spec_l16DrawConfig.l4 k f s (i : Int) c (0, false, 0, 0, 0, (), ()) (1 + x1, x2, 1 + x3, 1 + x4, x5, (), ()) lv [] o = some ((1 + x1, x2, 1 + x3, 1 + x4, x5, (), ()), (c', E)) ∧ CurOk c' ∧ E.length = lv.length ∧
        (∀ (j : Nat) (L : Nat) (c : TCol) (e : Int), lv[j]? = some (L : Int) → s[L]? = some c → E[j]? = some e → encOkV e c.2.1 = true) := by
    intro m
    induction m with
    | zero =>
      intro f i c o hi hf hc ho hx
      obtain ⟨f, rfl⟩ : ∃ q, f = q + 1 := ⟨f - 1, by omega⟩
      simp only [spec_l16DrawConfig.l4, decide_eq_false (show ¬ (i : Int) < (lv.length : Int) by omega), cond_false]
      refine ⟨o, c, rfl, hc, by omega, fun j L c e h1 h2 h3 => hx j L c e ?_ h1 h2 h3⟩
      have := (List.getElem?_eq_some_iff.1 h1).1
      omega
    | succ m ih =>
      intro f i c o hi hf hc ho hx
      obtain ⟨f, rfl⟩ : ∃ q, f = q + 1 := ⟨f - 1, by omega⟩
      have hil : i < lv.length := by omega
      obtain ⟨L, q1, _, _, col, q4, q5⟩ := leavesFrom_get s [] s rfl i _ (by rw [show ([] : List TCol).length = 0 from rfl, hlvs]; exact List.getElem?_eq_getElem hil)
      have hg : rdL lv (i : Int) = some (L : Int) := by rw [rdL_nat, List.getElem?_eq_getElem hil, q1]
      have hgL : rdL s (L : Int) = some col := by rw [rdL_nat, q4]
      have hty := hty L col q4 q5
      have hi1 : IntKind.wrap .i64 ((i : Int) + 1) = ((i + 1 : Nat) : Int) := by rw [w64 (by omega) (by omega)]; omega
      obtain ⟨e, c1, d1, d2, d3, hc1⟩ := drawEnc_ok k (by omega) col.2.1 c hc
      simp only [spec_l16DrawConfig.l4, decide_eq_true (show (i : Int) < (lv.length : Int) by omega), cond_true, hg, hgL, Option.bind_some, d1, sencOk_val, spec_l16DrawConfig.c9, hi1]
      have step : ∀ e', encOkV e' col.2.1 = true → ∃ E c', (cond (lim (o.length + [e'].length)) (spec_l16DrawConfig.l4 k f s ((i + 1 : Nat) : Int) c1 (0, false, 0, 0, 0, (), ()) (1 + x1, x2, 1 + x3, 1 + x4, x5, (), ()) lv [] (o ++ [e'])) none) = some ((1 + x1, x2, 1 + x3, 1 + x4, x5, (), ()), (c', E)) ∧ CurOk c' ∧ E.length = lv.length ∧
        (∀ (j : Nat) (L : Nat) (c : TCol) (e : Int), lv[j]? = some (L : Int) → s[L]? = some c → E[j]? = some e → encOkV e c.2.1 = true) := by
        intro e' he'
        rw [lim_ok (by simp; omega), cond_true]
        refine ih f (i + 1) c1 (o ++ [e']) (by omega) (by omega) hc1 (by simp [ho]) (fun j L' c' e'' h1 h2 h3 h4 => ?_)
        rcases Nat.lt_or_ge j i with h | h
        · rw [List.getElem?_append_left (by omega)] at h4
          exact hx j L' c' e'' h h2 h3 h4
        · have hji : j = i := by omega
          subst hji
          rw [List.getElem?_append_right (by omega), show j - o.length = 0 by omega] at h4
          simp only [List.getElem?_cons_zero, Option.some.injEq] at h4
          subst h4
          rw [List.getElem?_eq_getElem hil, q1] at h2
          simp only [Option.some.injEq] at h2
          have : L = L' := by omega
          subst this
          rw [q4] at h3
          cases h3
          exact he'
      cases hb : encOkV e col.2.1 with
      | true => simp only [Bool.not_true, cond_false]; exact step e hb
      | false =>
        simp only [Bool.not_false, cond_true]
        have := step 0 (by unfold encOkV; rw [hty]; rfl)
        exact this
  obtain ⟨E, c', f1, f2, f3, f4⟩ := key lv.length k 0 c5 [] (by omega) (by omega) hc5 rfl (fun j _ _ _ h => by omega)
  have f1 : spec_l16DrawConfig.l4 k k s 0 c5 (0, false, 0, 0, 0, (), ()) (1 + x1, x2, 1 + x3, 1 + x4, x5, (), ()) lv [] [] = _ := f1
  refine ⟨1 + x1, x2, 1 + x3, 1 + x4, x5, E, c', f1, by omega, by omega, by omega, by simp at hm; exact hm, ⟨by rw [hlvs]; exact f3, by rw [hlvs]; exact f4⟩, f2⟩

theorem schema_ty {s : List TCol} (hS : IsSchema s) (L : Nat) (c : TCol) (hc : s[L]? = some c) (h7 : c.2.1 ≠ 7) : tyOk c.2.1 = true := by
  obtain ⟨nx, h, _⟩ := sub_at 6 0 s.length hS.2.2.1 L (Nat.zero_le _) (List.getElem?_eq_some_iff.1 hc).1
  unfold SubC at h
  obtain ⟨c', h1, h2, _⟩ := h
  rw [hc] at h1
  cases h1
  unfold colOk at h2
  simp only [Bool.and_eq_true, Bool.or_eq_true, beq_iff_eq] at h2
  rcases h2.1 with h | h
  · exact absurd h.1 h7
  · exact h.1
end Go.Law
end

section
/- Texts are picked. -/
set_option linter.unusedVariables false
set_option linter.unusedSimpArgs false
namespace Go.Law
open Go.Am Go.Fn
variable (k : Nat)

theorem pickS_ok (l : List ByteArray) (hl : 0 < l.length) (hl2 : l.length < 1000000) (c : TL1Cur) (hc : CurOk c) : ∃ v c', spec_l1Pick k l c = some (v, c') ∧ v ∈ l ∧ CurOk c' := by
  unfold spec_l1Pick
  obtain ⟨v, c', hv, _, h1, hc'⟩ := below_ok k (l.length : Int) (by omega) c hc
  obtain ⟨h1, h2⟩ := h1 (by omega)
  simp only [hv, Option.bind_some]
  obtain ⟨x, hx, hx2⟩ := rdL_some h1 h2
  simp only [hx, Option.bind_some]
  exact ⟨_, _, rfl, List.mem_of_getElem? hx2, hc'⟩

end Go.Law
end

section
/- A schema is drawn, whatever the bytes. -/
set_option linter.unusedVariables false
set_option linter.unusedSimpArgs false
namespace Go.Law
open Go.Am Go.Fn
variable (k : Nat)

def WfD (c : TCol) : Prop := c.1.size ≤ 100 ∧ I64 c.2.1 ∧ I64 c.2.2.1 ∧ I64 c.2.2.2.1
def WfDs (l : List TCol) : Prop := ∀ c, c ∈ l → WfD c

theorem WfDs.app {a b : List TCol} (h : WfDs a) (h' : WfDs b) : WfDs (a ++ b) := fun n hn => (List.mem_append.1 hn).elim (h n) (h' n)
theorem WfDs.one {n : TCol} (h : WfD n) : WfDs [n] := fun m hm => by simp at hm; subst hm; exact h
theorem WfDs.set {l : List TCol} {i : Nat} {n : TCol} (h : WfDs l) (hn : WfD n) : WfDs (l.set i n) := fun m hm => by
  rcases List.mem_or_eq_of_mem_set hm with hm | rfl
  · exact h m hm
  · exact hn
theorem WfDs.nil : WfDs [] := fun m hm => (List.not_mem_nil hm).elim

theorem wfD_mk {t r m : Int} {s : ByteArray} (h0 : s.size ≤ 100) (h1 : I64 t) (h2 : I64 r) (h3 : I64 m) : WfD (s, t, r, m, ()) := ⟨h0, h1, h2, h3⟩
theorem i64s {x : Int} (h0 : -1000000000 ≤ x) (h1 : x ≤ 1000000000) : I64 x := ⟨by omega, by omega⟩

def szc : Nat → Nat
  | 0 => 1
  | d + 1 => 1 + 3 * szc d

theorem szc_pos (d : Nat) : 0 < szc d := by cases d <;> simp [szc] <;> omega
theorem szc_le {d : Nat} (h : d ≤ 3) : szc d ≤ 40 := by
  match d, h with
  | 0, _ => decide
  | 1, _ => decide
  | 2, _ => decide
  | 3, _ => decide

abbrev ColS (S : ByteArray → Int → TL1Cur → List TCol → Option (Unit × TL1Cur × List TCol)) (deep : Nat) : Prop :=
  ∀ (name : ByteArray) (c : TL1Cur) (acc : List TCol), (deep = 0 → eqS name ⟨#[]⟩ = false) → name.size ≤ 2 → CurOk c → WfDs acc → acc.length + szc deep ≤ 10000 →
    ∃ c' l', S name (deep : Int) c acc = some ((), (c', l')) ∧ CurOk c' ∧ WfDs l' ∧ acc.length < l'.length ∧ l'.length ≤ acc.length + szc deep

theorem colLoop (S : ByteArray → Int → TL1Cur → List TCol → Option (Unit × TL1Cur × List TCol)) (d : Nat) (hd : d ≤ 3) (ih : ColS S d) (many : Int) (hm : many ≤ 3) :
    ∀ (m n : Nat) (i : Int) (c : TL1Cur) (acc : List TCol), 0 ≤ i → many - i ≤ m → m < n → CurOk c → WfDs acc → acc.length + m * szc d ≤ 10000 →
    ∃ c' l', spec_l5DrawCol.l13 k S n ((d + 1 : Nat) : Int) many i c acc = some ((), (c', l')) ∧ CurOk c' ∧ WfDs l' ∧ acc.length ≤ l'.length ∧ l'.length ≤ acc.length + m * szc d := by
  intro m
  induction m with
  | zero =>
    intro n i c acc hi hmi hn hc ha hl
    obtain ⟨n, rfl⟩ : ∃ j, n = j + 1 := ⟨n - 1, by omega⟩
    simp only [spec_l5DrawCol.l13, decide_eq_false (show ¬ i < many by omega), cond_false]
    exact ⟨_, _, rfl, hc, ha, Nat.le_refl _, by omega⟩
  | succ m ihm =>
    intro n i c acc hi hmi hn hc ha hl
    obtain ⟨n, rfl⟩ : ∃ j, n = j + 1 := ⟨n - 1, by omega⟩
    have hsz : (m + 1) * szc d = m * szc d + szc d := by rw [Nat.add_mul]; simp
    by_cases h : i < many
    · obtain ⟨v, c1, e1, _, b1, hc1⟩ := below_ok k 4 (by omega) c hc
      have b1 := b1 (by omega)
      simp only [spec_l5DrawCol.l13, decide_eq_true h, cond_true, e1, Option.bind_some]
      have hdw : IntKind.wrap .i64 (((d + 1 : Nat) : Int) - 1) = (d : Int) := by rw [w64 (by omega) (by omega)]; omega
      rw [hdw]
      have hne : eqS (intsStr [IntKind.wrap .u8 (IntKind.wrap .i64 (97 + i)), IntKind.wrap .u8 (IntKind.wrap .i64 (97 + v))]) ⟨#[]⟩ = false := by
        rw [eqS_iff]
        refine decide_eq_false fun hh => ?_
        have := congrArg ByteArray.size hh
        rw [intsStr_size] at this
        cases this
      obtain ⟨c2, l2, e2, hc2, hw2, hl2, hl2'⟩ := ih _ c1 acc (fun _ => hne) (by rw [intsStr_size]; exact Nat.le_refl 2) hc1 ha (by omega)
      simp only [e2, Option.bind_some]
      rw [w64 (by omega) (by omega)]
      obtain ⟨c', l', g1, g2, g3, g4, g5⟩ := ihm n (i + 1) c2 l2 (by omega) (by omega) (by omega) hc2 hw2 (by omega)
      exact ⟨c', l', g1, g2, g3, by omega, by omega⟩
    · simp only [spec_l5DrawCol.l13, decide_eq_false h, cond_false]
      exact ⟨_, _, rfl, hc, ha, Nat.le_refl _, by omega⟩

theorem colStep (hk : 100 ≤ k) (deep : Nat) (hdeep : deep ≤ 3) (S : ByteArray → Int → TL1Cur → List TCol → Option (Unit × TL1Cur × List TCol)) (ih : ∀ d, d + 1 = deep → ColS S d) : ColS (spec_l5DrawCol.b k S) deep := by
  intro name c acc hname hsize hc ha hl
  have hp := szc_pos deep
  have z0 : I64 0 := i64s (by omega) (by omega)
  have z7 : I64 7 := i64s (by omega) (by omega)
  have hset : ∀ (x y : TCol), List.set (acc ++ [x]) (Int.toNat (acc.length : Int)) y = acc ++ [y] := fun x y => by
    rw [Int.toNat_natCast, List.set_append_right _ _ (Nat.le_refl _)]; simp
  have hget : ∀ (x : TCol), rdL (acc ++ [x]) (acc.length : Int) = some x := fun x => by
    rw [rdL_nat, List.getElem?_append_right (Nat.le_refl _)]; simp
  -- a leaf
  have leaf : ∀ (c : TL1Cur) (t r : Int), CurOk c → t ≠ 7 → I64 t → I64 r → ∃ c' l', spec_l5DrawCol.c4 k S name (deep : Int) c acc (name, t, r, 0, ()) = some ((), (c', l')) ∧ CurOk c' ∧ WfDs l' ∧ acc.length < l'.length ∧ l'.length ≤ acc.length + szc deep := by
    intro c t r hc ht h1 h2
    unfold spec_l5DrawCol.c4
    rw [lim_ok (by simp; omega), cond_true]
    simp only [bneT ht, cond_true]
    exact ⟨_, _, rfl, hc, ha.app (WfDs.one (wfD_mk (by omega) h1 h2 z0)), by simp, by simp; omega⟩
  -- a group
  have group : ∀ (c : TL1Cur) (r : Int), 0 < deep → CurOk c → I64 r → ∃ c' l', spec_l5DrawCol.c4 k S name (deep : Int) c acc (name, 7, r, 0, ()) = some ((), (c', l')) ∧ CurOk c' ∧ WfDs l' ∧ acc.length < l'.length ∧ l'.length ≤ acc.length + szc deep := by
    intro c r hd0 hc h2
    obtain ⟨d, rfl⟩ : ∃ d, deep = d + 1 := ⟨deep - 1, by omega⟩
    unfold spec_l5DrawCol.c4 spec_l5DrawCol.c12
    rw [lim_ok (by simp; omega), cond_true]
    obtain ⟨v, c1, e1, _, b1, hc1⟩ := below_ok k 3 (by omega) c hc
    have b1 := b1 (by omega)
    simp only [bneF rfl, cond_false, e1, Option.bind_some, hget, hset]
    rw [w64 (by omega) (by omega)]
    have hsz : szc (d + 1) = 1 + 3 * szc d := rfl
    have loop : ∀ y : TCol, WfD y → ∃ c' l', spec_l5DrawCol.l13 k S k ((d + 1 : Nat) : Int) (1 + v) 0 c1 (acc ++ [y]) = some ((), (c', l')) ∧ CurOk c' ∧ WfDs l' ∧ acc.length < l'.length ∧ l'.length ≤ acc.length + szc (d + 1) := by
      intro y hy
      obtain ⟨c', l', g1, g2, g3, g4, g5⟩ := colLoop k S d (by omega) (ih d rfl) (1 + v) (by omega) 3 k 0 c1 (acc ++ [y]) (by omega) (by omega) (by omega) hc1 (ha.app (WfDs.one hy)) (by simp; omega)
      simp at g4 g5
      exact ⟨c', l', g1, g2, g3, by omega, by omega⟩
    cases eqS name ⟨#[]⟩ with
    | true => simp only [cond_true]; exact loop _ (wfD_mk (by omega) z7 z0 (i64s (by omega) (by omega)))
    | false => simp only [cond_false]; exact loop _ (wfD_mk (by omega) z7 h2 (i64s (by omega) (by omega)))
  unfold spec_l5DrawCol.b
  obtain ⟨t, c1, e1, m1, hc1⟩ := pick_ok k [0, 1, 2, 5, 6] (by simp) (by simp) c hc
  simp only [List.mem_cons, List.not_mem_nil, or_false] at m1
  simp only [e1, Option.bind_some]
  obtain ⟨r, c2, e2, _, b2, hc2⟩ := below_ok k 3 (by omega) c1 hc1
  have b2 := b2 (by omega)
  simp only [e2, Option.bind_some]
  have hI : I64 t := i64s (by omega) (by omega)
  have hR : I64 r := i64s (by omega) (by omega)
  cases hn : eqS name ⟨#[]⟩ with
  | true =>
    simp only [cond_true]
    have : 0 < deep := by
      rcases Nat.eq_zero_or_pos deep with h | h
      · rw [hname h] at hn; cases hn
      · exact h
    exact group c2 r this hc2 hR
  | false =>
    simp only [cond_false]
    by_cases h : (deep : Int) > 0
    · simp only [decide_eq_true h, cond_true]
      obtain ⟨b, c3, e3, hc3⟩ := once_ok k 3 (by omega) c2 hc2
      simp only [e3, Option.bind_some]
      cases b with
      | true => simp only [cond_true]; exact group c3 r (by omega) hc3 hR
      | false => simp only [cond_false]; exact leaf c3 t r hc3 (by omega) hI hR
    · simp only [decide_eq_false h, cond_false]
      exact leaf c2 t r hc2 (by omega) hI hR

theorem drawCol_ok (hk : 100 ≤ k) : ∀ (deep D : Nat), deep ≤ 3 → deep < D → ColS (spec_l5DrawCol.rec k D) deep := by
  intro deep
  induction deep with
  | zero =>
    intro D hdeep hD
    obtain ⟨D, rfl⟩ : ∃ j, D = j + 1 := ⟨D - 1, by omega⟩
    exact colStep k hk 0 (by omega) _ (fun d h => by omega)
  | succ deep ihd =>
    intro D hdeep hD
    obtain ⟨D, rfl⟩ : ∃ j, D = j + 1 := ⟨D - 1, by omega⟩
    exact colStep k hk (deep + 1) hdeep _ (fun d h => by
      obtain rfl : d = deep := by omega
      exact ihd D (by omega) (by omega))

theorem wfSmall (hk : 1000 ≤ k) {s : List TCol} (h : WfDs s) : ∀ c, c ∈ s → c.1.size < k ∧ c.1.size < 1000000000 ∧ I64 c.2.2.2.1 := fun c hc => by
  obtain ⟨h0, _, _, h3⟩ := h c hc
  exact ⟨by omega, by omega, h3⟩

theorem dflt_ok (hk : 100 ≤ k) : spec_SchemaOk k [((⟨#[]⟩ : ByteArray), 7, 0, 1, ()), ((⟨#[97]⟩ : ByteArray), 2, 1, 0, ())] = some true := by
  obtain ⟨K, rfl⟩ : ∃ q, k = q + 100 := ⟨k - 100, by omega⟩
  kernel_rfl

theorem drawRightS_ok (hk : 1000 ≤ k) : ∀ (m n : Nat) (i : Int) (c : TL1Cur), CurOk c → 0 ≤ i → 9 - i ≤ m → m < n →
    ∃ c' l, spec_l5DrawRight.l2 k n i c = some ((), (c', l)) ∧ CurOk c' ∧ WfDs l ∧ 0 < l.length ∧ l.length ≤ 40 ∧ spec_SchemaOk k l = some true := by
  intro m
  induction m with
  | zero =>
    intro n i c hc hi hm hn
    obtain ⟨n, rfl⟩ : ∃ j, n = j + 1 := ⟨n - 1, by omega⟩
    simp only [spec_l5DrawRight.l2, decide_eq_false (show ¬ i < 9 by omega), cond_false]
    exact ⟨_, _, rfl, hc, (WfDs.one (wfD_mk (by decide) (i64s (by omega) (by omega)) (i64s (by omega) (by omega)) (i64s (by omega) (by omega)))).app (WfDs.one (wfD_mk (by decide) (i64s (by omega) (by omega)) (i64s (by omega) (by omega)) (i64s (by omega) (by omega)))), by simp, by simp, dflt_ok k (by omega)⟩
  | succ m ih =>
    intro n i c hc hi hm hn
    obtain ⟨n, rfl⟩ : ∃ j, n = j + 1 := ⟨n - 1, by omega⟩
    by_cases h : i < 9
    · obtain ⟨v, c1, e1, _, b1, hc1⟩ := below_ok k 3 (by omega) c hc
      have b1 := b1 (by omega)
      simp only [spec_l5DrawRight.l2, decide_eq_true h, cond_true, e1, Option.bind_some]
      rw [w64 (by omega) (by omega)]
      obtain ⟨d, hd⟩ : ∃ d : Nat, (d : Int) = 1 + v := ⟨(1 + v).toNat, by omega⟩
      rw [← hd]
      have hs := szc_le (show d ≤ 3 by omega)
      obtain ⟨c2, l, e2, hc2, hw, h1, h2⟩ := drawCol_ok k (by omega) d k (by omega) (by omega) ⟨#[]⟩ c1 [] (fun h => by omega) (by decide) hc1 WfDs.nil (by simp; omega)
      have e2 : spec_l5DrawCol k ⟨#[]⟩ (d : Int) c1 [] = some ((), (c2, l)) := e2
      obtain ⟨b, s1, _, _⟩ := schemaOk_eq k (by omega) l (wfSmall k hk hw)
      simp only [e2, Option.bind_some, s1]
      cases b with
      | true =>
        simp only [cond_true]
        exact ⟨_, _, rfl, hc2, hw, by simpa using h1, by simp at h2; omega, s1⟩
      | false =>
        simp only [cond_false]
        rw [w64 (by omega) (by omega)]
        exact ih n (i + 1) c2 hc2 (by omega) (by omega) (by omega)
    · simp only [spec_l5DrawRight.l2, decide_eq_false h, cond_false]
      exact ⟨_, _, rfl, hc, (WfDs.one (wfD_mk (by decide) (i64s (by omega) (by omega)) (i64s (by omega) (by omega)) (i64s (by omega) (by omega)))).app (WfDs.one (wfD_mk (by decide) (i64s (by omega) (by omega)) (i64s (by omega) (by omega)) (i64s (by omega) (by omega)))), by simp, by simp, dflt_ok k (by omega)⟩

theorem drawCols_ok (hk : 1000 ≤ k) (c : TL1Cur) (hc : CurOk c) : ∃ c' l, spec_l5DrawRight k c = some ((), (c', l)) ∧ CurOk c' ∧ WfDs l ∧ l.length ≤ 20 ∧ spec_SchemaOk k l = some true ∧ impl_SchemaOk k l = some true ∧ IsSchema l := by
  obtain ⟨c1, l, e1, hc1, hw, hl0, hl, h1⟩ := drawRightS_ok k hk 9 k 0 c hc (by omega) (by omega) (by omega)
  obtain ⟨b, s1, s2, s3⟩ := schemaOk_eq k (by omega) l (wfSmall k hk hw)
  rw [h1] at s1
  have hb : b = true := by simpa using s1.symm
  subst hb
  exact ⟨c1, l, e1, hc1, hw, (s3 rfl).1.2.1, h1, s2, (s3 rfl).1⟩
end Go.Law
end

section
/- A right value is drawn. -/
set_option linter.unusedVariables false
set_option linter.unusedSimpArgs false
namespace Go.Law
open Go.Am Go.Fn
variable (k : Nat)

def WfV (v : TVal) : Prop := I64 v.1 ∧ v.2.1.size ≤ 100

theorem i64z : I64 0 := ⟨by decide, by decide⟩

theorem e0 : (⟨#[]⟩ : ByteArray).size ≤ 100 := by decide

theorem drawRight_ok (hk : 1000000 ≤ k) (t : Int) (c : TL1Cur) (hc : CurOk c) : ∃ v c', spec_l6DrawRight k t c = some (v, c') ∧ WfV v ∧ CurOk c' := by
  unfold spec_l6DrawRight
  by_cases h0 : t = 0
  · rw [beqT h0, cond_true]
    obtain ⟨v1, c1, e1, _, a1, hc1⟩ := below_ok k 2 (by omega) c hc
    have a1 := a1 (by omega)
    simp only [e1, Option.bind_some]
    exact ⟨_, _, rfl, ⟨⟨by omega, by omega⟩, e0⟩, hc1⟩
  rw [beqF h0, cond_false]
  by_cases h1 : t = 1
  · rw [beqT h1, cond_true]
    obtain ⟨v1, c1, e1, hc1⟩ := once_ok k 6 (by omega) c hc
    simp only [e1, Option.bind_some]
    cases v1 with
    | true =>
      simp only [cond_true]
      obtain ⟨v2, c2, e2, m2, hc2⟩ := pick_ok k [2147483647, (-2147483648), 0] (by simp) (by simp) c1 hc1
      simp only [e2, Option.bind_some]
      simp only [List.mem_cons, List.not_mem_nil, or_false] at m2
      exact ⟨_, _, rfl, ⟨⟨by omega, by omega⟩, e0⟩, hc2⟩
    | false =>
      simp only [cond_false]
      obtain ⟨v2, c2, e2, _, a2, hc2⟩ := below_ok k 40 (by omega) c1 hc1
      have a2 := a2 (by omega)
      simp only [e2, Option.bind_some]
      rw [w64 (by omega) (by omega)]
      exact ⟨_, _, rfl, ⟨⟨by omega, by omega⟩, e0⟩, hc2⟩
  rw [beqF h1, cond_false]
  by_cases h6 : t = 6
  · rw [beqT h6, cond_true]
    obtain ⟨v1, c1, e1, hc1⟩ := once_ok k 3 (by omega) c hc
    simp only [e1, Option.bind_some]
    cases v1 with
    | true =>
      simp only [cond_true]
      obtain ⟨v2, c2, e2, m2, hc2⟩ := pickS_ok k [(⟨#[]⟩ : ByteArray), (⟨#[97]⟩ : ByteArray), (⟨#[97, 98]⟩ : ByteArray), (⟨#[97, 98, 99]⟩ : ByteArray), (⟨#[97, 98, 100]⟩ : ByteArray), (⟨#[98]⟩ : ByteArray), (⟨#[97, 97]⟩ : ByteArray)] (by simp) (by simp) c1 hc1
      simp only [e2, Option.bind_some]
      refine ⟨_, _, rfl, ⟨i64z, ?_⟩, hc2⟩
      simp only [List.mem_cons, List.not_mem_nil, or_false] at m2
      rcases m2 with rfl | rfl | rfl | rfl | rfl | rfl | rfl <;> decide
    | false =>
      simp only [cond_false]
      obtain ⟨v2, c2, e2, hc2, m2⟩ := drawText_ok k 6 (by omega) hk c1 hc1
      have e2 : spec_l4DrawText k 6 c1 = some (v2, c2) := e2
      simp only [e2, Option.bind_some]
      exact ⟨_, _, rfl, ⟨i64z, by show v2.size ≤ 100; omega⟩, hc2⟩
  rw [beqF h6, cond_false]
  by_cases h5 : t = 5
  · rw [beqT h5, cond_true]
    obtain ⟨v1, c1, e1, _, a1, hc1⟩ := below_ok k 9 (by omega) c hc
    have a1 := a1 (by omega)
    simp only [e1, Option.bind_some]
    obtain ⟨v2, c2, e2, hc2, i2⟩ := drawNum_ok k c1 hc1
    simp only [e2, Option.bind_some]
    obtain ⟨v3, c3, e3, m3, hc3⟩ := pick_ok k [0, (-9223372036854775808), 4607182418800017408, (-4616189618054758400), 9221120237041090560, (-2251799813685248), v1, v2] (by simp) (by simp) c2 hc2
    simp only [e3, Option.bind_some]
    refine ⟨_, _, rfl, ⟨?_, e0⟩, hc3⟩
    simp only [List.mem_cons, List.not_mem_nil, or_false] at m3
    obtain ⟨i2a, i2b⟩ := i2
    exact ⟨by show _ ≤ v3; omega, by show v3 < _; omega⟩
  · rw [beqF h5, cond_false]
    obtain ⟨v1, c1, e1, hc1⟩ := once_ok k 2 (by omega) c hc
    simp only [e1, Option.bind_some]
    cases v1 with
    | true =>
      simp only [cond_true]
      obtain ⟨v2, c2, e2, _, a2, hc2⟩ := below_ok k 30 (by omega) c1 hc1
      have a2 := a2 (by omega)
      simp only [e2, Option.bind_some]
      rw [w64 (by omega) (by omega)]
      exact ⟨_, _, rfl, ⟨⟨by omega, by omega⟩, e0⟩, hc2⟩
    | false =>
      simp only [cond_false]
      obtain ⟨v2, c2, e2, hc2, i2⟩ := drawNum_ok k c1 hc1
      simp only [e2, Option.bind_some]
      exact ⟨_, _, rfl, ⟨i2, e0⟩, hc2⟩

end Go.Law
end

section
/- The empty record. -/
set_option linter.unusedVariables false
set_option linter.unusedSimpArgs false
set_option linter.unusedSectionVars false
namespace Go.Law
open Go.Am Go.Fn

def emPart (s : List TCol) (C : List TVal) (a : Nat) : List TVal := match s[a]? with
  | none => []
  | some c => if c.2.2.1 = 0 then C else [zv]
def emParts (F : Nat → List TVal) (e : Nat → Nat) : Nat → Nat → List TVal
  | 0, _ => []
  | m + 1, a => F a ++ emParts F e m (e a)
def emC (s : List TCol) : Nat → Nat → List TVal
  | 0, _ => []
  | d + 1, a => match s[a]? with
    | none => []
    | some c => if c.2.1 = 7 then emParts (fun a => emPart s (emC s d a) a) (endC s d) c.2.2.2.1.toNat (a + 1) else [zv]
def empV (s : List TCol) : List TVal := emC s 6 0

theorem emParts_mem {F : Nat → List TVal} {e : Nat → Nat} (h : ∀ a v, v ∈ F a → v = zv) : ∀ (m a : Nat) (v : TVal), v ∈ emParts F e m a → v = zv
  | 0, _, v, hv => by cases hv
  | m + 1, a, v, hv => (List.mem_append.1 hv).elim (h a v) (emParts_mem h m (e a) v)
theorem emC_mem {s : List TCol} : ∀ (d a : Nat) (v : TVal), v ∈ emC s d a → v = zv
  | 0, _, v, hv => by cases hv
  | d + 1, a, v, hv => by
    simp only [emC] at hv
    split at hv
    · cases hv
    · split at hv
      · refine emParts_mem (fun a v hv => ?_) _ _ v hv
        unfold emPart at hv
        split at hv
        · cases hv
        · split at hv
          · exact emC_mem d a v hv
          · simpa using hv
      · simpa using hv

theorem vok_zv {c : TCol} (hco : colOk c = true) (h7 : c.2.1 ≠ 7) : vok c.2.1 zv = true := by
  unfold colOk tyOk at hco
  unfold vok zv
  have he : eqS (⟨#[]⟩ : ByteArray) ⟨#[]⟩ = true := by rw [eqS_iff]; exact decide_eq_true rfl
  have hty : c.2.1 = 0 ∨ c.2.1 = 1 ∨ c.2.1 = 2 ∨ c.2.1 = 5 ∨ c.2.1 = 6 := by
    simp only [Bool.and_eq_true, Bool.or_eq_true, beq_iff_eq, decide_eq_true_eq] at hco
    omega
  simp only [he]
  rcases hty with h | h | h | h | h <;> rw [h] <;> decide

theorem zv_part {s : List TCol} {a e : Nat} {C : Int → Int → Int → List TVal → EvR} {c : TCol} (hc : s[a]? = some c) (h0 : ¬ c.2.2.1 = 0) (rep def_ deep : Int) (W : List TVal) : evPart s C e a rep def_ deep (zv :: W) = some (miss s rep def_ (e - a) a, W) := by
  unfold evPart
  rw [hc]
  simp only
  have hb : ∀ m : Int, 0 ≤ m → cbad zv m = false := fun m hm => by
    unfold cbad zv
    have he : eqS (⟨#[]⟩ : ByteArray) ⟨#[]⟩ = true := by rw [eqS_iff]; exact decide_eq_true rfl
    rw [he, decide_eq_true hm]; rfl
  rw [if_neg h0, hb 20 (by omega), hb 1 (by omega)]
  simp only [zv]
  split <;> rfl

theorem em_ev {s : List TCol} : ∀ (d a nx : Nat), d ≤ 6 → SubC s d a nx → ∀ (rep def_ deep : Int) (W : List TVal), ∃ X, evC s d a rep def_ deep (emC s d a ++ W) = some (X, W) ∧ (∀ e, e ∈ X → e.def_ = def_) ∧ (emC s d a).length ≤ nx - a
  | 0, _, _, _, h, _, _, _, _ => h.elim
  | d + 1, a, nx, hd, h, rep, def_, deep, W => by
    have hlt := SubC_lt _ _ _ h
    obtain ⟨c, hc, hco, _, hpp⟩ := h
    simp only [emC, evC, hc]
    by_cases h7 : c.2.1 = 7
    · rw [if_pos h7, if_pos h7]
      have key : ∀ (m pl : Nat) (names : List ByteArray) (W : List TVal), PartsC (SubC s d) s m pl names nx → ∃ X, evParts (fun a V => evPart s (evC s d a) (endC s d a) a rep def_ deep V) (endC s d) m pl (emParts (fun a => emPart s (emC s d a) a) (endC s d) m pl ++ W) = some (X, W) ∧ (∀ e, e ∈ X → e.def_ = def_) ∧ (emParts (fun a => emPart s (emC s d a) a) (endC s d) m pl).length ≤ nx - pl := by
        intro m
        induction m with
        | zero => intro pl names W hpp; exact ⟨[], rfl, fun e he => (by cases he), by simp [emParts]⟩
        | succ m ih =>
          intro pl names W hpp
          obtain ⟨cp, mid, hcp, q2, q3, q4⟩ := hpp
          have hmn := PartsC_nx (SubC_lt d) _ _ _ _ q4
          have hlt' := SubC_lt _ _ _ q3
          have hend : endC s d pl = mid := endC_eq d q3 d (Nat.le_refl _)
          obtain ⟨Y, y1, y2, y3⟩ := ih mid _ W q4
          have hpart : ∃ X, evPart s (evC s d pl) mid pl rep def_ deep (emPart s (emC s d pl) pl ++ (emParts (fun a => emPart s (emC s d a) a) (endC s d) m mid ++ W)) = some (X, emParts (fun a => emPart s (emC s d a) a) (endC s d) m mid ++ W) ∧ (∀ e, e ∈ X → e.def_ = def_) ∧ (emPart s (emC s d pl) pl).length ≤ mid - pl := by
            unfold emPart
            rw [hcp]
            simp only
            by_cases h0 : cp.2.2.1 = 0
            · rw [if_pos h0]
              obtain ⟨X, x1, x2, x3⟩ := em_ev d pl mid (by omega) q3 rep def_ deep (emParts (fun a => emPart s (emC s d a) a) (endC s d) m mid ++ W)
              refine ⟨X, ?_, x2, x3⟩
              unfold evPart
              rw [hcp]
              simp only
              rw [if_pos h0]
              exact x1
            · rw [if_neg h0]
              refine ⟨_, zv_part hcp h0 rep def_ deep _, fun e he => ?_, by simp; omega⟩
              exact (miss_mem _ _ _ he).2.2.2.2.1
          obtain ⟨X, x1, x2, x3⟩ := hpart
          refine ⟨X ++ Y, ?_, fun e he => (List.mem_append.1 he).elim (x2 e) (y2 e), ?_⟩
          · simp only [evParts, emParts, hend, List.append_assoc]
            rw [x1]
            simp only [evPair, y1]
          · simp only [emParts, hend, List.length_append]; omega
      obtain ⟨X, x1, x2, x3⟩ := key _ _ _ W hpp
      exact ⟨X, x1, x2, by omega⟩
    · rw [if_neg h7, if_neg h7]
      simp only [List.singleton_append]
      rw [if_pos (vok_zv hco h7)]
      exact ⟨_, rfl, fun e he => (by rw [List.mem_singleton] at he; rw [he]), by simp; omega⟩

theorem emp_ev {s : List TCol} (hS : IsSchema s) : ∃ X, recEv s (empV s) = some X ∧ (∀ e, e ∈ X → e.def_ = 0) ∧ (empV s).length ≤ 20 := by
  obtain ⟨X, x1, x2, x3⟩ := em_ev 6 0 s.length (Nat.le_refl _) hS.2.2.1 0 0 0 []
  rw [List.append_nil] at x1
  have hs := hS.2.1
  have hl : (empV s).length ≤ 20 := by unfold empV; omega
  refine ⟨X, ?_, x2, hl⟩
  unfold recEv
  rw [if_pos (by omega)]
  unfold empV
  rw [x1]

section
variable (k : Nat) (s : List TCol) (hs : s.length ≤ 20) (hn : ∀ c, c ∈ s → c.1.size < k ∧ c.1.size < 1000000000 ∧ I64 c.2.2.2.1) (hk : 2000000 ≤ k)
include hs hn hk

theorem semp_rec : ∀ (d D a nx : Nat), SubC s d a nx → nx ≤ s.length → d ≤ 6 → d ≤ D → spec_l13Empty.rec k D s (a : Int) = some ((), if decide (0 < a) = true then emPart s (emC s d a) a else emC s d a) := by
  intro d
  induction d with
  | zero => intro D a nx h; exact h.elim
  | succ d ih =>
    intro D a nx h hnx hd hD
    obtain ⟨D, rfl⟩ : ∃ q, D = q + 1 := ⟨D - 1, by omega⟩
    have hsub := h
    have hlt := SubC_lt _ _ _ h
    obtain ⟨c, hc, hco, _, hpp⟩ := h
    have hcr : rdL s (a : Int) = some c := hc
    have hcm := (hn c (List.mem_of_getElem? hc)).2.2
    have hmp := PartsC_le (SubC_lt d) _ _ _ _ hpp
    have ha1 : IntKind.wrap .i64 ((a : Int) + 1) = ((a + 1 : Nat) : Int) := by rw [w64 (by omega) (by omega)]; omega
    have hb5 : ((cond (decide ((a : Int) > 0)) ((rdL s (a : Int)).bind fun y4 => some (y4.2.2.1 != 0)) (some false)) : Option Bool) = some (decide (0 < a) && (c.2.2.1 != 0)) := by
      rw [hcr]
      by_cases h : 0 < a
      · rw [decide_eq_true (show (a : Int) > 0 by omega), decide_eq_true h]; rfl
      · rw [decide_eq_false (show ¬ (a : Int) > 0 by omega), decide_eq_false h]; rfl
    have hloop : c.2.1 = 7 → spec_l13Empty.l6 k (spec_l13Empty.rec k D) k s (a : Int) ((a + 1 : Nat) : Int) 0 [] = some ((), emC s (d + 1) a) := by
      intro h7
      have hmn : 0 ≤ c.2.2.2.1 := by
        unfold colOk at hco
        rw [h7, tyOk_7] at hco
        simp at hco
        omega
      have key : ∀ (m pl : Nat) (i : Int) (names : List ByteArray) (f : Nat) (o : List TVal), PartsC (SubC s d) s m pl names nx → c.2.2.2.1 - i = m → 0 ≤ i → m < f → 0 < pl → o.length ≤ pl →
          spec_l13Empty.l6 k (spec_l13Empty.rec k D) f s (a : Int) (pl : Int) i o = some ((), o ++ emParts (fun a => emPart s (emC s d a) a) (endC s d) m pl) := by
        intro m
        induction m with
        | zero =>
          intro pl i names f o hpp hi h0 hf hpl ho
          obtain ⟨f, rfl⟩ : ∃ q, f = q + 1 := ⟨f - 1, by omega⟩
          simp only [spec_l13Empty.l6, hcr, Option.bind_some, decide_eq_false (show ¬ (i < c.2.2.2.1) by omega), cond_false, emParts, List.append_nil]
        | succ m ihm =>
          intro pl i names f o hpp hi h0 hf hpl ho
          obtain ⟨q, mid, q1, q2, q3, q4⟩ := hpp
          have hmn' := PartsC_nx (SubC_lt d) _ _ _ _ q4
          have hlt' := SubC_lt _ _ _ q3
          obtain ⟨f, rfl⟩ : ∃ q, f = q + 1 := ⟨f - 1, by omega⟩
          have hi1 : IntKind.wrap .i64 (i + 1) = i + 1 := w64 (by omega) (by omega)
          have hend : endC s d pl = mid := endC_eq d q3 d (Nat.le_refl _)
          have haf := l5After_sub k s hs hn (by omega) q3 (show d ≤ 6 by omega) (by omega)
          have hr := ih D pl mid q3 (by omega) (by omega) (by omega)
          rw [if_pos (decide_eq_true hpl)] at hr
          have hlen : (emPart s (emC s d pl) pl).length ≤ mid - pl := by
            unfold emPart
            split
            · simp
            · split
              · exact (em_ev d pl mid (by omega) q3 0 0 0 []).choose_spec.2.2
              · simp; omega
          simp only [spec_l13Empty.l6, hcr, Option.bind_some, decide_eq_true (show i < c.2.2.2.1 by omega), cond_true, hr, haf, hi1]
          rw [lim_ok (by omega), cond_true, ihm mid (i + 1) _ f _ q4 (by omega) (by omega) (by omega) (by omega) (by rw [List.length_append]; omega)]
          simp only [emParts, hend, List.append_assoc]
      have := key c.2.2.2.1.toNat (a + 1) 0 [] k [] hpp (by omega) (by omega) (by omega) (by omega) (by simp)
      rw [this, List.nil_append]
      simp only [emC, hc]
      rw [if_pos h7]
    simp only [spec_l13Empty.rec, spec_l13Empty.b, hb5, Option.bind_some, ha1]
    cases hz : (decide (0 < a) && (c.2.2.1 != 0)) with
    | true =>
      simp only [Bool.and_eq_true, decide_eq_true_eq, bne_iff_ne] at hz
      simp only [cond_true, Option.bind_some]
      rw [if_pos (decide_eq_true hz.1)]
      unfold emPart
      rw [hc]
      simp only
      rw [if_neg hz.2]
      rfl
    | false =>
      simp only [cond_false, hcr, Option.bind_some]
      have hpc : (if decide (0 < a) = true then emPart s (emC s (d + 1) a) a else emC s (d + 1) a) = emC s (d + 1) a := by
        by_cases h : 0 < a
        · rw [if_pos (decide_eq_true h)]
          rw [decide_eq_true h, Bool.true_and] at hz
          unfold emPart
          rw [hc]
          simp only
          rw [if_pos (by simpa using hz)]
        · rw [if_neg (by simp [h])]
      rw [hpc]
      by_cases h7 : c.2.1 = 7
      · rw [bneF h7, cond_false, hloop h7]
      · rw [bneT h7, cond_true]
        simp only [emC, hc]
        rw [if_neg h7]
        rfl

end

theorem recEmpty_eq (k : Nat) (hk : 2000000 ≤ k) (s : List TCol) (hn : ∀ c, c ∈ s → c.1.size < k ∧ c.1.size < 1000000000 ∧ I64 c.2.2.2.1) (hS : IsSchema s) :
    (spec_RecEmpty k s = (spec_SchemaOk k s).bind fun r1 => cond (!r1) (some ((((), ()), false), [])) (some ((((), ()), true), empV s))) ∧
    True ∧ (recEv s (empV s)).isSome = true := by
  obtain ⟨c0, hc0, h70, _⟩ := schema_top hS
  have h1 : spec_l13Empty k s 0 = some ((), if decide (0 < 0) = true then emPart s (emC s 6 0) 0 else emC s 6 0) := semp_rec k s hS.2.1 hn hk 6 k 0 s.length hS.2.2.1 (Nat.le_refl _) (by omega) (by omega)
  obtain ⟨X, x1, _⟩ := emp_ev hS
  refine ⟨?_, ?_, by rw [x1]; rfl⟩
  · unfold spec_RecEmpty
    rw [h1]; rfl
  · trivial
end Go.Law
end
