/- The types of values. -/
import Derived.Test.YtmdmkakkodeniaaLawBase
set_option linter.unusedVariables false
set_option linter.unusedSimpArgs false
namespace Go.Law
open Go.Am Go.Fn
variable (k : Nat)

def tyOk (t : Int) : Bool := t == 0 || t == 1 || t == 2 || t == 5 || t == 6

theorem l5Type_eq (t : Int) : spec_l5Type k t = some (tyOk t) := by
  unfold spec_l5Type spec_l5Type.c7 tyOk
  by_cases h0 : t = 0
  · subst h0; simp
  by_cases h1 : t = 1
  · subst h1; simp
  by_cases h2 : t = 2
  · subst h2; simp
  by_cases h5 : t = 5
  · subst h5; simp
  by_cases h6 : t = 6
  · subst h6; simp
  simp [beqF h0, beqF h1, beqF h2, beqF h5, beqF h6, h0, h1, h2, h5, h6]

theorem typeOk_eq (t : Int) : impl_TypeOk k t = some (tyOk t) := by
  unfold impl_TypeOk tyOk
  simp only [within_eq, Option.bind_some, cst]
  congr 1
  by_cases h : 0 ≤ t ∧ t ≤ 2
  · rw [decide_eq_true h.1, decide_eq_true h.2]
    rcases (show t = 0 ∨ t = 1 ∨ t = 2 by omega) with rfl | rfl | rfl <;> rfl
  · have : (decide (0 ≤ t) && decide (t ≤ 2)) = false := by
      rw [Bool.eq_false_iff]; intro hh
      simp only [Bool.and_eq_true, decide_eq_true_eq] at hh
      exact h hh
    rw [this, beqF (show ¬ t = 0 by omega), beqF (show ¬ t = 1 by omega), beqF (show ¬ t = 2 by omega)]
    rfl

end Go.Law
