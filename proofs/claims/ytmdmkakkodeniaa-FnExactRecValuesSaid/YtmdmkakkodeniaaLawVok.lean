/- Which values are right. -/
import Derived.Test.YtmdmkakkodeniaaLawType
set_option linter.unusedVariables false
set_option linter.unusedSimpArgs false
namespace Go.Law
open Go.Am Go.Fn
variable (k : Nat)

def vok (t : Int) (v : TVal) : Bool :=
  if t = 0 then (decide (0 ≤ v.1) && decide (v.1 ≤ 1)) && eqS v.2.1 ⟨#[]⟩
  else if t = 1 then (decide (-2147483648 ≤ v.1) && decide (v.1 ≤ 2147483647)) && eqS v.2.1 ⟨#[]⟩
  else if t = 2 ∨ t = 5 then eqS v.2.1 ⟨#[]⟩
  else if t = 6 then v.1 == 0 && decide ((v.2.1.size : Int) ≤ 40)
  else false

theorem valOk_eq (t : Int) (v : TVal) : impl_ValOk k t v = some (vok t v) := by
  unfold impl_ValOk impl_ValOk.c8 impl_isInt32 vok
  by_cases h0 : t = 0
  · subst h0
    simp only [within_eq, beqT rfl, cond_true, Option.bind_some, csf, if_true]
  by_cases h1 : t = 1
  · subst h1
    simp only [within_eq, beqF h0, beqT rfl, cond_true, cond_false, Option.bind_some, csf, if_neg h0, if_true]
  by_cases h2 : t = 2
  · subst h2
    simp only [beqF h0, beqF h1, beqT rfl, cond_true, cond_false, if_neg h0, if_neg h1, true_or, if_true]
  by_cases h5 : t = 5
  · subst h5
    simp only [beqF h0, beqF h1, beqF h2, beqT rfl, cond_true, cond_false, if_neg h0, if_neg h1, or_true, if_true]
  by_cases h6 : t = 6
  · subst h6
    simp only [beqF h0, beqF h1, beqF h2, beqF h5, beqT rfl, cond_true, cond_false, if_neg h0, if_neg h1, Option.bind_some, csf, if_true]
    rw [if_neg (by decide)]
  · simp only [beqF h0, beqF h1, beqF h2, beqF h5, beqF h6, cond_true, cond_false, if_neg h0, if_neg h1, Option.bind_some, csf, if_neg h6]
    rw [if_neg (by omega)]
    rfl

theorem svalOk_eq (t : Int) (v : TVal) : spec_ValOk k t v = some (vok t v) := by
  unfold spec_ValOk spec_ValOk.c8 spec_l4Int vok
  by_cases h0 : t = 0
  · subst h0
    simp only [l1In_eq, beqT rfl, cond_true, Option.bind_some, csf, if_true]
  by_cases h1 : t = 1
  · subst h1
    simp only [l1In_eq, beqF h0, beqT rfl, cond_true, cond_false, Option.bind_some, csf, if_neg h0, if_true]
  by_cases h2 : t = 2
  · subst h2
    simp only [beqF h0, beqF h1, beqT rfl, cond_true, cond_false, if_neg h0, if_neg h1, true_or, if_true]
  by_cases h5 : t = 5
  · subst h5
    simp only [beqF h0, beqF h1, beqF h2, beqT rfl, cond_true, cond_false, if_neg h0, if_neg h1, or_true, if_true]
  by_cases h6 : t = 6
  · subst h6
    simp only [beqF h0, beqF h1, beqF h2, beqF h5, beqT rfl, cond_true, cond_false, if_neg h0, if_neg h1, Option.bind_some, csf, if_true]
    rw [if_neg (by decide)]
  · simp only [beqF h0, beqF h1, beqF h2, beqF h5, beqF h6, cond_true, cond_false, if_neg h0, if_neg h1, Option.bind_some, csf, if_neg h6]
    rw [if_neg (by omega)]

end Go.Law
