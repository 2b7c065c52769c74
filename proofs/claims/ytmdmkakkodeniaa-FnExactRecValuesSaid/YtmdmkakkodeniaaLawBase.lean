/- The small tests that both make. -/
import Derived.Test.YtmdmkakkodeniaaRecVF0
import Derived.Test.YtmdmkakkodeniaaLawKit
set_option linter.unusedVariables false
set_option linter.unusedSimpArgs false
namespace Go.Law
open Go.Am Go.Fn

theorem within_eq (k : Nat) (a b c : Int) : impl_within k a b c = some (decide (b ≤ a) && decide (a ≤ c)) := by
  unfold impl_within
  simp only [csf, Option.bind_some, ge_iff_le]
theorem l1In_eq (k : Nat) (a b c : Int) : spec_l1In k a b c = some (decide (b ≤ a) && decide (a ≤ c)) := by
  unfold spec_l1In
  simp only [csf, Option.bind_some, ge_iff_le]

theorem getMid {α : Type} (pre post : List α) (x : α) : rdL (pre ++ x :: post) (pre.length : Int) = some x := by
  rw [rdL_nat, List.getElem?_append_right (Nat.le_refl _)]; simp
theorem setMid {α : Type} (pre post : List α) (x y : α) : List.set (pre ++ x :: post) (Int.toNat (pre.length : Int)) y = pre ++ y :: post := by
  rw [Int.toNat_natCast, List.set_append_right _ _ (Nat.le_refl _)]; simp
theorem midSnoc {α : Type} (pre post : List α) (x : α) : pre ++ x :: post = (pre ++ [x]) ++ post := by simp

end Go.Law
