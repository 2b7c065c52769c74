/- Which lists are trees: the program's treeOf and the reference's TreeOk. -/
import Derived.Test.YtmdmkakkodeniaaLawTree
set_option linter.unusedVariables false
set_option linter.unusedSimpArgs false
namespace Go.Law
open Go.Am Go.Fn
variable (k : Nat)

theorem treeOf_eq (hk : 2000 ≤ k) (l : List TNode) (hw : ∀ n, n ∈ l → WfN n) (hlen : l.length < 4294967296) :
    ∃ b : Bool, spec_TreeOk k l = some b ∧ ((b = false ∧ ∃ x, impl_treeOf k l = some (((), false), x)) ∨
      (b = true ∧ l.length ≤ 1500 ∧ 1 ≤ l.length ∧ ∃ af, impl_treeOf k l = some (((), true), ((true, (l, (), ())), af)) ∧ Sub l af 12 0 l.length ∧ ∃ n, l[0]? = some n ∧ n.1 = 12 ∧ n.2.1 = 0)) := by
  unfold spec_TreeOk impl_treeOf
  simp only [within_eq, l1In_eq, Option.bind_some]
  by_cases hin : 1 ≤ l.length ∧ l.length ≤ 1500
  · have c1 : (decide ((1 : Int) ≤ (l.length : Int)) && decide ((l.length : Int) ≤ 1500)) = true := by simp; omega
    obtain ⟨n, hn1, hn2⟩ := rdL_some (xs := l) (i := 0) (by omega) (by omega)
    have hn2 : l[0]? = some n := hn2
    simp only [c1, Bool.not_true, cond_false, hn1, Option.bind_some, okLen_ok (show (0 : Int) ≤ (l.length : Int) by omega) (by omega), cond_true, cst, Int.toNat_natCast]
    by_cases hr : n.1 = 12 ∧ n.2.1 = 0
    · have c2 : (n.1 != 12 || n.2.1 != 0) = false := by simp [hr.1, hr.2]
      simp only [bneF hr.1, bneF hr.2, cond_false, Option.bind_some, Bool.or_self]
      obtain ⟨v, af', s1, s2, s3, s4⟩ := check k hk l hin.2 hw 12 k 1 0 (List.replicate l.length 0) (by omega) (by omega) (by simp)
      have s1 : spec_l4Check k l 0 1 = some v := s1
      have s2 : impl_tree_measure k 0 1 (true, (l, (), ())) (List.replicate l.length 0) = some (v, ((l, (), ()), af')) := s2
      simp only [s1, s2, Option.bind_some]
      by_cases hv : v = (l.length : Int)
      · refine ⟨true, by rw [beqT hv], .inr ⟨rfl, hin.2, hin.1, af', by simp only [bneF hv, cond_false], ?_, n, hn2, hr⟩⟩
        rcases s4 with h | ⟨nx, h1, h2, _⟩
        · omega
        · have : nx = l.length := by omega
          rw [← this]; exact h2
      · exact ⟨false, by rw [beqF hv], .inl ⟨rfl, ((false, ([], (), ())), []), by simp only [bneT hv, cond_true]⟩⟩
    · have c2 : (n.1 != 12 || n.2.1 != 0) = true := by
        simp only [Bool.or_eq_true, bne_iff_ne]
        exact Classical.byContradiction fun hh => hr ⟨Classical.byContradiction fun h => hh (.inl h), Classical.byContradiction fun h => hh (.inr h)⟩
      refine ⟨false, ?_, .inl ⟨rfl, ((false, ([], (), ())), []), by simp only [c2, cond_true]⟩⟩
      by_cases h12 : n.1 = 12
      · have h0 : ¬ n.2.1 = 0 := fun h => hr ⟨h12, h⟩
        simp only [bneF h12, cond_false, bneT h0, Option.bind_some, cond_true, Bool.false_or]
      · simp only [bneT h12, Option.bind_some, cond_true, Bool.true_or]
  · have c1 : (decide ((1 : Int) ≤ (l.length : Int)) && decide ((l.length : Int) ≤ 1500)) = false := by
      rw [Bool.eq_false_iff]; intro h
      simp only [Bool.and_eq_true, decide_eq_true_eq] at h
      omega
    simp only [c1, Bool.not_false, cond_true, Option.bind_some]
    exact ⟨false, rfl, .inl ⟨rfl, _, rfl⟩⟩

end Go.Law
