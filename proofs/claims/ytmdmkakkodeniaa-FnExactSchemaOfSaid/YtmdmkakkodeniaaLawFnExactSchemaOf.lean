/- FnExactSchemaOf -/
import Derived.Test.YtmdmkakkodeniaaLawSchemaOf
import Derived.Test.YtmdmkakkodeniaaLawExNode
import Derived.Test.YtmdmkakkodeniaaLawExCol
import Derived.Test.YtmdmkakkodeniaaAmRow
set_option linter.unusedVariables false
set_option linter.unusedSimpArgs false
namespace Go.Law
open Go.Am Go.Fn

theorem i64_wf {x : Int} (h : (Lit.int .i64 x).wf = true) : I64 x := by
  simp only [Lit.wf, Bool.and_eq_true, decide_eq_true_eq] at h
  have h1 : IntKind.min .i64 = -9223372036854775808 := by decide
  have h2 : IntKind.max .i64 = 9223372036854775807 := by decide
  rw [h1, h2] at h
  exact ⟨by omega, by omega⟩

theorem goodNode {e : TypeId} {l : List TNode} (h : GoodP (.list e (.st (.cons (.int .i64) (.cons (.int .i64) (.cons (.int .i64) (.cons .str (.cons (.int .i64) .nil))))))) l) :
    l.length ≤ 9223372036854775807 ∧ (∀ x, x ∈ l → x.2.2.2.1.size ≤ 9223372036854775807) ∧ ∀ x, x ∈ l → I64 x.1 ∧ I64 x.2.1 ∧ I64 x.2.2.1 ∧ I64 x.2.2.2.2.1 := by
  have hm : maxLen ≤ 9223372036854775807 := by decide
  obtain ⟨h1, h2⟩ := h
  refine ⟨Nat.le_trans h1 hm, fun x hx => ?_, fun x hx => ?_⟩
  · obtain ⟨_, _, _, g, _⟩ := h2 x hx
    exact Nat.le_trans g hm
  · obtain ⟨a, b, c, _, d, _⟩ := h2 x hx
    exact ⟨i64_wf a, i64_wf b, i64_wf c, i64_wf d⟩

theorem fnExactSchemaOf (l : List TNode) (h : GoodP (.list 0 (.st (.cons (.int .i64) (.cons (.int .i64) (.cons (.int .i64) (.cons .str (.cons (.int .i64) .nil))))))) l) (at_ : Int) (_ : GoodP (.int .i64) at_) :
    ∃ k, laws_FnExactSchemaOf k l at_ = some true := by
  obtain ⟨g1, g2, g3⟩ := goodNode h
  refine ⟨2000000, ?_⟩
  generalize hk : 2000000 = k
  unfold laws_FnExactSchemaOf
  obtain ⟨r, s1, s2⟩ := szNodeS_ok k l (by omega) g1 g2
  simp only [s1, Option.bind_some]
  by_cases hr : r < 0
  · simp only [decide_eq_true hr, cond_true]
  · obtain ⟨hl, hs⟩ := s2 (by omega)
    have hw : ∀ n, n ∈ l → WfN n := fun n hn => by
      obtain ⟨a, b, c, d⟩ := g3 n hn
      have := hs n hn
      exact ⟨a, b, c, d, by omega⟩
    obtain ⟨b, q, e1, e2, e3, e4⟩ := schemaOf_eq k (by omega) l hw (by omega) at_
    have hq : q.length ≤ 20 := by
      cases b with
      | true => exact (e3 rfl).2.1
      | false => rw [e4 rfl]; simp
    obtain ⟨m1, l1, m2, m3⟩ := markNodeS_ok k (by omega) l (by omega) (by omega)
    obtain ⟨m4, l2, m5, m6, m7⟩ := markHeldColS k (by omega) q (by omega) (by omega)
    simp only [decide_eq_false hr, cond_false, toNodeS_eq k l (by omega) (by omega), Option.bind_some, e1, e2, eqColS_refl k q (by omega) (by omega), eqNodeS_refl k l (by omega) (by omega), m2, m5, m6,
      decide_eq_false (show ¬ m1 < 0 by omega), decide_eq_false (show ¬ m4 < 0 by omega), Bool.not_true, beq_self_eq_true, bneF rfl]
end Go.Law
