/- FnExactRecValues -/
import Derived.Test.YtmdmkakkodeniaaLawRecValues
import Derived.Test.YtmdmkakkodeniaaLawXCol
import Derived.Test.YtmdmkakkodeniaaLawXVal
import Derived.Test.YtmdmkakkodeniaaAmRow
set_option linter.unusedVariables false
set_option linter.unusedSimpArgs false
namespace Go.Law
open Go.Am Go.Fn

theorem i64_wf' {x : Int} (h : (Lit.int .i64 x).wf = true) : I64 x := by
  simp only [Lit.wf, Bool.and_eq_true, decide_eq_true_eq] at h
  have h1 : IntKind.min .i64 = -9223372036854775808 := by decide
  have h2 : IntKind.max .i64 = 9223372036854775807 := by decide
  rw [h1, h2] at h
  exact ⟨by omega, by omega⟩

theorem goodCol {e : TypeId} {l : List TCol} (h : GoodP (.list e (.st (.cons .str (.cons (.int .i64) (.cons (.int .i64) (.cons (.int .i64) .nil)))))) l) :
    l.length ≤ 9223372036854775807 ∧ (∀ x, x ∈ l → x.1.size ≤ 9223372036854775807) ∧ ∀ x, x ∈ l → I64 x.2.1 ∧ I64 x.2.2.1 ∧ I64 x.2.2.2.1 := by
  have hm : maxLen ≤ 9223372036854775807 := by decide
  obtain ⟨h1, h2⟩ := h
  refine ⟨Nat.le_trans h1 hm, fun x hx => ?_, fun x hx => ?_⟩
  · obtain ⟨g, _⟩ := h2 x hx
    exact Nat.le_trans g hm
  · obtain ⟨_, b, c, d, _⟩ := h2 x hx
    exact ⟨i64_wf' b, i64_wf' c, i64_wf' d⟩

theorem goodVal {e : TypeId} {l : List TVal} (h : GoodP (.list e (.st (.cons (.int .i64) (.cons .str .nil)))) l) :
    l.length ≤ 9223372036854775807 ∧ (∀ x, x ∈ l → x.2.1.size ≤ 9223372036854775807) ∧ ∀ x, x ∈ l → I64 x.1 := by
  have hm : maxLen ≤ 9223372036854775807 := by decide
  obtain ⟨h1, h2⟩ := h
  refine ⟨Nat.le_trans h1 hm, fun x hx => ?_, fun x hx => ?_⟩
  · obtain ⟨_, g, _⟩ := h2 x hx
    exact Nat.le_trans g hm
  · obtain ⟨b, _⟩ := h2 x hx
    exact i64_wf' b

theorem fnExactRecValues (s : List TCol) (h : GoodP (.list 0 (.st (.cons .str (.cons (.int .i64) (.cons (.int .i64) (.cons (.int .i64) .nil)))))) s)
    (r : TRec) (hr : GoodP (.st (.cons (.list 0 (.st (.cons (.int .i64) (.cons .str .nil)))) .nil)) r) (leaf : Int) (_ : GoodP (.int .i64) leaf) :
    ∃ k, laws_FnExactRecValues k s r leaf = some true := by
  obtain ⟨V, u⟩ := r
  obtain rfl : u = () := rfl
  obtain ⟨g1, g2, g3⟩ := goodCol h
  have hr : GoodP (.list 0 (.st (.cons (.int .i64) (.cons .str .nil)))) V := hr.1
  obtain ⟨q1, q2, q3⟩ := goodVal hr
  refine ⟨3000000, ?_⟩
  generalize hk : 3000000 = k
  unfold laws_FnExactRecValues laws_szRec
  obtain ⟨a, s1, s2⟩ := xszColS k s 1048576 (by omega) (by omega) (by omega) g1 g2
  simp only [s1, Option.bind_some]
  by_cases ha : a < 0
  · simp only [decide_eq_true ha, cond_true]
  · obtain ⟨ha2, hsl, hss⟩ := s2 (by omega)
    obtain ⟨b, t1, t2⟩ := xszValS k V a (by omega) (by omega) (by omega) q1 q2
    simp only [decide_eq_false ha, cond_false, t1, Option.bind_some]
    by_cases hb : b < 0
    · simp only [decide_eq_true hb, cond_true, Option.bind_some, show decide ((-1 : Int) < 0) = true from rfl]
    · obtain ⟨hb2, hVl, hVs⟩ := t2 (by omega)
      simp only [decide_eq_false hb, cond_false, Option.bind_some]
      have hn : ∀ c, c ∈ s → c.1.size < k ∧ c.1.size < 1000000000 ∧ I64 c.2.2.2.1 := fun c hc => by
        have := hss c hc
        exact ⟨by omega, by omega, (g3 c hc).2.2⟩
      obtain ⟨w, out, e1, e2, e3⟩ := recValues_eq k (by omega) s hn V (by omega) leaf
      have m1 := xmarkColS k (by omega) s 1 (by omega) (by omega) (by omega) (by omega)
      have m2 := xmarkValS k (by omega) V (1 + 4 * s.length) (by omega) (by omega) (by omega) (by omega)
      have m3 := xmarkValS k (by omega) out 1 (by omega) (by omega) (by omega) (by omega)
      have m4 := xheldValS k (by omega) out.length 1 (by omega) (by omega) (by omega) (by omega)
      unfold laws_FnExactRecValues.d8 laws_FnExactRecValues.d16 laws_FnExactRecValues.d31 laws_toRec laws_eqRec laws_markRec
      simp only [xtoColS k s (by omega) (by omega), xtoValS k V (by omega) (by omega), Option.bind_some, e1, e2, xeqValS k out (by omega) (by omega), xeqValS k V (by omega) (by omega), xeqColS k s (by omega) (by omega), m1, m2, m3, m4,
        Bool.not_true, cond_false, beq_self_eq_true, decide_eq_false (show ¬ ((1 + 4 * (s.length : Int) + 2 * (V.length : Int)) < 0) by omega), decide_eq_false (show ¬ ((1 + 2 * (out.length : Int)) < 0) by omega), bneF rfl]
end Go.Law
