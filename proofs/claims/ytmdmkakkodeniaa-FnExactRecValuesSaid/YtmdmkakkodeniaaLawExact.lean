/- What the exact laws do around a call: copies, marks, and looks. -/
import Derived.Test.YtmdmkakkodeniaaRecVF0
import Derived.Test.YtmdmkakkodeniaaLawBase
set_option linter.unusedVariables false
set_option linter.unusedSimpArgs false
namespace Go.Law
open Go.Am Go.Fn
variable (k : Nat)


theorem w1 {x : Int} {c : Int} (h : I64 x) (hc : 0 ≤ c) (hb : x + c < 9223372036854775808) : IntKind.wrap .i64 (x + c) = x + c := w64 (by have := h.1; omega) hb

/-! ### the text of a mark -/
theorem markTextLoop : ∀ (f n : Nat) (t : Int) (acc : ByteArray), t < 10 ^ f → f < n → acc.size + f ≤ 1000 → t < 9223372036854775808 → ∃ s, laws_markText.l4 k n t acc = some s ∧ s.size ≤ 1001 := by
  intro f
  induction f with
  | zero =>
    intro n t acc ht hn ha h64
    obtain ⟨n, rfl⟩ : ∃ j, n = j + 1 := ⟨n - 1, by omega⟩
    have ht : t < 1 := by simpa using ht
    simp only [laws_markText.l4, decide_eq_false (show ¬ t > 0 by omega), cond_false]
    rw [lim_ok (by show 1 + acc.size ≤ _; omega), cond_true]
    exact ⟨_, rfl, by rw [ByteArray.size_append]; show 1 + acc.size ≤ _; omega⟩
  | succ f ih =>
    intro n t acc ht hn ha h64
    obtain ⟨n, rfl⟩ : ∃ j, n = j + 1 := ⟨n - 1, by omega⟩
    by_cases h : t > 0
    · simp only [laws_markText.l4, decide_eq_true h, cond_true]
      rw [lim_ok (by rw [intsStr_size]; simp; omega), cond_true, Int.tdiv_eq_ediv_of_nonneg (by omega), w64 (show -9223372036854775808 ≤ t / 10 by omega) (by omega)]
      refine ih n (t / 10) _ ?_ (by omega) (by rw [ByteArray.size_append, intsStr_size]; simp; omega) (by omega)
      have hp : (10 : Int) ^ (f + 1) = 10 ^ f * 10 := Int.pow_succ 10 f
      omega
    · simp only [laws_markText.l4, decide_eq_false h, cond_false]
      rw [lim_ok (by show 1 + acc.size ≤ _; omega), cond_true]
      exact ⟨_, rfl, by rw [ByteArray.size_append]; show 1 + acc.size ≤ _; omega⟩

theorem markText_ok (hk : 100 ≤ k) (t : Int) (h : t < 9223372036854775808) : ∃ s, laws_markText k t = some s := by
  unfold laws_markText
  by_cases h0 : t ≤ 0
  · simp only [decide_eq_true h0, cond_true]
    exact ⟨_, rfl⟩
  · simp only [decide_eq_false h0, cond_false]
    obtain ⟨s, hs, _⟩ := markTextLoop k 19 k t ⟨#[]⟩ (by omega) (by omega) (by decide) h
    exact ⟨s, hs⟩

def mtx (t : Int) : ByteArray := (laws_markText k t).getD ⟨#[]⟩
theorem mtx_eq (hk : 100 ≤ k) (t : Int) (h : t < 9223372036854775808) : laws_markText k t = some (mtx k t) := by
  obtain ⟨s, hs⟩ := markText_ok k hk t h
  unfold mtx
  rw [hs]; rfl
end Go.Law
