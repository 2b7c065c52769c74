/- Copies, marks and looks: rows of cols. -/
import Derived.Test.YtmdmkakkodeniaaLawExact
set_option linter.unusedVariables false
set_option linter.unusedSimpArgs false
namespace Go.Law
open Go.Am Go.Fn
variable (k : Nat)

theorem eqCol_refl (x : TCol) : laws_eqCol k x x = some true := by
  unfold laws_eqCol
  simp [eqS_iff]

theorem eqColS_loop : ∀ (post pre : List TCol) (n : Nat), post.length < n → pre.length + post.length < 4611686018427387904 → laws_eqColS.l4 k n (pre ++ post) (pre ++ post) (pre.length : Int) = some true := by
  intro post
  induction post with
  | nil =>
    intro pre n hn hl
    obtain ⟨n, rfl⟩ : ∃ j, n = j + 1 := ⟨n - 1, by omega⟩
    simp only [laws_eqColS.l4, List.append_nil, decide_eq_false (show ¬ (pre.length : Int) < (pre.length : Int) by omega), cond_false]
  | cons x post ih =>
    intro pre n hn hl
    obtain ⟨n, rfl⟩ : ∃ j, n = j + 1 := ⟨n - 1, by omega⟩
    simp only [List.length_cons] at hn hl
    have := ih (pre ++ [x]) n (by omega) (by simp; omega)
    simp only [laws_eqColS.l4, decide_eq_true (show (pre.length : Int) < ((pre ++ x :: post).length : Int) by simp; omega), cond_true, getMid, Option.bind_some, eqCol_refl, Bool.not_true, cond_false]
    rw [w64 (by omega) (by omega)]
    simpa using this

theorem eqColS_refl (l : List TCol) (hl : l.length < k) (h2 : l.length < 4611686018427387904) : laws_eqColS k l l = some true := by
  unfold laws_eqColS
  simp only [bneF rfl, cond_false]
  have := eqColS_loop k l [] k hl (by simp; omega)
  simpa using this

/-- a marked row -/
def mkCols : Nat → Int → List TCol
  | 0, _ => []
  | c + 1, m => (mtx k m, m + 1, m + 2, m + 3, ()) :: mkCols c (m + 4)
theorem mkCols_len : ∀ (c : Nat) (m : Int), (mkCols k c m).length = c
  | 0, _ => rfl
  | c + 1, m => by simp [mkCols, mkCols_len c]

theorem markColS_loop (hk : 100 ≤ k) : ∀ (post pre : List TCol) (n : Nat) (m : Int), post.length < n → pre.length + post.length < 4611686018427387904 → 0 ≤ m → m + 4 * post.length < 4611686018427387904 →
    laws_markColS.l2 k n m (pre.length : Int) (pre ++ post) = some (m + 4 * post.length, pre ++ mkCols k post.length m) := by
  intro post
  induction post with
  | nil =>
    intro pre n m hn hl hm0 hm
    obtain ⟨n, rfl⟩ : ∃ j, n = j + 1 := ⟨n - 1, by omega⟩
    simp only [laws_markColS.l2, List.append_nil, decide_eq_false (show ¬ (pre.length : Int) < (pre.length : Int) by omega), cond_false, List.length_nil, mkCols]
    simp
  | cons x post ih =>
    intro pre n m hn hl hm0 hm
    obtain ⟨n, rfl⟩ : ∃ j, n = j + 1 := ⟨n - 1, by omega⟩
    simp only [List.length_cons] at hn hl hm
    have e1 : IntKind.wrap .i64 (m + 1) = m + 1 := w64 (by omega) (by omega)
    have e2 : IntKind.wrap .i64 (m + 1 + 1) = m + 2 := by rw [w64 (by omega) (by omega)]; omega
    have e3 : IntKind.wrap .i64 (m + 2 + 1) = m + 3 := by rw [w64 (by omega) (by omega)]; omega
    have e4 : IntKind.wrap .i64 (m + 3 + 1) = m + 4 := by rw [w64 (by omega) (by omega)]; omega
    have ei : IntKind.wrap .i64 ((pre.length : Int) + 1) = ((pre.length + 1 : Nat) : Int) := by rw [w64 (by omega) (by omega)]; omega
    simp only [laws_markColS.l2, decide_eq_true (show (pre.length : Int) < ((pre ++ x :: post).length : Int) by simp; omega), cond_true, getMid, Option.bind_some, setMid, e1, e2, e3, e4, mtx_eq k hk m (by omega), ei]
    have h := ih (pre ++ [(mtx k m, m + 1, m + 2, m + 3, ())]) n (m + 4) (by omega) (by simp; omega) (by omega) (by omega)
    rw [List.length_append, List.length_singleton, ← midSnoc] at h
    rw [h]
    simp only [List.length_cons, mkCols]
    rw [← midSnoc]
    congr 2
    omega

theorem heldColS_loop (hk : 100 ≤ k) : ∀ (c : Nat) (pre : List TCol) (n : Nat) (m : Int), c < n → pre.length + c < 4611686018427387904 → 0 ≤ m → m + 4 * c < 4611686018427387904 →
    laws_heldColS.l2 k n (pre ++ mkCols k c m) m (pre.length : Int) = some (m + 4 * c) := by
  intro c
  induction c with
  | zero =>
    intro pre n m hn hl hm0 hm
    obtain ⟨n, rfl⟩ : ∃ j, n = j + 1 := ⟨n - 1, by omega⟩
    simp only [laws_heldColS.l2, mkCols, List.append_nil, decide_eq_false (show ¬ (pre.length : Int) < (pre.length : Int) by omega), cond_false]
    simp
  | succ c ih =>
    intro pre n m hn hl hm0 hm
    obtain ⟨n, rfl⟩ : ∃ j, n = j + 1 := ⟨n - 1, by omega⟩
    have e1 : IntKind.wrap .i64 (m + 1) = m + 1 := w64 (by omega) (by omega)
    have e2 : IntKind.wrap .i64 (m + 1 + 1) = m + 2 := by rw [w64 (by omega) (by omega)]; omega
    have e3 : IntKind.wrap .i64 (m + 2 + 1) = m + 3 := by rw [w64 (by omega) (by omega)]; omega
    have e4 : IntKind.wrap .i64 (m + 3 + 1) = m + 4 := by rw [w64 (by omega) (by omega)]; omega
    have ei : IntKind.wrap .i64 ((pre.length : Int) + 1) = ((pre.length + 1 : Nat) : Int) := by rw [w64 (by omega) (by omega)]; omega
    have hlen : (pre.length : Int) < ((pre ++ mkCols k (c + 1) m).length : Int) := by rw [List.length_append, mkCols_len]; omega
    simp only [laws_heldColS.l2, decide_eq_true hlen, cond_true]
    simp only [mkCols, laws_heldColS.d4, getMid, Option.bind_some, mtx_eq k hk m (by omega), eqS_iff, decide_true, Bool.not_true, cond_false, e1, e2, e3, e4, bneF rfl, ei]
    have h := ih (pre ++ [(mtx k m, m + 1, m + 2, m + 3, ())]) n (m + 4) (by omega) (by simp; omega) (by omega) (by omega)
    rw [List.length_append, List.length_singleton, ← midSnoc] at h
    rw [h]
    congr 1
    omega

theorem markHeldColS (hk : 100 ≤ k) (l : List TCol) (hl : l.length < k) (h2 : l.length < 400000000000) : ∃ m l', laws_markColS k 1 l = some (m, l') ∧ laws_heldColS k l' 1 = some m ∧ 0 ≤ m := by
  have h := markColS_loop k hk l [] k 1 hl (by simp; omega) (by omega) (by omega)
  have g := heldColS_loop k hk l.length [] k 1 hl (by simp; omega) (by omega) (by omega)
  exact ⟨1 + 4 * l.length, mkCols k l.length 1, by unfold laws_markColS; simpa using h, by unfold laws_heldColS; simpa using g, by omega⟩
end Go.Law
