/- Copies, marks and looks: rows of Val. Printed by program. -/
import Derived.Test.YtmdmkakkodeniaaLawExact
set_option linter.unusedVariables false
set_option linter.unusedSimpArgs false
namespace Go.Law
open Go.Am Go.Fn
variable (k : Nat)

theorem xtoValS_loop : ∀ (post pre : List TVal) (n : Nat), post.length < n → pre.length + post.length < 4611686018427387904 →
    laws_toValS.l3 k n (pre ++ post) (pre.length : Int) (pre ++ List.replicate post.length ((0, (⟨#[]⟩ : ByteArray), ()) : TVal)) = some ((), pre ++ post) := by
  intro post
  induction post with
  | nil =>
    intro pre n hn hl
    obtain ⟨n, rfl⟩ : ∃ j, n = j + 1 := ⟨n - 1, by omega⟩
    simp only [laws_toValS.l3, List.append_nil, decide_eq_false (show ¬ (pre.length : Int) < (pre.length : Int) by omega), cond_false, List.length_nil, List.replicate_zero]
  | cons x post ih =>
    intro pre n hn hl
    obtain ⟨n, rfl⟩ : ∃ j, n = j + 1 := ⟨n - 1, by omega⟩
    simp only [List.length_cons] at hn hl
    have := ih (pre ++ [x]) n (by omega) (by simp; omega)
    simp only [laws_toValS.l3, decide_eq_true (show (pre.length : Int) < ((pre ++ x :: post).length : Int) by simp; omega), cond_true, getMid, Option.bind_some, laws_toVal, List.length_cons, List.replicate_succ, setMid]
    rw [w64 (by omega) (by omega)]
    simpa using this

theorem xtoValS (l : List TVal) (hl : l.length < k) (h2 : l.length ≤ 4294967296) : laws_toValS k l = some ((), l) := by
  unfold laws_toValS
  rw [okLen_ok (by omega) (by omega), cond_true]
  have := xtoValS_loop k l [] k hl (by simp; omega)
  simpa using this

theorem xeqVal (x : TVal) : laws_eqVal k x x = some true := by
  unfold laws_eqVal
  simp [eqS_iff]

theorem xeqValS_loop : ∀ (post pre : List TVal) (n : Nat), post.length < n → pre.length + post.length < 4611686018427387904 → laws_eqValS.l4 k n (pre ++ post) (pre ++ post) (pre.length : Int) = some true := by
  intro post
  induction post with
  | nil =>
    intro pre n hn hl
    obtain ⟨n, rfl⟩ : ∃ j, n = j + 1 := ⟨n - 1, by omega⟩
    simp only [laws_eqValS.l4, List.append_nil, decide_eq_false (show ¬ (pre.length : Int) < (pre.length : Int) by omega), cond_false]
  | cons x post ih =>
    intro pre n hn hl
    obtain ⟨n, rfl⟩ : ∃ j, n = j + 1 := ⟨n - 1, by omega⟩
    simp only [List.length_cons] at hn hl
    have := ih (pre ++ [x]) n (by omega) (by simp; omega)
    simp only [laws_eqValS.l4, decide_eq_true (show (pre.length : Int) < ((pre ++ x :: post).length : Int) by simp; omega), cond_true, getMid, Option.bind_some, xeqVal, Bool.not_true, cond_false]
    rw [w64 (by omega) (by omega)]
    simpa using this

theorem xeqValS (l : List TVal) (hl : l.length < k) (h2 : l.length < 4611686018427387904) : laws_eqValS k l l = some true := by
  unfold laws_eqValS
  simp only [bneF rfl, cond_false]
  have := xeqValS_loop k l [] k hl (by simp; omega)
  simpa using this

/-- a marked row -/
def xmkVal : Nat → Int → List TVal
  | 0, _ => []
  | c + 1, m => (m, mtx k (m + 1), ()) :: xmkVal c (m + 2)
theorem xmkVal_len : ∀ (c : Nat) (m : Int), (xmkVal k c m).length = c
  | 0, _ => rfl
  | c + 1, m => by simp [xmkVal, xmkVal_len c]

theorem xmarkValS_loop (hk : 100 ≤ k) : ∀ (post pre : List TVal) (n : Nat) (m : Int), post.length < n → pre.length + post.length < 4611686018427387904 → 0 ≤ m → m + 2 * post.length < 4611686018427387904 →
    laws_markValS.l2 k n m (pre.length : Int) (pre ++ post) = some (m + 2 * post.length, pre ++ xmkVal k post.length m) := by
  intro post
  induction post with
  | nil =>
    intro pre n m hn hl hm0 hm
    obtain ⟨n, rfl⟩ : ∃ j, n = j + 1 := ⟨n - 1, by omega⟩
    simp only [laws_markValS.l2, List.append_nil, decide_eq_false (show ¬ (pre.length : Int) < (pre.length : Int) by omega), cond_false, List.length_nil, xmkVal]
    simp
  | cons x post ih =>
    intro pre n m hn hl hm0 hm
    obtain ⟨n, rfl⟩ : ∃ j, n = j + 1 := ⟨n - 1, by omega⟩
    simp only [List.length_cons] at hn hl hm
    have e1 : IntKind.wrap .i64 (m + 1) = m + 1 := by rw [w64 (by omega) (by omega)]
    have e2 : IntKind.wrap .i64 (m + 1 + 1) = m + 2 := by rw [w64 (by omega) (by omega)]; omega
    have ei : IntKind.wrap .i64 ((pre.length : Int) + 1) = ((pre.length + 1 : Nat) : Int) := by rw [w64 (by omega) (by omega)]; omega
    simp only [laws_markValS.l2, decide_eq_true (show (pre.length : Int) < ((pre ++ x :: post).length : Int) by simp; omega), cond_true, getMid, Option.bind_some, setMid, e1, e2, mtx_eq k hk (m + 1) (by omega), ei]
    have h := ih (pre ++ [(m, mtx k (m + 1), ())]) n (m + 2) (by omega) (by simp; omega) (by omega) (by omega)
    rw [List.length_append, List.length_singleton, ← midSnoc] at h
    rw [h]
    simp only [List.length_cons, xmkVal]
    rw [← midSnoc]
    congr 2
    omega

theorem xmarkValS (hk : 100 ≤ k) (l : List TVal) (m : Int) (hl : l.length < k) (h2 : l.length < 400000000000) (h0 : 0 ≤ m) (h3 : m < 400000000000000) : laws_markValS k m l = some (m + 2 * l.length, xmkVal k l.length m) := by
  have h := xmarkValS_loop k hk l [] k m hl (by simp; omega) h0 (by omega)
  unfold laws_markValS
  simpa using h

theorem xheldValS_loop (hk : 100 ≤ k) : ∀ (c : Nat) (pre : List TVal) (n : Nat) (m : Int), c < n → pre.length + c < 4611686018427387904 → 0 ≤ m → m + 2 * c < 4611686018427387904 →
    laws_heldValS.l2 k n (pre ++ xmkVal k c m) m (pre.length : Int) = some (m + 2 * c) := by
  intro c
  induction c with
  | zero =>
    intro pre n m hn hl hm0 hm
    obtain ⟨n, rfl⟩ : ∃ j, n = j + 1 := ⟨n - 1, by omega⟩
    simp only [laws_heldValS.l2, xmkVal, List.append_nil, decide_eq_false (show ¬ (pre.length : Int) < (pre.length : Int) by omega), cond_false]
    simp
  | succ c ih =>
    intro pre n m hn hl hm0 hm
    obtain ⟨n, rfl⟩ : ∃ j, n = j + 1 := ⟨n - 1, by omega⟩
    have e1 : IntKind.wrap .i64 (m + 1) = m + 1 := by rw [w64 (by omega) (by omega)]
    have e2 : IntKind.wrap .i64 (m + 1 + 1) = m + 2 := by rw [w64 (by omega) (by omega)]; omega
    have ei : IntKind.wrap .i64 ((pre.length : Int) + 1) = ((pre.length + 1 : Nat) : Int) := by rw [w64 (by omega) (by omega)]; omega
    have hlen : (pre.length : Int) < ((pre ++ xmkVal k (c + 1) m).length : Int) := by rw [List.length_append, xmkVal_len]; omega
    simp only [laws_heldValS.l2, decide_eq_true hlen, cond_true]
    simp only [xmkVal, laws_heldValS.d7, getMid, Option.bind_some, mtx_eq k hk (m + 1) (by omega), eqS_iff, decide_true, Bool.not_true, cond_false, e1, e2, bneF rfl, ei]
    have h := ih (pre ++ [(m, mtx k (m + 1), ())]) n (m + 2) (by omega) (by simp; omega) (by omega) (by omega)
    rw [List.length_append, List.length_singleton, ← midSnoc] at h
    rw [h]
    congr 1
    omega

theorem xheldValS (hk : 100 ≤ k) (c : Nat) (m : Int) (hl : c < k) (h2 : c < 400000000000) (h0 : 0 ≤ m) (h3 : m < 400000000000000) : laws_heldValS k (xmkVal k c m) m = some (m + 2 * c) := by
  have h := xheldValS_loop k hk c [] k m hl (by simp; omega) h0 (by omega)
  unfold laws_heldValS
  simpa using h

theorem xszValS_loop : ∀ (post pre : List TVal) (n : Nat) (left : Int), post.length < n → pre.length + post.length < 4611686018427387904 → 0 ≤ left → left ≤ 1048576 → (∀ x, x ∈ post → x.2.1.size ≤ 9223372036854775807) →
    ∃ r, laws_szValS.l5 k n (pre ++ post) left (pre.length : Int) = some r ∧ (0 ≤ r → r ≤ left ∧ ∀ x, x ∈ post → x.2.1.size ≤ 1048576) := by
  intro post
  induction post with
  | nil =>
    intro pre n left hn hl h0 h1 hx
    obtain ⟨n, rfl⟩ : ∃ j, n = j + 1 := ⟨n - 1, by omega⟩
    simp only [laws_szValS.l5, List.append_nil, decide_eq_false (show ¬ (pre.length : Int) < (pre.length : Int) by omega), cond_false]
    exact ⟨_, rfl, fun _ => ⟨Int.le_refl _, fun x hx => (List.not_mem_nil hx).elim⟩⟩
  | cons x post ih =>
    intro pre n left hn hl h0 h1 hx
    obtain ⟨n, rfl⟩ : ∃ j, n = j + 1 := ⟨n - 1, by omega⟩
    simp only [List.length_cons] at hn hl
    have hxs := hx x (List.mem_cons_self ..)
    simp only [laws_szValS.l5, decide_eq_true (show (pre.length : Int) < ((pre ++ x :: post).length : Int) by simp; omega), cond_true, getMid, Option.bind_some, laws_szVal]
    rw [w64 (show -9223372036854775808 ≤ left - (x.2.1.size : Int) by omega) (by omega)]
    by_cases h : left - (x.2.1.size : Int) < 0
    · simp only [decide_eq_true h, cond_true, Option.bind_some, show decide ((-1 : Int) < 0) = true from rfl]
      exact ⟨_, rfl, fun h => by omega⟩
    · simp only [decide_eq_false h, cond_false, Option.bind_some]
      rw [w64 (by omega) (by omega)]
      obtain ⟨r, g1, g2⟩ := ih (pre ++ [x]) n (left - (x.2.1.size : Int)) (by omega) (by simp; omega) (by omega) (by omega) (fun y hy => hx y (List.mem_cons_of_mem _ hy))
      refine ⟨r, ?_, fun h0 => ⟨by have := (g2 h0).1; omega, fun y hy => ?_⟩⟩
      · rw [midSnoc]; simpa using g1
      · rcases List.mem_cons.1 hy with rfl | hy
        · omega
        · exact (g2 h0).2 y hy

theorem xszValS (l : List TVal) (left : Int) (h0 : 0 ≤ left) (h1 : left ≤ 1048576) (hk : 1048576 < k) (hl : l.length ≤ 9223372036854775807) (hx : ∀ x, x ∈ l → x.2.1.size ≤ 9223372036854775807) :
    ∃ r, laws_szValS k l left = some r ∧ (0 ≤ r → r ≤ left ∧ l.length ≤ 1048576 ∧ ∀ x, x ∈ l → x.2.1.size ≤ 1048576) := by
  unfold laws_szValS
  rw [w64 (by omega) (by omega)]
  by_cases h : left - (l.length : Int) < 0
  · simp only [decide_eq_true h, cond_true]
    exact ⟨_, rfl, fun h => by omega⟩
  · simp only [decide_eq_false h, cond_false]
    obtain ⟨r, g1, g2⟩ := xszValS_loop k l [] k (left - (l.length : Int)) (by omega) (by simp; omega) (by omega) (by omega) hx
    exact ⟨r, by simpa using g1, fun h0 => ⟨by have := (g2 h0).1; omega, by omega, (g2 h0).2⟩⟩

end Go.Law

