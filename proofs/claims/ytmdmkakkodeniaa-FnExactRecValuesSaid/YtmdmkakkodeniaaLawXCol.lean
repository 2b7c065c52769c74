/- Copies, marks and looks: rows of Col. Printed by program. -/
import Derived.Test.YtmdmkakkodeniaaLawExact
set_option linter.unusedVariables false
set_option linter.unusedSimpArgs false
namespace Go.Law
open Go.Am Go.Fn
variable (k : Nat)

theorem xtoColS_loop : ∀ (post pre : List TCol) (n : Nat), post.length < n → pre.length + post.length < 4611686018427387904 →
    laws_toColS.l3 k n (pre ++ post) (pre.length : Int) (pre ++ List.replicate post.length (((⟨#[]⟩ : ByteArray), 0, 0, 0, ()) : TCol)) = some ((), pre ++ post) := by
  intro post
  induction post with
  | nil =>
    intro pre n hn hl
    obtain ⟨n, rfl⟩ : ∃ j, n = j + 1 := ⟨n - 1, by omega⟩
    simp only [laws_toColS.l3, List.append_nil, decide_eq_false (show ¬ (pre.length : Int) < (pre.length : Int) by omega), cond_false, List.length_nil, List.replicate_zero]
  | cons x post ih =>
    intro pre n hn hl
    obtain ⟨n, rfl⟩ : ∃ j, n = j + 1 := ⟨n - 1, by omega⟩
    simp only [List.length_cons] at hn hl
    have := ih (pre ++ [x]) n (by omega) (by simp; omega)
    simp only [laws_toColS.l3, decide_eq_true (show (pre.length : Int) < ((pre ++ x :: post).length : Int) by simp; omega), cond_true, getMid, Option.bind_some, laws_toCol, List.length_cons, List.replicate_succ, setMid]
    rw [w64 (by omega) (by omega)]
    simpa using this

theorem xtoColS (l : List TCol) (hl : l.length < k) (h2 : l.length ≤ 4294967296) : laws_toColS k l = some ((), l) := by
  unfold laws_toColS
  rw [okLen_ok (by omega) (by omega), cond_true]
  have := xtoColS_loop k l [] k hl (by simp; omega)
  simpa using this

theorem xeqCol (x : TCol) : laws_eqCol k x x = some true := by
  unfold laws_eqCol
  simp [eqS_iff]

theorem xeqColS_loop : ∀ (post pre : List TCol) (n : Nat), post.length < n → pre.length + post.length < 4611686018427387904 → laws_eqColS.l4 k n (pre ++ post) (pre ++ post) (pre.length : Int) = some true := by
  intro post
  induction post with
  | nil =>
    intro pre n hn hl
    obtain ⟨n, rfl⟩ : ∃ j, n = j + 1 := ⟨n - 1, by omega⟩
    simp only [laws_eqColS.l4, List.append_nil, decide_eq_false (show ¬ (pre.length : Int) < (pre.length : Int) by omega), cond_false]
  | cons x post ih =>
    intro pre n hn hl
    obtain ⟨n, rfl⟩ : ∃ j, n = j + 1 := ⟨n - 1, by omega⟩
    simp only [List.length_cons] at hn hl
    have := ih (pre ++ [x]) n (by omega) (by simp; omega)
    simp only [laws_eqColS.l4, decide_eq_true (show (pre.length : Int) < ((pre ++ x :: post).length : Int) by simp; omega), cond_true, getMid, Option.bind_some, xeqCol, Bool.not_true, cond_false]
    rw [w64 (by omega) (by omega)]
    simpa using this

theorem xeqColS (l : List TCol) (hl : l.length < k) (h2 : l.length < 4611686018427387904) : laws_eqColS k l l = some true := by
  unfold laws_eqColS
  simp only [bneF rfl, cond_false]
  have := xeqColS_loop k l [] k hl (by simp; omega)
  simpa using this

/-- a marked row -/
def xmkCol : Nat → Int → List TCol
  | 0, _ => []
  | c + 1, m => (mtx k m, m + 1, m + 2, m + 3, ()) :: xmkCol c (m + 4)
theorem xmkCol_len : ∀ (c : Nat) (m : Int), (xmkCol k c m).length = c
  | 0, _ => rfl
  | c + 1, m => by simp [xmkCol, xmkCol_len c]

theorem xmarkColS_loop (hk : 100 ≤ k) : ∀ (post pre : List TCol) (n : Nat) (m : Int), post.length < n → pre.length + post.length < 4611686018427387904 → 0 ≤ m → m + 4 * post.length < 4611686018427387904 →
    laws_markColS.l2 k n m (pre.length : Int) (pre ++ post) = some (m + 4 * post.length, pre ++ xmkCol k post.length m) := by
  intro post
  induction post with
  | nil =>
    intro pre n m hn hl hm0 hm
    obtain ⟨n, rfl⟩ : ∃ j, n = j + 1 := ⟨n - 1, by omega⟩
    simp only [laws_markColS.l2, List.append_nil, decide_eq_false (show ¬ (pre.length : Int) < (pre.length : Int) by omega), cond_false, List.length_nil, xmkCol]
    simp
  | cons x post ih =>
    intro pre n m hn hl hm0 hm
    obtain ⟨n, rfl⟩ : ∃ j, n = j + 1 := ⟨n - 1, by omega⟩
    simp only [List.length_cons] at hn hl hm
    have e1 : IntKind.wrap .i64 (m + 1) = m + 1 := by rw [w64 (by omega) (by omega)]
    have e2 : IntKind.wrap .i64 (m + 1 + 1) = m + 2 := by rw [w64 (by omega) (by omega)]; omega
    have e3 : IntKind.wrap .i64 (m + 2 + 1) = m + 3 := by rw [w64 (by omega) (by omega)]; omega
    have e4 : IntKind.wrap .i64 (m + 3 + 1) = m + 4 := by rw [w64 (by omega) (by omega)]; omega
    have ei : IntKind.wrap .i64 ((pre.length : Int) + 1) = ((pre.length + 1 : Nat) : Int) := by rw [w64 (by omega) (by omega)]; omega
    simp only [laws_markColS.l2, decide_eq_true (show (pre.length : Int) < ((pre ++ x :: post).length : Int) by simp; omega), cond_true, getMid, Option.bind_some, setMid, e1, e2, e3, e4, mtx_eq k hk (m) (by omega), ei]
    have h := ih (pre ++ [(mtx k m, m + 1, m + 2, m + 3, ())]) n (m + 4) (by omega) (by simp; omega) (by omega) (by omega)
    rw [List.length_append, List.length_singleton, ← midSnoc] at h
    rw [h]
    simp only [List.length_cons, xmkCol]
    rw [← midSnoc]
    congr 2
    omega

theorem xmarkColS (hk : 100 ≤ k) (l : List TCol) (m : Int) (hl : l.length < k) (h2 : l.length < 400000000000) (h0 : 0 ≤ m) (h3 : m < 400000000000000) : laws_markColS k m l = some (m + 4 * l.length, xmkCol k l.length m) := by
  have h := xmarkColS_loop k hk l [] k m hl (by simp; omega) h0 (by omega)
  unfold laws_markColS
  simpa using h

theorem xheldColS_loop (hk : 100 ≤ k) : ∀ (c : Nat) (pre : List TCol) (n : Nat) (m : Int), c < n → pre.length + c < 4611686018427387904 → 0 ≤ m → m + 4 * c < 4611686018427387904 →
    laws_heldColS.l2 k n (pre ++ xmkCol k c m) m (pre.length : Int) = some (m + 4 * c) := by
  intro c
  induction c with
  | zero =>
    intro pre n m hn hl hm0 hm
    obtain ⟨n, rfl⟩ : ∃ j, n = j + 1 := ⟨n - 1, by omega⟩
    simp only [laws_heldColS.l2, xmkCol, List.append_nil, decide_eq_false (show ¬ (pre.length : Int) < (pre.length : Int) by omega), cond_false]
    simp
  | succ c ih =>
    intro pre n m hn hl hm0 hm
    obtain ⟨n, rfl⟩ : ∃ j, n = j + 1 := ⟨n - 1, by omega⟩
    have e1 : IntKind.wrap .i64 (m + 1) = m + 1 := by rw [w64 (by omega) (by omega)]
    have e2 : IntKind.wrap .i64 (m + 1 + 1) = m + 2 := by rw [w64 (by omega) (by omega)]; omega
    have e3 : IntKind.wrap .i64 (m + 2 + 1) = m + 3 := by rw [w64 (by omega) (by omega)]; omega
    have e4 : IntKind.wrap .i64 (m + 3 + 1) = m + 4 := by rw [w64 (by omega) (by omega)]; omega
    have ei : IntKind.wrap .i64 ((pre.length : Int) + 1) = ((pre.length + 1 : Nat) : Int) := by rw [w64 (by omega) (by omega)]; omega
    have hlen : (pre.length : Int) < ((pre ++ xmkCol k (c + 1) m).length : Int) := by rw [List.length_append, xmkCol_len]; omega
    simp only [laws_heldColS.l2, decide_eq_true hlen, cond_true]
    simp only [xmkCol, laws_heldColS.d4, getMid, Option.bind_some, mtx_eq k hk (m) (by omega), eqS_iff, decide_true, Bool.not_true, cond_false, e1, e2, e3, e4, bneF rfl, ei]
    have h := ih (pre ++ [(mtx k m, m + 1, m + 2, m + 3, ())]) n (m + 4) (by omega) (by simp; omega) (by omega) (by omega)
    rw [List.length_append, List.length_singleton, ← midSnoc] at h
    rw [h]
    congr 1
    omega

theorem xheldColS (hk : 100 ≤ k) (c : Nat) (m : Int) (hl : c < k) (h2 : c < 400000000000) (h0 : 0 ≤ m) (h3 : m < 400000000000000) : laws_heldColS k (xmkCol k c m) m = some (m + 4 * c) := by
  have h := xheldColS_loop k hk c [] k m hl (by simp; omega) h0 (by omega)
  unfold laws_heldColS
  simpa using h

theorem xszColS_loop : ∀ (post pre : List TCol) (n : Nat) (left : Int), post.length < n → pre.length + post.length < 4611686018427387904 → 0 ≤ left → left ≤ 1048576 → (∀ x, x ∈ post → x.1.size ≤ 9223372036854775807) →
    ∃ r, laws_szColS.l5 k n (pre ++ post) left (pre.length : Int) = some r ∧ (0 ≤ r → r ≤ left ∧ ∀ x, x ∈ post → x.1.size ≤ 1048576) := by
  intro post
  induction post with
  | nil =>
    intro pre n left hn hl h0 h1 hx
    obtain ⟨n, rfl⟩ : ∃ j, n = j + 1 := ⟨n - 1, by omega⟩
    simp only [laws_szColS.l5, List.append_nil, decide_eq_false (show ¬ (pre.length : Int) < (pre.length : Int) by omega), cond_false]
    exact ⟨_, rfl, fun _ => ⟨Int.le_refl _, fun x hx => (List.not_mem_nil hx).elim⟩⟩
  | cons x post ih =>
    intro pre n left hn hl h0 h1 hx
    obtain ⟨n, rfl⟩ : ∃ j, n = j + 1 := ⟨n - 1, by omega⟩
    simp only [List.length_cons] at hn hl
    have hxs := hx x (List.mem_cons_self ..)
    simp only [laws_szColS.l5, decide_eq_true (show (pre.length : Int) < ((pre ++ x :: post).length : Int) by simp; omega), cond_true, getMid, Option.bind_some, laws_szCol]
    rw [w64 (show -9223372036854775808 ≤ left - (x.1.size : Int) by omega) (by omega)]
    by_cases h : left - (x.1.size : Int) < 0
    · simp only [decide_eq_true h, cond_true, Option.bind_some, show decide ((-1 : Int) < 0) = true from rfl]
      exact ⟨_, rfl, fun h => by omega⟩
    · simp only [decide_eq_false h, cond_false, Option.bind_some]
      rw [w64 (by omega) (by omega)]
      obtain ⟨r, g1, g2⟩ := ih (pre ++ [x]) n (left - (x.1.size : Int)) (by omega) (by simp; omega) (by omega) (by omega) (fun y hy => hx y (List.mem_cons_of_mem _ hy))
      refine ⟨r, ?_, fun h0 => ⟨by have := (g2 h0).1; omega, fun y hy => ?_⟩⟩
      · rw [midSnoc]; simpa using g1
      · rcases List.mem_cons.1 hy with rfl | hy
        · omega
        · exact (g2 h0).2 y hy

theorem xszColS (l : List TCol) (left : Int) (h0 : 0 ≤ left) (h1 : left ≤ 1048576) (hk : 1048576 < k) (hl : l.length ≤ 9223372036854775807) (hx : ∀ x, x ∈ l → x.1.size ≤ 9223372036854775807) :
    ∃ r, laws_szColS k l left = some r ∧ (0 ≤ r → r ≤ left ∧ l.length ≤ 1048576 ∧ ∀ x, x ∈ l → x.1.size ≤ 1048576) := by
  unfold laws_szColS
  rw [w64 (by omega) (by omega)]
  by_cases h : left - (l.length : Int) < 0
  · simp only [decide_eq_true h, cond_true]
    exact ⟨_, rfl, fun h => by omega⟩
  · simp only [decide_eq_false h, cond_false]
    obtain ⟨r, g1, g2⟩ := xszColS_loop k l [] k (left - (l.length : Int)) (by omega) (by simp; omega) (by omega) (by omega) hx
    exact ⟨r, by simpa using g1, fun h0 => ⟨by have := (g2 h0).1; omega, by omega, (g2 h0).2⟩⟩

end Go.Law

