/- Copies, marks and looks: rows of nodes. -/
import Derived.Test.YtmdmkakkodeniaaLawExact
set_option linter.unusedVariables false
set_option linter.unusedSimpArgs false
namespace Go.Law
open Go.Am Go.Fn
variable (k : Nat)

theorem toNodeS_loop : ∀ (post pre : List TNode) (n : Nat), post.length < n → pre.length + post.length < 4611686018427387904 →
    laws_toNodeS.l3 k n (pre ++ post) (pre.length : Int) (pre ++ List.replicate post.length ((0, 0, 0, (⟨#[]⟩ : ByteArray), 0, ()) : TNode)) = some ((), pre ++ post) := by
  intro post
  induction post with
  | nil =>
    intro pre n hn hl
    obtain ⟨n, rfl⟩ : ∃ j, n = j + 1 := ⟨n - 1, by omega⟩
    simp only [laws_toNodeS.l3, List.append_nil, decide_eq_false (show ¬ (pre.length : Int) < (pre.length : Int) by omega), cond_false, List.length_nil, List.replicate_zero]
  | cons x post ih =>
    intro pre n hn hl
    obtain ⟨n, rfl⟩ : ∃ j, n = j + 1 := ⟨n - 1, by omega⟩
    simp only [List.length_cons] at hn hl
    have := ih (pre ++ [x]) n (by omega) (by simp; omega)
    simp only [laws_toNodeS.l3, decide_eq_true (show (pre.length : Int) < ((pre ++ x :: post).length : Int) by simp; omega), cond_true, getMid, Option.bind_some, laws_toNode, List.length_cons, List.replicate_succ, setMid]
    rw [w64 (by omega) (by omega)]
    simpa using this

theorem toNodeS_eq (l : List TNode) (hl : l.length < k) (h2 : l.length ≤ 4294967296) : laws_toNodeS k l = some ((), l) := by
  unfold laws_toNodeS
  rw [okLen_ok (by omega) (by omega), cond_true]
  have := toNodeS_loop k l [] k hl (by simp; omega)
  simpa using this

theorem eqNode_refl (x : TNode) : laws_eqNode k x x = some true := by
  unfold laws_eqNode
  simp [eqS_iff]

theorem eqNodeS_loop : ∀ (post pre : List TNode) (n : Nat), post.length < n → pre.length + post.length < 4611686018427387904 → laws_eqNodeS.l4 k n (pre ++ post) (pre ++ post) (pre.length : Int) = some true := by
  intro post
  induction post with
  | nil =>
    intro pre n hn hl
    obtain ⟨n, rfl⟩ : ∃ j, n = j + 1 := ⟨n - 1, by omega⟩
    simp only [laws_eqNodeS.l4, List.append_nil, decide_eq_false (show ¬ (pre.length : Int) < (pre.length : Int) by omega), cond_false]
  | cons x post ih =>
    intro pre n hn hl
    obtain ⟨n, rfl⟩ : ∃ j, n = j + 1 := ⟨n - 1, by omega⟩
    simp only [List.length_cons] at hn hl
    have := ih (pre ++ [x]) n (by omega) (by simp; omega)
    simp only [laws_eqNodeS.l4, decide_eq_true (show (pre.length : Int) < ((pre ++ x :: post).length : Int) by simp; omega), cond_true, getMid, Option.bind_some, eqNode_refl, Bool.not_true, cond_false]
    rw [w64 (by omega) (by omega)]
    simpa using this

theorem eqNodeS_refl (l : List TNode) (hl : l.length < k) (h2 : l.length < 4611686018427387904) : laws_eqNodeS k l l = some true := by
  unfold laws_eqNodeS
  simp only [bneF rfl, cond_false]
  have := eqNodeS_loop k l [] k hl (by simp; omega)
  simpa using this

theorem markNodeS_loop (hk : 100 ≤ k) : ∀ (post pre : List TNode) (n : Nat) (m : Int), post.length < n → pre.length + post.length < 4611686018427387904 → 0 ≤ m → m + 5 * post.length < 4611686018427387904 →
    ∃ l', laws_markNodeS.l2 k n m (pre.length : Int) (pre ++ post) = some (m + 5 * post.length, l') := by
  intro post
  induction post with
  | nil =>
    intro pre n m hn hl hm0 hm
    obtain ⟨n, rfl⟩ : ∃ j, n = j + 1 := ⟨n - 1, by omega⟩
    simp only [laws_markNodeS.l2, List.append_nil, decide_eq_false (show ¬ (pre.length : Int) < (pre.length : Int) by omega), cond_false]
    exact ⟨_, by simp; rfl⟩
  | cons x post ih =>
    intro pre n m hn hl hm0 hm
    obtain ⟨n, rfl⟩ : ∃ j, n = j + 1 := ⟨n - 1, by omega⟩
    simp only [List.length_cons] at hn hl hm
    have e1 : IntKind.wrap .i64 (m + 1) = m + 1 := w64 (by omega) (by omega)
    have e2 : IntKind.wrap .i64 (m + 1 + 1) = m + 2 := by rw [w64 (by omega) (by omega)]; omega
    have e3 : IntKind.wrap .i64 (m + 2 + 1) = m + 3 := by rw [w64 (by omega) (by omega)]; omega
    have e4 : IntKind.wrap .i64 (m + 3 + 1) = m + 4 := by rw [w64 (by omega) (by omega)]; omega
    have e5 : IntKind.wrap .i64 (m + 4 + 1) = m + 5 := by rw [w64 (by omega) (by omega)]; omega
    have ei : IntKind.wrap .i64 ((pre.length : Int) + 1) = ((pre.length + 1 : Nat) : Int) := by rw [w64 (by omega) (by omega)]; omega
    simp only [laws_markNodeS.l2, decide_eq_true (show (pre.length : Int) < ((pre ++ x :: post).length : Int) by simp; omega), cond_true, getMid, Option.bind_some, setMid, e1, e2, e3, e4, e5, mtx_eq k hk (m + 3) (by omega), ei]
    obtain ⟨l', h⟩ := ih (pre ++ [(m, m + 1, m + 2, mtx k (m + 3), m + 4, ())]) n (m + 5) (by omega) (by simp; omega) (by omega) (by omega)
    refine ⟨l', ?_⟩
    rw [List.length_append, List.length_singleton, ← midSnoc] at h
    rw [h]
    simp only [List.length_cons]
    congr 2
    omega

theorem markNodeS_ok (hk : 100 ≤ k) (l : List TNode) (hl : l.length < k) (h2 : l.length < 400000000000) : ∃ m l', laws_markNodeS k 1 l = some (m, l') ∧ 0 ≤ m := by
  obtain ⟨l', h⟩ := markNodeS_loop k hk l [] k 1 hl (by simp; omega) (by omega) (by omega)
  exact ⟨_, l', by unfold laws_markNodeS; simpa using h, by omega⟩

theorem szNodeS_loop : ∀ (post pre : List TNode) (n : Nat) (left : Int), post.length < n → pre.length + post.length < 4611686018427387904 → 0 ≤ left → left ≤ 1048576 → (∀ x, x ∈ post → x.2.2.2.1.size ≤ 9223372036854775807) →
    ∃ r, laws_szNodeS.l5 k n (pre ++ post) left (pre.length : Int) = some r ∧ (0 ≤ r → ∀ x, x ∈ post → x.2.2.2.1.size ≤ 1048576) := by
  intro post
  induction post with
  | nil =>
    intro pre n left hn hl h0 h1 hx
    obtain ⟨n, rfl⟩ : ∃ j, n = j + 1 := ⟨n - 1, by omega⟩
    simp only [laws_szNodeS.l5, List.append_nil, decide_eq_false (show ¬ (pre.length : Int) < (pre.length : Int) by omega), cond_false]
    exact ⟨_, rfl, fun _ x hx => (List.not_mem_nil hx).elim⟩
  | cons x post ih =>
    intro pre n left hn hl h0 h1 hx
    obtain ⟨n, rfl⟩ : ∃ j, n = j + 1 := ⟨n - 1, by omega⟩
    simp only [List.length_cons] at hn hl
    have hxs := hx x (List.mem_cons_self ..)
    simp only [laws_szNodeS.l5, decide_eq_true (show (pre.length : Int) < ((pre ++ x :: post).length : Int) by simp; omega), cond_true, getMid, Option.bind_some, laws_szNode]
    rw [w64 (show -9223372036854775808 ≤ left - (x.2.2.2.1.size : Int) by omega) (by omega)]
    by_cases h : left - (x.2.2.2.1.size : Int) < 0
    · simp only [decide_eq_true h, cond_true, Option.bind_some, show decide ((-1 : Int) < 0) = true from rfl]
      exact ⟨_, rfl, fun h => by omega⟩
    · simp only [decide_eq_false h, cond_false, Option.bind_some]
      rw [w64 (by omega) (by omega)]
      obtain ⟨r, g1, g2⟩ := ih (pre ++ [x]) n (left - (x.2.2.2.1.size : Int)) (by omega) (by simp; omega) (by omega) (by omega) (fun y hy => hx y (List.mem_cons_of_mem _ hy))
      refine ⟨r, ?_, fun h0 y hy => ?_⟩
      · rw [midSnoc]; simpa using g1
      · rcases List.mem_cons.1 hy with rfl | hy
        · omega
        · exact g2 h0 y hy

theorem szNodeS_ok (l : List TNode) (hk : 1048576 < k) (hl : l.length ≤ 9223372036854775807) (hx : ∀ x, x ∈ l → x.2.2.2.1.size ≤ 9223372036854775807) :
    ∃ r, laws_szNodeS k l 1048576 = some r ∧ (0 ≤ r → l.length ≤ 1048576 ∧ ∀ x, x ∈ l → x.2.2.2.1.size ≤ 1048576) := by
  unfold laws_szNodeS
  rw [w64 (by omega) (by omega)]
  by_cases h : 1048576 - (l.length : Int) < 0
  · simp only [decide_eq_true h, cond_true]
    exact ⟨_, rfl, fun h => by omega⟩
  · simp only [decide_eq_false h, cond_false]
    obtain ⟨r, g1, g2⟩ := szNodeS_loop k l [] k (1048576 - (l.length : Int)) (by omega) (by simp; omega) (by omega) (by omega) hx
    exact ⟨r, by simpa using g1, fun h0 => ⟨by omega, g2 h0⟩⟩
end Go.Law
