/- A schema's tree: it is right, and the schema is read from it. -/
import Derived.Test.YtmdmkakkodeniaaLawSchemaOf
import Derived.Test.YtmdmkakkodeniaaLawEnc
set_option linter.unusedVariables false
set_option linter.unusedSimpArgs false
namespace Go.Law
open Go.Am Go.Fn
attribute [-simp] List.length_flatten
variable (k : Nat)

/-! ### building -/
theorem structNode_loop : ∀ (post pre : List (List TNode)) (n : Nat) (acc : List TNode), post.length < n → pre.length + post.length < 4611686018427387904 → acc.length + post.flatten.length ≤ 4294967296 →
    impl_structNode.l3 k n (pre ++ post) ((pre ++ post).length : Int) (pre.length : Int) acc = some ((), acc ++ post.flatten) := by
  intro post
  induction post with
  | nil =>
    intro pre n acc hn hl ha
    obtain ⟨n, rfl⟩ : ∃ j, n = j + 1 := ⟨n - 1, by omega⟩
    simp only [impl_structNode.l3, List.append_nil, decide_eq_false (show ¬ (pre.length : Int) < (pre.length : Int) by omega), cond_false, List.flatten_nil]
  | cons x post ih =>
    intro pre n acc hn hl ha
    obtain ⟨n, rfl⟩ : ∃ j, n = j + 1 := ⟨n - 1, by omega⟩
    simp only [List.length_cons] at hn hl
    simp only [List.flatten_cons, List.length_append] at ha
    have := ih (pre ++ [x]) n (acc ++ x) (by omega) (by simp; omega) (by simp; omega)
    simp only [impl_structNode.l3, decide_eq_true (show (pre.length : Int) < ((pre ++ x :: post).length : Int) by simp; omega), cond_true, getMid', Option.bind_some]
    rw [lim_ok (by omega), cond_true, w64 (by omega) (by omega)]
    simpa using this

theorem structNode_eq (id : Int) (parts : List (List TNode)) (hk : parts.length < k) (hl : parts.flatten.length < 1000000) (hp : parts.length < 1000000) :
    impl_structNode k id parts = some ((), (12, id, 0, ⟨#[]⟩, (parts.length : Int), ()) :: parts.flatten) := by
  unfold impl_structNode
  have := structNode_loop k parts [] k [(12, id, 0, (⟨#[]⟩ : ByteArray), (parts.length : Int), ())] hk (by simp; omega) (by simp; omega)
  simpa using this

theorem listNode_loop : ∀ (post pre : List (List TNode)) (n : Nat) (acc : List TNode), post.length < n → pre.length + post.length < 4611686018427387904 → acc.length + post.flatten.length ≤ 4294967296 →
    impl_listNode.l5 k n (pre ++ post) ((pre ++ post).length : Int) (pre.length : Int) acc = some ((), acc ++ post.flatten) := by
  intro post
  induction post with
  | nil =>
    intro pre n acc hn hl ha
    obtain ⟨n, rfl⟩ : ∃ j, n = j + 1 := ⟨n - 1, by omega⟩
    simp only [impl_listNode.l5, List.append_nil, decide_eq_false (show ¬ (pre.length : Int) < (pre.length : Int) by omega), cond_false, List.flatten_nil]
  | cons x post ih =>
    intro pre n acc hn hl ha
    obtain ⟨n, rfl⟩ : ∃ j, n = j + 1 := ⟨n - 1, by omega⟩
    simp only [List.length_cons] at hn hl
    simp only [List.flatten_cons, List.length_append] at ha
    have := ih (pre ++ [x]) n (acc ++ x) (by omega) (by simp; omega) (by simp; omega)
    simp only [impl_listNode.l5, decide_eq_true (show (pre.length : Int) < ((pre ++ x :: post).length : Int) by simp; omega), cond_true, getMid', Option.bind_some]
    rw [lim_ok (by omega), cond_true, w64 (by omega) (by omega)]
    simpa using this

theorem listNode_eq (id kind : Int) (parts : List (List TNode)) (hk : parts.length < k) (hl : parts.flatten.length < 1000000) (hp : parts.length < 1000000) (h0 : parts ≠ []) :
    impl_listNode k id kind parts = some ((), (9, id, kind, ⟨#[]⟩, (parts.length : Int), ()) :: parts.flatten) := by
  unfold impl_listNode impl_listNode.c4
  have hne : ((parts.length : Int) == 0) = false := beqF (by cases parts with
    | nil => exact absurd rfl h0
    | cons => simp; omega)
  simp only [hne, cond_false]
  have := listNode_loop k parts [] k [(9, id, kind, (⟨#[]⟩ : ByteArray), (parts.length : Int), ())] hk (by simp; omega) (by simp; omega)
  simpa using this

def colParts (i : Nat) (c : TCol) : List TNode :=
  (if c.2.1 = 7 then [] else [(5, 1, c.2.1, ⟨#[]⟩, 0, ())]) ++ (if 0 < i then [(5, 3, c.2.2.1, ⟨#[]⟩, 0, ())] else []) ++ [(8, 4, 0, c.1, 0, ())] ++ (if c.2.1 = 7 then [(5, 5, c.2.2.2.1, ⟨#[]⟩, 0, ())] else [])

def colNode (i : Nat) (c : TCol) : List TNode := (12, 0, 0, ⟨#[]⟩, ((colParts i c).length : Int), ()) :: colParts i c

def colsFrom : Nat → List TCol → List (List TNode)
  | _, [] => []
  | i, c :: s => colNode i c :: colsFrom (i + 1) s

theorem colParts_len (i : Nat) (c : TCol) : 1 ≤ (colParts i c).length ∧ (colParts i c).length ≤ 3 := by
  unfold colParts
  by_cases h : c.2.1 = 7 <;> by_cases h0 : 0 < i <;> simp [h, h0]

theorem colsFrom_len : ∀ (i : Nat) (s : List TCol), (colsFrom i s).length = s.length
  | _, [] => rfl
  | i, c :: s => by simp [colsFrom, colsFrom_len (i + 1) s]

theorem colsFrom_flat : ∀ (i : Nat) (s : List TCol), (colsFrom i s).flatten.length ≤ 4 * s.length
  | _, [] => by simp [colsFrom]
  | i, c :: s => by
    have := colParts_len i c
    have := colsFrom_flat (i + 1) s
    simp [colsFrom, colNode]
    omega

theorem schemaNodes_loop (hk : 100 ≤ k) (s : List TCol) (hs : s.length ≤ 20) : ∀ (post pre : List TCol) (n : Nat) (acc : List (List TNode)), s = pre ++ post → post.length < n → acc.length = pre.length → acc.flatten.length ≤ 4 * pre.length → s ≠ [] →
    impl_schemaNodes.l3 k n s (s.length : Int) (pre.length : Int) acc = some ((), (9, 2, 12, ⟨#[]⟩, (s.length : Int), ()) :: (acc ++ colsFrom pre.length post).flatten) := by
  intro post
  induction post with
  | nil =>
    intro pre n acc hsp hn ha hfl hne
    obtain ⟨n, rfl⟩ : ∃ j, n = j + 1 := ⟨n - 1, by omega⟩
    have hpl : pre.length = s.length := by rw [hsp]; simp
    simp only [impl_schemaNodes.l3, decide_eq_false (show ¬ (pre.length : Int) < (s.length : Int) by omega), cond_false]
    rw [listNode_eq k 2 12 acc (by omega) (by omega) (by omega) (fun h => by rw [h] at ha; simp at ha; exact hne (List.eq_nil_of_length_eq_zero (by omega)))]
    simp [colsFrom, ha, hpl]
  | cons x post ih =>
    intro pre n acc hsp hn ha hfl hne
    obtain ⟨n, rfl⟩ : ∃ j, n = j + 1 := ⟨n - 1, by omega⟩
    simp only [List.length_cons] at hn
    have hlen : s.length = pre.length + (post.length + 1) := by rw [hsp]; simp
    have hget : rdL s (pre.length : Int) = some x := by rw [hsp]; exact getMid' pre post x
    have hp := colParts_len pre.length x
    have hpi : IntKind.wrap .i64 ((pre.length : Int) + 1) = ((pre.length + 1 : Nat) : Int) := by rw [w64 (by omega) (by omega)]; omega
    have hi := ih (pre ++ [x]) n (acc ++ [colNode pre.length x]) (by rw [hsp]; simp) (by omega) (by simp; omega) (by simp [colNode]; omega) hne
    rw [List.length_append, List.length_singleton] at hi
    -- a col's parts, one by one
    have fin : ∀ parts : List (List TNode), parts.flatten = colParts pre.length x → parts.length = (colParts pre.length x).length →
        impl_schemaNodes.c13 k (impl_schemaNodes.l3 k n) s (s.length : Int) (pre.length : Int) acc parts = some ((), (9, 2, 12, ⟨#[]⟩, (s.length : Int), ()) :: (acc ++ colsFrom pre.length (x :: post)).flatten) := by
      intro parts h1 h2
      unfold impl_schemaNodes.c13
      rw [structNode_eq k 0 parts (by omega) (by rw [h1]; omega) (by omega)]
      simp only [Option.bind_some]
      rw [lim_ok (by simp; omega), cond_true, hpi, h1, h2]
      have hc : ((12, 0, 0, (⟨#[]⟩ : ByteArray), ((colParts pre.length x).length : Int), ()) :: colParts pre.length x : List TNode) = colNode pre.length x := rfl
      rw [hc, hi]
      simp [colsFrom]
    simp only [impl_schemaNodes.l3, decide_eq_true (show (pre.length : Int) < (s.length : Int) by omega), cond_true, hget, Option.bind_some]
    unfold colParts at fin
    by_cases h7 : x.2.1 = 7
    · simp only [bneF h7, cond_false, impl_schemaNodes.c8, impl_schemaNodes.c10, impl_intNode, impl_textNode, Option.bind_some, beqT h7, cond_true]
      by_cases hpos : 0 < pre.length
      · simp only [decide_eq_true (show (pre.length : Int) > 0 by omega), cond_true]
        rw [lim_ok (by simp), cond_true, lim_ok (by simp), cond_true, lim_ok (by simp), cond_true]
        exact fin _ (by simp [h7, hpos]) (by simp [h7, hpos])
      · simp only [decide_eq_false (show ¬ (pre.length : Int) > 0 by omega), cond_false]
        rw [lim_ok (by simp), cond_true, lim_ok (by simp), cond_true]
        exact fin _ (by simp [h7, hpos]) (by simp [h7, hpos])
    · simp only [bneT h7, cond_true, impl_schemaNodes.c8, impl_schemaNodes.c10, impl_intNode, impl_textNode, Option.bind_some, beqF h7, cond_false]
      rw [lim_ok (by simp), cond_true]
      by_cases hpos : 0 < pre.length
      · simp only [decide_eq_true (show (pre.length : Int) > 0 by omega), cond_true]
        rw [lim_ok (by simp), cond_true, lim_ok (by simp), cond_true]
        exact fin _ (by simp [h7, hpos]) (by simp [h7, hpos])
      · simp only [decide_eq_false (show ¬ (pre.length : Int) > 0 by omega), cond_false]
        rw [lim_ok (by simp), cond_true]
        exact fin _ (by simp [h7, hpos]) (by simp [h7, hpos])

/-- a schema's tree -/
def sTree (s : List TCol) : List TNode := (12, 0, 0, ⟨#[]⟩, 1, ()) :: (9, 2, 12, ⟨#[]⟩, (s.length : Int), ()) :: (colsFrom 0 s).flatten

theorem sTree_len (s : List TCol) (hs : s.length ≤ 20) : (sTree s).length ≤ 82 := by
  have := colsFrom_flat 0 s
  simp [sTree]
  omega

theorem schemaTree_eq (hk : 100 ≤ k) (s : List TCol) (h : IsSchema s) (hok : impl_SchemaOk k s = some true) : impl_SchemaTree k s = some (((), true), sTree s) := by
  unfold impl_SchemaTree impl_schemaNodes
  obtain ⟨h2, h20, _⟩ := h
  have hne : s ≠ [] := fun e => by rw [e] at h2; simp at h2
  have := schemaNodes_loop k hk s h20 s [] k [] rfl (by omega) rfl (by simp) hne
  rw [show ((([] : List TCol).length : Nat) : Int) = 0 from rfl] at this
  simp only [hok, Option.bind_some, Bool.not_true, cond_false, this]
  have hfl := colsFrom_flat 0 s
  rw [structNode_eq k 0 _ (by simp; omega) (by simp only [List.flatten_cons, List.flatten_nil, List.append_nil, List.length_cons, List.nil_append, List.length_nil]; omega) (by simp)]
  simp [sTree]

/-! ### it is a tree -/
theorem colNode_enc {i : Nat} {c : TCol} (hok : colOk c = true) (hn : c.1.size ≤ 20) (hm : c.2.2.2.1 ≤ 1000) : Enc 2 (colNode i c) := by
  have hc := hok
  unfold colOk at hc
  simp only [Bool.and_eq_true, Bool.or_eq_true, beq_iff_eq, decide_eq_true_eq] at hc
  obtain ⟨hc1, hc2, hc3⟩ := hc
  have hr : ∀ (x id : Int), -1000000000 ≤ x → x ≤ 1000000000 → Enc 1 [((5 : Int), id, x, (⟨#[]⟩ : ByteArray), (0 : Int), ())] := fun x id h0 h1 => by
    refine ⟨?_, rfl⟩
    unfold nok
    simp only [reduceIte, eqS_iff, decide_true, Bool.and_eq_true, decide_eq_true_eq, beq_iff_eq, and_true]
    omega
  have ht : Enc 1 [((8 : Int), (4 : Int), (0 : Int), c.1, (0 : Int), ())] := by
    refine ⟨?_, rfl⟩
    unfold nok
    simp only [reduceIte, if_neg (show ¬ ((8 : Int) = 5) by decide), if_neg (show ¬ ((8 : Int) = 6) by decide), Bool.and_eq_true, decide_eq_true_eq, beq_iff_eq, and_true, true_and]
    omega
  have hty : c.2.1 ≠ 7 → 0 ≤ c.2.1 ∧ c.2.1 ≤ 6 := fun h => by
    rcases hc1 with h1 | h1
    · exact absurd h1.1 h
    · have := h1.1
      unfold tyOk at this
      simp only [Bool.or_eq_true, beq_iff_eq] at this
      omega
  have hma : c.2.1 = 7 → 0 < c.2.2.2.1 := fun h => by
    rcases hc1 with h1 | h1
    · exact h1.2
    · have := h1.1; rw [h] at this; cases this
  have hnok : ∀ m : Int, 0 ≤ m → nok ((12, 0, 0, ⟨#[]⟩, m, ()) : TNode) = true := fun m h => by
    unfold nok
    simp only [if_neg (show ¬ ((12 : Int) = 5) by decide), if_neg (show ¬ ((12 : Int) = 6) by decide), if_neg (show ¬ ((12 : Int) = 8) by decide), if_neg (show ¬ ((12 : Int) = 9) by decide), reduceIte, eqS_iff, decide_true, Bool.and_eq_true, beq_iff_eq, decide_eq_true_eq, true_and, ge_iff_le]
    exact h
  refine ⟨hnok _ (by omega), ?_⟩
  show EncP (Enc 1) _ ((colParts i c).length : Int).toNat 0 (colParts i c)
  rw [Int.toNat_natCast]
  unfold colParts
  by_cases h7 : c.2.1 = 7
  · have := hma h7
    by_cases h0 : 0 < i
    · simp only [if_pos h7, if_pos h0, List.nil_append]
      exact ⟨_, [], _, rfl, (fun h => by cases h), (fun _ => ⟨by simp, by simp⟩), hr _ _ (by omega) (by omega), _, [], _, rfl, (fun h => by cases h), (fun _ => ⟨by simp, by simp⟩), ht, _, [], [], rfl, (fun h => by cases h), (fun _ => ⟨by simp, by simp⟩), hr _ _ (by omega) (by omega), rfl⟩
    · simp only [if_pos h7, if_neg h0, List.nil_append]
      exact ⟨_, [], _, rfl, (fun h => by cases h), (fun _ => ⟨by simp, by simp⟩), ht, _, [], [], rfl, (fun h => by cases h), (fun _ => ⟨by simp, by simp⟩), hr _ _ (by omega) (by omega), rfl⟩
  · have := hty h7
    by_cases h0 : 0 < i
    · simp only [if_neg h7, if_pos h0, List.append_nil]
      exact ⟨_, [], _, rfl, (fun h => by cases h), (fun _ => ⟨by simp, by simp⟩), hr _ _ (by omega) (by omega), _, [], _, rfl, (fun h => by cases h), (fun _ => ⟨by simp, by simp⟩), hr _ _ (by omega) (by omega), _, [], [], rfl, (fun h => by cases h), (fun _ => ⟨by simp, by simp⟩), ht, rfl⟩
    · simp only [if_neg h7, if_neg h0, List.append_nil]
      exact ⟨_, [], _, rfl, (fun h => by cases h), (fun _ => ⟨by simp, by simp⟩), hr _ _ (by omega) (by omega), _, [], [], rfl, (fun h => by cases h), (fun _ => ⟨by simp, by simp⟩), ht, rfl⟩
end Go.Law
