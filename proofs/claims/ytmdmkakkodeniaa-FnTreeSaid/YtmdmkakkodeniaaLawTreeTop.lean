/- Trees: packed and read, as the program's own functions do. -/
import Derived.Test.YtmdmkakkodeniaaLawTreeBy
set_option linter.unusedVariables false
set_option linter.unusedSimpArgs false
namespace Go.Law
open Go.Am Go.Fn
variable (k : Nat)

theorem treeOf_eq (hk : 2000 ≤ k) (l : List TNode) (hw : ∀ n, n ∈ l → WfN n) (hlen : l.length < 4294967296) :
    ∃ b : Bool, spec_TreeOk k l = some b ∧ ((b = false ∧ ∃ x, impl_treeOf k l = some (((), false), x)) ∨
      (b = true ∧ l.length ≤ 1500 ∧ 1 ≤ l.length ∧ ∃ af, impl_treeOf k l = some (((), true), ((true, (l, (), ())), af)) ∧ Sub l af 12 0 l.length ∧ ∃ n, l[0]? = some n ∧ n.1 = 12 ∧ n.2.1 = 0)) := by
  unfold spec_TreeOk impl_treeOf
  simp only [within_eq, l1In_eq, Option.bind_some]
  by_cases hin : 1 ≤ l.length ∧ l.length ≤ 1500
  · have c1 : (decide ((1 : Int) ≤ (l.length : Int)) && decide ((l.length : Int) ≤ 1500)) = true := by simp; omega
    obtain ⟨n, hn1, hn2⟩ := rdL_some (xs := l) (i := 0) (by omega) (by omega)
    have hn2 : l[0]? = some n := hn2
    simp only [c1, Bool.not_true, cond_false, hn1, Option.bind_some, okLen_ok (show (0 : Int) ≤ (l.length : Int) by omega) (by omega), cond_true, cst, Int.toNat_natCast]
    by_cases hr : n.1 = 12 ∧ n.2.1 = 0
    · have c2 : (n.1 != 12 || n.2.1 != 0) = false := by simp [hr.1, hr.2]
      simp only [bneF hr.1, bneF hr.2, cond_false, Option.bind_some, Bool.or_self]
      obtain ⟨v, af', s1, s2, s3, s4⟩ := check k hk l hin.2 hw 12 k 1 0 (List.replicate l.length 0) (by omega) (by omega) (by simp)
      have s1 : spec_l4Check k l 0 1 = some v := s1
      have s2 : impl_tree_measure k 0 1 (true, (l, (), ())) (List.replicate l.length 0) = some (v, ((l, (), ()), af')) := s2
      simp only [s1, s2, Option.bind_some]
      by_cases hv : v = (l.length : Int)
      · refine ⟨true, by rw [beqT hv], .inr ⟨rfl, hin.2, hin.1, af', by simp only [bneF hv, cond_false], ?_, n, hn2, hr⟩⟩
        rcases s4 with h | ⟨nx, h1, h2, _⟩
        · omega
        · have : nx = l.length := by omega
          rw [← this]; exact h2
      · exact ⟨false, by rw [beqF hv], .inl ⟨rfl, ((false, ([], (), ())), []), by simp only [bneT hv, cond_true]⟩⟩
    · have c2 : (n.1 != 12 || n.2.1 != 0) = true := by
        simp only [Bool.or_eq_true, bne_iff_ne]
        exact Classical.byContradiction fun hh => hr ⟨Classical.byContradiction fun h => hh (.inl h), Classical.byContradiction fun h => hh (.inr h)⟩
      refine ⟨false, ?_, .inl ⟨rfl, ((false, ([], (), ())), []), by simp only [c2, cond_true]⟩⟩
      by_cases h12 : n.1 = 12
      · have h0 : ¬ n.2.1 = 0 := fun h => hr ⟨h12, h⟩
        simp only [bneF h12, cond_false, bneT h0, Option.bind_some, cond_true, Bool.false_or]
      · simp only [bneT h12, Option.bind_some, cond_true, Bool.true_or]
  · have c1 : (decide ((1 : Int) ≤ (l.length : Int)) && decide ((l.length : Int) ≤ 1500)) = false := by
      rw [Bool.eq_false_iff]; intro h
      simp only [Bool.and_eq_true, decide_eq_true_eq] at h
      omega
    simp only [c1, Bool.not_false, cond_true, Option.bind_some]
    exact ⟨false, rfl, .inl ⟨rfl, _, rfl⟩⟩

theorem treeRound (hk : 2000 ≤ k) (l : List TNode) (hw : ∀ n, n ∈ l → WfN n) (hlen : l.length < 4294967296) :
    ∃ b : Bool, spec_TreeOk k l = some b ∧ impl_TreeOk k l = some b ∧ ((b = false ∧ impl_TreePack k l = some (((), false), [])) ∨
      (b = true ∧ ∃ B, impl_TreePack k l = some (((), true), B) ∧ B.length ≤ 1000000 ∧ Byt B ∧
        ∀ (pre r : List Int), pre.length + r.length < 4000000000000000000 → impl_TreeRead k (pre ++ (B ++ r)) (pre.length : Int) = some (((), ((pre.length + B.length : Nat) : Int), 0), l))) := by
  obtain ⟨b, h1, h2⟩ := treeOf_eq k hk l hw hlen
  refine ⟨b, h1, ?_⟩
  unfold impl_TreeOk impl_TreePack
  rcases h2 with ⟨rfl, x, hx⟩ | ⟨rfl, hl, hl1, af, hx, hS, n, hn, h12, hid⟩
  · exact ⟨by rw [hx]; rfl, .inl ⟨rfl, by rw [hx]; rfl⟩⟩
  · rw [hx]
    simp only [Option.bind_some, Bool.not_true, cond_false]
    obtain ⟨m, B, b1, b2, b3, b4, b5, b6, b7⟩ := packRead k hk l hl hw af 12 1 0 l.length rfl hS (Nat.le_refl _)
    obtain rfl : n = m := by rw [hn] at b1; exact Option.some.inj b1
    have hp : impl_tree_bytesOf k 0 (true, (l, (), ())) af = some ((), ((l, (), ()), af, B)) := b4 k (by omega)
    refine ⟨trivial, .inr ⟨trivial, B, by rw [hp]; rfl, by omega, b6, fun pre r hpr => ?_⟩⟩
    have hB0 : 0 < B.length ∨ B.length = 0 := by omega
    have hrd := b7 k (pre ++ (B ++ r)) pre.length r [] (by omega) (by simp; omega) (by simp) (by simp; omega)
    have hrd : impl_treeReader_node k 12 0 1 (rdr (pre ++ (B ++ r)) pre.length) [] = some ((), (rdr (pre ++ (B ++ r)) (pre.length + B.length), [] ++ slice l 0 l.length)) := by
      rw [h12, hid] at hrd; exact hrd
    unfold impl_TreeRead
    -- a struct's bytes are not none
    have hpos : 0 < B.length := by
      rcases hB0 with h | h
      · exact h
      · exfalso
        have hB : B = [] := List.eq_nil_of_length_eq_zero h
        have hrd2 := b7 k [] 0 [] [] (by omega) (by simp) (by simp [hB]) (by simp; omega)
        rw [h12, hid] at hrd2
        obtain ⟨K, rfl⟩ : ∃ m, k = m + 2 := ⟨k - 2, by omega⟩
        simp only [impl_treeReader_node.rec, impl_treeReader_node.b] at hrd2
        rw [begin_ok (K + 2) rfl (by omega) (by simp)] at hrd2
        simp only [Option.bind_some, bneF rfl, cond_false, show ((12 : Int) == 5) = false from rfl, show ((12 : Int) == 6) = false from rfl, show ((12 : Int) == 8) = false from rfl, show ((12 : Int) == 9) = false from rfl, impl_treeReader_node.c5, beqT rfl, cond_true, impl_treeReader_fields.b] at hrd2
        simp only [impl_treeReader_fields.l1, impl_treeReader_one, rdr, List.length_nil, bneF rfl, cst, Option.bind_some, show decide (((0 : Nat) : Int) ≥ ((0 : Nat) : Int)) = true from rfl, Bool.or_true, cond_true, impl_treeReader_fail, beqT rfl] at hrd2
        simp [hB] at hrd2
    have c1 : (decide ((0 : Int) ≤ (pre.length : Int)) && decide ((pre.length : Int) ≤ IntKind.wrap .i64 (((pre ++ (B ++ r)).length : Int) - 1))) = true := by
      rw [w64 (by simp; omega) (by simp; omega)]
      simp
      omega
    simp only [within_eq, c1, Option.bind_some, Bool.not_true, cond_false]
    rw [show ((pre ++ (B ++ r), (pre.length : Int), (), (0 : Int), ()) : TTreeReaderB) = rdr (pre ++ (B ++ r)) pre.length from rfl, hrd]
    simp only [Option.bind_some, bneF rfl, cond_false, List.nil_append]
    rw [show slice l 0 l.length = l by simp [slice]]

theorem sameNodes_loop (l : List TNode) (hl : l.length < 4611686018427387904) : ∀ (m n i : Nat), l.length - i < n → l.length = i + m → laws_sameNodes.l4 k n l l (i : Int) = some true := by
  intro m
  induction m with
  | zero =>
    intro n i hn hi
    obtain ⟨n, rfl⟩ : ∃ j, n = j + 1 := ⟨n - 1, by omega⟩
    simp only [laws_sameNodes.l4, show decide ((i : Int) < (l.length : Int)) = false from decide_eq_false (by omega), cond_false]
  | succ m ih =>
    intro n i hn hi
    obtain ⟨n, rfl⟩ : ∃ j, n = j + 1 := ⟨n - 1, by omega⟩
    obtain ⟨x, hx, _⟩ := rdL_some (xs := l) (i := (i : Int)) (by omega) (by omega)
    simp only [laws_sameNodes.l4, show decide ((i : Int) < (l.length : Int)) = true from decide_eq_true (by omega), cond_true, hx, Option.bind_some, beqT rfl, eqS_iff, decide_true, Bool.and_self, Bool.not_true, cond_false]
    rw [w64 (by omega) (by omega)]
    exact ih n (i + 1) (by omega) (by omega)

theorem sameNodes_refl (l : List TNode) (hl : l.length < k) (hl2 : l.length < 4611686018427387904) : laws_sameNodes k l l = some true := by
  unfold laws_sameNodes
  simp only [bneF rfl, cond_false]
  exact sameNodes_loop k l hl2 l.length k 0 (by omega) (by omega)

/-- the law, once a tree is drawn -/
theorem tree_law (hk : 2000 ≤ k) (code : List Int) (l : List TNode) (hd : spec_DrawTreePack k code = some ((), l)) (hw : ∀ n, n ∈ l → WfN n) (hlen : l.length < 4294967296) :
    laws_FnTree k code = some true := by
  unfold laws_FnTree laws_big
  simp only [Option.bind_some]
  by_cases hb : (code.length : Int) > 1048576
  · simp only [decide_eq_true hb, cond_true]
  · simp only [decide_eq_false hb, cond_false, hd, Option.bind_some]
    obtain ⟨b, h1, h2, h3⟩ := treeRound k hk l hw hlen
    rcases h3 with ⟨rfl, hp⟩ | ⟨rfl, B, hp, hB, hby, hr⟩
    · simp only [h1, h2, hp, Option.bind_some, beqT rfl, Bool.not_true, cond_false, Bool.not_false, cond_true, List.length_nil]
      rfl
    · have hat : ∃ y, laws_at k code 1 = some y := by
        unfold laws_at
        by_cases h : (1 : Int) < (code.length : Int)
        · obtain ⟨x, hx, _⟩ := rdL_some (xs := code) (i := 1) (by omega) h
          simp only [decide_eq_true h, cond_true, hx, Option.bind_some]
          exact ⟨_, rfl⟩
        · simp only [decide_eq_false h, cond_false]
          exact ⟨_, rfl⟩
      obtain ⟨y, hy⟩ := hat
      have hlk : l.length < k := by
        obtain ⟨b', g1, g2⟩ := treeOf_eq k hk l hw hlen
        rw [h1] at g1
        rcases g2 with ⟨e, _⟩ | ⟨_, e, _⟩
        · rw [e] at g1; cases g1
        · omega
      have hrd := hr [7] [IntKind.wrap .u8 y] (by simp)
      rw [show [7] ++ (B ++ [IntKind.wrap .u8 y]) = ([7] ++ B) ++ [IntKind.wrap .u8 y] by simp, show (([7] : List Int).length : Int) = 1 from rfl] at hrd
      simp only [h1, h2, hp, Option.bind_some, beqT rfl, beq_self_eq_true, Bool.not_true, cond_false, hy, lim_ok (show ([7] : List Int).length + B.length ≤ 4294967296 by simp; omega), cond_true,
        lim_ok (show (([7] : List Int) ++ B).length + [IntKind.wrap .u8 y].length ≤ 4294967296 by simp; omega), hrd]
      rw [w64 (by omega) (by omega)]
      simp only [sameNodes_refl k l hlk (by omega), Option.bind_some, show ((([7] : List Int).length + B.length : Nat) : Int) = 1 + (B.length : Int) by simp, beqT rfl, cond_true]
      rw [lim_ok (by simp; omega), cond_true]
end Go.Law
