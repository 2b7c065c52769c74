/- Trees: packed and read, as the program's own functions do. -/
import Derived.Test.YtmdmkakkodeniaaLawTreeBy
import Derived.Test.YtmdmkakkodeniaaLawTreeOf
set_option linter.unusedVariables false
set_option linter.unusedSimpArgs false
namespace Go.Law
open Go.Am Go.Fn
variable (k : Nat)

theorem treeRound (hk : 2000 ≤ k) (l : List TNode) (hw : ∀ n, n ∈ l → WfN n) (hlen : l.length < 4294967296) :
    ∃ b : Bool, spec_TreeOk k l = some b ∧ impl_TreeOk k l = some b ∧ ((b = false ∧ impl_TreePack k l = some (((), false), [])) ∨
      (b = true ∧ ∃ B, impl_TreePack k l = some (((), true), B) ∧ B.length ≤ 1000000 ∧ Byt B ∧
        ∀ (pre r : List Int), pre.length + r.length < 4000000000000000000 → impl_TreeRead k (pre ++ (B ++ r)) (pre.length : Int) = some (((), ((pre.length + B.length : Nat) : Int), 0), l))) := by
  obtain ⟨b, h1, h2⟩ := treeOf_eq k hk l hw hlen
  refine ⟨b, h1, ?_⟩
  unfold impl_TreeOk impl_TreePack
  rcases h2 with ⟨rfl, x, hx⟩ | ⟨rfl, hl, hl1, af, hx, hS, n, hn, h12, hid⟩
  · exact ⟨by rw [hx]; rfl, .inl ⟨rfl, by rw [hx]; rfl⟩⟩
  · rw [hx]
    simp only [Option.bind_some, Bool.not_true, cond_false]
    obtain ⟨m, B, b1, b2, b3, b4, b5, b6, b7⟩ := packRead k hk l hl hw af 12 1 0 l.length rfl hS (Nat.le_refl _)
    obtain rfl : n = m := by rw [hn] at b1; exact Option.some.inj b1
    have hp : impl_tree_bytesOf k 0 (true, (l, (), ())) af = some ((), ((l, (), ()), af, B)) := b4 k (by omega)
    refine ⟨trivial, .inr ⟨trivial, B, by rw [hp]; rfl, by omega, b6, fun pre r hpr => ?_⟩⟩
    have hB0 : 0 < B.length ∨ B.length = 0 := by omega
    have hrd := b7 k (pre ++ (B ++ r)) pre.length r [] (by omega) (by simp; omega) (by simp) (by simp; omega)
    have hrd : impl_treeReader_node k 12 0 1 (rdr (pre ++ (B ++ r)) pre.length) [] = some ((), (rdr (pre ++ (B ++ r)) (pre.length + B.length), [] ++ slice l 0 l.length)) := by
      rw [h12, hid] at hrd; exact hrd
    unfold impl_TreeRead
    -- a struct's bytes are not none
    have hpos : 0 < B.length := by
      rcases hB0 with h | h
      · exact h
      · exfalso
        have hB : B = [] := List.eq_nil_of_length_eq_zero h
        have hrd2 := b7 k [] 0 [] [] (by omega) (by simp) (by simp [hB]) (by simp; omega)
        rw [h12, hid] at hrd2
        obtain ⟨K, rfl⟩ : ∃ m, k = m + 2 := ⟨k - 2, by omega⟩
        simp only [impl_treeReader_node.rec, impl_treeReader_node.b] at hrd2
        rw [begin_ok (K + 2) rfl (by omega) (by simp)] at hrd2
        simp only [Option.bind_some, bneF rfl, cond_false, show ((12 : Int) == 5) = false from rfl, show ((12 : Int) == 6) = false from rfl, show ((12 : Int) == 8) = false from rfl, show ((12 : Int) == 9) = false from rfl, impl_treeReader_node.c5, beqT rfl, cond_true, impl_treeReader_fields.b] at hrd2
        simp only [impl_treeReader_fields.l1, impl_treeReader_one, rdr, List.length_nil, bneF rfl, cst, Option.bind_some, show decide (((0 : Nat) : Int) ≥ ((0 : Nat) : Int)) = true from rfl, Bool.or_true, cond_true, impl_treeReader_fail, beqT rfl] at hrd2
        simp [hB] at hrd2
    have c1 : (decide ((0 : Int) ≤ (pre.length : Int)) && decide ((pre.length : Int) ≤ IntKind.wrap .i64 (((pre ++ (B ++ r)).length : Int) - 1))) = true := by
      rw [w64 (by simp; omega) (by simp; omega)]
      simp
      omega
    simp only [within_eq, c1, Option.bind_some, Bool.not_true, cond_false]
    rw [show ((pre ++ (B ++ r), (pre.length : Int), (), (0 : Int), ()) : TTreeReaderB) = rdr (pre ++ (B ++ r)) pre.length from rfl, hrd]
    simp only [Option.bind_some, bneF rfl, cond_false, List.nil_append]
    rw [show slice l 0 l.length = l by simp [slice]]

end Go.Law
