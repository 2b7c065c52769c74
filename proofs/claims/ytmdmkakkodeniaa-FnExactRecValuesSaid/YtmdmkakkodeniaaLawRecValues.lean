/- RecValues: the program's is the reference's. -/
import Derived.Test.YtmdmkakkodeniaaLawWalkVals
set_option linter.unusedVariables false
set_option linter.unusedSimpArgs false
namespace Go.Law
open Go.Am Go.Fn
variable (k : Nat)

theorem recValues_eq (hk : 2000000 ≤ k) (s : List TCol) (hn : ∀ c, c ∈ s → c.1.size < k ∧ c.1.size < 1000000000 ∧ I64 c.2.2.2.1) (V : List TVal) (hV : V.length ≤ 1048576) (leaf : Int) :
    ∃ b out, spec_RecValues k s (V, ()) leaf = some (((), b), out) ∧ impl_RecValues k s (V, ()) leaf = some (((), b), out) ∧ out.length ≤ 1048576 := by
  obtain ⟨b0, s1, s2, s3⟩ := schemaOk_eq k (by omega) s hn
  unfold spec_RecValues impl_RecValues spec_SchemaLeaves impl_SchemaLeaves spec_RecOk spec_RecOk.d1
  simp only [s1, s2, Option.bind_some, l1In_eq, within_eq]
  cases b0 with
  | false =>
    have hw : (decide (0 ≤ leaf) && decide (leaf ≤ IntKind.wrap .i64 (((([] : List Int).length : Nat) : Int) - 1))) = false := by
      rw [show IntKind.wrap .i64 (((([] : List Int).length : Nat) : Int) - 1) = -1 by decide, Bool.eq_false_iff]
      intro h
      simp only [Bool.and_eq_true, decide_eq_true_eq] at h
      omega
    simp only [Bool.not_false, cond_true, cond_false, Option.bind_some, hw]
    exact ⟨_, _, rfl, rfl, by simp⟩
  | true =>
    obtain ⟨hS, _⟩ := s3 rfl
    obtain ⟨hs2, hs20, hsub, c0, hc0, _, _, h7⟩ := hS
    obtain ⟨v1, v2⟩ := leaves_eq k (by omega) s (by omega)
    have hll := leavesFrom_len 0 s
    simp only [Bool.not_true, cond_false, v1, v2, Option.bind_some, cond_true]
    generalize hlv : leavesFrom 0 s = lv at hll
    rw [w64 (x := (lv.length : Int) - 1) (by omega) (by omega)]
    by_cases hin : 0 ≤ leaf ∧ leaf < (lv.length : Int)
    · have hw : (decide (0 ≤ leaf) && decide (leaf ≤ (lv.length : Int) - 1)) = true := by simp; omega
      obtain ⟨L, hL, _⟩ := rdL_some (xs := lv) hin.1 hin.2
      obtain ⟨k', rfl⟩ : ∃ q, k = q + 2 := ⟨k - 2, by omega⟩
      have hct := content_ok (k' + 2) s hs20 hn V hV lv leaf L hL hk 6 (k' + 2) (k' + 1) 0 s.length hsub (by omega) (by omega) (by omega) (Nat.le_refl _) 0 (Nat.zero_le _)
      obtain ⟨v, g1, g2⟩ := hct
      have g1 : spec_l13Content (k' + 2) s 0 V 0 = some v := g1
      simp only [hw, Bool.not_true, cond_false, g1, Option.bind_some]
      unfold impl_walk_of_RecValues_1_RecValues_2
      by_cases h300 : V.length ≤ 300
      · rw [decide_eq_true (show (V.length : Int) ≤ 300 by omega), decide_eq_false (show ¬ (V.length : Int) > 300 by omega), cond_true]
        simp only [Option.bind_some]
        rcases g2 with ⟨rfl, g2⟩ | ⟨p, X, rfl, q1, q2, q3, q4⟩
        · obtain ⟨nx', vals', acc', e⟩ := g2 0 0 0 [] (by simp)
          have e : impl_walker_body_of_RecValues_1_RecValues_2 (k' + 2) 0 0 0 0 (s, V, false, ((), (), (), ()), (), ()) () lv leaf () [] = _ := e
          rw [beqF (show ¬ ((-1 : Int) = (V.length : Int)) by omega)]
          simp only [e, Option.bind_some, Bool.not_true, Bool.not_false, cond_false, cond_true]
          exact ⟨_, _, rfl, rfl, by simp⟩
        · have e := q3 0 0 0 [] (by simp)
          have e : impl_walker_body_of_RecValues_1_RecValues_2 (k' + 2) 0 0 0 0 (s, V, false, ((), (), (), ()), (), ()) () lv leaf () [] = _ := e
          simp only [e, Option.bind_some, Bool.not_false, cond_true, List.nil_append]
          by_cases hp : p = V.length
          · subst hp
            have hz : (((V.drop V.length).length : Int) == 0) = true := beqT (by simp)
            have hl6 := q4 1 0 (k' + 1) [] (by omega) (by omega) (by omega) (by simp)
            have hl6 : spec_l13Values.l6 (k' + 2) (spec_l13Values.rec (k' + 2) (k' + 1)) (k' + 2) s 0 V 0 L 1 0 [] = _ := hl6
            have hval : spec_l13Values (k' + 2) s 0 true V 0 L [] = some (((), (V.length : Int)), X) := by
              show spec_l13Values.b (k' + 2) (spec_l13Values.rec (k' + 2) (k' + 1)) s 0 true V 0 L [] = _
              simp only [spec_l13Values.b, Bool.not_true, cond_false, Option.bind_some, spec_l13Values.c5, hl6]
              simp only [spec_l13Values.l6, Int.zero_add, decide_eq_false (show ¬ ((1 : Int) < 1) by omega), cond_false, List.nil_append]
            rw [beqT rfl, hz]
            simp only [Bool.not_true, cond_false, spec_RecValues.d4, hL, hval, Option.bind_some]
            exact ⟨_, _, rfl, rfl, by omega⟩
          · have hz : (((V.drop p).length : Int) == 0) = false := beqF (by rw [List.length_drop]; omega)
            rw [beqF (show ¬ ((p : Int) = (V.length : Int)) by omega), hz]
            simp only [Bool.not_false, cond_true]
            exact ⟨_, _, rfl, rfl, by simp⟩
      · rw [decide_eq_false (show ¬ (V.length : Int) ≤ 300 by omega), decide_eq_true (show (V.length : Int) > 300 by omega), cond_false]
        have hm0 : 0 < c0.2.2.2.1 := by
          obtain ⟨c, e1, e2, _, _⟩ := hsub
          rw [hc0] at e1
          obtain rfl := Option.some.inj e1
          unfold colOk at e2
          rw [h7, tyOk_7] at e2
          simp at e2
          exact e2.1
        have hr0 : rdL s 0 = some c0 := hc0
        have e : impl_walker_body_of_RecValues_1_RecValues_2 (k' + 2) 0 0 0 0 (s, V, true, ((), (), (), ()), (), ()) () lv leaf () [] = some (1, (wk s V true, (), lv, leaf, (), [])) := by
          show impl_walker_body_of_RecValues_1_RecValues_2.b (k' + 2) (impl_walker_body_of_RecValues_1_RecValues_2.rec (k' + 2) (k' + 1)).1 (impl_walker_body_of_RecValues_1_RecValues_2.rec (k' + 2) (k' + 1)).2 0 0 0 0 (s, V, true, ((), (), (), ()), (), ()) () lv leaf () [] = _
          simp only [impl_walker_body_of_RecValues_1_RecValues_2.b, hr0, Option.bind_some, bneF h7, cond_false, impl_walker_body_of_RecValues_1_RecValues_2.l10, decide_eq_true hm0, cond_true, impl_walker_body_of_RecValues_1_RecValues_2.c14]
          rfl
        simp only [e, Option.bind_some, Bool.not_true, Bool.not_false, cond_false, cond_true]
        exact ⟨_, _, rfl, rfl, by simp⟩
    · have hw : (decide (0 ≤ leaf) && decide (leaf ≤ (lv.length : Int) - 1)) = false := by
        rw [Bool.eq_false_iff]
        intro h
        simp only [Bool.and_eq_true, decide_eq_true_eq] at h
        omega
      -- the reference still asks whether the record is right
      have hL : rdL [(0 : Int)] 0 = some 0 := rfl
      have hct := content_ok k s hs20 hn V hV [0] 0 0 hL hk 6 k (k - 1) 0 s.length hsub (by omega) (by omega) (by omega) (Nat.le_refl _) 0 (Nat.zero_le _)
      obtain ⟨v, g1, _⟩ := hct
      have g1 : spec_l13Content k s 0 V 0 = some v := g1
      simp only [hw, Bool.not_false, cond_true, g1, Option.bind_some, cst, Bool.or_true]
      cases decide ((V.length : Int) ≤ 300) <;> exact ⟨_, _, rfl, rfl, by simp⟩
end Go.Law
