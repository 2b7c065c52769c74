/- Drawn texts are read from both of their forms as they were: the law. -/
import Derived.Test.YtmdmkakkodeniaaLawTexts
import Derived.Test.YtmdmkakkodeniaaLawDrawVals
set_option linter.unusedVariables false
set_option linter.unusedSimpArgs false
namespace Go.Law
open Go.Am Go.Fn
variable (k : Nat)

theorem frontListLoop (hk : 1000000 ≤ k) : ∀ (m n : Nat) (i : Int) (c : TL1Cur) (o : List TVal), 1 ≤ i → (o.length : Int) - i ≤ m → m < n → CurOk c → o.length ≤ 5000 →
    ∃ c' o', spec_l10DrawList.l3 k n i c o = some ((), (c', o')) ∧ o'.length = o.length := by
  intro m
  induction m with
  | zero =>
    intro n i c o hi hm hn hc ho
    obtain ⟨n, rfl⟩ : ∃ j, n = j + 1 := ⟨n - 1, by omega⟩
    simp only [spec_l10DrawList.l3, decide_eq_false (show ¬ i < (o.length : Int) by omega), cond_false]
    exact ⟨_, _, rfl, rfl⟩
  | succ m ih =>
    intro n i c o hi hm hn hc ho
    obtain ⟨n, rfl⟩ : ∃ j, n = j + 1 := ⟨n - 1, by omega⟩
    by_cases h : i < (o.length : Int)
    · have hw1 : IntKind.wrap .i64 (i + 1) = i + 1 := w64 (by omega) (by omega)
      have hw2 : IntKind.wrap .i64 (i - 1) = i - 1 := w64 (by omega) (by omega)
      have step : ∀ (c1 : TL1Cur) (o1 : List TVal), CurOk c1 → o1.length = o.length → ∃ c' o', spec_l10DrawList.c4 k (spec_l10DrawList.l3 k n) i c1 o1 = some ((), (c', o')) ∧ o'.length = o.length := by
        intro c1 o1 hc1 ho1
        obtain ⟨c', o', q1, q2⟩ := ih n (i + 1) c1 o1 (by omega) (by omega) (by omega) hc1 (by omega)
        refine ⟨c', o', ?_, by omega⟩
        unfold spec_l10DrawList.c4
        rw [hw1]
        exact q1
      obtain ⟨v1, c1, e1, hc1⟩ := once_ok k 2 (by omega) c hc
      obtain ⟨x, hx, _⟩ := rdL_some (xs := o) (i := i - 1) (by omega) (by omega)
      obtain ⟨y, hy, _⟩ := rdL_some (xs := o) (i := i) (by omega) (by omega)
      simp only [spec_l10DrawList.l3, decide_eq_true h, cond_true, e1, Option.bind_some, hw2, hx, csf]
      by_cases hb : (x.2.1.size : Int) < 36
      · cases v1 with
        | true =>
          rw [decide_eq_true hb, Bool.and_self, cond_true]
          unfold spec_l10DrawList.d6
          obtain ⟨v2, c2, e2, hc2, m2⟩ := drawText_ok k 3 (by omega) hk c1 hc1
          have e2 : spec_l4DrawText k 3 c1 = some (v2, c2) := e2
          simp only [hw2, hx, e2, hy, Option.bind_some]
          rw [lim_ok (by omega), cond_true]
          exact step c2 _ hc2 (by simp)
        | false =>
          rw [Bool.false_and, cond_false]
          exact step c1 o hc1 rfl
      · rw [decide_eq_false hb, Bool.and_false, cond_false]
        exact step c1 o hc1 rfl
    · simp only [spec_l10DrawList.l3, decide_eq_false h, cond_false]
      exact ⟨_, _, rfl, rfl⟩

theorem drawFrontPack_ok (hk : 1000000 ≤ k) (t : List Int) (ht : t.length ≤ 1048576) : ∃ l, spec_DrawFrontPack k t = some ((), l) ∧ l.length ≤ 100 := by
  unfold spec_DrawFrontPack spec_l10DrawList
  obtain ⟨c, e, hc⟩ := new_ok k hk t ht
  obtain ⟨c1, o, e1, hc1, _, ho⟩ := drawList_ok k hk 6 12 (by omega) (by omega) c hc
  obtain ⟨c2, o2, e2, ho2⟩ := frontListLoop k hk 5000 k 1 c1 o (by omega) (by omega) (by omega) hc1 (by omega)
  simp only [e, Option.bind_some, e1, e2]
  exact ⟨_, rfl, by omega⟩

theorem sameVals_loop (l : List TVal) (hl : l.length < 4611686018427387904) : ∀ (m n i : Nat), l.length - i < n → l.length = i + m → laws_sameVals.l4 k n l l (i : Int) = some true := by
  intro m
  induction m with
  | zero =>
    intro n i hn hi
    obtain ⟨n, rfl⟩ : ∃ j, n = j + 1 := ⟨n - 1, by omega⟩
    simp only [laws_sameVals.l4, decide_eq_false (show ¬ (i : Int) < (l.length : Int) by omega), cond_false]
  | succ m ih =>
    intro n i hn hi
    obtain ⟨n, rfl⟩ : ∃ j, n = j + 1 := ⟨n - 1, by omega⟩
    obtain ⟨x, hx1, hx2⟩ := rdL_some (xs := l) (i := (i : Int)) (by omega) (by omega)
    have hs : eqS x.2.1 x.2.1 = true := by rw [eqS_iff]; simp
    simp only [laws_sameVals.l4, decide_eq_true (show (i : Int) < (l.length : Int) by omega), cond_true, hx1, Option.bind_some, hs, beq_self_eq_true, Bool.and_self, Bool.not_true, cond_false]
    rw [w64 (by omega) (by omega), show ((i : Int) + 1) = ((i + 1 : Nat) : Int) by omega]
    exact ih n (i + 1) (by omega) (by omega)

theorem sameVals_refl (l : List TVal) (hl : l.length < k) (hl2 : l.length < 4611686018427387904) : laws_sameVals k l l = some true := by
  unfold laws_sameVals
  simp only [bneF rfl, cond_false]
  exact sameVals_loop k l hl2 l.length k 0 (by omega) (by omega)

theorem frontB_len (ss : List ByteArray) (hs : ss.length ≤ 2000) (h : ∀ s, s ∈ ss → s.size ≤ 40) : (frontB ss).length ≤ 200000 := by
  have h1 := dPack_len (frP ⟨#[]⟩ ss)
  have h2 := lenB_len (frS ⟨#[]⟩ ss) (by rw [frS_len]; exact hs) (frS_bound _ ss h)
  unfold frontB
  rw [List.length_append]
  omega

theorem texts_law (hk : 3000 ≤ k) (code : List Int) (vs : List TVal) (hd : spec_DrawFrontPack k code = some ((), vs)) (hlen : vs.length ≤ 100) : laws_FnTexts k code = some true := by
  unfold laws_FnTexts laws_big
  simp only [Option.bind_some]
  by_cases hb : (code.length : Int) > 1048576
  · simp only [decide_eq_true hb, cond_true]
  · simp only [decide_eq_false hb, cond_false, hd, Option.bind_some]
    have e1 := lengthPack_eq k hk vs (by omega) (by omega)
    obtain ⟨e2, e3⟩ := frontPack_eq k hk vs (by omega) (by omega)
    by_cases hv : vsOk 6 vs = true
    · rw [if_pos hv] at e1 e2 e3
      obtain ⟨h1, h2⟩ := vsOk_text hv
      have h40 : ∀ s, s ∈ vs.map (fun v => v.2.1) → s.size ≤ 40 := by
        intro s hs
        obtain ⟨v, hv, rfl⟩ := List.mem_map.1 hs
        exact (h2 v hv).2
      have hback : (vs.map (fun v => v.2.1)).map vtx = vs := by
        rw [List.map_map]
        conv => rhs; rw [← List.map_id vs]
        apply List.map_congr_left
        intro v hv
        obtain ⟨a, b, u⟩ := v
        have := (h2 _ hv).1
        simp only at this
        subst this
        rfl
      have hsl : (vs.map (fun v => v.2.1)).length ≤ 2000 := by rw [List.length_map]; omega
      have l1 := lenB_len _ hsl h40
      have l2 := frontB_len _ hsl h40
      generalize hss : vs.map (fun v => v.2.1) = ss at *
      have r1 := lengthRead_eq k hk (lenB ss ++ [1]) (by simp; omega) 0 ss [1] hsl h40 (by rw [List.drop_zero])
      have r2 := frontRead_eq k hk (frontB ss ++ [1]) (by simp; omega) 0 ss [1] hsl h40 (by rw [List.drop_zero])
      rw [Nat.zero_add, hback] at r1 r2
      have r1 : impl_LengthRead k (lenB ss ++ [1]) 0 = some (((), ((lenB ss).length : Int), true), vs) := r1
      have r2 : impl_FrontRead k (frontB ss ++ [1]) 0 = some (((), ((frontB ss).length : Int), true), vs) := r2
      have hsame := sameVals_refl k vs (by omega) (by omega)
      simp only [e1, e2, e3, Option.bind_some, beq_self_eq_true, Bool.not_true, cond_true, cond_false, List.nil_append]
      rw [lim_ok (by omega), cond_true, lim_ok (by simp; omega), cond_true, r1]
      simp only [Option.bind_some]
      rw [lim_ok (by omega), cond_true, lim_ok (by simp; omega), cond_true, r2]
      simp only [Option.bind_some, cond_true, beq_self_eq_true, hsame]
    · rw [if_neg hv] at e1 e2 e3
      simp only [e1, e2, e3, Option.bind_some, beq_self_eq_true, Bool.not_true, Bool.not_false, cond_true, cond_false]
      rfl

theorem fnTexts (x : List Int) : ∃ k, laws_FnTexts k x = some true := by
  refine ⟨1000000, ?_⟩
  by_cases h : (x.length : Int) > 1048576
  · unfold laws_FnTexts laws_big
    simp only [Option.bind_some, decide_eq_true h, cond_true]
  · obtain ⟨l, h1, h2⟩ := drawFrontPack_ok 1000000 (by omega) x (by omega)
    exact texts_law 1000000 (by omega) x l h1 h2
end Go.Law
