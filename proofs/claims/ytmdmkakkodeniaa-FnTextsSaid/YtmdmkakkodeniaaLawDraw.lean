/- Draws: they come to an end, whatever the bytes, and what is drawn is within its bounds. -/
import Derived.Test.YtmdmkakkodeniaaLawKit
import Derived.Test.YtmdmkakkodeniaaTextsF0
set_option linter.unusedVariables false
set_option linter.unusedSimpArgs false
namespace Go.Law
open Go.Am Go.Fn

def CurOk (c : TL1Cur) : Prop := 0 ≤ c.2.1 ∧ c.2.1 ≤ (c.1.length : Int) ∧ c.1.length ≤ 1048576

variable (k : Nat)

theorem byte_ok (c : TL1Cur) (hc : CurOk c) : ∃ v c', spec_l1Byte k c = some (v, c') ∧ 0 ≤ v ∧ v < 256 ∧ CurOk c' := by
  obtain ⟨h0, h1, h2⟩ := hc
  unfold spec_l1Byte spec_l1Byte.c6
  by_cases h : c.2.1 < (c.1.length : Int)
  · obtain ⟨x, hx, _⟩ := rdL_some h0 h
    simp only [decide_eq_true h, cond_true, hx, Option.bind_some]
    refine ⟨_, _, rfl, ?_, ?_, ?_, ?_, ?_⟩
    · simp only [and255]; omega
    · simp only [and255]; omega
    · show 0 ≤ IntKind.wrap .i64 (c.2.1 + 1)
      rw [w64 (by omega) (by omega)]; omega
    · show IntKind.wrap .i64 (c.2.1 + 1) ≤ (c.1.length : Int)
      rw [w64 (by omega) (by omega)]; omega
    · exact h2
  · simp only [decide_eq_false h, cond_false]
    refine ⟨_, _, rfl, ?_, ?_, h0, h1, h2⟩
    · simp only [and255]; omega
    · simp only [and255]; omega

theorem below_ok (n : Int) (hn : n < 9223372036854775808) (c : TL1Cur) (hc : CurOk c) : ∃ v c', spec_l1Below k n c = some (v, c') ∧ (n ≤ 0 → v = 0) ∧ (0 < n → 0 ≤ v ∧ v < n) ∧ CurOk c' := by
  unfold spec_l1Below
  by_cases h0 : n ≤ 0
  · simp only [decide_eq_true h0, cond_true]
    exact ⟨_, _, rfl, fun _ => rfl, fun h => by omega, hc⟩
  · have hne : decide (n ≠ 0) = true := decide_eq_true (by omega)
    simp only [decide_eq_false h0, cond_false, hne, cond_true]
    have fin : ∀ v : Int, 0 ≤ v → 0 ≤ Int.tmod v n ∧ Int.tmod v n < n := fun v hv => by
      rw [Int.tmod_eq_emod_of_nonneg hv]
      exact ⟨Int.emod_nonneg _ (by omega), Int.emod_lt_of_pos _ (by omega)⟩
    by_cases h256 : n ≤ 256
    · simp only [decide_eq_true h256, cond_true]
      obtain ⟨v, c', hv, v0, v1, hc'⟩ := byte_ok k c hc
      simp only [hv, Option.bind_some]
      exact ⟨_, _, rfl, fun h => by omega, fun _ => fin v v0, hc'⟩
    · simp only [decide_eq_false h256, cond_false]
      obtain ⟨v1, c1, hv1, a1, b1, hc1⟩ := byte_ok k c hc
      simp only [hv1, Option.bind_some]
      obtain ⟨v2, c2, hv2, a2, b2, hc2⟩ := byte_ok k c1 hc1
      simp only [hv2, Option.bind_some]
      obtain ⟨v3, c3, hv3, a3, b3, hc3⟩ := byte_ok k c2 hc2
      simp only [hv3, Option.bind_some]
      obtain ⟨v4, c4, hv4, a4, b4, hc4⟩ := byte_ok k c3 hc3
      simp only [hv4, Option.bind_some]
      rw [w64 (show -9223372036854775808 ≤ v1 * 16777216 by omega) (by omega), w64 (show -9223372036854775808 ≤ v2 * 65536 by omega) (by omega), w64 (show -9223372036854775808 ≤ v1 * 16777216 + v2 * 65536 by omega) (by omega),
        w64 (show -9223372036854775808 ≤ v3 * 256 by omega) (by omega), w64 (show -9223372036854775808 ≤ v1 * 16777216 + v2 * 65536 + v3 * 256 by omega) (by omega), w64 (show -9223372036854775808 ≤ v1 * 16777216 + v2 * 65536 + v3 * 256 + v4 by omega) (by omega)]
      exact ⟨_, _, rfl, fun h => by omega, fun _ => fin _ (by omega), hc4⟩

theorem pick_ok (l : List Int) (hl : 0 < l.length) (hl2 : l.length < 1000000) (c : TL1Cur) (hc : CurOk c) : ∃ v c', spec_l1PickInt k l c = some (v, c') ∧ v ∈ l ∧ CurOk c' := by
  unfold spec_l1PickInt
  obtain ⟨v, c', hv, _, h1, hc'⟩ := below_ok k (l.length : Int) (by omega) c hc
  obtain ⟨h1, h2⟩ := h1 (by omega)
  simp only [hv, Option.bind_some]
  obtain ⟨x, hx, hx2⟩ := rdL_some h1 h2
  simp only [hx, Option.bind_some]
  exact ⟨_, _, rfl, List.mem_of_getElem? hx2, hc'⟩

theorem once_ok (n : Int) (hn : n < 9223372036854775808) (c : TL1Cur) (hc : CurOk c) : ∃ v c', spec_l1Once k n c = some (v, c') ∧ CurOk c' := by
  unfold spec_l1Once
  obtain ⟨v, c', hv, _, _, hc'⟩ := below_ok k n hn c hc
  simp only [hv, Option.bind_some]
  exact ⟨_, _, rfl, hc'⟩

theorem bytesLoop_ok (t6 : Int) (h6 : t6 ≤ 1000000) : ∀ (m n : Nat) (i : Int) (c : TL1Cur) (acc : List Int), CurOk c → 0 ≤ i → t6 - i ≤ m → m < n → acc.length + m ≤ 4000000 → (∀ x, x ∈ acc → 0 ≤ x ∧ x < 256) →
    ∃ c' out, spec_l1DrawBytes.l4 k n t6 i c acc = some ((), (c', out)) ∧ CurOk c' ∧ out.length ≤ acc.length + m ∧ ∀ x, x ∈ out → 0 ≤ x ∧ x < 256 := by
  intro m
  induction m with
  | zero =>
    intro n i c acc hc hi hm hn ha hb
    obtain ⟨n, rfl⟩ : ∃ j, n = j + 1 := ⟨n - 1, by omega⟩
    simp only [spec_l1DrawBytes.l4, decide_eq_false (show ¬ i < t6 by omega), cond_false]
    exact ⟨_, _, rfl, hc, by omega, hb⟩
  | succ m ih =>
    intro n i c acc hc hi hm hn ha hb
    obtain ⟨n, rfl⟩ : ∃ j, n = j + 1 := ⟨n - 1, by omega⟩
    by_cases h : i < t6
    · obtain ⟨v, c1, hv, v0, v1, hc1⟩ := byte_ok k c hc
      simp only [spec_l1DrawBytes.l4, decide_eq_true h, cond_true, hv, Option.bind_some]
      rw [lim_ok (by simp; omega), cond_true, w8 v0 v1, w64 (by omega) (by omega)]
      obtain ⟨c', out, h1, h2, h3, h4⟩ := ih n (i + 1) c1 (acc ++ [v]) hc1 (by omega) (by omega) (by omega) (by simp; omega) (fun x hx => by
        rcases List.mem_append.1 hx with hx | hx
        · exact hb x hx
        · simp at hx; subst hx; exact ⟨v0, v1⟩)
      exact ⟨c', out, h1, h2, by simp at h3; omega, h4⟩
    · simp only [spec_l1DrawBytes.l4, decide_eq_false h, cond_false]
      exact ⟨_, _, rfl, hc, by omega, hb⟩

theorem drawBytes_ok (most : Nat) (hm : most < 900000) (hk : 1000000 ≤ k) (c : TL1Cur) (hc : CurOk c) : ∃ c' out, spec_l1DrawBytes k (most : Int) c = some ((), (c', out)) ∧ CurOk c' ∧ out.length ≤ most ∧ ∀ x, x ∈ out → 0 ≤ x ∧ x < 256 := by
  unfold spec_l1DrawBytes
  rw [w64 (by omega) (by omega)]
  obtain ⟨v, c1, hv, _, h1, hc1⟩ := below_ok k ((most : Int) + 1) (by omega) c hc
  obtain ⟨h1, h2⟩ := h1 (by omega)
  simp only [hv, Option.bind_some]
  obtain ⟨c', out, g1, g2, g3, g4⟩ := bytesLoop_ok k v (by omega) most k 0 c1 [] hc1 (by omega) (by omega) (by omega) (by simp; omega) (by simp)
  exact ⟨c', out, g1, g2, by simpa using g3, g4⟩

theorem drawText_ok (most : Nat) (hm : most < 900000) (hk : 1000000 ≤ k) (c : TL1Cur) (hc : CurOk c) : ∃ v c', spec_l4DrawText k (most : Int) c = some (v, c') ∧ CurOk c' ∧ v.size ≤ most := by
  unfold spec_l4DrawText
  obtain ⟨c', out, g1, g2, g3, g4⟩ := drawBytes_ok k most hm hk c hc
  simp only [g1, Option.bind_some]
  exact ⟨_, _, rfl, g2, by rw [intsStr_size]; exact g3⟩

theorem drawNum_ok (c : TL1Cur) (hc : CurOk c) : ∃ v c', spec_l2DrawNum k c = some (v, c') ∧ CurOk c' ∧ I64 v := by
  unfold spec_l2DrawNum
  obtain ⟨v1, c1, hv1, _, a1, hc1⟩ := below_ok k 1000000 (by omega) c hc
  have a1 := a1 (by omega)
  simp only [hv1, Option.bind_some]
  obtain ⟨v2, c2, hv2, _, a2, hc2⟩ := below_ok k 1000000 (by omega) c1 hc1
  have a2 := a2 (by omega)
  simp only [hv2, Option.bind_some]
  obtain ⟨v3, c3, hv3, _, a3, hc3⟩ := below_ok k 300 (by omega) c2 hc2
  have a3 := a3 (by omega)
  simp only [hv3, Option.bind_some]
  rw [w64 (show -9223372036854775808 ≤ 0 - v2 by omega) (by omega)]
  obtain ⟨v, c4, hv, hm, hc4⟩ := pick_ok k [0, 1, (-1), 63, 64, (-64), (-65), 127, 128, 16383, 16384, 2147483647, (-2147483648), 9223372036854775807, (-9223372036854775808), 4611686018427387904, v1, 0 - v2, v3] (by simp) (by simp) c3 hc3
  simp only [hv, Option.bind_some]
  refine ⟨_, _, rfl, hc4, ?_⟩
  simp only [List.mem_cons, List.not_mem_nil, or_false] at hm
  unfold I64
  omega

theorem newLoop_ok (t : List Int) (ht : t.length ≤ 1048576) : ∀ (m n : Nat) (h i : Int), 0 ≤ i → 4000 - i ≤ m → m < n →
    ∃ c, spec_l1New.l3 k n t h i = some ((), c) ∧ CurOk c := by
  intro m
  induction m with
  | zero =>
    intro n h i hi hm hn
    obtain ⟨n, rfl⟩ : ∃ j, n = j + 1 := ⟨n - 1, by omega⟩
    simp only [spec_l1New.l3, csf, decide_eq_false (show ¬ i < 4000 by omega), Bool.and_false, Option.bind_some, cond_false]
    exact ⟨_, rfl, Int.le_refl _, by simp, ht⟩
  | succ m ih =>
    intro n h i hi hm hn
    obtain ⟨n, rfl⟩ : ∃ j, n = j + 1 := ⟨n - 1, by omega⟩
    by_cases hb : i < (t.length : Int) ∧ i < 4000
    · obtain ⟨x, hx, _⟩ := rdL_some hi hb.1
      simp only [spec_l1New.l3, csf, decide_eq_true hb.1, decide_eq_true hb.2, Bool.and_self, Option.bind_some, cond_true, hx]
      rw [w64 (show -9223372036854775808 ≤ i + 1 by omega) (by omega)]
      exact ih n _ (i + 1) (by omega) (by omega) (by omega)
    · have : (decide (i < (t.length : Int)) && decide (i < 4000)) = false := by
        rw [Bool.eq_false_iff]; intro hh
        simp only [Bool.and_eq_true, decide_eq_true_eq] at hh
        exact hb hh
      simp only [spec_l1New.l3, csf, this, Option.bind_some, cond_false]
      exact ⟨_, rfl, Int.le_refl _, by simp, ht⟩

theorem new_ok (hk : 1000000 ≤ k) (t : List Int) (ht : t.length ≤ 1048576) : ∃ c, spec_l1New k t = some ((), c) ∧ CurOk c := by
  unfold spec_l1New
  exact newLoop_ok k t ht 4000 k _ 0 (by omega) (by omega) (by omega)
end Go.Law
