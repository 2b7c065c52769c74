/- Values are drawn, whatever the bytes. -/
import Derived.Test.YtmdmkakkodeniaaLawDraw
import Derived.Test.YtmdmkakkodeniaaLawBase
set_option linter.unusedVariables false
set_option linter.unusedSimpArgs false
namespace Go.Law
open Go.Am Go.Fn
variable (k : Nat)

theorem pickS_ok (l : List ByteArray) (hl : 0 < l.length) (hl2 : l.length < 1000000) (c : TL1Cur) (hc : CurOk c) : ∃ v c', spec_l1Pick k l c = some (v, c') ∧ v ∈ l ∧ CurOk c' := by
  unfold spec_l1Pick
  obtain ⟨v, c', hv, _, h1, hc'⟩ := below_ok k (l.length : Int) (by omega) c hc
  obtain ⟨h1, h2⟩ := h1 (by omega)
  simp only [hv, Option.bind_some]
  obtain ⟨x, hx, hx2⟩ := rdL_some h1 h2
  simp only [hx, Option.bind_some]
  exact ⟨_, _, rfl, List.mem_of_getElem? hx2, hc'⟩

def WfV (v : TVal) : Prop := I64 v.1 ∧ v.2.1.size ≤ 100

theorem i64z : I64 0 := ⟨by decide, by decide⟩

theorem e0 : (⟨#[]⟩ : ByteArray).size ≤ 100 := by decide

theorem drawRight_ok (hk : 1000000 ≤ k) (t : Int) (c : TL1Cur) (hc : CurOk c) : ∃ v c', spec_l6DrawRight k t c = some (v, c') ∧ WfV v ∧ CurOk c' := by
  unfold spec_l6DrawRight
  by_cases h0 : t = 0
  · rw [beqT h0, cond_true]
    obtain ⟨v1, c1, e1, _, a1, hc1⟩ := below_ok k 2 (by omega) c hc
    have a1 := a1 (by omega)
    simp only [e1, Option.bind_some]
    exact ⟨_, _, rfl, ⟨⟨by omega, by omega⟩, e0⟩, hc1⟩
  rw [beqF h0, cond_false]
  by_cases h1 : t = 1
  · rw [beqT h1, cond_true]
    obtain ⟨v1, c1, e1, hc1⟩ := once_ok k 6 (by omega) c hc
    simp only [e1, Option.bind_some]
    cases v1 with
    | true =>
      simp only [cond_true]
      obtain ⟨v2, c2, e2, m2, hc2⟩ := pick_ok k [2147483647, (-2147483648), 0] (by simp) (by simp) c1 hc1
      simp only [e2, Option.bind_some]
      simp only [List.mem_cons, List.not_mem_nil, or_false] at m2
      exact ⟨_, _, rfl, ⟨⟨by omega, by omega⟩, e0⟩, hc2⟩
    | false =>
      simp only [cond_false]
      obtain ⟨v2, c2, e2, _, a2, hc2⟩ := below_ok k 40 (by omega) c1 hc1
      have a2 := a2 (by omega)
      simp only [e2, Option.bind_some]
      rw [w64 (by omega) (by omega)]
      exact ⟨_, _, rfl, ⟨⟨by omega, by omega⟩, e0⟩, hc2⟩
  rw [beqF h1, cond_false]
  by_cases h6 : t = 6
  · rw [beqT h6, cond_true]
    obtain ⟨v1, c1, e1, hc1⟩ := once_ok k 3 (by omega) c hc
    simp only [e1, Option.bind_some]
    cases v1 with
    | true =>
      simp only [cond_true]
      obtain ⟨v2, c2, e2, m2, hc2⟩ := pickS_ok k [(⟨#[]⟩ : ByteArray), (⟨#[97]⟩ : ByteArray), (⟨#[97, 98]⟩ : ByteArray), (⟨#[97, 98, 99]⟩ : ByteArray), (⟨#[97, 98, 100]⟩ : ByteArray), (⟨#[98]⟩ : ByteArray), (⟨#[97, 97]⟩ : ByteArray)] (by simp) (by simp) c1 hc1
      simp only [e2, Option.bind_some]
      refine ⟨_, _, rfl, ⟨i64z, ?_⟩, hc2⟩
      simp only [List.mem_cons, List.not_mem_nil, or_false] at m2
      rcases m2 with rfl | rfl | rfl | rfl | rfl | rfl | rfl <;> decide
    | false =>
      simp only [cond_false]
      obtain ⟨v2, c2, e2, hc2, m2⟩ := drawText_ok k 6 (by omega) hk c1 hc1
      have e2 : spec_l4DrawText k 6 c1 = some (v2, c2) := e2
      simp only [e2, Option.bind_some]
      exact ⟨_, _, rfl, ⟨i64z, by show v2.size ≤ 100; omega⟩, hc2⟩
  rw [beqF h6, cond_false]
  by_cases h5 : t = 5
  · rw [beqT h5, cond_true]
    obtain ⟨v1, c1, e1, _, a1, hc1⟩ := below_ok k 9 (by omega) c hc
    have a1 := a1 (by omega)
    simp only [e1, Option.bind_some]
    obtain ⟨v2, c2, e2, hc2, i2⟩ := drawNum_ok k c1 hc1
    simp only [e2, Option.bind_some]
    obtain ⟨v3, c3, e3, m3, hc3⟩ := pick_ok k [0, (-9223372036854775808), 4607182418800017408, (-4616189618054758400), 9221120237041090560, (-2251799813685248), v1, v2] (by simp) (by simp) c2 hc2
    simp only [e3, Option.bind_some]
    refine ⟨_, _, rfl, ⟨?_, e0⟩, hc3⟩
    simp only [List.mem_cons, List.not_mem_nil, or_false] at m3
    obtain ⟨i2a, i2b⟩ := i2
    exact ⟨by show _ ≤ v3; omega, by show v3 < _; omega⟩
  · rw [beqF h5, cond_false]
    obtain ⟨v1, c1, e1, hc1⟩ := once_ok k 2 (by omega) c hc
    simp only [e1, Option.bind_some]
    cases v1 with
    | true =>
      simp only [cond_true]
      obtain ⟨v2, c2, e2, _, a2, hc2⟩ := below_ok k 30 (by omega) c1 hc1
      have a2 := a2 (by omega)
      simp only [e2, Option.bind_some]
      rw [w64 (by omega) (by omega)]
      exact ⟨_, _, rfl, ⟨⟨by omega, by omega⟩, e0⟩, hc2⟩
    | false =>
      simp only [cond_false]
      obtain ⟨v2, c2, e2, hc2, i2⟩ := drawNum_ok k c1 hc1
      simp only [e2, Option.bind_some]
      exact ⟨_, _, rfl, ⟨i2, e0⟩, hc2⟩

theorem drawVal_ok (hk : 1000000 ≤ k) (t : Int) (c : TL1Cur) (hc : CurOk c) : ∃ v c', spec_l6DrawVal k t c = some (v, c') ∧ WfV v ∧ CurOk c' := by
  unfold spec_l6DrawVal spec_l6DrawVal.c7
  obtain ⟨v1, c1, e1, w1, hc1⟩ := drawRight_ok k hk t c hc
  simp only [e1, Option.bind_some]
  obtain ⟨v2, c2, e2, _, a2, hc2⟩ := below_ok k 25 (by omega) c1 hc1
  simp only [e2, Option.bind_some]
  by_cases h0 : v2 = 0
  · rw [beqT h0, cond_true]
    obtain ⟨v3, c3, e3, m3, hc3⟩ := pick_ok k [2, (-1), 2147483648, (-2147483649)] (by simp) (by simp) c2 hc2
    simp only [e3, Option.bind_some]
    simp only [List.mem_cons, List.not_mem_nil, or_false] at m3
    exact ⟨_, _, rfl, ⟨⟨by show _ ≤ v3; omega, by show v3 < _; omega⟩, w1.2⟩, hc3⟩
  rw [beqF h0, cond_false]
  by_cases h1 : v2 = 1
  · rw [beqT h1, cond_true]
    obtain ⟨v3, c3, e3, _, a3, hc3⟩ := below_ok k 2 (by omega) c2 hc2
    have a3 := a3 (by omega)
    simp only [e3, Option.bind_some]
    rw [w64 (by omega) (by omega), okLen_ok (by omega) (by omega), cond_true]
    refine ⟨_, _, rfl, ⟨w1.1, ?_⟩, hc3⟩
    show (intsStr _).size ≤ 100
    rw [intsStr_size, List.length_replicate]
    omega
  · rw [beqF h1, cond_false]
    exact ⟨_, _, rfl, w1, hc2⟩

def WfVs (l : List TVal) : Prop := ∀ v, v ∈ l → WfV v

theorem WfVs.snoc {l : List TVal} {v : TVal} (h : WfVs l) (hv : WfV v) : WfVs (l ++ [v]) := fun x hx => by
  rcases List.mem_append.1 hx with hx | hx
  · exact h x hx
  · simp only [List.mem_singleton] at hx; rw [hx]; exact hv

theorem drawListLoop (hk : 1000000 ≤ k) (t : Int) (most : Int) (hmost : most ≤ 5000) : ∀ (m n : Nat) (i : Int) (c : TL1Cur) (o : List TVal), 0 ≤ i → i ≤ 5000 → most - i ≤ m → m < n → CurOk c → (o.length : Int) = i → WfVs o →
    ∃ c' o', spec_l6DrawList.l4 k n t most i c o = some ((), (c', o')) ∧ CurOk c' ∧ WfVs o' ∧ (o'.length : Int) ≤ max most i + 1 := by
  intro m
  induction m with
  | zero =>
    intro n i c o hi hi5 hm hn hc ho hw
    obtain ⟨n, rfl⟩ : ∃ j, n = j + 1 := ⟨n - 1, by omega⟩
    simp only [spec_l6DrawList.l4, decide_eq_false (show ¬ i < most by omega), cond_false]
    obtain ⟨v1, c1, e1, hc1⟩ := once_ok k 20 (by omega) c hc
    simp only [e1, Option.bind_some]
    cases v1 with
    | true =>
      simp only [cond_true]
      obtain ⟨v2, c2, e2, w2, hc2⟩ := drawVal_ok k hk t c1 hc1
      simp only [e2, Option.bind_some]
      rw [lim_ok (by simp; omega), cond_true]
      exact ⟨_, _, rfl, hc2, hw.snoc w2, by simp; omega⟩
    | false => exact ⟨_, _, rfl, hc1, hw, by omega⟩
  | succ m ih =>
    intro n i c o hi hi5 hm hn hc ho hw
    obtain ⟨n, rfl⟩ : ∃ j, n = j + 1 := ⟨n - 1, by omega⟩
    by_cases h : i < most
    · have hw1 : IntKind.wrap .i64 (i + 1) = i + 1 := w64 (by omega) (by omega)
      have step : ∀ (v : TVal) (c1 : TL1Cur), WfV v → CurOk c1 → ∃ c' o', spec_l6DrawList.c5 k (spec_l6DrawList.l4 k n) t most i c1 (o ++ [v]) = some ((), (c', o')) ∧ CurOk c' ∧ WfVs o' ∧ (o'.length : Int) ≤ max most i + 1 := by
        intro v c1 hv hc1
        obtain ⟨c', o', q1, q2, q3, q4⟩ := ih n (i + 1) c1 (o ++ [v]) (by omega) (by omega) (by omega) (by omega) hc1 (by simp; omega) (hw.snoc hv)
        refine ⟨c', o', ?_, q2, q3, by omega⟩
        unfold spec_l6DrawList.c5
        rw [hw1]
        exact q1
      have hlim : ∀ v : TVal, lim (o.length + [v].length) = true := fun v => lim_ok (by simp; omega)
      simp only [spec_l6DrawList.l4, decide_eq_true h, cond_true]
      by_cases h0 : i > 0
      · rw [decide_eq_true h0, cond_true]
        obtain ⟨v1, c1, e1, hc1⟩ := once_ok k 3 (by omega) c hc
        simp only [e1, Option.bind_some]
        cases v1 with
        | true =>
          simp only [cond_true]
          obtain ⟨v2, c2, e2, _, a2, hc2⟩ := below_ok k i (by omega) c1 hc1
          obtain ⟨a2, b2⟩ := a2 (by omega)
          obtain ⟨x, hx, hx2⟩ := rdL_some (xs := o) a2 (by omega)
          simp only [e2, Option.bind_some, hx, hlim, cond_true]
          exact step x c2 (hw x (List.mem_of_getElem? hx2)) hc2
        | false =>
          simp only [cond_false]
          obtain ⟨v2, c2, e2, w2, hc2⟩ := drawRight_ok k hk t c1 hc1
          simp only [e2, Option.bind_some, hlim, cond_true]
          exact step v2 c2 w2 hc2
      · rw [decide_eq_false h0, cond_false, cond_false]
        obtain ⟨v2, c2, e2, w2, hc2⟩ := drawRight_ok k hk t c hc
        simp only [e2, Option.bind_some, hlim, cond_true]
        exact step v2 c2 w2 hc2
    · simp only [spec_l6DrawList.l4, decide_eq_false h, cond_false]
      obtain ⟨v1, c1, e1, hc1⟩ := once_ok k 20 (by omega) c hc
      simp only [e1, Option.bind_some]
      cases v1 with
      | true =>
        simp only [cond_true]
        obtain ⟨v2, c2, e2, w2, hc2⟩ := drawVal_ok k hk t c1 hc1
        simp only [e2, Option.bind_some]
        rw [lim_ok (by simp; omega), cond_true]
        exact ⟨_, _, rfl, hc2, hw.snoc w2, by simp; omega⟩
      | false => exact ⟨_, _, rfl, hc1, hw, by omega⟩

theorem drawList_ok (hk : 1000000 ≤ k) (t most : Int) (h0 : 0 ≤ most) (hmost : most ≤ 4000) (c : TL1Cur) (hc : CurOk c) :
    ∃ c' o, spec_l6DrawList k t most c = some ((), (c', o)) ∧ CurOk c' ∧ WfVs o ∧ (o.length : Int) ≤ most + 1 := by
  unfold spec_l6DrawList
  rw [w64 (by omega) (by omega)]
  obtain ⟨v, c1, e1, _, a1, hc1⟩ := below_ok k (most + 1) (by omega) c hc
  obtain ⟨a1, b1⟩ := a1 (by omega)
  simp only [e1, Option.bind_some]
  obtain ⟨c', o', q1, q2, q3, q4⟩ := drawListLoop k hk t v (by omega) 5000 k 0 c1 [] (by omega) (by omega) (by omega) (by omega) hc1 rfl (fun x hx => (List.not_mem_nil hx).elim)
  exact ⟨c', o', q1, q2, q3, by omega⟩
end Go.Law
