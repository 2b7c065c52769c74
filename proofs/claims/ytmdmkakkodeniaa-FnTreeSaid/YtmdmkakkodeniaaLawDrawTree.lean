/- A tree is drawn, whatever the bytes. -/
import Derived.Test.YtmdmkakkodeniaaLawDraw
import Derived.Test.YtmdmkakkodeniaaLawTreeTop
set_option linter.unusedVariables false
set_option linter.unusedSimpArgs false
namespace Go.Law
open Go.Am Go.Fn
variable (k : Nat)

def WfL (l : List TNode) : Prop := ∀ n, n ∈ l → WfN n

theorem WfL.app {a b : List TNode} (h : WfL a) (h' : WfL b) : WfL (a ++ b) := fun n hn => (List.mem_append.1 hn).elim (h n) (h' n)
theorem WfL.one {n : TNode} (h : WfN n) : WfL [n] := fun m hm => by simp at hm; subst hm; exact h
theorem WfL.set {l : List TNode} {i : Nat} {n : TNode} (h : WfL l) (hn : WfN n) : WfL (l.set i n) := fun m hm => by
  rcases List.mem_or_eq_of_mem_set hm with hm | rfl
  · exact h m hm
  · exact hn
theorem WfL.nil : WfL [] := fun m hm => (List.not_mem_nil hm).elim

theorem wfN_mk {t i n m : Int} {s : ByteArray} (h1 : I64 t) (h2 : I64 i) (h3 : I64 n) (h4 : I64 m) (h5 : s.size ≤ 1073741824) : WfN (t, i, n, s, m, ()) := ⟨h1, h2, h3, h4, h5⟩

/-- how many nodes a draw of that depth takes at most -/
def sz : Nat → Nat
  | 0 => 1
  | d + 1 => 1 + 18 * sz d

abbrev NodeOkS (S : Int → Int → Int → TL1Cur → List TNode → Option (Unit × TL1Cur × List TNode)) (deep : Nat) : Prop :=
  ∀ (kind id : Int) (c : TL1Cur) (acc : List TNode), I64 kind → I64 id → CurOk c → WfL acc → acc.length + sz deep ≤ 1000000 →
    ∃ c' l', S kind id (deep : Int) c acc = some ((), (c', l')) ∧ CurOk c' ∧ WfL l' ∧ acc.length < l'.length ∧ l'.length ≤ acc.length + sz deep

theorem i64_small {x : Int} (h0 : -1000000000 ≤ x) (h1 : x ≤ 1000000000) : I64 x := ⟨by omega, by omega⟩

theorem drawLoop (S : Int → Int → Int → TL1Cur → List TNode → Option (Unit × TL1Cur × List TNode)) (deep : Nat) (hdeep : deep ≤ 3) (many : Int) (hmany : many ≤ 18) (hS : deep = 0 → many ≤ 0)
    (ih : ∀ d, d + 1 = deep → NodeOkS S d) (t1 item : Int) (hitem : I64 item) : ∀ (m n : Nat) (next i : Int) (c : TL1Cur) (acc : List TNode), 0 ≤ i → many - i ≤ m → m ≤ 18 → m < n → 0 ≤ next → next ≤ 23 * i → CurOk c → WfL acc → acc.length + m * sz (deep - 1) ≤ 1000000 →
    ∃ c' l', spec_l4DrawNode.l24 k S n t1 (deep : Int) many item next i c acc = some ((), (c', l')) ∧ CurOk c' ∧ WfL l' ∧ acc.length ≤ l'.length ∧ l'.length ≤ acc.length + m * sz (deep - 1) := by
  intro m
  induction m with
  | zero =>
    intro n next i c acc hi hm _ hn hx0 hx1 hc ha hl
    obtain ⟨n, rfl⟩ : ∃ j, n = j + 1 := ⟨n - 1, by omega⟩
    simp only [spec_l4DrawNode.l24, decide_eq_false (show ¬ i < many by omega), cond_false]
    exact ⟨_, _, rfl, hc, ha, Nat.le_refl _, by omega⟩
  | succ m ihm =>
    intro n next i c acc hi hm h18 hn hx0 hx1 hc ha hl
    obtain ⟨n, rfl⟩ : ∃ j, n = j + 1 := ⟨n - 1, by omega⟩
    by_cases h : i < many
    · obtain ⟨d, hd⟩ : ∃ d, d + 1 = deep := by
        rcases Nat.eq_zero_or_pos deep with h0 | h0
        · have := hS h0; omega
        · exact ⟨deep - 1, by omega⟩
      have hS' := ih d hd
      have hdw : IntKind.wrap .i64 ((deep : Int) - 1) = (d : Int) := by rw [w64 (by omega) (by omega)]; omega
      have hdd : deep - 1 = d := by omega
      rw [hdd] at hl ihm ⊢
      have hsz : (m + 1) * sz d = m * sz d + sz d := by rw [Nat.add_mul]; simp
      simp only [spec_l4DrawNode.l24, decide_eq_true h, cond_true, hdw]
      have hiw : IntKind.wrap .i64 (i + 1) = i + 1 := w64 (by omega) (by omega)
      by_cases h12 : t1 = 12
      · simp only [beqT h12, cond_true]
        obtain ⟨v1, c1, e1, m1, hc1⟩ := pick_ok k [1, 2, 5, 6, 8, 9, 12] (by simp) (by simp) c hc
        simp only [e1, Option.bind_some]
        obtain ⟨v2, c2, e2, _, b2, hc2⟩ := below_ok k 3 (by omega) c1 hc1
        have b2 := b2 (by omega)
        simp only [e2, Option.bind_some]
        obtain ⟨v3, c3, e3, _, b3, hc3⟩ := below_ok k 6 (by omega) c2 hc2
        have b3 := b3 (by omega)
        simp only [e3, Option.bind_some]
        have ht : Int.tdiv v3 5 = v3 / 5 := Int.tdiv_eq_ediv_of_nonneg b3.1
        rw [ht, w64 (show -9223372036854775808 ≤ next + 1 by omega) (by omega), w64 (show -9223372036854775808 ≤ next + 1 + v2 by omega) (by omega), w64 (show -9223372036854775808 ≤ v3 / 5 by omega) (by omega),
          w64 (show -9223372036854775808 ≤ v3 / 5 * 20 by omega) (by omega), w64 (show -9223372036854775808 ≤ next + 1 + v2 + v3 / 5 * 20 by omega) (by omega)]
        have hv1 : I64 v1 := by simp only [List.mem_cons, List.not_mem_nil, or_false] at m1; exact i64_small (by omega) (by omega)
        obtain ⟨c4, l4, e4, hc4, hw4, hl4, hl4'⟩ := hS' v1 (next + 1 + v2 + v3 / 5 * 20) c3 acc hv1 (i64_small (by omega) (by omega)) hc3 ha (by omega)
        simp only [e4, Option.bind_some, spec_l4DrawNode.c25, hiw]
        obtain ⟨c', l', g1, g2, g3, g4, g5⟩ := ihm n (next + 1 + v2 + v3 / 5 * 20) (i + 1) c4 l4 (by omega) (by omega) (by omega) (by omega) (by omega) (by omega) hc4 hw4 (by omega)
        exact ⟨c', l', g1, g2, g3, by omega, by omega⟩
      · simp only [beqF h12, cond_false]
        obtain ⟨c4, l4, e4, hc4, hw4, hl4, hl4'⟩ := hS' item 0 c acc hitem (i64_small (by omega) (by omega)) hc ha (by omega)
        simp only [e4, Option.bind_some, spec_l4DrawNode.c25, hiw]
        obtain ⟨c', l', g1, g2, g3, g4, g5⟩ := ihm n next (i + 1) c4 l4 (by omega) (by omega) (by omega) (by omega) (by omega) (by omega) hc4 hw4 (by omega)
        exact ⟨c', l', g1, g2, g3, by omega, by omega⟩
    · simp only [spec_l4DrawNode.l24, decide_eq_false h, cond_false]
      exact ⟨_, _, rfl, hc, ha, Nat.le_refl _, by omega⟩

theorem sz_pos (d : Nat) : 0 < sz d := by cases d <;> simp [sz] <;> omega
theorem sz_le {d : Nat} (h : d ≤ 3) : sz d ≤ 6175 := by
  match d, h with
  | 0, _ => decide
  | 1, _ => decide
  | 2, _ => decide
  | 3, _ => decide

theorem drawNode_step (hk : 1000000 ≤ k) (deep : Nat) (hdeep : deep ≤ 3) (S : Int → Int → Int → TL1Cur → List TNode → Option (Unit × TL1Cur × List TNode)) (ih : ∀ d, d + 1 = deep → NodeOkS S d) :
    NodeOkS (spec_l4DrawNode.b k S) deep := by
  intro kind id c acc hkind hid hc ha hl
  have hs0 : 1 + 18 * sz (deep - 1) ≤ 200000 := by have := sz_le (show deep - 1 ≤ 3 by omega); omega
  -- behind the node's own
  have c9 : ∀ (c : TL1Cur) (n : TNode), CurOk c → WfN n → ∃ c' l', spec_l4DrawNode.c9 k S kind (deep : Int) c acc n = some ((), (c', l')) ∧ CurOk c' ∧ WfL l' ∧ acc.length < l'.length ∧ l'.length ≤ acc.length + sz deep := by
    intro c n hc hn
    have hp := sz_pos deep
    unfold spec_l4DrawNode.c9
    rw [lim_ok (by simp; omega), cond_true]
    simp only [csf, Option.bind_some]
    have hset : ∀ (x y : TNode), List.set (acc ++ [x]) (Int.toNat (acc.length : Int)) y = acc ++ [y] := fun x y => by
      rw [Int.toNat_natCast, List.set_append_right _ _ (Nat.le_refl _)]; simp
    have hget : ∀ (x : TNode), rdL (acc ++ [x]) (acc.length : Int) = some x := fun x => by
      rw [rdL_nat, List.getElem?_append_right (Nat.le_refl _)]; simp
    by_cases hleaf : (kind != 9 && kind != 12) = true
    · simp only [hleaf, cond_true]
      exact ⟨_, _, rfl, hc, ha.app (WfL.one hn), by simp, by simp; omega⟩
    · simp only [Bool.eq_false_iff.2 hleaf, cond_false]
      obtain ⟨v0, c0, e0, _, b0, hc0⟩ := below_ok k 4 (by omega) c hc
      have b0 := b0 (by omega)
      simp only [e0, Option.bind_some]
      -- so many parts
      have c18 : ∀ (c : TL1Cur) (many : Int), CurOk c → 0 ≤ many → many ≤ 18 → (deep = 0 → many ≤ 0) → ∃ c' l', spec_l4DrawNode.c18 k S kind (deep : Int) (acc.length : Int) many c (acc ++ [n]) = some ((), (c', l')) ∧ CurOk c' ∧ WfL l' ∧ acc.length < l'.length ∧ l'.length ≤ acc.length + sz deep := by
        intro c many hc hm0 hm1 hz
        unfold spec_l4DrawNode.c18 spec_l4DrawNode.c22
        obtain ⟨v, c1, e1, m1, hc1⟩ := pick_ok k [5, 8, 6, 12, 9] (by simp) (by simp) c hc
        have hv : I64 v := by simp only [List.mem_cons, List.not_mem_nil, or_false] at m1; exact i64_small (by omega) (by omega)
        simp only [e1, Option.bind_some, csf, hget, hset]
        have hdeepsz : many.toNat * sz (deep - 1) ≤ sz deep - 1 := by
          rcases Nat.eq_zero_or_pos deep with h0 | h0
          · have := hz h0
            rw [show many.toNat = 0 by omega]; simp
          · obtain ⟨d, rfl⟩ : ∃ d, deep = d + 1 := ⟨deep - 1, by omega⟩
            show many.toNat * sz d ≤ 1 + 18 * sz d - 1
            have := Nat.mul_le_mul_right (sz d) (show many.toNat ≤ 18 by omega)
            omega
        have hszl := sz_le hdeep
        have loop : ∀ y : TNode, WfN y → ∃ c' l', spec_l4DrawNode.l24 k S k kind (deep : Int) many v 0 0 c1 (acc ++ [y]) = some ((), (c', l')) ∧ CurOk c' ∧ WfL l' ∧ acc.length < l'.length ∧ l'.length ≤ acc.length + sz deep := by
          intro y hy
          obtain ⟨c', l', g1, g2, g3, g4, g5⟩ := drawLoop k S deep hdeep many hm1 hz ih kind v hv many.toNat k 0 0 c1 (acc ++ [y]) (by omega) (by omega) (by omega) (by omega) (by omega) (by omega) hc1 (ha.app (WfL.one hy)) (by simp; omega)
          simp at g4 g5
          exact ⟨c', l', g1, g2, g3, by omega, by omega⟩
        have hw1 : WfN (n.1, n.2.1, n.2.2.1, n.2.2.2.1, many, ()) := wfN_mk hn.1 hn.2.1 hn.2.2.1 (i64_small (by omega) (by omega)) hn.2.2.2.2
        by_cases hb : (kind == 9 && decide (many > 0)) = true
        · simp only [hb, cond_true]
          exact loop _ (wfN_mk hn.1 hn.2.1 hv (i64_small (by omega) (by omega)) hn.2.2.2.2)
        · simp only [Bool.eq_false_iff.2 hb, cond_false]
          exact loop _ hw1
      have c16 : ∀ (c : TL1Cur) (many : Int), CurOk c → 0 ≤ many → many ≤ 3 → (deep = 0 → many ≤ 0) → ∃ c' l', spec_l4DrawNode.c16 k S kind (deep : Int) (acc.length : Int) many c (acc ++ [n]) = some ((), (c', l')) ∧ CurOk c' ∧ WfL l' ∧ acc.length < l'.length ∧ l'.length ≤ acc.length + sz deep := by
        intro c many hc hm0 hm1 hz
        unfold spec_l4DrawNode.c16
        obtain ⟨v, c1, e1, hc1⟩ := once_ok k 20 (by omega) c hc
        simp only [e1, Option.bind_some]
        cases v with
        | true =>
          simp only [cond_true]
          rw [w64 (by omega) (by omega)]
          exact c18 c1 (many * 6) hc1 (by omega) (by omega) (fun h => by have := hz h; omega)
        | false =>
          simp only [cond_false]
          exact c18 c1 many hc1 hm0 (by omega) hz
      by_cases hd0 : (deep : Int) = 0
      · simp only [beqT hd0, cond_true]
        exact c16 c0 0 hc0 (by omega) (by omega) (fun _ => by omega)
      · simp only [beqF hd0, cond_false]
        exact c16 c0 v0 hc0 (by omega) (by omega) (fun h => by omega)
  have z0 : I64 0 := i64_small (by omega) (by omega)
  have es : (⟨#[]⟩ : ByteArray).size ≤ 1073741824 := by decide
  unfold spec_l4DrawNode.b
  by_cases h5 : kind = 5
  · simp only [beqT h5, cond_true]
    obtain ⟨v, c1, e1, _, b1, hc1⟩ := below_ok k 1000 (by omega) c hc
    have b1 := b1 (by omega)
    simp only [e1, Option.bind_some]
    rw [w64 (by omega) (by omega)]
    exact c9 c1 _ hc1 (wfN_mk hkind hid (i64_small (by omega) (by omega)) z0 es)
  simp only [beqF h5, cond_false]
  by_cases h6 : kind = 6
  · simp only [beqT h6, cond_true]
    obtain ⟨v, c1, e1, hc1, b1⟩ := drawNum_ok k c hc
    simp only [e1, Option.bind_some]
    exact c9 c1 _ hc1 (wfN_mk hkind hid b1 z0 es)
  simp only [beqF h6, cond_false]
  by_cases h8 : kind = 8
  · simp only [beqT h8, cond_true]
    obtain ⟨v, c1, e1, hc1, b1⟩ := drawText_ok k 5 (by omega) hk c hc
    have e1 : spec_l4DrawText k 5 c = some (v, c1) := e1
    simp only [e1, Option.bind_some]
    exact c9 c1 _ hc1 (wfN_mk hkind hid z0 z0 (by omega))
  simp only [beqF h8, cond_false]
  exact c9 c _ hc (wfN_mk hkind hid z0 z0 es)

theorem drawNode_ok (hk : 1000000 ≤ k) : ∀ (deep D : Nat), deep ≤ 3 → deep < D → NodeOkS (spec_l4DrawNode.rec k D) deep := by
  intro deep
  induction deep with
  | zero =>
    intro D hdeep hD
    obtain ⟨D, rfl⟩ : ∃ j, D = j + 1 := ⟨D - 1, by omega⟩
    exact drawNode_step k hk 0 (by omega) _ (fun d h => by omega)
  | succ deep ihd =>
    intro D hdeep hD
    obtain ⟨D, rfl⟩ : ∃ j, D = j + 1 := ⟨D - 1, by omega⟩
    exact drawNode_step k hk (deep + 1) hdeep _ (fun d h => by
      obtain rfl : d = deep := by omega
      exact ihd D (by omega) (by omega))

theorem drawRight_ok (hk : 1000000 ≤ k) (c : TL1Cur) (hc : CurOk c) : ∃ c' l, spec_l4DrawRight k c = some ((), (c', l)) ∧ CurOk c' ∧ WfL l ∧ 0 < l.length ∧ l.length ≤ 300 := by
  unfold spec_l4DrawRight
  obtain ⟨v, c1, e1, _, b1, hc1⟩ := below_ok k 3 (by omega) c hc
  have b1 := b1 (by omega)
  simp only [e1, Option.bind_some]
  rw [w64 (by omega) (by omega)]
  obtain ⟨d, hd⟩ : ∃ d : Nat, (d : Int) = 1 + v := ⟨(1 + v).toNat, by omega⟩
  rw [← hd]
  have hs := sz_le (show d ≤ 3 by omega)
  obtain ⟨c2, l, e2, hc2, hw, h1, h2⟩ := drawNode_ok k hk d k (by omega) (by omega) 12 0 c1 [] (i64_small (by omega) (by omega)) (i64_small (by omega) (by omega)) hc1 WfL.nil (by simp; omega)
  have e2 : spec_l4DrawNode k 12 0 (d : Int) c1 [] = some ((), (c2, l)) := e2
  simp only [e2, Option.bind_some]
  have z0 : I64 0 := i64_small (by omega) (by omega)
  by_cases h : (l.length : Int) > 300
  · simp only [decide_eq_true h, cond_true]
    exact ⟨_, _, rfl, hc2, WfL.one (wfN_mk (i64_small (by omega) (by omega)) z0 z0 z0 (by decide)), by simp, by simp⟩
  · simp only [decide_eq_false h, cond_false]
    exact ⟨_, _, rfl, hc2, hw, by simpa using h1, by omega⟩

theorem deepLoop_ok (hk : 1000000 ≤ k) : ∀ (m n : Nat) (i : Int) (c : TL1Cur) (acc : List TNode), CurOk c → WfL acc → 0 ≤ i → 12 - i ≤ m → m < n → acc.length + m ≤ 100 →
    ∃ c' l, spec_l4DrawTree.l19 k n i c acc = some ((), (c', l)) ∧ CurOk c' ∧ WfL l ∧ l.length ≤ acc.length + m + 1 := by
  have z0 : I64 0 := i64_small (by omega) (by omega)
  have o1 : I64 1 := i64_small (by omega) (by omega)
  have es : (⟨#[]⟩ : ByteArray).size ≤ 1073741824 := by decide
  intro m
  induction m with
  | zero =>
    intro n i c acc hc ha hi hm hn hl
    obtain ⟨n, rfl⟩ : ∃ j, n = j + 1 := ⟨n - 1, by omega⟩
    obtain ⟨v, c1, e1, _, b1, hc1⟩ := below_ok k 2 (by omega) c hc
    have b1 := b1 (by omega)
    simp only [spec_l4DrawTree.l19, e1, Option.bind_some]
    rw [w64 (by omega) (by omega)]
    simp only [decide_eq_false (show ¬ i < 11 + v by omega), cond_false, spec_l4DrawTree.c23]
    rw [lim_ok (by simp; omega), cond_true]
    exact ⟨_, _, rfl, hc1, ha.app (WfL.one (wfN_mk o1 o1 z0 z0 es)), by simp⟩
  | succ m ih =>
    intro n i c acc hc ha hi hm hn hl
    obtain ⟨n, rfl⟩ : ∃ j, n = j + 1 := ⟨n - 1, by omega⟩
    obtain ⟨v, c1, e1, _, b1, hc1⟩ := below_ok k 2 (by omega) c hc
    have b1 := b1 (by omega)
    simp only [spec_l4DrawTree.l19, e1, Option.bind_some]
    rw [w64 (by omega) (by omega)]
    by_cases h : i < 11 + v
    · have hmin : ∃ q, spec_l1Min k i 1 = some q ∧ I64 q := by
        unfold spec_l1Min
        by_cases h1 : i < 1
        · simp only [decide_eq_true h1, cond_true]; exact ⟨_, rfl, i64_small (by omega) (by omega)⟩
        · simp only [decide_eq_false h1, cond_false]; exact ⟨_, rfl, o1⟩
      obtain ⟨q, hq, hq2⟩ := hmin
      simp only [decide_eq_true h, cond_true, hq, Option.bind_some]
      rw [lim_ok (by simp; omega), cond_true, w64 (by omega) (by omega)]
      obtain ⟨c', l, g1, g2, g3, g4⟩ := ih n (i + 1) c1 (acc ++ [(12, q, 0, (⟨#[]⟩ : ByteArray), 1, ())]) hc1 (ha.app (WfL.one (wfN_mk (i64_small (by omega) (by omega)) hq2 z0 o1 es))) (by omega) (by omega) (by omega) (by simp; omega)
      exact ⟨c', l, g1, g2, g3, by simp at g4; omega⟩
    · simp only [decide_eq_false h, cond_false, spec_l4DrawTree.c23]
      rw [lim_ok (by simp; omega), cond_true]
      exact ⟨_, _, rfl, hc1, ha.app (WfL.one (wfN_mk o1 o1 z0 z0 es)), by simp⟩

theorem drawTree_ok (hk : 1000000 ≤ k) (c : TL1Cur) (hc : CurOk c) : ∃ c' l, spec_l4DrawTree k c = some ((), (c', l)) ∧ CurOk c' ∧ WfL l ∧ l.length ≤ 1000 := by
  have z0 : I64 0 := i64_small (by omega) (by omega)
  have es : (⟨#[]⟩ : ByteArray).size ≤ 1073741824 := by decide
  unfold spec_l4DrawTree
  obtain ⟨c1, l, e1, hc1, hw, hl0, hl⟩ := drawRight_ok k hk c hc
  simp only [e1, Option.bind_some]
  obtain ⟨i, c2, e2, _, b2, hc2⟩ := below_ok k (l.length : Int) (by omega) c1 hc1
  obtain ⟨i0, i1⟩ := b2 (by omega)
  simp only [e2, Option.bind_some]
  obtain ⟨w, c3, e3, _, _, hc3⟩ := below_ok k 25 (by omega) c2 hc2
  simp only [e3, Option.bind_some]
  obtain ⟨y, hy, hy2⟩ := rdL_some i0 i1
  have hwy : WfN y := hw y (List.mem_of_getElem? hy2)
  have hls : ∀ z, (List.set l i.toNat z).length ≤ 1000 := fun z => by simp; omega
  by_cases h0 : w = 0
  · obtain ⟨v, c4, e4, _, b4, hc4⟩ := below_ok k 14 (by omega) c3 hc3
    have b4 := b4 (by omega)
    simp only [beqT h0, cond_true, e4, Option.bind_some, hy, spec_l4DrawTree.c23]
    exact ⟨_, _, rfl, hc4, hw.set (wfN_mk (i64_small (by omega) (by omega)) hwy.2.1 hwy.2.2.1 hwy.2.2.2.1 hwy.2.2.2.2), hls _⟩
  simp only [beqF h0, cond_false]
  by_cases h1 : w = 1
  · obtain ⟨v, c4, e4, b4, hc4⟩ := pick_ok k [0, 1, 1000, 1001, (-1)] (by simp) (by simp) c3 hc3
    simp only [List.mem_cons, List.not_mem_nil, or_false] at b4
    simp only [beqT h1, cond_true, e4, Option.bind_some, hy, spec_l4DrawTree.c23]
    exact ⟨_, _, rfl, hc4, hw.set (wfN_mk hwy.1 (i64_small (by omega) (by omega)) hwy.2.2.1 hwy.2.2.2.1 hwy.2.2.2.2), hls _⟩
  simp only [beqF h1, cond_false]
  by_cases h2 : w = 2
  · obtain ⟨v, c4, e4, _, b4, hc4⟩ := below_ok k 3 (by omega) c3 hc3
    simp only [beqT h2, cond_true, spec_l4DrawTree.d9, e4, Option.bind_some, hy, spec_l4DrawTree.c23]
    exact ⟨_, _, rfl, hc4, hw.set (wfN_mk hwy.1 hwy.2.1 hwy.2.2.1 ⟨w64_lo _, w64_hi _⟩ hwy.2.2.2.2), hls _⟩
  simp only [beqF h2, cond_false]
  by_cases h3 : w = 3
  · obtain ⟨v, c4, e4, b4, hc4⟩ := pick_ok k [0, 1, 2147483648, 8] (by simp) (by simp) c3 hc3
    simp only [List.mem_cons, List.not_mem_nil, or_false] at b4
    simp only [beqT h3, cond_true, e4, Option.bind_some, hy, spec_l4DrawTree.c23]
    exact ⟨_, _, rfl, hc4, hw.set (wfN_mk hwy.1 hwy.2.1 ⟨by omega, by omega⟩ hwy.2.2.2.1 hwy.2.2.2.2), hls _⟩
  simp only [beqF h3, cond_false]
  by_cases h4 : w = 4
  · obtain ⟨v, c4, e4, _, b4, hc4⟩ := below_ok k 2 (by omega) c3 hc3
    have b4 := b4 (by omega)
    simp only [beqT h4, cond_true, e4, Option.bind_some]
    rw [w64 (by omega) (by omega), okLen_ok (by omega) (by omega), cond_true]
    simp only [Option.bind_some, hy, spec_l4DrawTree.c23]
    exact ⟨_, _, rfl, hc4, hw.set (wfN_mk hwy.1 hwy.2.1 hwy.2.2.1 hwy.2.2.2.1 (by rw [intsStr_size]; simp; omega)), hls _⟩
  simp only [beqF h4, cond_false]
  by_cases h5 : w = 5
  · simp only [beqT h5, cond_true, spec_l4DrawTree.c23]
    rw [lim_ok (by simp; omega), cond_true]
    exact ⟨_, _, rfl, hc3, hw.app (WfL.one (wfN_mk (i64_small (by omega) (by omega)) z0 z0 z0 es)), by simp; omega⟩
  simp only [beqF h5, cond_false]
  by_cases h6 : w = 6
  · simp only [beqT h6, cond_true]
    obtain ⟨c', l', g1, g2, g3, g4⟩ := deepLoop_ok k hk 12 k 0 c3 [] hc3 WfL.nil (by omega) (by omega) (by omega) (by simp)
    exact ⟨c', l', g1, g2, g3, by simp at g4; omega⟩
  simp only [beqF h6, cond_false, spec_l4DrawTree.c23]
  exact ⟨_, _, rfl, hc3, hw, by omega⟩

theorem drawTreePack_ok (hk : 1000000 ≤ k) (t : List Int) (ht : t.length ≤ 1048576) : ∃ l, spec_DrawTreePack k t = some ((), l) ∧ WfL l ∧ l.length ≤ 1000 := by
  unfold spec_DrawTreePack
  obtain ⟨c, e, hc⟩ := new_ok k hk t ht
  simp only [e, Option.bind_some]
  obtain ⟨c', l, e1, _, hw, hl⟩ := drawTree_ok k hk c hc
  simp only [e1, Option.bind_some]
  exact ⟨l, rfl, hw, hl⟩

/-- FnTree -/
theorem fnTree (x : List Int) : ∃ k, laws_FnTree k x = some true := by
  refine ⟨1000000, ?_⟩
  by_cases h : (x.length : Int) > 1048576
  · unfold laws_FnTree laws_big
    simp only [Option.bind_some, decide_eq_true h, cond_true]
  · obtain ⟨l, h1, h2, h3⟩ := drawTreePack_ok 1000000 (by omega) x (by omega)
    exact tree_law 1000000 (by omega) x l h1 h2 (by omega)
end Go.Law
