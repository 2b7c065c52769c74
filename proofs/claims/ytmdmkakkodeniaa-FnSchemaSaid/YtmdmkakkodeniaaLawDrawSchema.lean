/- A schema is drawn, whatever the bytes. -/
import Derived.Test.YtmdmkakkodeniaaLawDraw
import Derived.Test.YtmdmkakkodeniaaLawSchema
set_option linter.unusedVariables false
set_option linter.unusedSimpArgs false
namespace Go.Law
open Go.Am Go.Fn
variable (k : Nat)

def WfD (c : TCol) : Prop := c.1.size ≤ 100 ∧ I64 c.2.1 ∧ I64 c.2.2.1 ∧ I64 c.2.2.2.1
def WfDs (l : List TCol) : Prop := ∀ c, c ∈ l → WfD c

theorem WfDs.app {a b : List TCol} (h : WfDs a) (h' : WfDs b) : WfDs (a ++ b) := fun n hn => (List.mem_append.1 hn).elim (h n) (h' n)
theorem WfDs.one {n : TCol} (h : WfD n) : WfDs [n] := fun m hm => by simp at hm; subst hm; exact h
theorem WfDs.set {l : List TCol} {i : Nat} {n : TCol} (h : WfDs l) (hn : WfD n) : WfDs (l.set i n) := fun m hm => by
  rcases List.mem_or_eq_of_mem_set hm with hm | rfl
  · exact h m hm
  · exact hn
theorem WfDs.nil : WfDs [] := fun m hm => (List.not_mem_nil hm).elim

theorem wfD_mk {t r m : Int} {s : ByteArray} (h0 : s.size ≤ 100) (h1 : I64 t) (h2 : I64 r) (h3 : I64 m) : WfD (s, t, r, m, ()) := ⟨h0, h1, h2, h3⟩
theorem i64s {x : Int} (h0 : -1000000000 ≤ x) (h1 : x ≤ 1000000000) : I64 x := ⟨by omega, by omega⟩

def szc : Nat → Nat
  | 0 => 1
  | d + 1 => 1 + 3 * szc d

theorem szc_pos (d : Nat) : 0 < szc d := by cases d <;> simp [szc] <;> omega
theorem szc_le {d : Nat} (h : d ≤ 3) : szc d ≤ 40 := by
  match d, h with
  | 0, _ => decide
  | 1, _ => decide
  | 2, _ => decide
  | 3, _ => decide

abbrev ColS (S : ByteArray → Int → TL1Cur → List TCol → Option (Unit × TL1Cur × List TCol)) (deep : Nat) : Prop :=
  ∀ (name : ByteArray) (c : TL1Cur) (acc : List TCol), (deep = 0 → eqS name ⟨#[]⟩ = false) → name.size ≤ 2 → CurOk c → WfDs acc → acc.length + szc deep ≤ 10000 →
    ∃ c' l', S name (deep : Int) c acc = some ((), (c', l')) ∧ CurOk c' ∧ WfDs l' ∧ acc.length < l'.length ∧ l'.length ≤ acc.length + szc deep

theorem colLoop (S : ByteArray → Int → TL1Cur → List TCol → Option (Unit × TL1Cur × List TCol)) (d : Nat) (hd : d ≤ 3) (ih : ColS S d) (many : Int) (hm : many ≤ 3) :
    ∀ (m n : Nat) (i : Int) (c : TL1Cur) (acc : List TCol), 0 ≤ i → many - i ≤ m → m < n → CurOk c → WfDs acc → acc.length + m * szc d ≤ 10000 →
    ∃ c' l', spec_l5DrawCol.l13 k S n ((d + 1 : Nat) : Int) many i c acc = some ((), (c', l')) ∧ CurOk c' ∧ WfDs l' ∧ acc.length ≤ l'.length ∧ l'.length ≤ acc.length + m * szc d := by
  intro m
  induction m with
  | zero =>
    intro n i c acc hi hmi hn hc ha hl
    obtain ⟨n, rfl⟩ : ∃ j, n = j + 1 := ⟨n - 1, by omega⟩
    simp only [spec_l5DrawCol.l13, decide_eq_false (show ¬ i < many by omega), cond_false]
    exact ⟨_, _, rfl, hc, ha, Nat.le_refl _, by omega⟩
  | succ m ihm =>
    intro n i c acc hi hmi hn hc ha hl
    obtain ⟨n, rfl⟩ : ∃ j, n = j + 1 := ⟨n - 1, by omega⟩
    have hsz : (m + 1) * szc d = m * szc d + szc d := by rw [Nat.add_mul]; simp
    by_cases h : i < many
    · obtain ⟨v, c1, e1, _, b1, hc1⟩ := below_ok k 4 (by omega) c hc
      have b1 := b1 (by omega)
      simp only [spec_l5DrawCol.l13, decide_eq_true h, cond_true, e1, Option.bind_some]
      have hdw : IntKind.wrap .i64 (((d + 1 : Nat) : Int) - 1) = (d : Int) := by rw [w64 (by omega) (by omega)]; omega
      rw [hdw]
      have hne : eqS (intsStr [IntKind.wrap .u8 (IntKind.wrap .i64 (97 + i)), IntKind.wrap .u8 (IntKind.wrap .i64 (97 + v))]) ⟨#[]⟩ = false := by
        rw [eqS_iff]
        refine decide_eq_false fun hh => ?_
        have := congrArg ByteArray.size hh
        rw [intsStr_size] at this
        cases this
      obtain ⟨c2, l2, e2, hc2, hw2, hl2, hl2'⟩ := ih _ c1 acc (fun _ => hne) (by rw [intsStr_size]; exact Nat.le_refl 2) hc1 ha (by omega)
      simp only [e2, Option.bind_some]
      rw [w64 (by omega) (by omega)]
      obtain ⟨c', l', g1, g2, g3, g4, g5⟩ := ihm n (i + 1) c2 l2 (by omega) (by omega) (by omega) hc2 hw2 (by omega)
      exact ⟨c', l', g1, g2, g3, by omega, by omega⟩
    · simp only [spec_l5DrawCol.l13, decide_eq_false h, cond_false]
      exact ⟨_, _, rfl, hc, ha, Nat.le_refl _, by omega⟩

theorem colStep (hk : 100 ≤ k) (deep : Nat) (hdeep : deep ≤ 3) (S : ByteArray → Int → TL1Cur → List TCol → Option (Unit × TL1Cur × List TCol)) (ih : ∀ d, d + 1 = deep → ColS S d) : ColS (spec_l5DrawCol.b k S) deep := by
  intro name c acc hname hsize hc ha hl
  have hp := szc_pos deep
  have z0 : I64 0 := i64s (by omega) (by omega)
  have z7 : I64 7 := i64s (by omega) (by omega)
  have hset : ∀ (x y : TCol), List.set (acc ++ [x]) (Int.toNat (acc.length : Int)) y = acc ++ [y] := fun x y => by
    rw [Int.toNat_natCast, List.set_append_right _ _ (Nat.le_refl _)]; simp
  have hget : ∀ (x : TCol), rdL (acc ++ [x]) (acc.length : Int) = some x := fun x => by
    rw [rdL_nat, List.getElem?_append_right (Nat.le_refl _)]; simp
  -- a leaf
  have leaf : ∀ (c : TL1Cur) (t r : Int), CurOk c → t ≠ 7 → I64 t → I64 r → ∃ c' l', spec_l5DrawCol.c4 k S name (deep : Int) c acc (name, t, r, 0, ()) = some ((), (c', l')) ∧ CurOk c' ∧ WfDs l' ∧ acc.length < l'.length ∧ l'.length ≤ acc.length + szc deep := by
    intro c t r hc ht h1 h2
    unfold spec_l5DrawCol.c4
    rw [lim_ok (by simp; omega), cond_true]
    simp only [bneT ht, cond_true]
    exact ⟨_, _, rfl, hc, ha.app (WfDs.one (wfD_mk (by omega) h1 h2 z0)), by simp, by simp; omega⟩
  -- a group
  have group : ∀ (c : TL1Cur) (r : Int), 0 < deep → CurOk c → I64 r → ∃ c' l', spec_l5DrawCol.c4 k S name (deep : Int) c acc (name, 7, r, 0, ()) = some ((), (c', l')) ∧ CurOk c' ∧ WfDs l' ∧ acc.length < l'.length ∧ l'.length ≤ acc.length + szc deep := by
    intro c r hd0 hc h2
    obtain ⟨d, rfl⟩ : ∃ d, deep = d + 1 := ⟨deep - 1, by omega⟩
    unfold spec_l5DrawCol.c4 spec_l5DrawCol.c12
    rw [lim_ok (by simp; omega), cond_true]
    obtain ⟨v, c1, e1, _, b1, hc1⟩ := below_ok k 3 (by omega) c hc
    have b1 := b1 (by omega)
    simp only [bneF rfl, cond_false, e1, Option.bind_some, hget, hset]
    rw [w64 (by omega) (by omega)]
    have hsz : szc (d + 1) = 1 + 3 * szc d := rfl
    have loop : ∀ y : TCol, WfD y → ∃ c' l', spec_l5DrawCol.l13 k S k ((d + 1 : Nat) : Int) (1 + v) 0 c1 (acc ++ [y]) = some ((), (c', l')) ∧ CurOk c' ∧ WfDs l' ∧ acc.length < l'.length ∧ l'.length ≤ acc.length + szc (d + 1) := by
      intro y hy
      obtain ⟨c', l', g1, g2, g3, g4, g5⟩ := colLoop k S d (by omega) (ih d rfl) (1 + v) (by omega) 3 k 0 c1 (acc ++ [y]) (by omega) (by omega) (by omega) hc1 (ha.app (WfDs.one hy)) (by simp; omega)
      simp at g4 g5
      exact ⟨c', l', g1, g2, g3, by omega, by omega⟩
    cases eqS name ⟨#[]⟩ with
    | true => simp only [cond_true]; exact loop _ (wfD_mk (by omega) z7 z0 (i64s (by omega) (by omega)))
    | false => simp only [cond_false]; exact loop _ (wfD_mk (by omega) z7 h2 (i64s (by omega) (by omega)))
  unfold spec_l5DrawCol.b
  obtain ⟨t, c1, e1, m1, hc1⟩ := pick_ok k [0, 1, 2, 5, 6] (by simp) (by simp) c hc
  simp only [List.mem_cons, List.not_mem_nil, or_false] at m1
  simp only [e1, Option.bind_some]
  obtain ⟨r, c2, e2, _, b2, hc2⟩ := below_ok k 3 (by omega) c1 hc1
  have b2 := b2 (by omega)
  simp only [e2, Option.bind_some]
  have hI : I64 t := i64s (by omega) (by omega)
  have hR : I64 r := i64s (by omega) (by omega)
  cases hn : eqS name ⟨#[]⟩ with
  | true =>
    simp only [cond_true]
    have : 0 < deep := by
      rcases Nat.eq_zero_or_pos deep with h | h
      · rw [hname h] at hn; cases hn
      · exact h
    exact group c2 r this hc2 hR
  | false =>
    simp only [cond_false]
    by_cases h : (deep : Int) > 0
    · simp only [decide_eq_true h, cond_true]
      obtain ⟨b, c3, e3, hc3⟩ := once_ok k 3 (by omega) c2 hc2
      simp only [e3, Option.bind_some]
      cases b with
      | true => simp only [cond_true]; exact group c3 r (by omega) hc3 hR
      | false => simp only [cond_false]; exact leaf c3 t r hc3 (by omega) hI hR
    · simp only [decide_eq_false h, cond_false]
      exact leaf c2 t r hc2 (by omega) hI hR

theorem drawCol_ok (hk : 100 ≤ k) : ∀ (deep D : Nat), deep ≤ 3 → deep < D → ColS (spec_l5DrawCol.rec k D) deep := by
  intro deep
  induction deep with
  | zero =>
    intro D hdeep hD
    obtain ⟨D, rfl⟩ : ∃ j, D = j + 1 := ⟨D - 1, by omega⟩
    exact colStep k hk 0 (by omega) _ (fun d h => by omega)
  | succ deep ihd =>
    intro D hdeep hD
    obtain ⟨D, rfl⟩ : ∃ j, D = j + 1 := ⟨D - 1, by omega⟩
    exact colStep k hk (deep + 1) hdeep _ (fun d h => by
      obtain rfl : d = deep := by omega
      exact ihd D (by omega) (by omega))

theorem wfSmall (hk : 1000 ≤ k) {s : List TCol} (h : WfDs s) : ∀ c, c ∈ s → c.1.size < k ∧ c.1.size < 1000000000 ∧ I64 c.2.2.2.1 := fun c hc => by
  obtain ⟨h0, _, _, h3⟩ := h c hc
  exact ⟨by omega, by omega, h3⟩

theorem drawRightS_ok (hk : 1000 ≤ k) : ∀ (m n : Nat) (i : Int) (c : TL1Cur), CurOk c → 0 ≤ i → 9 - i ≤ m → m < n →
    ∃ c' l, spec_l5DrawRight.l2 k n i c = some ((), (c', l)) ∧ CurOk c' ∧ WfDs l ∧ 0 < l.length ∧ l.length ≤ 40 := by
  intro m
  induction m with
  | zero =>
    intro n i c hc hi hm hn
    obtain ⟨n, rfl⟩ : ∃ j, n = j + 1 := ⟨n - 1, by omega⟩
    simp only [spec_l5DrawRight.l2, decide_eq_false (show ¬ i < 9 by omega), cond_false]
    exact ⟨_, _, rfl, hc, (WfDs.one (wfD_mk (by decide) (i64s (by omega) (by omega)) (i64s (by omega) (by omega)) (i64s (by omega) (by omega)))).app (WfDs.one (wfD_mk (by decide) (i64s (by omega) (by omega)) (i64s (by omega) (by omega)) (i64s (by omega) (by omega)))), by simp, by simp⟩
  | succ m ih =>
    intro n i c hc hi hm hn
    obtain ⟨n, rfl⟩ : ∃ j, n = j + 1 := ⟨n - 1, by omega⟩
    by_cases h : i < 9
    · obtain ⟨v, c1, e1, _, b1, hc1⟩ := below_ok k 3 (by omega) c hc
      have b1 := b1 (by omega)
      simp only [spec_l5DrawRight.l2, decide_eq_true h, cond_true, e1, Option.bind_some]
      rw [w64 (by omega) (by omega)]
      obtain ⟨d, hd⟩ : ∃ d : Nat, (d : Int) = 1 + v := ⟨(1 + v).toNat, by omega⟩
      rw [← hd]
      have hs := szc_le (show d ≤ 3 by omega)
      obtain ⟨c2, l, e2, hc2, hw, h1, h2⟩ := drawCol_ok k (by omega) d k (by omega) (by omega) ⟨#[]⟩ c1 [] (fun h => by omega) (by decide) hc1 WfDs.nil (by simp; omega)
      have e2 : spec_l5DrawCol k ⟨#[]⟩ (d : Int) c1 [] = some ((), (c2, l)) := e2
      obtain ⟨b, s1, _, _⟩ := schemaOk_eq k (by omega) l (wfSmall k hk hw)
      simp only [e2, Option.bind_some, s1]
      cases b with
      | true =>
        simp only [cond_true]
        exact ⟨_, _, rfl, hc2, hw, by simpa using h1, by simp at h2; omega⟩
      | false =>
        simp only [cond_false]
        rw [w64 (by omega) (by omega)]
        exact ih n (i + 1) c2 hc2 (by omega) (by omega) (by omega)
    · simp only [spec_l5DrawRight.l2, decide_eq_false h, cond_false]
      exact ⟨_, _, rfl, hc, (WfDs.one (wfD_mk (by decide) (i64s (by omega) (by omega)) (i64s (by omega) (by omega)) (i64s (by omega) (by omega)))).app (WfDs.one (wfD_mk (by decide) (i64s (by omega) (by omega)) (i64s (by omega) (by omega)) (i64s (by omega) (by omega)))), by simp, by simp⟩

theorem deepS_ok (many : Int) (hm : many ≤ 5) : ∀ (m n : Nat) (i : Int) (c : TL1Cur) (acc : List TCol), CurOk c → WfDs acc → 0 ≤ i → many - i ≤ m → m < n → acc.length + m ≤ 100 →
    ∃ c' l, spec_l5DrawSchema.l18 k n many i c acc = some ((), (c', l)) ∧ CurOk c' ∧ WfDs l ∧ l.length ≤ acc.length + m + 1 := by
  have z0 : I64 0 := i64s (by omega) (by omega)
  intro m
  induction m with
  | zero =>
    intro n i c acc hc ha hi hmi hn hl
    obtain ⟨n, rfl⟩ : ∃ j, n = j + 1 := ⟨n - 1, by omega⟩
    simp only [spec_l5DrawSchema.l18, decide_eq_false (show ¬ i < many by omega), cond_false, spec_l5DrawSchema.c22]
    rw [lim_ok (by simp; omega), cond_true]
    exact ⟨_, _, rfl, hc, ha.app (WfDs.one (wfD_mk (by decide) z0 z0 z0)), by simp⟩
  | succ m ih =>
    intro n i c acc hc ha hi hmi hn hl
    obtain ⟨n, rfl⟩ : ∃ j, n = j + 1 := ⟨n - 1, by omega⟩
    by_cases h : i < many
    · simp only [spec_l5DrawSchema.l18, decide_eq_true h, cond_true]
      rw [lim_ok (by simp; omega), cond_true, w64 (by omega) (by omega)]
      have ht : I64 (Int.tmod i 3) := by rw [Int.tmod_eq_emod_of_nonneg hi]; exact i64s (by omega) (by omega)
      obtain ⟨c', l, g1, g2, g3, g4⟩ := ih n (i + 1) c (acc ++ [((⟨#[103]⟩ : ByteArray), 7, Int.tmod i 3, 1, ())]) hc (ha.app (WfDs.one (wfD_mk (by decide) (i64s (by omega) (by omega)) ht (i64s (by omega) (by omega))))) (by omega) (by omega) (by omega) (by simp; omega)
      exact ⟨c', l, g1, g2, g3, by simp at g4; omega⟩
    · simp only [spec_l5DrawSchema.l18, decide_eq_false h, cond_false, spec_l5DrawSchema.c22]
      rw [lim_ok (by simp; omega), cond_true]
      exact ⟨_, _, rfl, hc, ha.app (WfDs.one (wfD_mk (by decide) z0 z0 z0)), by simp⟩

theorem pickS_ok (l : List ByteArray) (hl : 0 < l.length) (hl2 : l.length < 1000000) (c : TL1Cur) (hc : CurOk c) : ∃ v c', spec_l1Pick k l c = some (v, c') ∧ v ∈ l ∧ CurOk c' := by
  unfold spec_l1Pick
  obtain ⟨v, c', hv, _, h1, hc'⟩ := below_ok k (l.length : Int) (by omega) c hc
  obtain ⟨h1, h2⟩ := h1 (by omega)
  simp only [hv, Option.bind_some]
  obtain ⟨x, hx, hx2⟩ := rdL_some h1 h2
  simp only [hx, Option.bind_some]
  exact ⟨_, _, rfl, List.mem_of_getElem? hx2, hc'⟩

theorem drawSchema_ok (hk : 1000 ≤ k) (c : TL1Cur) (hc : CurOk c) : ∃ c' l, spec_l5DrawSchema k c = some ((), (c', l)) ∧ CurOk c' ∧ WfDs l ∧ l.length ≤ 100 := by
  have z0 : I64 0 := i64s (by omega) (by omega)
  unfold spec_l5DrawSchema spec_l5DrawRight
  obtain ⟨c1, l, e1, hc1, hw, hl0, hl⟩ := drawRightS_ok k hk 9 k 0 c hc (by omega) (by omega) (by omega)
  simp only [e1, Option.bind_some]
  obtain ⟨i, c2, e2, _, b2, hc2⟩ := below_ok k (l.length : Int) (by omega) c1 hc1
  obtain ⟨i0, i1⟩ := b2 (by omega)
  simp only [e2, Option.bind_some]
  obtain ⟨w, c3, e3, _, _, hc3⟩ := below_ok k 25 (by omega) c2 hc2
  simp only [e3, Option.bind_some]
  obtain ⟨y, hy, hy2⟩ := rdL_some i0 i1
  have hwy : WfD y := hw y (List.mem_of_getElem? hy2)
  have hls : ∀ z, (List.set l i.toNat z).length ≤ 100 := fun z => by simp; omega
  by_cases h0 : w = 0
  · obtain ⟨v, c4, e4, _, b4, hc4⟩ := below_ok k 9 (by omega) c3 hc3
    have b4 := b4 (by omega)
    simp only [beqT h0, cond_true, e4, Option.bind_some, hy, spec_l5DrawSchema.c22]
    exact ⟨_, _, rfl, hc4, hw.set (wfD_mk hwy.1 (i64s (by omega) (by omega)) hwy.2.2.1 hwy.2.2.2), hls _⟩
  simp only [beqF h0, cond_false]
  by_cases h1 : w = 1
  · obtain ⟨v, c4, e4, _, b4, hc4⟩ := below_ok k 5 (by omega) c3 hc3
    simp only [beqT h1, cond_true, e4, Option.bind_some, hy, spec_l5DrawSchema.c22]
    exact ⟨_, _, rfl, hc4, hw.set (wfD_mk hwy.1 hwy.2.1 ⟨w64_lo _, w64_hi _⟩ hwy.2.2.2), hls _⟩
  simp only [beqF h1, cond_false]
  by_cases h2 : w = 2
  · obtain ⟨v, c4, e4, _, b4, hc4⟩ := below_ok k 3 (by omega) c3 hc3
    simp only [beqT h2, cond_true, spec_l5DrawSchema.d9, e4, Option.bind_some, hy, spec_l5DrawSchema.c22]
    exact ⟨_, _, rfl, hc4, hw.set (wfD_mk hwy.1 hwy.2.1 hwy.2.2.1 ⟨w64_lo _, w64_hi _⟩), hls _⟩
  simp only [beqF h2, cond_false]
  by_cases h3 : w = 3
  · obtain ⟨v, c4, e4, b4, hc4⟩ := pickS_ok k [(⟨#[]⟩ : ByteArray), (⟨#[65]⟩ : ByteArray), (⟨#[97, 98]⟩ : ByteArray), (⟨#[97, 98, 99, 100, 101, 102, 103, 104, 105, 106, 107, 108, 109, 110, 111, 112, 113, 114, 115, 116]⟩ : ByteArray), (⟨#[97, 98, 99, 100, 101, 102, 103, 104, 105, 106, 107, 108, 109, 110, 111, 112, 113, 114, 115, 116, 117]⟩ : ByteArray)] (by simp) (by simp) c3 hc3
    have hv : v.size ≤ 100 := by
      simp only [List.mem_cons, List.not_mem_nil, or_false] at b4
      rcases b4 with rfl | rfl | rfl | rfl | rfl <;> decide
    simp only [beqT h3, cond_true, e4, Option.bind_some, hy, spec_l5DrawSchema.c22]
    exact ⟨_, _, rfl, hc4, hw.set (wfD_mk hv hwy.2.1 hwy.2.2.1 hwy.2.2.2), hls _⟩
  simp only [beqF h3, cond_false]
  by_cases h4 : w = 4
  · simp only [beqT h4, cond_true, spec_l5DrawSchema.c22]
    rw [lim_ok (by simp; omega), cond_true]
    exact ⟨_, _, rfl, hc3, hw.app (WfDs.one (wfD_mk (by decide) z0 z0 z0)), by simp; omega⟩
  simp only [beqF h4, cond_false]
  by_cases h5 : w = 5
  · obtain ⟨v, c4, e4, _, b4, hc4⟩ := below_ok k 2 (by omega) c3 hc3
    have b4 := b4 (by omega)
    simp only [beqT h5, cond_true, e4, Option.bind_some]
    rw [w64 (by omega) (by omega)]
    obtain ⟨c', l', g1, g2, g3, g4⟩ := deepS_ok k (4 + v) (by omega) 5 k 0 c4 [((⟨#[]⟩ : ByteArray), 7, 0, 1, ())] hc4 (WfDs.one (wfD_mk (by decide) (i64s (by omega) (by omega)) z0 (i64s (by omega) (by omega)))) (by omega) (by omega) (by omega) (by simp)
    exact ⟨c', l', g1, g2, g3, by simp at g4; omega⟩
  simp only [beqF h5, cond_false, spec_l5DrawSchema.c22]
  exact ⟨_, _, rfl, hc3, hw, by omega⟩

theorem drawSchemaTree_ok (hk : 1000000 ≤ k) (t : List Int) (ht : t.length ≤ 1048576) : ∃ l, spec_DrawSchemaTree k t = some ((), l) ∧ WfDs l ∧ l.length ≤ 100 := by
  unfold spec_DrawSchemaTree
  obtain ⟨c, e, hc⟩ := new_ok k hk t ht
  simp only [e, Option.bind_some]
  obtain ⟨c', l, e1, _, hw, hl⟩ := drawSchema_ok k (by omega) c hc
  simp only [e1, Option.bind_some]
  exact ⟨l, rfl, hw, hl⟩
end Go.Law
