/- The functions that write and read bits side by side. -/
import Derived.Test.YtmdmkakkodeniaaLawVar
import Derived.Test.YtmdmkakkodeniaaLawBits
set_option linter.unusedVariables false
set_option linter.unusedSimpArgs false
namespace Go.Law
open Go.Am Go.Fn
variable (k : Nat)

theorem idx8 {p : Nat} (h : p < 1152921504606846976) : IntKind.wrap .i64 (Int.tdiv (p : Int) 8) = ((p / 8 : Nat) : Int) := by
  rw [tdiv8 (by omega), w64 (by omega) (by omega)]; omega
theorem idm8 (p : Nat) : Int.tmod (p : Int) 8 = ((p % 8 : Nat) : Int) := by
  rw [tmod8 (by omega)]; omega

theorem orbyte {M p b : Nat} (h : M < 2 ^ p) (hb : b ≤ 1) : bits .or .u8 ((M / 256 ^ (p / 8) % 256 : Nat) : Int) (shlI .u8 (b : Int) ((p % 8 : Nat) : Int)) = ((M / 256 ^ (p / 8) + b * 2 ^ (p % 8) : Nat) : Int) := by
  have h1 := byte_low h
  have h2 := byte_sum h hb
  have h3 := Nat.mod_lt p (show 8 > 0 by decide)
  have h4 : M / 256 ^ (p / 8) % 256 = M / 256 ^ (p / 8) := Nat.mod_eq_of_lt (by omega)
  rw [h4]
  have := or_shl .u8 (a := M / 256 ^ (p / 8)) (b := b) (i := p % 8) (show p % 8 ≤ 8 by omega) h1 (show _ < 2 ^ 8 by omega)
  rw [w8 (by omega) (by omega)] at this
  rw [this, w8 (by omega) (by omega)]

theorem low_lt {M0 u q j : Nat} (h : M0 < 2 ^ q) : M0 + (u % 2 ^ j) * 2 ^ q < 2 ^ (q + j) := by
  have h1 := Nat.mod_lt u (Nat.two_pow_pos j)
  have h2 : (u % 2 ^ j + 1) * 2 ^ q ≤ 2 ^ j * 2 ^ q := Nat.mul_le_mul_right _ h1
  rw [Nat.add_mul, Nat.one_mul] at h2
  rw [Nat.pow_add, Nat.mul_comm (2 ^ q)]
  omega

theorem low_succ (M0 u q j : Nat) : M0 + (u % 2 ^ j) * 2 ^ q + (u / 2 ^ j % 2) * 2 ^ (q + j) = M0 + (u % 2 ^ (j + 1)) * 2 ^ q := by
  rw [mod_succ, Nat.add_mul, Nat.mul_assoc (u / 2 ^ j % 2), ← Nat.pow_add, Nat.add_comm j q, Nat.add_assoc]

theorem shr_bit (v : Int) {j : Nat} (hj : j < 64) : bits .and .i64 (shrI .i64 v (j : Int)) 1 = ((u64 v / 2 ^ j % 2 : Nat) : Int) := by
  rw [shrI_eq .i64 v j (show j ≤ 64 by omega), and1, bit_eq v hj]

theorem packed_inner (L3 : Int → (List Int) → Int → Int → (List Int) → Option (Unit × (List Int))) (vs : List Int) (len v : Int) (w i q L M0 : Nat) (hw : w ≤ 64) (hq : (i : Int) * (w : Int) = (q : Int)) (hqL : q + w ≤ 8 * L) (hL : L < 1000000) (hi : i < 1000000) (hM : M0 < 2 ^ q) :
    ∀ (m n j : Nat), j + m = w → m < n → impl_packed.l6 k L3 n (w : Int) (i : Int) v vs len (i : Int) (w : Int) (j : Int) (leB L (M0 + (u64 v % 2 ^ j) * 2 ^ q)) = L3 (w : Int) vs len ((i + 1 : Nat) : Int) (leB L (M0 + (u64 v % 2 ^ w) * 2 ^ q)) := by
  intro m
  induction m with
  | zero =>
    intro n j hj hn
    obtain ⟨n, rfl⟩ : ∃ x, n = x + 1 := ⟨n - 1, by omega⟩
    obtain rfl : j = w := by omega
    simp only [impl_packed.l6, decide_eq_false (show ¬ (j : Int) < (j : Int) by omega), cond_false]
    rw [w64 (by omega) (by omega)]
    congr 1
  | succ m ih =>
    intro n j hj hn
    obtain ⟨n, rfl⟩ : ∃ x, n = x + 1 := ⟨n - 1, by omega⟩
    have hp : IntKind.wrap .i64 (IntKind.wrap .i64 ((i : Int) * (w : Int)) + (j : Int)) = ((q + j : Nat) : Int) := by
      rw [hq, w64 (x := (q : Int)) (by omega) (by omega), w64 (by omega) (by omega)]; omega
    have hlt := low_lt (u := u64 v) (j := j) hM
    have hb : u64 v / 2 ^ j % 2 ≤ 1 := by omega
    have hg : rdL (leB L (M0 + u64 v % 2 ^ j * 2 ^ q)) (((q + j) / 8 : Nat) : Int) = some _ := leB_get? (by omega)
    have hbi : IntKind.wrap .u8 ((u64 v / 2 ^ j % 2 : Nat) : Int) = ((u64 v / 2 ^ j % 2 : Nat) : Int) := w8 (by omega) (by omega)
    simp only [impl_packed.l6, decide_eq_true (show (j : Int) < (w : Int) by omega), cond_true, hp, idx8 (show q + j < 1152921504606846976 by omega), idm8, hg, Option.bind_some, decide_eq_true (show (0 : Int) ≤ (j : Int) by omega), decide_eq_true (show (0 : Int) ≤ (((q + j) % 8 : Nat) : Int) by omega), shr_bit v (show j < 64 by omega), hbi, orbyte hlt hb, Int.toNat_natCast, leB_set (show q + j < 8 * L by omega) hlt hb, low_succ]
    rw [w64 (by omega) (by omega)]
    exact ih n (j + 1) (by omega) (by omega)

def packV (w : Nat) (vs : List Int) : Nat := packN w (vs.map u64)

theorem packed_loop (w L : Nat) (hw : w ≤ 64) (hL : L < 1000000) (hk : w < k) (vs : List Int) (hvs : vs.length < 1000000) (hb : vs.length * w ≤ 8 * L) : ∀ (post pre : List Int) (n : Nat), vs = pre ++ post → post.length < n →
    impl_packed.l3 k n (w : Int) vs (vs.length : Int) (pre.length : Int) (leB L (packV w pre)) = some ((), leB L (packV w vs)) := by
  intro post
  induction post with
  | nil =>
    intro pre n hv hn
    obtain ⟨n, rfl⟩ : ∃ x, n = x + 1 := ⟨n - 1, by omega⟩
    have : vs = pre := by simpa using hv
    subst this
    simp only [impl_packed.l3, decide_eq_false (show ¬ (vs.length : Int) < (vs.length : Int) by omega), cond_false]
  | cons v post ih =>
    intro pre n hv hn
    simp only [List.length_cons] at hn
    obtain ⟨n, rfl⟩ : ∃ x, n = x + 1 := ⟨n - 1, by omega⟩
    have hlen : vs.length = pre.length + (post.length + 1) := by rw [hv]; simp
    have hg : rdL vs (pre.length : Int) = some v := by rw [hv, rdL_nat, List.getElem?_append_right (Nat.le_refl _)]; simp
    have hM := packN_lt w (pre.map u64)
    rw [List.length_map] at hM
    have hmul : pre.length * w + w ≤ vs.length * w := by
      have : (pre.length + 1) * w ≤ vs.length * w := Nat.mul_le_mul_right _ (by omega)
      rw [Nat.add_mul, Nat.one_mul] at this
      exact this
    have hi := packed_inner k (impl_packed.l3 k n) vs (vs.length : Int) v w pre.length (pre.length * w) L (packV w pre) hw (by simp) (by omega) hL (by omega) hM w k 0 (by omega) hk
    simp only [Nat.pow_zero, Nat.mod_one, Nat.zero_mul, Nat.add_zero] at hi
    simp only [impl_packed.l3, decide_eq_true (show (pre.length : Int) < (vs.length : Int) by omega), cond_true, hg, Option.bind_some]
    have h0 : ((0 : Nat) : Int) = 0 := rfl
    rw [h0] at hi
    rw [hi]
    have := ih (pre ++ [v]) n (by rw [hv]; simp) (by omega)
    rw [List.length_append, List.length_singleton] at this
    rw [← this]
    unfold packV
    rw [List.map_append, List.map_singleton, packN_snoc, List.length_map]

theorem len8 {n w : Nat} (hn : n ≤ 100000) (hw : w ≤ 64) : IntKind.wrap .i64 (Int.tdiv (IntKind.wrap .i64 (IntKind.wrap .i64 ((n : Int) * (w : Int)) + 7)) 8) = ((bytesOf n w : Nat) : Int) ∧ bytesOf n w < 1000000 ∧ n * w ≤ 8 * bytesOf n w := by
  have h1 : n * w ≤ 100000 * 64 := Nat.mul_le_mul hn hw
  have h2 : (n : Int) * (w : Int) = ((n * w : Nat) : Int) := by simp
  unfold bytesOf
  rw [h2]
  generalize n * w = q at h1 ⊢
  rw [w64 (x := (q : Int)) (by omega) (by omega), w64 (x := (q : Int) + 7) (by omega) (by omega), tdiv8 (by omega), w64 (by omega) (by omega)]
  omega

/-- n numbers of w bits each -/
def packB (w : Nat) (vs : List Int) : List Int := leB (bytesOf vs.length w) (packV w vs)

theorem packed_eq (vs : List Int) (w : Nat) (hw : w ≤ 64) (hvs : vs.length ≤ 100000) (hk : vs.length < k) (hk2 : w < k) : impl_packed k vs (w : Int) = some ((), packB w vs) := by
  obtain ⟨h1, h2, h3⟩ := len8 hvs hw
  unfold impl_packed
  rw [h1, okLen_ok (by omega) (by omega), cond_true, Int.toNat_natCast, ← leB_zero]
  exact packed_loop k w _ hw h2 hk2 vs (by omega) h3 vs [] k rfl hk

/-- the same of the reference -/
theorem l9_inner (L3 : (List Int) → Int → Int → (List Int) → Option (Unit × (List Int))) (vs : List Int) (v : Int) (w i q L M0 : Nat) (hw : w ≤ 64) (hq : (i : Int) * (w : Int) = (q : Int)) (hqL : q + w ≤ 8 * L) (hL : L < 1000000) (hi : i < 1000000) (hM : M0 < 2 ^ q) (hv : rdL vs (i : Int) = some v) :
    ∀ (m n j : Nat), j + m = w → m < n → spec_l9Bits.l6 k L3 n vs (w : Int) (i : Int) (j : Int) (leB L (M0 + (u64 v % 2 ^ j) * 2 ^ q)) = L3 vs (w : Int) ((i + 1 : Nat) : Int) (leB L (M0 + (u64 v % 2 ^ w) * 2 ^ q)) := by
  intro m
  induction m with
  | zero =>
    intro n j hj hn
    obtain ⟨n, rfl⟩ : ∃ x, n = x + 1 := ⟨n - 1, by omega⟩
    obtain rfl : j = w := by omega
    simp only [spec_l9Bits.l6, decide_eq_false (show ¬ (j : Int) < (j : Int) by omega), cond_false]
    rw [w64 (by omega) (by omega)]
    congr 1
  | succ m ih =>
    intro n j hj hn
    obtain ⟨n, rfl⟩ : ∃ x, n = x + 1 := ⟨n - 1, by omega⟩
    have hp : IntKind.wrap .i64 (IntKind.wrap .i64 ((i : Int) * (w : Int)) + (j : Int)) = ((q + j : Nat) : Int) := by
      rw [hq, w64 (x := (q : Int)) (by omega) (by omega), w64 (by omega) (by omega)]; omega
    have hlt := low_lt (u := u64 v) (j := j) hM
    have hb : u64 v / 2 ^ j % 2 ≤ 1 := by omega
    have hg : rdL (leB L (M0 + u64 v % 2 ^ j * 2 ^ q)) (((q + j) / 8 : Nat) : Int) = some _ := leB_get? (by omega)
    have hi := ih n (j + 1) (by omega) (by omega)
    rw [← low_succ] at hi
    simp only [spec_l9Bits.l6, decide_eq_true (show (j : Int) < (w : Int) by omega), cond_true, hp, idx8 (show q + j < 1152921504606846976 by omega), idm8, hg, hv, Option.bind_some, decide_eq_true (show (0 : Int) ≤ (j : Int) by omega), decide_eq_true (show (0 : Int) ≤ (((q + j) % 8 : Nat) : Int) by omega), shr_bit v (show j < 64 by omega), spec_l9Bits.c7]
    rw [w64 (x := (j : Int) + 1) (by omega) (by omega), show ((j : Int) + 1) = ((j + 1 : Nat) : Int) by omega]
    rcases Nat.eq_zero_or_pos (u64 v / 2 ^ j % 2) with h0 | h0
    · rw [h0] at hi ⊢
      rw [bneF (by rfl), cond_false]
      simpa using hi
    · have h1 : u64 v / 2 ^ j % 2 = 1 := by omega
      have ho := orbyte hlt (show 1 ≤ 1 by omega)
      have hs := leB_set (L := L) (show q + j < 8 * L by omega) hlt (show 1 ≤ 1 by omega)
      have h11 : ((1 : Nat) : Int) = 1 := rfl
      rw [h11] at ho
      rw [h1] at hi ⊢
      rw [bneT (by decide), cond_true, ho, Int.toNat_natCast, hs]
      exact hi

theorem l9_loop (w L : Nat) (hw : w ≤ 64) (hL : L < 1000000) (hk : w < k) (vs : List Int) (hvs : vs.length < 1000000) (hb : vs.length * w ≤ 8 * L) : ∀ (post pre : List Int) (n : Nat), vs = pre ++ post → post.length < n →
    spec_l9Bits.l3 k n vs (w : Int) (pre.length : Int) (leB L (packV w pre)) = some ((), leB L (packV w vs)) := by
  intro post
  induction post with
  | nil =>
    intro pre n hv hn
    obtain ⟨n, rfl⟩ : ∃ x, n = x + 1 := ⟨n - 1, by omega⟩
    have : vs = pre := by simpa using hv
    subst this
    simp only [spec_l9Bits.l3, decide_eq_false (show ¬ (vs.length : Int) < (vs.length : Int) by omega), cond_false]
  | cons v post ih =>
    intro pre n hv hn
    simp only [List.length_cons] at hn
    obtain ⟨n, rfl⟩ : ∃ x, n = x + 1 := ⟨n - 1, by omega⟩
    have hlen : vs.length = pre.length + (post.length + 1) := by rw [hv]; simp
    have hg : rdL vs (pre.length : Int) = some v := by rw [hv, rdL_nat, List.getElem?_append_right (Nat.le_refl _)]; simp
    have hM := packN_lt w (pre.map u64)
    rw [List.length_map] at hM
    have hmul : pre.length * w + w ≤ vs.length * w := by
      have : (pre.length + 1) * w ≤ vs.length * w := Nat.mul_le_mul_right _ (by omega)
      rw [Nat.add_mul, Nat.one_mul] at this
      exact this
    have hi := l9_inner k (spec_l9Bits.l3 k n) vs v w pre.length (pre.length * w) L (packV w pre) hw (by simp) (by omega) hL (by omega) hM hg w k 0 (by omega) hk
    simp only [Nat.pow_zero, Nat.mod_one, Nat.zero_mul, Nat.add_zero] at hi
    simp only [spec_l9Bits.l3, decide_eq_true (show (pre.length : Int) < (vs.length : Int) by omega), cond_true]
    have h0 : ((0 : Nat) : Int) = 0 := rfl
    rw [h0] at hi
    rw [hi]
    have := ih (pre ++ [v]) n (by rw [hv]; simp) (by omega)
    rw [List.length_append, List.length_singleton] at this
    rw [← this]
    unfold packV
    rw [List.map_append, List.map_singleton, packN_snoc, List.length_map]

theorem l9Bits_eq (vs : List Int) (w : Nat) (hw : w ≤ 64) (hvs : vs.length ≤ 100000) (hk : vs.length < k) (hk2 : w < k) : spec_l9Bits k vs (w : Int) = some ((), packB w vs) := by
  obtain ⟨h1, h2, h3⟩ := len8 hvs hw
  unfold spec_l9Bits
  rw [h1, okLen_ok (by omega) (by omega), cond_true, Int.toNat_natCast, ← leB_zero]
  exact l9_loop k w _ hw h2 hk2 vs (by omega) h3 vs [] k rfl hk

/-! ### reading -/
theorem bitAt_eq (pre post : List Int) (L M p : Nat) (hp : p < 8 * L) (hl : pre.length + L < 100000000000000000) : impl_BitAt k (pre ++ (leB L M ++ post)) ((8 * pre.length + p : Nat) : Int) = some ((M / 2 ^ p % 2 : Nat) : Int) := by
  unfold impl_BitAt
  have hd : (8 * pre.length + p) / 8 = pre.length + p / 8 := by omega
  have hm : (8 * pre.length + p) % 8 = p % 8 := by omega
  have hg : rdL (pre ++ (leB L M ++ post)) ((pre.length + p / 8 : Nat) : Int) = some ((M / 256 ^ (p / 8) % 256 : Nat) : Int) := by
    rw [rdL_nat, List.getElem?_append_right (by omega), List.getElem?_append_left (by rw [leB_len]; omega), Nat.add_sub_cancel_left]
    exact leB_get? (by omega)
  simp only [decide_eq_false (show ¬ (((8 * pre.length + p : Nat) : Int) < 0) by omega), cond_false, idx8 (show 8 * pre.length + p < 1152921504606846976 by omega), idm8, hd, hm, hg, Option.bind_some,
    decide_eq_false (show ¬ (((pre.length + p / 8 : Nat) : Int) ≥ ((pre ++ (leB L M ++ post)).length : Int)) by simp [leB_len]; omega), decide_eq_true (show (0 : Int) ≤ ((p % 8 : Nat) : Int) by omega), cond_true]
  rw [shrI_eq .u8 _ (p % 8) (show p % 8 ≤ 8 by omega)]
  have h1 : ((M / 256 ^ (p / 8) % 256 : Nat) : Int) / 2 ^ (p % 8) = ((M / 256 ^ (p / 8) % 256 / 2 ^ (p % 8) : Nat) : Int) := by simp
  rw [h1]
  have hlt : M / 256 ^ (p / 8) % 256 / 2 ^ (p % 8) < 256 := Nat.lt_of_le_of_lt (Nat.div_le_self _ _) (Nat.mod_lt _ (by decide))
  have hb := leB_bit M p
  generalize M / 256 ^ (p / 8) % 256 / 2 ^ (p % 8) = x at hlt hb
  have h2 := bits_mask .u8 8 (by decide) wraps_u8 1 (by decide) (x : Int) (by omega) (by omega)
  have h2 : bits .and .u8 (x : Int) 1 = (x : Int) % 2 := h2
  rw [h2, w64 (by omega) (by omega), ← hb]
  simp

def unpackAt (w M i : Nat) : Int := IntKind.wrap .i64 ((M / 2 ^ (i * w) % 2 ^ w : Nat) : Int)

theorem un_inner (L3 : (List Int) → Int → Int → Int → Int → (List Int) → Option (Unit × (List Int))) (pre post : List Int) (L M w i q : Nat) (t14 : Int) (hw : w ≤ 64) (hq : (i : Int) * (w : Int) = (q : Int)) (hqn : i * w = q) (hqL : q + w ≤ 8 * L) (hl : pre.length + L < 10000000000000000) (hi : i < 1000000) (o : List Int) (ho : o.length < 1000000) :
    ∀ (m n j : Nat), j + m = w → m < n → impl_unpacked.l7 k L3 n (pre ++ (leB L M ++ post)) (pre.length : Int) (w : Int) (i : Int) (IntKind.wrap .i64 ((M / 2 ^ q % 2 ^ j : Nat) : Int)) t14 (i : Int) (w : Int) (j : Int) o = L3 (pre ++ (leB L M ++ post)) (pre.length : Int) (w : Int) t14 ((i + 1 : Nat) : Int) (o ++ [unpackAt w M i]) := by
  intro m
  induction m with
  | zero =>
    intro n j hj hn
    obtain ⟨n, rfl⟩ : ∃ x, n = x + 1 := ⟨n - 1, by omega⟩
    obtain rfl : j = w := by omega
    simp only [impl_unpacked.l7, decide_eq_false (show ¬ (j : Int) < (j : Int) by omega), cond_false]
    rw [lim_ok (by simp; omega), cond_true, w64 (x := (i : Int) + 1) (by omega) (by omega)]
    unfold unpackAt
    rw [hqn]
    congr 1
  | succ m ih =>
    intro n j hj hn
    obtain ⟨n, rfl⟩ : ∃ x, n = x + 1 := ⟨n - 1, by omega⟩
    have hp : IntKind.wrap .i64 (IntKind.wrap .i64 (IntKind.wrap .i64 (8 * (pre.length : Int)) + IntKind.wrap .i64 ((i : Int) * (w : Int))) + (j : Int)) = ((8 * pre.length + (q + j) : Nat) : Int) := by
      rw [hq, w64 (x := (q : Int)) (by omega) (by omega), w64 (x := 8 * (pre.length : Int)) (by omega) (by omega), w64 (x := 8 * (pre.length : Int) + (q : Int)) (by omega) (by omega), w64 (by omega) (by omega)]; omega
    have hb := bitAt_eq k pre post L M (q + j) (by omega) (by omega)
    simp only [impl_unpacked.l7, decide_eq_true (show (j : Int) < (w : Int) by omega), cond_true, hp, hb, Option.bind_some, decide_eq_true (show (0 : Int) ≤ (j : Int) by omega)]
    have hlt : M / 2 ^ q % 2 ^ j < 2 ^ j := Nat.mod_lt _ (Nat.two_pow_pos j)
    have hjj : 2 ^ (j + 1) ≤ 2 ^ 64 := Nat.pow_le_pow_right (by decide) (by omega)
    have hb1 : M / 2 ^ (q + j) % 2 ≤ 1 := by omega
    have hb2 : M / 2 ^ (q + j) % 2 * 2 ^ j ≤ 1 * 2 ^ j := Nat.mul_le_mul_right _ hb1
    have ho := or_shl .i64 (a := M / 2 ^ q % 2 ^ j) (b := M / 2 ^ (q + j) % 2) (i := j) (show j ≤ 64 by omega) hlt (show _ < 2 ^ 64 by rw [Nat.pow_succ] at hjj; omega)
    rw [ho]
    have hs : M / 2 ^ q % 2 ^ j + M / 2 ^ (q + j) % 2 * 2 ^ j = M / 2 ^ q % 2 ^ (j + 1) := by
      rw [mod_succ, Nat.div_div_eq_div_mul, ← Nat.pow_add]
    rw [hs, w64 (x := (j : Int) + 1) (by omega) (by omega), show ((j : Int) + 1) = ((j + 1 : Nat) : Int) by omega]
    exact ih n (j + 1) (by omega) (by omega)

theorem unpacked_loop (pre post : List Int) (L M w N : Nat) (hw : w ≤ 64) (hN : N * w ≤ 8 * L) (hl : pre.length + L < 10000000000000000) (hN2 : N < 1000000) (hk : w < k) :
    ∀ (m n i : Nat) (o : List Int), i + m = N → m < n → o.length = i → impl_unpacked.l3 k n (pre ++ (leB L M ++ post)) (pre.length : Int) (w : Int) (N : Int) (i : Int) o = some ((), o ++ (List.range' i m).map (unpackAt w M)) := by
  intro m
  induction m with
  | zero =>
    intro n i o hi hn ho
    obtain ⟨n, rfl⟩ : ∃ x, n = x + 1 := ⟨n - 1, by omega⟩
    simp only [impl_unpacked.l3, decide_eq_false (show ¬ (i : Int) < (N : Int) by omega), cond_false]
    simp
  | succ m ih =>
    intro n i o hi hn ho
    obtain ⟨n, rfl⟩ : ∃ x, n = x + 1 := ⟨n - 1, by omega⟩
    have hmul : i * w + w ≤ N * w := by
      have : (i + 1) * w ≤ N * w := Nat.mul_le_mul_right _ (by omega)
      rw [Nat.add_mul, Nat.one_mul] at this
      exact this
    have hi' := un_inner k (impl_unpacked.l3 k n) pre post L M w i (i * w) (N : Int) hw (by simp) rfl (by omega) hl (by omega) o (by omega) w k 0 (by omega) hk
    simp only [Nat.pow_zero, Nat.mod_one] at hi'
    simp only [impl_unpacked.l3, decide_eq_true (show (i : Int) < (N : Int) by omega), cond_true]
    have h0 : ((0 : Nat) : Int) = 0 := rfl
    have hw0 : IntKind.wrap .i64 0 = 0 := rfl
    rw [h0, hw0] at hi'
    rw [hi', ih n (i + 1) _ (by omega) (by omega) (by simp; omega)]
    simp [List.range'_succ]

theorem unpacked_eq (pre post : List Int) (L M w N : Nat) (hw : w ≤ 64) (hN : N * w ≤ 8 * L) (hl : pre.length + L < 10000000000000000) (hN2 : N < 1000000) (hk : w < k) (hk2 : N < k) :
    impl_unpacked k (pre ++ (leB L M ++ post)) (pre.length : Int) (N : Int) (w : Int) = some ((), (List.range N).map (unpackAt w M)) := by
  unfold impl_unpacked
  have := unpacked_loop k pre post L M w N hw hN hl hN2 hk N k 0 [] (by omega) hk2 rfl
  rw [List.range_eq_range']
  simpa using this

/-- what was written is read -/
theorem unpack_pack (w : Nat) (vs : List Int) (hv : ∀ v, v ∈ vs → I64 v ∧ u64 v < 2 ^ w) (i : Nat) (v : Int) (h : vs[i]? = some v) : unpackAt w (packV w vs) i = v := by
  obtain ⟨h1, h2⟩ := hv v (List.mem_of_getElem? h)
  unfold unpackAt packV
  rw [packN_get w _ i (u64 v) (by simp [h]), Nat.mod_eq_of_lt h2, wrap_u64 h1]

theorem unpack_all (w : Nat) (vs : List Int) (hv : ∀ v, v ∈ vs → I64 v ∧ u64 v < 2 ^ w) (N : Nat) (hN : N ≤ vs.length) : (List.range N).map (unpackAt w (packV w vs)) = vs.take N := by
  apply List.ext_getElem (by simp; omega)
  intro i h1 h2
  simp only [List.length_map, List.length_range] at h1
  simp only [List.getElem_map, List.getElem_range, List.getElem_take]
  exact unpack_pack w vs hv i _ (List.getElem?_eq_getElem (by omega))
end Go.Law
