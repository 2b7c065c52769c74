import Derived.Test.YtbmgddnjdcagpaaAmStep
import Derived.Laws.BitsLemmas
import Derived.Laws.Strings
import Derived.Test.YtbmgddnjdcagpaaTRCF0
set_option linter.unnecessarySimpa false
set_option linter.unusedSimpArgs false
set_option linter.unusedVariables false
set_option linter.unusedSectionVars false
section
/- Plain laws of the words that clean functions use: whole numbers that wrap, bits, rows, strings. -/
set_option linter.unusedVariables false
set_option linter.unusedSimpArgs false
namespace Go.Law
open Go.Am

/-! ### numbers that wrap -/
theorem w64 {x : Int} (h0 : -9223372036854775808 ≤ x) (h1 : x < 9223372036854775808) : IntKind.wrap .i64 x = x := by
  rw [IntKind.wrap_i64]; omega
theorem w64_lo (x : Int) : -9223372036854775808 ≤ IntKind.wrap .i64 x := by rw [IntKind.wrap_i64]; omega
theorem w64_hi (x : Int) : IntKind.wrap .i64 x < 9223372036854775808 := by rw [IntKind.wrap_i64]; omega
theorem wu64_eq (x : Int) : IntKind.wrap .u64 x = x % 18446744073709551616 := by simp [IntKind.wrap, IntKind.bits, IntKind.signed]
theorem wu8_eq (x : Int) : IntKind.wrap .u8 x = x % 256 := IntKind.wrap_u8 x
theorem w8 {x : Int} (h0 : 0 ≤ x) (h1 : x < 256) : IntKind.wrap .u8 x = x := by rw [wu8_eq]; omega
theorem wraps_u64 (n : Int) (h₀ : 0 ≤ n) (h₁ : n < 2 ^ 64) : IntKind.u64.wrap n = n := by rw [wu64_eq]; omega
theorem wraps_i64 (n : Int) (h₀ : 0 ≤ n) (h₁ : n < 2 ^ 63) : IntKind.i64.wrap n = n := by rw [IntKind.wrap_i64]; omega

def I64 (x : Int) : Prop := -9223372036854775808 ≤ x ∧ x < 9223372036854775808

/-! ### bits -/
theorem and_mask_i64 (x : Int) (i : Nat) (hi : i ≤ 62) : bits .and .i64 x (2 ^ i - 1) = x % 2 ^ i := by
  have hpos : 0 < 2 ^ i := Nat.two_pow_pos i
  have hle : 2 ^ i ≤ 2 ^ 62 := Nat.pow_le_pow_right (by decide) hi
  have hc : ((2 : Int) ^ i - 1) = ((2 ^ i - 1 : Nat) : Int) := by
    rw [Int.natCast_sub hpos]; simp
  have hb : (2 ^ i - 1) % 2 ^ IntKind.i64.bits = 2 ^ i - 1 := Nat.mod_eq_of_lt (show 2 ^ i - 1 < 2 ^ 64 by omega)
  rw [hc]
  simp only [bits, BitVec.ofInt_natCast, BitVec.toNat_and, BitVec.toNat_ofNat, hb, Nat.and_two_pow_sub_one_eq_mod, BitVec.toNat_ofInt]
  show IntKind.wrap .i64 (((x % ((2 ^ 64 : Nat) : Int)).toNat % 2 ^ i : Nat) : Int) = _
  have h1 : (x % ((2 ^ 64 : Nat) : Int)).toNat % 2 ^ i < 2 ^ i := Nat.mod_lt _ hpos
  have h2 : (((x % ((2 ^ 64 : Nat) : Int)).toNat % 2 ^ i : Nat) : Int) = x % 2 ^ i := by
    have h3 : 0 ≤ x % ((2 ^ 64 : Nat) : Int) := Int.emod_nonneg _ (by decide)
    rw [Int.natCast_emod, Int.toNat_of_nonneg h3]
    have hd : ((2 ^ i : Nat) : Int) ∣ ((2 ^ 64 : Nat) : Int) := by
      have := Nat.pow_dvd_pow 2 (show i ≤ 64 by omega)
      exact_mod_cast this
    rw [Int.emod_emod_of_dvd x hd]
    simp
  rw [h2]
  have h4 : x % 2 ^ i < 2 ^ i := Int.emod_lt_of_pos _ (by exact_mod_cast hpos)
  have h5 : 0 ≤ x % 2 ^ i := Int.emod_nonneg _ (by have : (0 : Int) < 2 ^ i := by exact_mod_cast hpos
                                                   omega)
  have h6 : (2 : Int) ^ i ≤ 2 ^ 62 := by exact_mod_cast hle
  rw [w64 (by omega) (by omega)]

theorem and255 (x : Int) : bits .and .i64 x 255 = x % 256 := and_mask_i64 x 8 (by decide)
theorem and1 (x : Int) : bits .and .i64 x 1 = x % 2 := and_mask_i64 x 1 (by decide)
theorem and30 (x : Int) : bits .and .i64 x 1073741823 = x % 1073741824 := and_mask_i64 x 30 (by decide)

theorem u64_and127 {x : Int} (h0 : 0 ≤ x) (h1 : x < 18446744073709551616) : bits .and .u64 x 127 = x % 128 :=
  bits_mask .u64 64 (by decide) wraps_u64 7 (by decide) x h0 h1
theorem u8_and127 {x : Int} (h0 : 0 ≤ x) (h1 : x < 256) : bits .and .u8 x 127 = x % 128 :=
  bits_mask .u8 8 (by decide) wraps_u8 7 (by decide) x h0 h1

theorem bits_or_comm (k : IntKind) (a b : Int) : bits .or k a b = bits .or k b a := by
  simp only [bits, BitVec.toNat_or]
  rw [Nat.or_comm]

theorem u64_or128 {x : Int} (h0 : 0 ≤ x) (h1 : x < 128) : bits .or .u64 x 128 = x + 128 := by
  rw [bits_or_comm, bits_join .u64 64 (by decide) wraps_u64 7 128 x (by decide) (by decide) (by decide) h0 (by simpa using h1) (by omega)]
  omega

/-- a | (b << i), where a lies below -/
theorem u64_or_shl {a b : Int} {i : Nat} (ha0 : 0 ≤ a) (ha : a < 2 ^ i) (hb0 : 0 ≤ b) (hb : b * 2 ^ i < 2 ^ 64) (hi : i ≤ 64) : bits .or .u64 a (b * 2 ^ i) = a + b * 2 ^ i := by
  have hp : (2 : Int) ^ i ≤ 2 ^ 64 := by
    have := Nat.pow_le_pow_right (n := 2) (by decide) hi
    exact_mod_cast this
  have hp0 : (0 : Int) < 2 ^ i := by have := Nat.two_pow_pos i; exact_mod_cast this
  rw [bits_or_comm, bits_join .u64 64 (by decide) wraps_u64 i (b * 2 ^ i) a (Int.mul_nonneg hb0 (by omega)) (Int.mul_emod_left _ _) hb ha0 ha (by omega)]
  omega

theorem shrI_eq (k : IntKind) (a : Int) (n : Nat) (h : n ≤ k.bits) : shrI k a (n : Int) = a / 2 ^ n := by
  unfold shrI
  rw [Int.toNat_natCast, Nat.min_eq_left h, Int.fdiv_eq_ediv_of_nonneg]
  have := Nat.two_pow_pos n
  have : (0 : Int) < 2 ^ n := by exact_mod_cast this
  omega
theorem shr7 (a : Int) : shrI .u64 a 7 = a / 128 := shrI_eq .u64 a 7 (by decide)
theorem shr1u (a : Int) : shrI .u64 a 1 = a / 2 := shrI_eq .u64 a 1 (by decide)
theorem shr63 (a : Int) : shrI .i64 a 63 = a / 9223372036854775808 := shrI_eq .i64 a 63 (by decide)

/-! ### conditions -/
theorem lim_ok {n : Nat} (h : n ≤ 4294967296) : lim n = true := by unfold lim; exact Nat.ble_eq_true_of_le h
theorem okLen_ok {n : Int} (h0 : 0 ≤ n) (h : n ≤ 4294967296) : okLen n = true := by simp [okLen, h0, h]
theorem inSl_ok {l h : Int} {n : Nat} (h0 : 0 ≤ l) (h1 : l ≤ h) (h2 : h ≤ n) : inSl l h n = true := by simp [inSl, h0, h1, h2]

theorem beqF {a b : Int} (h : ¬ a = b) : (a == b) = false := by simpa using h

theorem bneT {a b : Int} (h : ¬ a = b) : (a != b) = true := by simpa using h
theorem beqT {a b : Int} (h : a = b) : (a == b) = true := by simpa using h
theorem bneF {a b : Int} (h : a = b) : (a != b) = false := by simpa using h

theorem csf (b c : Bool) : (cond b (some c) (some false) : Option Bool) = some (b && c) := by cases b <;> rfl
theorem cst (b c : Bool) : (cond b (some true) (some c) : Option Bool) = some (b || c) := by cases b <;> rfl
theorem csb (b c d : Bool) : (cond b (some c) (some d) : Option Bool) = some (cond b c d) := by cases b <;> rfl

/-! ### rows -/
theorem rdL_nat {α : Type} (xs : List α) (n : Nat) : rdL xs (n : Int) = xs[n]? := rfl
theorem rdL_some {α : Type} {xs : List α} {i : Int} (h0 : 0 ≤ i) (h1 : i < xs.length) : ∃ x, rdL xs i = some x ∧ xs[i.toNat]? = some x := by
  obtain ⟨n, rfl⟩ := Int.eq_ofNat_of_zero_le h0
  have h : n < xs.length := by omega
  exact ⟨xs[n], by rw [rdL_nat, List.getElem?_eq_getElem h], by simp [h]⟩
theorem rdL_of {α : Type} {xs : List α} {i : Int} {x : α} (h0 : 0 ≤ i) (h : xs[i.toNat]? = some x) : rdL xs i = some x := by
  obtain ⟨n, rfl⟩ := Int.eq_ofNat_of_zero_le h0
  exact h
theorem rdL_zero {α : Type} (xs : List α) : rdL xs 0 = xs[0]? := rfl

theorem drop_get {α : Type} {b : List α} {p : Nat} {y : α} {r : List α} (h : b.drop p = y :: r) : b[p]? = some y ∧ p < b.length ∧ b.drop (p + 1) = r := by
  have h1 := List.getElem?_drop (xs := b) (i := p) (j := 0)
  rw [h] at h1
  have hl := congrArg List.length h
  simp at hl
  refine ⟨by simpa using h1.symm, by omega, ?_⟩
  rw [← List.drop_drop, h]
  rfl

theorem drop_app {α : Type} {b x r : List α} {p : Nat} (h : b.drop p = x ++ r) : b.drop (p + x.length) = r ∧ p + x.length ≤ max p b.length := by
  rw [← List.drop_drop, h]
  have hl := congrArg List.length h
  simp at hl
  exact ⟨by simp, by omega⟩


/-! ### strings -/
theorem eqS_iff (a b : ByteArray) : eqS a b = decide (a = b) := by
  unfold eqS
  have h : a.toList = b.toList ↔ a = b := by
    constructor
    · intro h
      rw [ByteArray.toList_eq, ByteArray.toList_eq] at h
      cases a; cases b
      simp only [ByteArray.mk.injEq]
      exact Array.ext' h
    · rintro rfl; rfl
  by_cases e : a = b
  · simp [e]
  · simp only [e, decide_false]
    have : a.toList ≠ b.toList := fun h' => e (h.1 h')
    simp [this]

theorem intsStr_strInts (s : ByteArray) : intsStr (strInts s) = s := by
  unfold intsStr strInts strOfNums
  cases s with
  | mk d =>
    simp only [List.map_map]
    congr 1
    have : ((fun n : Int => UInt8.ofNat n.toNat) ∘ fun c : UInt8 => (c.toNat : Int)) = id := by
      funext c
      simp
    rw [this]
    simp

theorem strInts_length (s : ByteArray) : (strInts s).length = s.size := by
  unfold strInts
  rw [List.length_map, Array.length_toList]
  rfl

theorem strInts_byte (s : ByteArray) (x : Int) (h : x ∈ strInts s) : 0 ≤ x ∧ x < 256 := by
  unfold strInts at h
  obtain ⟨c, _, hc⟩ := List.mem_map.1 h
  have := c.toNat_lt
  omega

theorem intsStr_size (xs : List Int) : (intsStr xs).size = xs.length := strOfNums_size xs

theorem strInts_intsStr : ∀ (xs : List Int), (∀ x, x ∈ xs → 0 ≤ x ∧ x < 256) → strInts (intsStr xs) = xs
  | [], _ => rfl
  | x :: xs, h => by
    have ih := strInts_intsStr xs (fun y hy => h y (List.mem_cons_of_mem _ hy))
    obtain ⟨h0, h1⟩ := h x (List.mem_cons_self ..)
    obtain ⟨n, rfl⟩ := Int.eq_ofNat_of_zero_le h0
    have hn : n < 256 := by omega
    have e : strInts (intsStr ((n : Int) :: xs)) = (((UInt8.ofNat n).toNat : Nat) : Int) :: strInts (intsStr xs) := rfl
    rw [e, ih, UInt8.toNat_ofNat_of_lt' hn]

end Go.Law
end

section
/- The small tests that both make. -/
set_option linter.unusedVariables false
set_option linter.unusedSimpArgs false
namespace Go.Law
open Go.Am Go.Fn

theorem within_eq (k : Nat) (a b c : Int) : impl_within k a b c = some (decide (b ≤ a) && decide (a ≤ c)) := by
  unfold impl_within
  simp only [csf, Option.bind_some, ge_iff_le]
theorem l1In_eq (k : Nat) (a b c : Int) : spec_l1In k a b c = some (decide (b ≤ a) && decide (a ≤ c)) := by
  unfold spec_l1In
  simp only [csf, Option.bind_some, ge_iff_le]

theorem getMid {α : Type} (pre post : List α) (x : α) : rdL (pre ++ x :: post) (pre.length : Int) = some x := by
  rw [rdL_nat, List.getElem?_append_right (Nat.le_refl _)]; simp
theorem setMid {α : Type} (pre post : List α) (x y : α) : List.set (pre ++ x :: post) (Int.toNat (pre.length : Int)) y = pre ++ y :: post := by
  rw [Int.toNat_natCast, List.set_append_right _ _ (Nat.le_refl _)]; simp
theorem midSnoc {α : Type} (pre post : List α) (x : α) : pre ++ x :: post = (pre ++ [x]) ++ post := by simp

end Go.Law
end

section
/- The types of values. -/
set_option linter.unusedVariables false
set_option linter.unusedSimpArgs false
namespace Go.Law
open Go.Am Go.Fn
variable (k : Nat)

def tyOk (t : Int) : Bool := t == 0 || t == 1 || t == 2 || t == 5 || t == 6

theorem l5Type_eq (t : Int) : spec_l5Type k t = some (tyOk t) := by
  unfold spec_l5Type spec_l5Type.c7 tyOk
  by_cases h0 : t = 0
  · subst h0; simp
  by_cases h1 : t = 1
  · subst h1; simp
  by_cases h2 : t = 2
  · subst h2; simp
  by_cases h5 : t = 5
  · subst h5; simp
  by_cases h6 : t = 6
  · subst h6; simp
  simp [beqF h0, beqF h1, beqF h2, beqF h5, beqF h6, h0, h1, h2, h5, h6]

theorem typeOk_eq (t : Int) : impl_TypeOk k t = some (tyOk t) := by
  unfold impl_TypeOk tyOk
  simp only [within_eq, Option.bind_some, cst]
  congr 1
  by_cases h : 0 ≤ t ∧ t ≤ 2
  · rw [decide_eq_true h.1, decide_eq_true h.2]
    rcases (show t = 0 ∨ t = 1 ∨ t = 2 by omega) with rfl | rfl | rfl <;> rfl
  · have : (decide (0 ≤ t) && decide (t ≤ 2)) = false := by
      rw [Bool.eq_false_iff]; intro hh
      simp only [Bool.and_eq_true, decide_eq_true_eq] at hh
      exact h hh
    rw [this, beqF (show ¬ t = 0 by omega), beqF (show ¬ t = 1 by omega), beqF (show ¬ t = 2 by omega)]
    rfl

end Go.Law
end

section
/- Varints: what is put is got again. -/
set_option linter.unusedVariables false
set_option linter.unusedSimpArgs false
namespace Go.Law
open Go.Am Go.Fn

/-- the bytes of a varint -/
def uvB : Nat → Nat → List Int
  | 0, n => [(n : Int)]
  | f + 1, n => if 127 < n then ((n % 128 + 128 : Nat) : Int) :: uvB f (n / 128) else [(n : Int)]

theorem uvB_len : ∀ f n, 0 < (uvB f n).length ∧ (uvB f n).length ≤ f + 1
  | 0, n => by simp [uvB]
  | f + 1, n => by
    have := uvB_len f (n / 128)
    unfold uvB; split <;> simp <;> omega

theorem uvB_byte : ∀ f n, n < 128 ^ (f + 1) → ∀ x, x ∈ uvB f n → 0 ≤ x ∧ x < 256
  | 0, n, h, x, hx => by simp [uvB] at hx; subst hx; simp at h; omega
  | f + 1, n, h, x, hx => by
    unfold uvB at hx
    split at hx
    · rcases List.mem_cons.1 hx with rfl | hx
      · omega
      · exact uvB_byte f (n / 128) (by rw [Nat.pow_succ] at h; exact Nat.div_lt_of_lt_mul (by rw [Nat.mul_comm]; exact h)) x hx
    · simp at hx; subst hx; omega

theorem putLoop (k : Nat) : ∀ (f n t : Nat) (acc : List Int), t < 128 ^ (f + 1) → t < 2 ^ 64 → f < n → acc.length + f ≤ 4294967000 →
    impl_UvarPut.l3 k n (t : Int) acc = some ((), acc ++ uvB f t) := by
  intro f
  induction f with
  | zero =>
    intro n t acc h h64 hn hl
    obtain ⟨n, rfl⟩ : ∃ m, n = m + 1 := ⟨n - 1, by omega⟩
    have h : t < 128 := by simpa using h
    simp only [impl_UvarPut.l3, show decide ((t : Int) > 127) = false by simp; omega, cond_false, lim_ok (show acc.length + [IntKind.wrap .u8 (t : Int)].length ≤ 4294967296 by simp; omega), cond_true]
    rw [w8 (by omega) (by omega)]
    rfl
  | succ f ih =>
    intro n t acc h h64 hn hl
    obtain ⟨n, rfl⟩ : ∃ m, n = m + 1 := ⟨n - 1, by omega⟩
    by_cases ht : 127 < t
    · have e1 : bits .or .u64 (bits .and .u64 (t : Int) 127) 128 = ((t % 128 + 128 : Nat) : Int) := by
        rw [u64_and127 (by omega) (by omega), u64_or128 (by omega) (by omega)]; omega
      have e2 : shrI .u64 (t : Int) 7 = ((t / 128 : Nat) : Int) := by
        rw [shr7]; omega
      have h' : t / 128 < 128 ^ (f + 1) := by rw [Nat.pow_succ] at h; exact Nat.div_lt_of_lt_mul (by rw [Nat.mul_comm]; exact h)
      simp only [impl_UvarPut.l3, show decide ((t : Int) > 127) = true by simp; omega, cond_true, e1, e2]
      rw [w8 (by omega) (by omega)]
      simp only [lim_ok (show acc.length + [((t % 128 + 128 : Nat) : Int)].length ≤ 4294967296 by simp; omega), cond_true]
      rw [ih n (t / 128) _ h' (by omega) (by omega) (by simp; omega)]
      simp only [uvB, if_pos ht, List.append_assoc]
      rfl
    · simp only [impl_UvarPut.l3, show decide ((t : Int) > 127) = false by simp; omega, cond_false, lim_ok (show acc.length + [IntKind.wrap .u8 (t : Int)].length ≤ 4294967296 by simp; omega), cond_true]
      rw [w8 (by omega) (by omega)]
      simp only [uvB, if_neg ht]

/-- the bytes of a whole number as a varint -/
def uv (x : Int) : List Int := uvB 9 (x % 18446744073709551616).toNat

theorem uv_len (x : Int) : 0 < (uv x).length ∧ (uv x).length ≤ 10 := uvB_len _ _
theorem uv_byte (x : Int) : ∀ y, y ∈ uv x → 0 ≤ y ∧ y < 256 := uvB_byte _ _ (by omega)

theorem uvarPut (k : Nat) (hk : 100 ≤ k) (x : Int) : impl_UvarPut k x = some ((), uv x) := by
  unfold impl_UvarPut
  rw [wu64_eq]
  have h := putLoop k 9 k (x % 18446744073709551616).toNat [] (by omega) (by omega) (by omega) (by simp)
  rw [Int.toNat_of_nonneg (by omega)] at h
  rw [h]
  rfl

theorem getLoop (k : Nat) (b : List Int) (p : Nat) (hb : b.length < 4611686018427387904) : ∀ (f n i acc m : Nat) (rest : List Int), i + f = 9 → f < n → b.drop (p + i) = uvB f m ++ rest →
    acc < 2 ^ (7 * i) → acc + m * 2 ^ (7 * i) < 2 ^ 64 → m < 128 ^ (f + 1) →
    impl_UvarGet.l5 k n b (p : Int) (acc : Int) (i : Int) = some (IntKind.wrap .i64 ((acc + m * 2 ^ (7 * i) : Nat) : Int), ((p + i + (uvB f m).length : Nat) : Int), true) := by
  intro f
  induction f with
  | zero =>
    intro n i acc m rest hi hn hd hacc htot hm
    obtain ⟨n, rfl⟩ : ∃ j, n = j + 1 := ⟨n - 1, by omega⟩
    obtain rfl : i = 9 := by omega
    have hm : m < 128 := by simpa using hm
    have hlen : p + 9 < b.length := by
      have := congrArg List.length hd
      simp [uvB] at this
      omega
    have hget : rdL b ((p + 9 : Nat) : Int) = some (m : Int) := by
      rw [rdL_nat]
      have := List.getElem?_drop (xs := b) (i := p + 9) (j := 0)
      rw [hd] at this
      simpa [uvB] using this.symm
    have hm1 : m ≤ 1 := by
      have : (2 : Nat) ^ (7 * 9) = 9223372036854775808 := by decide
      rw [this] at htot
      omega
    have e1 : IntKind.wrap .i64 ((b.length : Int) - (p : Int)) = (b.length : Int) - p := w64 (by omega) (by omega)
    have e2 : IntKind.wrap .i64 ((p : Int) + ((9 : Nat) : Int)) = ((p + 9 : Nat) : Int) := by rw [w64 (by omega) (by omega)]; omega
    have e3 : IntKind.wrap .i64 (7 * ((9 : Nat) : Int)) = 63 := by decide
    have e4 : shlI .u64 (IntKind.wrap .u64 (bits .and .u8 (m : Int) 127)) 63 = (m : Int) * 2 ^ 63 := by
      rw [u8_and127 (by omega) (by omega), wu64_eq]
      unfold shlI
      rw [wu64_eq]
      simp [IntKind.bits]
      omega
    have e5 : IntKind.wrap .i64 (((p + 9 : Nat) : Int) + 1) = ((p + 9 + 1 : Nat) : Int) := by rw [w64 (by omega) (by omega)]; omega
    simp only [impl_UvarGet.l5, e1, e2, e3, e4, e5, hget]
    have c1 : decide (((9 : Nat) : Int) < 10) = true := by decide
    have c0 : (((9 : Nat) : Int) == 9) = true := by decide
    have c5 : decide ((0 : Int) ≤ 63) = true := by decide
    have c2 : decide (((9 : Nat) : Int) < (b.length : Int) - p) = true := by simp; omega
    have c3 : decide ((m : Int) > 1) = false := by simp; omega
    have c4 : decide ((m : Int) < 128) = true := by simp; omega
    simp only [c0, c1, c2, c3, c4, c5, e4, cond_true, cond_false, Option.bind_some]
    rw [u64_or_shl (i := 63) (by omega) (by exact_mod_cast hacc) (by omega) (by omega) (by omega)]
    simp [uvB]
  | succ f ih =>
    intro n i acc m rest hi hn hd hacc htot hm
    obtain ⟨n, rfl⟩ : ∃ j, n = j + 1 := ⟨n - 1, by omega⟩
    have hP : 0 < 2 ^ (7 * i) := Nat.two_pow_pos _
    have hP7 : 2 ^ (7 * (i + 1)) = 128 * 2 ^ (7 * i) := by rw [Nat.mul_add, Nat.pow_add]; simp [Nat.mul_comm]
    have hi9 : i < 9 := by omega
    have hdv := Nat.div_add_mod m 128
    have hmul : m * 2 ^ (7 * i) = (m % 128) * 2 ^ (7 * i) + (m / 128) * (128 * 2 ^ (7 * i)) := by
      have : m * 2 ^ (7 * i) = (128 * (m / 128) + m % 128) * 2 ^ (7 * i) := by rw [hdv]
      rw [this]
      grind
    generalize hPdef : 2 ^ (7 * i) = P at *
    have hlt1 : m % 128 * P < 2 ^ 64 := by omega
    have hlen : p + i < b.length := by
      have := congrArg List.length hd
      have := (uvB_len (f + 1) m).1
      simp at *
      omega
    -- the byte at hand
    have hbyte : ∀ y l, uvB (f + 1) m = y :: l → rdL b ((p + i : Nat) : Int) = some y := by
      intro y l hy
      rw [rdL_nat]
      have := List.getElem?_drop (xs := b) (i := p + i) (j := 0)
      rw [hd, hy] at this
      simpa using this.symm
    have e1 : IntKind.wrap .i64 ((b.length : Int) - (p : Int)) = (b.length : Int) - p := w64 (by omega) (by omega)
    have e2 : IntKind.wrap .i64 ((p : Int) + (i : Int)) = ((p + i : Nat) : Int) := by rw [w64 (by omega) (by omega)]; omega
    have e3 : IntKind.wrap .i64 (7 * (i : Int)) = ((7 * i : Nat) : Int) := by rw [w64 (by omega) (by omega)]; omega
    have e4 : ∀ y : Int, 0 ≤ y → y < 256 → y % 128 = ((m % 128 : Nat) : Int) → shlI .u64 (IntKind.wrap .u64 (bits .and .u8 y 127)) ((7 * i : Nat) : Int) = ((m % 128 : Nat) : Int) * (P : Int) := by
      intro y hy0 hy1 hy
      rw [u8_and127 hy0 hy1, hy, wu64_eq]
      unfold shlI
      rw [wu64_eq]
      have : min (((7 * i : Nat) : Int)).toNat (IntKind.bits .u64) = 7 * i := by simp [IntKind.bits]; omega
      rw [this]
      have hP' : (2 : Int) ^ (7 * i) = (P : Int) := by rw [← hPdef]; simp
      rw [hP']
      have h1 : (((m % 128 : Nat) : Int) % 18446744073709551616) = ((m % 128 : Nat) : Int) := by omega
      rw [h1]
      have h2 : ((m % 128 : Nat) : Int) * (P : Int) = ((m % 128 * P : Nat) : Int) := by simp
      rw [h2]
      omega
    have e5 : IntKind.wrap .i64 (((p + i : Nat) : Int) + 1) = ((p + i + 1 : Nat) : Int) := by rw [w64 (by omega) (by omega)]; omega
    have e6 : IntKind.wrap .i64 ((i : Int) + 1) = ((i + 1 : Nat) : Int) := by rw [w64 (by omega) (by omega)]; omega
    have c1 : decide ((i : Int) < 10) = true := by simp; omega
    have c2 : decide ((i : Int) < (b.length : Int) - p) = true := by simp; omega
    have c3 : ((i : Int) == 9) = false := by simp; omega
    have c5 : decide ((0 : Int) ≤ ((7 * i : Nat) : Int)) = true := decide_eq_true (by omega)
    have eor : bits .or .u64 (acc : Int) (((m % 128 : Nat) : Int) * (P : Int)) = ((acc + m % 128 * P : Nat) : Int) := by
      have hP' : (P : Int) = 2 ^ (7 * i) := by rw [← hPdef]; simp
      rw [hP', u64_or_shl (i := 7 * i) (by omega) (by rw [← hP']; omega) (by omega) (by rw [← hP']; have : ((m % 128 : Nat) : Int) * (P : Int) = ((m % 128 * P : Nat) : Int) := by simp
                                                                                        rw [this]; omega) (by omega)]
      rw [← hP']
      simp
    by_cases hm' : 127 < m
    · have hu : uvB (f + 1) m = ((m % 128 + 128 : Nat) : Int) :: uvB f (m / 128) := by simp only [uvB, if_pos hm']
      have hb1 := hbyte _ _ hu
      simp only [impl_UvarGet.l5, e1, e2, e3, hb1, c1, c2, c3, c5, cond_true, cond_false, Option.bind_some]
      rw [e4 _ (by omega) (by omega) (by omega), eor, e6]
      have c4 : decide (((m % 128 + 128 : Nat) : Int) < 128) = false := by simp; omega
      simp only [c4, cond_false]
      rw [ih n (i + 1) (acc + m % 128 * P) (m / 128) rest (by omega) (by omega) ?_ ?_ ?_ ?_]
      · rw [hP7, hu, show acc + m % 128 * P + m / 128 * (128 * P) = acc + m * P by omega, List.length_cons, show p + (i + 1) + (uvB f (m / 128)).length = p + i + ((uvB f (m / 128)).length + 1) by omega]
      · rw [← Nat.add_assoc, ← List.drop_drop, hd, hu]
        rfl
      · rw [hP7]
        have : m % 128 * P ≤ 127 * P := Nat.mul_le_mul_right _ (by omega)
        omega
      · rw [hP7]; omega
      · rw [Nat.pow_succ] at hm; exact Nat.div_lt_of_lt_mul (by rw [Nat.mul_comm]; exact hm)
    · have hu : uvB (f + 1) m = [(m : Int)] := by simp only [uvB, if_neg hm']
      have hb1 := hbyte _ _ hu
      simp only [impl_UvarGet.l5, e1, e2, e3, hb1, c1, c2, c3, c5, cond_true, cond_false, Option.bind_some]
      rw [e4 _ (by omega) (by omega) (by omega), eor]
      have c4 : decide ((m : Int) < 128) = true := by simp; omega
      have hmm : m % 128 = m := Nat.mod_eq_of_lt (by omega)
      simp only [c4, cond_true, e5, hu, hmm]
      rfl

theorem uvarGet (k : Nat) (hk : 100 ≤ k) (b : List Int) (p : Nat) (x : Int) (rest : List Int) (hb : b.length < 4611686018427387904) (hd : b.drop p = uv x ++ rest) (h0 : -9223372036854775808 ≤ x) (h1 : x < 9223372036854775808) :
    impl_UvarGet k b (p : Int) = some (x, ((p + (uv x).length : Nat) : Int), true) := by
  unfold impl_UvarGet
  have c : decide ((p : Int) < 0) = false := decide_eq_false (by omega)
  simp only [c, cond_false]
  have h := getLoop k b p hb 9 k 0 0 (x % 18446744073709551616).toNat rest rfl (by omega) hd (by simp) (by simp; omega) (by omega)
  rw [show ((0 : Nat) : Int) = 0 from rfl] at h
  rw [h]
  simp only [Nat.mul_zero, Nat.pow_zero, Nat.mul_one, Nat.zero_add, Nat.add_zero, uv]
  rw [Int.toNat_of_nonneg (by omega), IntKind.wrap_i64]
  congr 2
  omega

theorem xor_zero (a : Int) (h0 : -9223372036854775808 ≤ a) (h1 : a < 9223372036854775808) : bits .xor .i64 a 0 = a := by
  have e : (BitVec.ofInt (IntKind.bits .i64) a ^^^ BitVec.ofInt (IntKind.bits .i64) 0) = BitVec.ofInt (IntKind.bits .i64) a := by simp
  simp only [bits, e, BitVec.toNat_ofInt]
  show IntKind.wrap .i64 (((a % ((2 ^ 64 : Nat) : Int)).toNat : Nat) : Int) = a
  rw [IntKind.wrap_i64]
  omega

theorem xor_ones (a : Int) (h0 : -9223372036854775808 ≤ a) (h1 : a < 9223372036854775808) : bits .xor .i64 a (-1) = -a - 1 := by
  have e : (BitVec.ofInt (IntKind.bits .i64) a ^^^ BitVec.ofInt (IntKind.bits .i64) (-1)) = ~~~ BitVec.ofInt (IntKind.bits .i64) a := by
    have : BitVec.ofInt (IntKind.bits .i64) (-1) = BitVec.allOnes (IntKind.bits .i64) := by decide
    rw [this, BitVec.xor_allOnes]
  simp only [bits, e, BitVec.toNat_not, BitVec.toNat_ofInt]
  show IntKind.wrap .i64 ((2 ^ 64 - 1 - (a % ((2 ^ 64 : Nat) : Int)).toNat : Nat) : Int) = _
  rw [IntKind.wrap_i64]
  omega

def zig (x : Int) : Int := if 0 ≤ x then IntKind.wrap .i64 (x * 2) else -IntKind.wrap .i64 (x * 2) - 1

theorem zig_eq (k : Nat) (x : Int) (h0 : -9223372036854775808 ≤ x) (h1 : x < 9223372036854775808) : impl_Zig k x = some (zig x) := by
  unfold impl_Zig zig
  have e : shlI .i64 x 1 = IntKind.wrap .i64 (x * 2) := by
    unfold shlI
    simp [IntKind.bits]
  have := w64_lo (x * 2)
  have := w64_hi (x * 2)
  rw [e, shr63]
  split
  · rw [show x / 9223372036854775808 = 0 by omega, xor_zero _ (by assumption) (by assumption)]
  · rw [show x / 9223372036854775808 = -1 by omega, xor_ones _ (by assumption) (by assumption)]

theorem zig_range (x : Int) : -9223372036854775808 ≤ zig x ∧ zig x < 9223372036854775808 := by
  have := w64_lo (x * 2)
  have := w64_hi (x * 2)
  unfold zig
  split <;> omega

theorem zag_zig (k : Nat) (x : Int) (h0 : -9223372036854775808 ≤ x) (h1 : x < 9223372036854775808) : impl_Zag k (zig x) = some x := by
  unfold impl_Zag
  rw [and1, wu64_eq, shr1u, w64 (by omega) (by omega)]
  have hz : zig x = if 0 ≤ x then (x * 2 + 9223372036854775808) % 18446744073709551616 - 9223372036854775808 else -((x * 2 + 9223372036854775808) % 18446744073709551616 - 9223372036854775808) - 1 := by
    unfold zig; rw [IntKind.wrap_i64]
  by_cases hx : 0 ≤ x
  · rw [if_pos hx] at hz
    rw [show zig x % 2 = 0 by omega, show IntKind.wrap .i64 (0 - 0) = 0 by decide, xor_zero _ (by omega) (by omega)]
    congr 1
    omega
  · rw [if_neg hx] at hz
    rw [show zig x % 2 = 1 by omega, show IntKind.wrap .i64 (0 - 1) = -1 by decide, xor_ones _ (by omega) (by omega)]
    congr 1
    omega

theorem zigPut (k : Nat) (hk : 100 ≤ k) (x : Int) (h0 : -9223372036854775808 ≤ x) (h1 : x < 9223372036854775808) : impl_ZigPut k x = some ((), uv (zig x)) := by
  unfold impl_ZigPut
  rw [zig_eq k x h0 h1]
  simp only [Option.bind_some, uvarPut k hk]

end Go.Law
end

section
/- Trees: which are right, by both; and a right one is read from its bytes as it was. -/
set_option linter.unusedVariables false
set_option linter.unusedSimpArgs false
namespace Go.Law
open Go.Am Go.Fn

def isItem (t : Int) : Bool := t == 5 || t == 6 || t == 8 || t == 9 || t == 12
def isKind (t : Int) : Bool := t == 1 || t == 2 || isItem t

theorem isType_eq (k : Nat) (t : Int) (b : Bool) : impl_isType k t b = some (isItem t || ((t == 1 || t == 2) && !b)) := by
  unfold impl_isType impl_isType.c4 impl_isType.c10 isItem
  by_cases h1 : t = 1
  · subst h1; simp
  by_cases h2 : t = 2
  · subst h2; simp
  by_cases h5 : t = 5
  · subst h5; simp
  by_cases h6 : t = 6
  · subst h6; simp
  by_cases h8 : t = 8
  · subst h8; simp
  by_cases h9 : t = 9
  · subst h9; simp
  by_cases h12 : t = 12
  · subst h12; simp
  simp [beqF h1, beqF h2, beqF h5, beqF h6, beqF h8, beqF h9, beqF h12, h1, h2, h5, h6, h8, h9, h12]

theorem l4Kind_eq (k : Nat) (t : Int) : spec_l4Kind k t = some (isKind t) := by
  unfold spec_l4Kind spec_l4Kind.c9 isKind isItem
  by_cases h1 : t = 1
  · subst h1; simp
  by_cases h2 : t = 2
  · subst h2; simp
  by_cases h5 : t = 5
  · subst h5; simp
  by_cases h6 : t = 6
  · subst h6; simp
  by_cases h8 : t = 8
  · subst h8; simp
  by_cases h9 : t = 9
  · subst h9; simp
  by_cases h12 : t = 12
  · subst h12; simp
  simp [beqF h1, beqF h2, beqF h5, beqF h6, beqF h8, beqF h9, beqF h12, h1, h2, h5, h6, h8, h9, h12]

theorem l4Item_eq (k : Nat) (t : Int) : spec_l4Item k t = some (isItem t) := by
  unfold spec_l4Item
  rw [l4Kind_eq]
  simp only [Option.bind_some, csf]
  congr 1
  unfold isKind
  by_cases h1 : t = 1
  · subst h1; rfl
  by_cases h2 : t = 2
  · subst h2; rfl
  simp [beqF h1, beqF h2, bneT h1, bneT h2]

/-- what a node has by its type is as told, but its parts -/
def nok (n : TNode) : Bool :=
  if n.1 = 5 then (decide (-2147483648 ≤ n.2.2.1) && decide (n.2.2.1 ≤ 2147483647)) && eqS n.2.2.2.1 ⟨#[]⟩ && n.2.2.2.2.1 == 0
  else if n.1 = 6 then eqS n.2.2.2.1 ⟨#[]⟩ && n.2.2.2.2.1 == 0
  else if n.1 = 8 then n.2.2.1 == 0 && decide ((n.2.2.2.1.size : Int) ≤ 300) && n.2.2.2.2.1 == 0
  else if n.1 = 9 then eqS n.2.2.2.1 ⟨#[]⟩ && decide (n.2.2.2.2.1 ≥ 0) && ((n.2.2.2.2.1 == 0 && n.2.2.1 == 0) || (decide (n.2.2.2.2.1 > 0) && isItem n.2.2.1))
  else if n.1 = 12 then n.2.2.1 == 0 && eqS n.2.2.2.1 ⟨#[]⟩ && decide (n.2.2.2.2.1 ≥ 0)
  else (n.1 == 1 || n.1 == 2) && n.2.2.1 == 0 && eqS n.2.2.2.1 ⟨#[]⟩ && n.2.2.2.2.1 == 0

theorem nodeOk_eq (k : Nat) (n : TNode) : impl_nodeOk k n = some (nok n) := by
  unfold impl_nodeOk impl_isInt32 nok
  simp only [within_eq, isType_eq, Option.bind_some, csf, cst]
  by_cases h5 : n.1 = 5
  · simp [h5]
  by_cases h6 : n.1 = 6
  · simp [h6]
  by_cases h8 : n.1 = 8
  · simp [h8]
  by_cases h9 : n.1 = 9
  · simp [h9]
  by_cases h12 : n.1 = 12
  · simp [h12]
  simp [beqF h5, beqF h6, beqF h8, beqF h9, beqF h12, h5, h6, h8, h9, h12, isItem]

theorem plain_eq (k : Nat) (n : TNode) : spec_l4Plain k n = some (nok n) := by
  unfold spec_l4Plain spec_l4Plain.c4 spec_l4Int nok
  simp only [l1In_eq, l4Item_eq, Option.bind_some, csf, cst]
  by_cases h1 : n.1 = 1
  · simp [h1]
  by_cases h2 : n.1 = 2
  · simp [h2]
  by_cases h5 : n.1 = 5
  · simp [h5]
  by_cases h6 : n.1 = 6
  · simp [h6]
  by_cases h8 : n.1 = 8
  · simp [h8]
  by_cases h9 : n.1 = 9
  · simp [h9]
  by_cases h12 : n.1 = 12
  · simp [h12]
  simp [beqF h1, beqF h2, beqF h5, beqF h6, beqF h8, beqF h9, beqF h12, h1, h2, h5, h6, h8, h9, h12]

/-! ### which lists are trees -/
/-- the parts of a node, where S tells the parts' own extent -/
def PartsR (S : Nat → Nat → Prop) (l : List TNode) (n : TNode) : Nat → Nat → Int → Nat → Prop
  | 0, pos, _, nx => pos = nx
  | c + 1, pos, last, nx => ∃ p mid, l[pos]? = some p ∧ (n.1 = 9 → p.1 = n.2.2.1 ∧ p.2.1 = 0) ∧ (n.1 = 12 → last + 1 ≤ p.2.1 ∧ p.2.1 ≤ 1000) ∧ S pos mid ∧ PartsR S l n c mid p.2.1 nx

/-- the node at a place, with its parts, ends at another; 'af' tells so for all of them -/
def Sub (l : List TNode) (af : List Int) : Nat → Nat → Nat → Prop
  | 0, _, _ => False
  | d + 1, at_, nx => ∃ n, l[at_]? = some n ∧ nok n = true ∧ PartsR (Sub l af d) l n n.2.2.2.2.1.toNat (at_ + 1) 0 nx ∧ af[at_]? = some (nx : Int)

theorem PartsR_mono {S S' : Nat → Nat → Prop} {l : List TNode} {n : TNode} (hS : ∀ a b, S a b → a < b) : ∀ (c pos : Nat) (last : Int) (nx : Nat), (∀ a b, pos ≤ a → b ≤ nx → S a b → S' a b) → PartsR S l n c pos last nx → PartsR S' l n c pos last nx ∧ pos ≤ nx
  | 0, pos, last, nx, h, e => ⟨e, by have e : pos = nx := e; omega⟩
  | c + 1, pos, last, nx, h, ⟨p, mid, h1, h2, h3, h4, h5⟩ => by
    have hlt := hS _ _ h4
    obtain ⟨k1, k2⟩ := PartsR_mono hS c mid p.2.1 nx (fun a b ha hb => h a b (by omega) hb) h5
    exact ⟨⟨p, mid, h1, h2, h3, h _ _ (Nat.le_refl _) k2 h4, k1⟩, by omega⟩

theorem Sub_lt {l : List TNode} {af : List Int} : ∀ (d a b : Nat), Sub l af d a b → a < b
  | 0, _, _, h => h.elim
  | d + 1, a, b, ⟨n, h1, h2, h3, h4⟩ => by
    have := (PartsR_mono (S' := fun _ _ => True) (Sub_lt d) _ _ _ _ (fun _ _ _ _ _ => trivial) h3).2
    omega

theorem Sub_frame {l : List TNode} {af af' : List Int} : ∀ (d a b : Nat), (∀ i, a ≤ i → i < b → af'[i]? = af[i]?) → Sub l af d a b → Sub l af' d a b
  | 0, _, _, _, h => h.elim
  | d + 1, a, b, hf, ⟨n, h1, h2, h3, h4⟩ => by
    have hlt := Sub_lt (d + 1) a b ⟨n, h1, h2, h3, h4⟩
    refine ⟨n, h1, h2, (PartsR_mono (Sub_lt d) _ _ _ _ (fun x y hx hy hs => ?_) h3).1, by rw [hf a (Nat.le_refl _) hlt]; exact h4⟩
    exact Sub_frame d x y (fun i hi1 hi2 => hf i (by omega) (by omega)) hs

def WfN (n : TNode) : Prop := I64 n.1 ∧ I64 n.2.1 ∧ I64 n.2.2.1 ∧ I64 n.2.2.2.2.1 ∧ n.2.2.2.1.size ≤ 1073741824

theorem checkLoop (k : Nat) (l : List TNode) (hl : l.length ≤ 1500) (d D deep : Nat) (hdeep : deep ≤ 12)
    (ih : ∀ (at_ : Nat) (af : List Int), af.length = l.length →
      ∃ v af', spec_l4Check.rec k D l (at_ : Int) ((deep + 1 : Nat) : Int) = some v ∧ impl_tree_measure.rec k D (at_ : Int) ((deep + 1 : Nat) : Int) (true, (l, (), ())) af = some (v, ((l, (), ()), af')) ∧ af'.length = l.length ∧
        (v = -1 ∨ ∃ nx : Nat, v = nx ∧ Sub l af' d at_ nx ∧ nx ≤ l.length ∧ ∀ i, (i < at_ ∨ nx ≤ i) → af'[i]? = af[i]?))
    (at_ : Nat) (hat : at_ < l.length) (n : TNode) (M : Int) (hM : n.2.2.2.2.1 = M) (hM1 : M < 9223372036854775808) : ∀ (f pos : Nat) (last i : Int) (af : List Int), l.length - pos < f → at_ < pos → 0 ≤ i → i ≤ M → pos ≤ l.length →
      (n.1 = 12 → 0 ≤ last ∧ last ≤ 1000) → af.length = l.length →
      ∃ v af', spec_l4Check.l7 k (spec_l4Check.rec k D) f l (deep : Int) (pos : Int) last i n = some v ∧ impl_tree_measure.l7 k (impl_tree_measure.rec k D) f (at_ : Int) (deep : Int) (pos : Int) last M i (l, (), ()) af n = some (v, ((l, (), ()), af')) ∧ af'.length = l.length ∧
        (v = -1 ∨ ∃ nx : Nat, v = nx ∧ PartsR (Sub l af' d) l n (M - i).toNat pos last nx ∧ nx ≤ l.length ∧ af'[at_]? = some (nx : Int) ∧ ∀ j, (j < pos ∨ nx ≤ j) → j ≠ at_ → af'[j]? = af[j]?) := by
  intro f
  induction f with
  | zero => intro pos last i af h; omega
  | succ f ihf =>
    intro pos last i af hf hpos hi0 hiM hpl hlast haf
    simp only [spec_l4Check.l7, impl_tree_measure.l7, hM]
    by_cases hlt : i < M
    · simp only [decide_eq_true hlt, cond_true]
      by_cases hpe : (pos : Int) ≥ (l.length : Int)
      · simp only [decide_eq_true hpe, cond_true]
        exact ⟨_, _, rfl, rfl, haf, .inl rfl⟩
      · simp only [decide_eq_false hpe, cond_false]
        obtain ⟨p, hp1, hp2⟩ := rdL_some (xs := l) (i := (pos : Int)) (by omega) (by omega)
        simp only [hp1, Option.bind_some, csf, cst, within_eq]
        have hp2 : l[pos]? = some p := by simpa using hp2
        -- the first condition
        by_cases hc1 : n.1 = 9 ∧ (p.1 ≠ n.2.2.1 ∨ p.2.1 ≠ 0)
        · have e1 : (n.1 == 9 && (p.1 != n.2.2.1 || p.2.1 != 0)) = true := by
            simp only [Bool.and_eq_true, Bool.or_eq_true, beq_iff_eq, bne_iff_ne]; exact hc1
          simp only [e1, Bool.true_or, cond_true]
          exact ⟨_, _, rfl, rfl, haf, .inl rfl⟩
        · have e1 : (n.1 == 9 && (p.1 != n.2.2.1 || p.2.1 != 0)) = false := by
            rw [Bool.eq_false_iff]
            intro h
            simp only [Bool.and_eq_true, Bool.or_eq_true, beq_iff_eq, bne_iff_ne] at h
            exact hc1 h
          simp only [e1, Bool.false_or, cond_false]
          by_cases hc2 : n.1 = 12 ∧ ¬ (last + 1 ≤ p.2.1 ∧ p.2.1 ≤ 1000)
          · have hw : IntKind.wrap .i64 (last + 1) = last + 1 := by
              have := hlast hc2.1
              exact w64 (by omega) (by omega)
            have e2 : (n.1 == 12 && (decide (p.2.1 ≤ last) || decide (p.2.1 > 1000))) = true := by
              simp only [Bool.and_eq_true, Bool.or_eq_true, beq_iff_eq, decide_eq_true_eq]
              exact ⟨hc2.1, by have := hc2.2; omega⟩
            have e3 : (cond (n.1 == 12) (some (!(decide (last + 1 ≤ p.2.1) && decide (p.2.1 ≤ 1000)))) (some false) : Option Bool) = some true := by
              rw [beqT hc2.1, cond_true]
              congr 1
              have := hc2.2
              simp only [Bool.not_eq_true', Bool.and_eq_false_iff, decide_eq_false_iff_not]
              omega
            rw [hw]
            simp only [e2, e3, Option.bind_some, cond_true]
            rw [csf] at e3
            simp only [Option.some.injEq] at e3
            simp only [e3, cond_true]
            exact ⟨_, _, rfl, rfl, haf, .inl rfl⟩
          · have e2 : (n.1 == 12 && (decide (p.2.1 ≤ last) || decide (p.2.1 > 1000))) = false := by
              rw [Bool.eq_false_iff]
              intro h
              simp only [Bool.and_eq_true, Bool.or_eq_true, beq_iff_eq, decide_eq_true_eq] at h
              exact hc2 ⟨h.1, by omega⟩
            have e3 : (n.1 == 12 && !(decide (IntKind.wrap .i64 (last + 1) ≤ p.2.1) && decide (p.2.1 ≤ 1000))) = false := by
              rw [Bool.eq_false_iff]
              intro h
              simp only [Bool.and_eq_true, beq_iff_eq, Bool.not_eq_true', Bool.and_eq_false_iff, decide_eq_false_iff_not] at h
              have hl := hlast h.1
              rw [w64 (by omega) (by omega)] at h
              exact hc2 ⟨h.1, by omega⟩
            simp only [e2, e3, cond_false]
            have hd1 : IntKind.wrap .i64 ((deep : Int) + 1) = ((deep + 1 : Nat) : Int) := by rw [w64 (by omega) (by omega)]; omega
            rw [hd1]
            obtain ⟨v, af1, s1, s2, s3, s4⟩ := ih pos af haf
            simp only [s1, s2, Option.bind_some]
            rcases s4 with rfl | ⟨mid, rfl, s5, s6, s7⟩
            · simp only [show decide ((-1 : Int) < 0) = true from rfl, cond_true]
              exact ⟨_, _, rfl, rfl, s3, .inl rfl⟩
            · have hml := Sub_lt _ _ _ s5
              have hm0 : decide ((mid : Int) < 0) = false := decide_eq_false (by omega)
              have hi1 : IntKind.wrap .i64 (i + 1) = i + 1 := w64 (by omega) (by omega)
              simp only [hm0, cond_false, hi1]
              obtain ⟨w, af2, t1, t2, t3, t4⟩ := ihf mid p.2.1 (i + 1) af1 (by omega) (by omega) (by omega) (by omega) s6 (fun h12 => by
                have h := fun hh => hc2 ⟨h12, hh⟩
                have hl := hlast h12
                omega) s3
              refine ⟨w, af2, t1, t2, t3, ?_⟩
              rcases t4 with h | ⟨nx, h1, h2, h3, h4, h5⟩
              · exact .inl h
              · have hmn := (PartsR_mono (S' := fun _ _ => True) (Sub_lt d) _ _ _ _ (fun _ _ _ _ _ => trivial) h2).2
                refine .inr ⟨nx, h1, ?_, h3, h4, fun j hj hja => ?_⟩
                · rw [show (M - i).toNat = (M - (i + 1)).toNat + 1 by omega]
                  refine ⟨p, mid, hp2, fun h9 => ?_, fun h12 => ?_, Sub_frame d pos mid (fun j hj1 hj2 => h5 j (.inl hj2) (by omega)) s5, h2⟩
                  · constructor
                    · exact Classical.byContradiction fun hh => hc1 ⟨h9, .inl hh⟩
                    · exact Classical.byContradiction fun hh => hc1 ⟨h9, .inr hh⟩
                  · exact Classical.byContradiction fun hh => hc2 ⟨h12, hh⟩
                · rw [h5 j (by omega) hja, s7 j (by omega)]
    · simp only [decide_eq_false hlt, cond_false]
      obtain ⟨y, hy1, hy2⟩ := rdL_some (xs := af) (i := (at_ : Int)) (by omega) (by omega)
      simp only [hy1, Option.bind_some]
      refine ⟨_, _, rfl, rfl, by simpa using haf, .inr ⟨pos, rfl, ?_, hpl, ?_, fun j _ hj => ?_⟩⟩
      · rw [show (M - i).toNat = 0 by omega]
        rfl
      · simp [List.getElem?_set, haf, hat]
      · simp [List.getElem?_set]
        intro h; omega

theorem check (k : Nat) (hk : 2000 ≤ k) (l : List TNode) (hl : l.length ≤ 1500) (hw : ∀ n, n ∈ l → WfN n) : ∀ (d D deep at_ : Nat) (af : List Int), d + deep = 13 → d < D → af.length = l.length →
      ∃ v af', spec_l4Check.rec k D l (at_ : Int) (deep : Int) = some v ∧ impl_tree_measure.rec k D (at_ : Int) (deep : Int) (true, (l, (), ())) af = some (v, ((l, (), ()), af')) ∧ af'.length = l.length ∧
        (v = -1 ∨ ∃ nx : Nat, v = nx ∧ Sub l af' d at_ nx ∧ nx ≤ l.length ∧ ∀ i, (i < at_ ∨ nx ≤ i) → af'[i]? = af[i]?) := by
  intro d
  induction d with
  | zero =>
    intro D deep at_ af hd hD haf
    obtain ⟨D, rfl⟩ : ∃ m, D = m + 1 := ⟨D - 1, by omega⟩
    obtain rfl : deep = 13 := by omega
    simp only [spec_l4Check.rec, impl_tree_measure.rec, spec_l4Check.b, impl_tree_measure.b, cst, Option.bind_some, show decide (((13 : Nat) : Int) > 12) = true from rfl, Bool.or_true, cond_true]
    exact ⟨_, _, rfl, rfl, haf, .inl rfl⟩
  | succ d ih =>
    intro D deep at_ af hd hD haf
    obtain ⟨D, rfl⟩ : ∃ m, D = m + 1 := ⟨D - 1, by omega⟩
    simp only [spec_l4Check.rec, impl_tree_measure.rec, spec_l4Check.b, impl_tree_measure.b, cst, Option.bind_some, cond_true]
    by_cases hat : (at_ : Int) ≥ (l.length : Int)
    · simp only [decide_eq_true hat, Bool.true_or, cond_true, Option.bind_some]
      exact ⟨_, _, rfl, rfl, haf, .inl rfl⟩
    · obtain ⟨n, hn1, hn2⟩ := rdL_some (xs := l) (i := (at_ : Int)) (by omega) (by omega)
      have hn2 : l[at_]? = some n := by simpa using hn2
      have hdd : decide ((deep : Int) > 12) = false := decide_eq_false (by omega)
      simp only [decide_eq_false hat, hdd, Bool.false_or, cond_false, hn1, Option.bind_some, plain_eq, nodeOk_eq]
      cases hok : nok n with
      | false =>
        simp only [Bool.not_false, cond_true]
        exact ⟨_, _, rfl, rfl, haf, .inl rfl⟩
      | true =>
        simp only [Bool.not_true, cond_false]
        have hwn := hw n (List.mem_of_getElem? hn2)
        have hM0 : 0 ≤ n.2.2.2.2.1 := by
          unfold nok at hok
          repeat' split at hok
          all_goals simp only [Bool.and_eq_true, beq_iff_eq, decide_eq_true_eq, Bool.or_eq_true] at hok
          all_goals omega
        have ha1 : IntKind.wrap .i64 ((at_ : Int) + 1) = ((at_ + 1 : Nat) : Int) := by rw [w64 (by omega) (by omega)]; omega
        rw [ha1]
        obtain ⟨v, af', t1, t2, t3, t4⟩ := checkLoop k l hl d D deep (by omega) (fun a af haf => ih D (deep + 1) a af (by omega) (by omega) haf) at_ (by omega) n n.2.2.2.2.1 rfl hwn.2.2.2.1.2 k (at_ + 1) 0 0 af (by omega) (by omega) (by omega) hM0 (by omega) (fun _ => by omega) haf
        refine ⟨v, af', t1, t2, t3, ?_⟩
        rcases t4 with h | ⟨nx, h1, h2, h3, h4, h5⟩
        · exact .inl h
        · refine .inr ⟨nx, h1, ⟨n, hn2, hok, by simpa using h2, h4⟩, h3, fun i hi => ?_⟩
          have := (PartsR_mono (S' := fun _ _ => True) (Sub_lt d) _ _ _ _ (fun _ _ _ _ _ => trivial) h2).2
          exact h5 i (by omega) (by omega)
end Go.Law
end

section
/- Which lists are trees: the program's treeOf and the reference's TreeOk. -/
set_option linter.unusedVariables false
set_option linter.unusedSimpArgs false
namespace Go.Law
open Go.Am Go.Fn
variable (k : Nat)

theorem treeOf_eq (hk : 2000 ≤ k) (l : List TNode) (hw : ∀ n, n ∈ l → WfN n) (hlen : l.length < 4294967296) :
    ∃ b : Bool, spec_TreeOk k l = some b ∧ ((b = false ∧ ∃ x, impl_treeOf k l = some (((), false), x)) ∨
      (b = true ∧ l.length ≤ 1500 ∧ 1 ≤ l.length ∧ ∃ af, impl_treeOf k l = some (((), true), ((true, (l, (), ())), af)) ∧ Sub l af 12 0 l.length ∧ ∃ n, l[0]? = some n ∧ n.1 = 12 ∧ n.2.1 = 0)) := by
  unfold spec_TreeOk impl_treeOf
  simp only [within_eq, l1In_eq, Option.bind_some]
  by_cases hin : 1 ≤ l.length ∧ l.length ≤ 1500
  · have c1 : (decide ((1 : Int) ≤ (l.length : Int)) && decide ((l.length : Int) ≤ 1500)) = true := by simp; omega
    obtain ⟨n, hn1, hn2⟩ := rdL_some (xs := l) (i := 0) (by omega) (by omega)
    have hn2 : l[0]? = some n := hn2
    simp only [c1, Bool.not_true, cond_false, hn1, Option.bind_some, okLen_ok (show (0 : Int) ≤ (l.length : Int) by omega) (by omega), cond_true, cst, Int.toNat_natCast]
    by_cases hr : n.1 = 12 ∧ n.2.1 = 0
    · have c2 : (n.1 != 12 || n.2.1 != 0) = false := by simp [hr.1, hr.2]
      simp only [bneF hr.1, bneF hr.2, cond_false, Option.bind_some, Bool.or_self]
      obtain ⟨v, af', s1, s2, s3, s4⟩ := check k hk l hin.2 hw 12 k 1 0 (List.replicate l.length 0) (by omega) (by omega) (by simp)
      have s1 : spec_l4Check k l 0 1 = some v := s1
      have s2 : impl_tree_measure k 0 1 (true, (l, (), ())) (List.replicate l.length 0) = some (v, ((l, (), ()), af')) := s2
      simp only [s1, s2, Option.bind_some]
      by_cases hv : v = (l.length : Int)
      · refine ⟨true, by rw [beqT hv], .inr ⟨rfl, hin.2, hin.1, af', by simp only [bneF hv, cond_false], ?_, n, hn2, hr⟩⟩
        rcases s4 with h | ⟨nx, h1, h2, _⟩
        · omega
        · have : nx = l.length := by omega
          rw [← this]; exact h2
      · exact ⟨false, by rw [beqF hv], .inl ⟨rfl, ((false, ([], (), ())), []), by simp only [bneT hv, cond_true]⟩⟩
    · have c2 : (n.1 != 12 || n.2.1 != 0) = true := by
        simp only [Bool.or_eq_true, bne_iff_ne]
        exact Classical.byContradiction fun hh => hr ⟨Classical.byContradiction fun h => hh (.inl h), Classical.byContradiction fun h => hh (.inr h)⟩
      refine ⟨false, ?_, .inl ⟨rfl, ((false, ([], (), ())), []), by simp only [c2, cond_true]⟩⟩
      by_cases h12 : n.1 = 12
      · have h0 : ¬ n.2.1 = 0 := fun h => hr ⟨h12, h⟩
        simp only [bneF h12, cond_false, bneT h0, Option.bind_some, cond_true, Bool.false_or]
      · simp only [bneT h12, Option.bind_some, cond_true, Bool.true_or]
  · have c1 : (decide ((1 : Int) ≤ (l.length : Int)) && decide ((l.length : Int) ≤ 1500)) = false := by
      rw [Bool.eq_false_iff]; intro h
      simp only [Bool.and_eq_true, decide_eq_true_eq] at h
      omega
    simp only [c1, Bool.not_false, cond_true, Option.bind_some]
    exact ⟨false, rfl, .inl ⟨rfl, _, rfl⟩⟩

end Go.Law
end

section
/- Varints: what is got of any bytes. -/
set_option linter.unusedVariables false
set_option linter.unusedSimpArgs false
namespace Go.Law
open Go.Am Go.Fn

/-- so many bytes at most: the number, and how many bytes it has -/
def gvN : Nat → List Int → Option (Nat × Nat)
  | 0, _ => none
  | _ + 1, [] => none
  | f + 1, c :: r => if f = 0 ∧ 1 < c then none else if c < 128 then some (c.toNat, 1) else (gvN f r).map fun x => ((c % 128).toNat + 128 * x.1, x.2 + 1)

def gv (l : List Int) : Option (Int × Nat) := (gvN 10 l).map fun x => (IntKind.wrap .i64 (x.1 : Int), x.2)

theorem gvN_facts : ∀ (f : Nat) (l : List Int) (v n : Nat), (∀ x, x ∈ l → 0 ≤ x ∧ x < 256) → gvN (f + 1) l = some (v, n) → v < 2 * 128 ^ f ∧ 1 ≤ n ∧ n ≤ l.length ∧ n ≤ f + 1 ∧ (uvB f v).length ≤ n := by
  intro f
  induction f with
  | zero =>
    intro l v n hb h
    cases l with
    | nil => simp [gvN] at h
    | cons c r =>
      obtain ⟨c0, c1⟩ := hb c (by simp)
      simp only [gvN, true_and] at h
      split at h
      · cases h
      · split at h
        · simp only [Option.some.injEq, Prod.mk.injEq] at h
          obtain ⟨rfl, rfl⟩ := h
          simp [uvB]; omega
        · simp at h
  | succ f ih =>
    intro l v n hb h
    cases l with
    | nil => simp [gvN] at h
    | cons c r =>
      obtain ⟨c0, c1⟩ := hb c (by simp)
      rw [gvN, if_neg (by omega)] at h
      have hP : 1 ≤ 128 ^ f := Nat.pow_pos (by decide)
      have hP2 : (128 : Nat) ^ (f + 1) = 128 * 128 ^ f := by rw [Nat.pow_succ, Nat.mul_comm]
      split at h
      · simp only [Option.some.injEq, Prod.mk.injEq] at h
        obtain ⟨rfl, rfl⟩ := h
        refine ⟨by omega, by omega, by simp, by omega, ?_⟩
        simp only [uvB]
        rw [if_neg (by omega)]
        simp
      · cases hg : gvN (f + 1) r with
        | none => rw [hg] at h; cases h
        | some x =>
          obtain ⟨v', n'⟩ := x
          rw [hg] at h
          simp only [Option.map_some, Option.some.injEq, Prod.mk.injEq] at h
          obtain ⟨rfl, rfl⟩ := h
          obtain ⟨i1, i2, i3, i4, i5⟩ := ih r v' n' (fun x hx => hb x (by simp [hx])) hg
          refine ⟨by omega, by omega, by simp; omega, by omega, ?_⟩
          simp only [uvB]
          split
          · rw [List.length_cons, show ((c % 128).toNat + 128 * v') / 128 = v' by omega]
            omega
          · simp

theorem gvN_take : ∀ (f : Nat) (l : List Int) (v n m : Nat), gvN f l = some (v, n) → gvN f (l.take m) = if n ≤ m then some (v, n) else none := by
  intro f
  induction f with
  | zero => intro l v n m h; simp [gvN] at h
  | succ f ih =>
    intro l v n m h
    cases l with
    | nil => simp [gvN] at h
    | cons c r =>
      rw [gvN] at h
      cases m with
      | zero =>
        rw [List.take_zero, gvN]
        split at h
        · cases h
        · split at h
          · simp only [Option.some.injEq, Prod.mk.injEq] at h
            rw [if_neg (by omega)]
          · cases hg : gvN f r with
            | none => rw [hg] at h; cases h
            | some x =>
              rw [hg] at h
              simp only [Option.map_some, Option.some.injEq, Prod.mk.injEq] at h
              rw [if_neg (by omega)]
      | succ m =>
        rw [List.take_succ_cons, gvN]
        split at h
        · cases h
        · rename_i q1
          rw [if_neg q1]
          split at h
          · rename_i q2
            rw [if_pos q2]
            simp only [Option.some.injEq, Prod.mk.injEq] at h
            obtain ⟨rfl, rfl⟩ := h
            rw [if_pos (by omega)]
          · rename_i q2
            rw [if_neg q2]
            cases hg : gvN f r with
            | none => rw [hg] at h; cases h
            | some x =>
              rw [hg] at h
              obtain ⟨v', n'⟩ := x
              simp only [Option.map_some, Option.some.injEq, Prod.mk.injEq] at h
              obtain ⟨rfl, rfl⟩ := h
              rw [ih r v' n' m hg]
              by_cases q3 : n' ≤ m
              · rw [if_pos q3, if_pos (by omega)]; rfl
              · rw [if_neg q3, if_neg (by omega)]; rfl

theorem gv_take (l : List Int) (u : Int) (n m : Nat) (h : gv l = some (u, n)) : gv (l.take m) = if n ≤ m then some (u, n) else none := by
  unfold gv at h ⊢
  cases hg : gvN 10 l with
  | none => rw [hg] at h; cases h
  | some x =>
    obtain ⟨v, n'⟩ := x
    rw [hg] at h
    simp only [Option.map_some, Option.some.injEq, Prod.mk.injEq] at h
    obtain ⟨rfl, rfl⟩ := h
    rw [gvN_take 10 l v n' m hg]
    split <;> rfl

theorem gv_facts (l : List Int) (u : Int) (n : Nat) (hb : ∀ x, x ∈ l → 0 ≤ x ∧ x < 256) (h : gv l = some (u, n)) : I64 u ∧ 1 ≤ n ∧ n ≤ l.length ∧ n ≤ 10 ∧ (uv u).length ≤ n := by
  unfold gv at h
  cases hg : gvN 10 l with
  | none => rw [hg] at h; cases h
  | some x =>
    obtain ⟨v, n'⟩ := x
    rw [hg] at h
    simp only [Option.map_some, Option.some.injEq, Prod.mk.injEq] at h
    obtain ⟨rfl, rfl⟩ := h
    obtain ⟨h1, h2, h3, h4, h5⟩ := gvN_facts 9 l v n' hb hg
    have h1 : v < 18446744073709551616 := by simpa using h1
    refine ⟨⟨w64_lo _, w64_hi _⟩, h2, h3, h4, ?_⟩
    unfold uv
    rw [IntKind.wrap_i64, show (((v : Int) + 9223372036854775808) % 18446744073709551616 - 9223372036854775808) % 18446744073709551616 = (v : Int) by omega, Int.toNat_natCast]
    exact h5

theorem drop_cons_of {α : Type} {l : List α} {p : Nat} (h : p < l.length) : ∃ c, l.drop p = c :: l.drop (p + 1) ∧ l[p]? = some c := by
  refine ⟨l[p], ?_, by simp [h]⟩
  rw [List.drop_eq_getElem_cons h]

theorem igetLoop (k : Nat) (b : List Int) (p : Nat) (hb : b.length < 4611686018427387904) (hby : ∀ x, x ∈ b → 0 ≤ x ∧ x < 256) (hp : p < 4611686018427387904) : ∀ (f n i acc : Nat), i + f = 10 → f < n → acc < 2 ^ (7 * i) →
    impl_UvarGet.l5 k n b (p : Int) (acc : Int) (i : Int) = match gvN f (b.drop (p + i)) with
      | none => some (0, 0, false)
      | some (v, m) => some (IntKind.wrap .i64 ((acc + v * 2 ^ (7 * i) : Nat) : Int), ((p + i + m : Nat) : Int), true) := by
  intro f
  induction f with
  | zero =>
    intro n i acc hi hn hacc
    obtain ⟨n, rfl⟩ : ∃ j, n = j + 1 := ⟨n - 1, by omega⟩
    obtain rfl : i = 10 := by omega
    simp only [impl_UvarGet.l5, show decide (((10 : Nat) : Int) < 10) = false by decide, cond_false, Option.bind_some, gvN, impl_UvarGet.c12]
  | succ f ih =>
    intro n i acc hi hn hacc
    obtain ⟨n, rfl⟩ : ∃ j, n = j + 1 := ⟨n - 1, by omega⟩
    have hP : 0 < 2 ^ (7 * i) := Nat.two_pow_pos _
    have hP7 : 2 ^ (7 * (i + 1)) = 128 * 2 ^ (7 * i) := by rw [Nat.mul_add, Nat.pow_add]; simp [Nat.mul_comm]
    have c1 : decide ((i : Int) < 10) = true := by simp; omega
    by_cases hlt : p + i < b.length
    · obtain ⟨c, hc, hc2⟩ := drop_cons_of hlt
      obtain ⟨c0, c255⟩ := hby c (List.mem_of_getElem? hc2)
      have e1 : IntKind.wrap .i64 ((b.length : Int) - (p : Int)) = (b.length : Int) - p := w64 (by omega) (by omega)
      have e2 : IntKind.wrap .i64 ((p : Int) + (i : Int)) = ((p + i : Nat) : Int) := by rw [w64 (by omega) (by omega)]; omega
      have e3 : IntKind.wrap .i64 (7 * (i : Int)) = ((7 * i : Nat) : Int) := by rw [w64 (by omega) (by omega)]; omega
      have e5 : IntKind.wrap .i64 (((p + i : Nat) : Int) + 1) = ((p + i + 1 : Nat) : Int) := by rw [w64 (by omega) (by omega)]; omega
      have e6 : IntKind.wrap .i64 ((i : Int) + 1) = ((i + 1 : Nat) : Int) := by rw [w64 (by omega) (by omega)]; omega
      have c2 : decide ((i : Int) < (b.length : Int) - p) = true := by simp; omega
      have c5 : decide ((0 : Int) ≤ ((7 * i : Nat) : Int)) = true := decide_eq_true (by omega)
      have hget : rdL b ((p + i : Nat) : Int) = some c := by rw [rdL_nat]; exact hc2
      rw [hc, gvN]
      simp only [impl_UvarGet.l5, c1, e1, c2, e2, e3, e5, e6, hget, cond_true, Option.bind_some, csf]
      by_cases h9 : f = 0 ∧ 1 < c
      · obtain ⟨rfl, h1c⟩ := h9
        obtain rfl : i = 9 := by omega
        rw [if_pos ⟨rfl, h1c⟩]
        simp only [show (((9 : Nat) : Int) == 9) = true by decide, show decide (c > 1) = true from decide_eq_true h1c, Bool.and_self, cond_true, impl_UvarGet.c12]
      · rw [if_neg h9]
        have h9b : (((i : Int) == 9) && decide (c > 1)) = false := by
          rw [Bool.eq_false_iff]; intro q
          simp only [Bool.and_eq_true, beq_iff_eq, decide_eq_true_eq] at q
          exact h9 ⟨by omega, q.2⟩
        simp only [h9b, cond_false, c5, cond_true]
        -- the bits of this byte
        have hcm : (c % 128) * 2 ^ (7 * i) < 18446744073709551616 := by
          by_cases hf : f = 0
          · have : i = 9 := by omega
            subst this
            have : c ≤ 1 := by
              rcases Int.lt_or_le 1 c with q | q
              · exact (h9 ⟨hf, q⟩).elim
              · exact q
            have h2 : (2 : Int) ^ (7 * 9) = 9223372036854775808 := by decide
            rw [h2]; omega
          · have : (2 : Int) ^ (7 * i) ≤ 2 ^ 56 := by
              have := Nat.pow_le_pow_right (n := 2) (by omega) (show 7 * i ≤ 56 by omega)
              exact_mod_cast this
            have h3 : (2 : Int) ^ 56 = 72057594037927936 := by decide
            have h4 : (0 : Int) < 2 ^ (7 * i) := by exact_mod_cast hP
            have := Int.mul_le_mul (show c % 128 ≤ 127 by omega) this (by omega) (by omega)
            omega
        have e4 : shlI .u64 (IntKind.wrap .u64 (bits .and .u8 c 127)) ((7 * i : Nat) : Int) = (c % 128) * 2 ^ (7 * i) := by
          rw [u8_and127 c0 c255, wu64_eq]
          unfold shlI
          rw [wu64_eq]
          have : min (((7 * i : Nat) : Int)).toNat (IntKind.bits .u64) = 7 * i := by simp [IntKind.bits]; omega
          rw [this, show (c % 128) % 18446744073709551616 = c % 128 by omega]
          have : 0 ≤ (c % 128) * 2 ^ (7 * i) := Int.mul_nonneg (by omega) (by exact_mod_cast Nat.zero_le _)
          omega
        have eor : bits .or .u64 (acc : Int) ((c % 128) * 2 ^ (7 * i)) = ((acc + (c % 128).toNat * 2 ^ (7 * i) : Nat) : Int) := by
          rw [u64_or_shl (i := 7 * i) (by omega) (by exact_mod_cast hacc) (by omega) (by omega) (by omega)]
          have : c % 128 = (((c % 128).toNat : Nat) : Int) := by omega
          rw [this]
          simp
        rw [e4, eor]
        by_cases h128 : c < 128
        · rw [if_pos h128, decide_eq_true h128, cond_true]
          have : (c % 128).toNat = c.toNat := by omega
          rw [this]
        · rw [if_neg h128, decide_eq_false h128, cond_false]
          have hlt2 : acc + (c % 128).toNat * 2 ^ (7 * i) < 2 ^ (7 * (i + 1)) := by
            rw [hP7]
            have : (c % 128).toNat * 2 ^ (7 * i) ≤ 127 * 2 ^ (7 * i) := Nat.mul_le_mul_right _ (by omega)
            omega
          rw [ih n (i + 1) _ (by omega) (by omega) hlt2, ← Nat.add_assoc]
          cases gvN f (b.drop (p + i + 1)) with
          | none => rfl
          | some x =>
            obtain ⟨v, m⟩ := x
            simp only [Option.map_some]
            rw [hP7, show acc + (c % 128).toNat * 2 ^ (7 * i) + v * (128 * 2 ^ (7 * i)) = acc + ((c % 128).toNat + 128 * v) * 2 ^ (7 * i) by grind, show p + i + 1 + m = p + i + (m + 1) by omega]
    · have c2 : decide ((i : Int) < IntKind.wrap .i64 ((b.length : Int) - (p : Int))) = false := by
        rw [w64 (by omega) (by omega)]
        exact decide_eq_false (by omega)
      rw [List.drop_eq_nil_of_le (by omega), gvN]
      simp only [impl_UvarGet.l5, c1, c2, cond_true, cond_false, Option.bind_some, impl_UvarGet.c12]

end Go.Law
end

section
/- Trees: parts of lists of nodes, and how many bytes they have. -/
set_option linter.unusedVariables false
set_option linter.unusedSimpArgs false
namespace Go.Law
open Go.Am Go.Fn

def slice {α : Type} (l : List α) (a b : Nat) : List α := (l.drop a).take (b - a)

theorem slice_nil {α : Type} (l : List α) (a : Nat) : slice l a a = [] := by simp [slice]
theorem slice_one {α : Type} {l : List α} {a : Nat} {x : α} (h : l[a]? = some x) : slice l a (a + 1) = [x] := by
  obtain ⟨h1, h2⟩ := List.getElem?_eq_some_iff.1 h
  unfold slice
  rw [List.drop_eq_getElem_cons h1, h2, show a + 1 - a = 1 by omega]
  rfl
theorem slice_app {α : Type} (l : List α) {a b c : Nat} (h1 : a ≤ b) (h2 : b ≤ c) : slice l a b ++ slice l b c = slice l a c := by
  unfold slice
  rw [show c - a = (b - a) + (c - b) by omega, List.take_add, List.drop_drop, show a + (b - a) = b by omega]
theorem slice_len {α : Type} (l : List α) {a b : Nat} (h1 : a ≤ b) (h2 : b ≤ l.length) : (slice l a b).length = b - a := by
  unfold slice; simp; omega

def Byt (B : List Int) : Prop := ∀ x, x ∈ B → 0 ≤ x ∧ x < 256

theorem Byt.app {A B : List Int} (h : Byt A) (h' : Byt B) : Byt (A ++ B) := fun x hx => (List.mem_append.1 hx).elim (h x) (h' x)
theorem Byt.cons {a : Int} {B : List Int} (h0 : 0 ≤ a) (h1 : a < 256) (h' : Byt B) : Byt (a :: B) := fun x hx => by
  rcases List.mem_cons.1 hx with rfl | hx
  · exact ⟨h0, h1⟩
  · exact h' x hx
theorem Byt.nil : Byt [] := fun x hx => (List.not_mem_nil hx).elim

/-- what stands ahead of a part of a struct -/
def headB (p : TNode) (last : Int) : List Int := if p.2.1 - last ≤ 15 then [16 * (p.2.1 - last) + p.1] else p.1 :: uv (zig p.2.1)

/-! ### how many bytes a node has, with its parts; what stands behind it -/
def costP (S : List TNode → Nat × List TNode) (st : Bool) : Nat → Int → List TNode → Nat × List TNode
  | 0, _, X => (0, X)
  | _ + 1, _, [] => (0, [])
  | c + 1, last, p :: X => ((if st then (headB p last).length else 0) + (S (p :: X)).1 + (costP S st c p.2.1 (S (p :: X)).2).1, (costP S st c p.2.1 (S (p :: X)).2).2)

def cost : Nat → List TNode → Nat × List TNode
  | 0, X => (0, X)
  | _ + 1, [] => (0, [])
  | d + 1, n :: X =>
    if n.1 = 5 ∨ n.1 = 6 then ((uv (zig n.2.2.1)).length, X)
    else if n.1 = 8 then ((uv (n.2.2.2.1.size : Int)).length + n.2.2.2.1.size, X)
    else if n.1 = 9 then ((if n.2.2.2.2.1 ≤ 14 then 1 else 1 + (uv n.2.2.2.2.1).length) + (costP (cost d) false n.2.2.2.2.1.toNat 0 X).1, (costP (cost d) false n.2.2.2.2.1.toNat 0 X).2)
    else if n.1 = 12 then ((costP (cost d) true n.2.2.2.2.1.toNat 0 X).1 + 1, (costP (cost d) true n.2.2.2.2.1.toNat 0 X).2)
    else (0, X)

theorem slice_cons {α : Type} {l : List α} {a b : Nat} {x : α} (h : l[a]? = some x) (hab : a < b) : slice l a b = x :: slice l (a + 1) b := by
  rw [← slice_app l (show a ≤ a + 1 by omega) (show a + 1 ≤ b by omega), slice_one h]; rfl

/-- a part of a list of nodes is a node with its parts, of so many bytes -/
def CostOf (d : Nat) (l : List TNode) (a b n : Nat) : Prop := ∀ rest, (cost d (slice l a b ++ rest)).2 = rest ∧ (cost d (slice l a b ++ rest)).1 = n
def CostPOf (d : Nat) (st : Bool) (c : Nat) (last : Int) (l : List TNode) (a b n : Nat) : Prop := ∀ rest, (costP (cost d) st c last (slice l a b ++ rest)).2 = rest ∧ (costP (cost d) st c last (slice l a b ++ rest)).1 = n

theorem CostPOf_nil {d : Nat} {st : Bool} {last : Int} {l : List TNode} {a : Nat} : CostPOf d st 0 last l a a 0 := fun rest => by
  rw [slice_nil]; exact ⟨rfl, rfl⟩

theorem CostPOf_cons {d : Nat} {st : Bool} {c : Nat} {last : Int} {l : List TNode} {pos mid nx m1 m2 m : Nat} {p0 : TNode} (hp : l[pos]? = some p0) (h1 : pos < mid) (h2 : mid ≤ nx) (c1 : CostOf d l pos mid m1) (c2 : CostPOf d st c p0.2.1 l mid nx m2)
    (hm : m = (if st then (headB p0 last).length else 0) + m1 + m2) : CostPOf d st (c + 1) last l pos nx m := fun rest => by
  obtain ⟨a1, a2⟩ := c1 (slice l mid nx ++ rest)
  obtain ⟨b1, b2⟩ := c2 rest
  have e : slice l pos nx ++ rest = p0 :: (slice l (pos + 1) mid ++ (slice l mid nx ++ rest)) := by
    rw [← slice_app l (show pos ≤ mid by omega) h2, slice_cons hp h1]; simp
  rw [slice_cons hp h1, List.cons_append] at a1 a2
  rw [e]
  simp only [costP, a1, a2, b1, b2]
  exact ⟨trivial, hm.symm⟩

theorem nok_kind {n : TNode} (h : nok n = true) : n.1 = 1 ∨ n.1 = 2 ∨ n.1 = 5 ∨ n.1 = 6 ∨ n.1 = 8 ∨ n.1 = 9 ∨ n.1 = 12 := by
  unfold nok at h
  repeat' split at h
  all_goals simp only [Bool.and_eq_true, beq_iff_eq, decide_eq_true_eq, Bool.or_eq_true] at h
  all_goals omega

theorem head_len (p : TNode) (last : Int) : 0 < (headB p last).length ∧ (headB p last).length ≤ 11 := by
  unfold headB
  have := uv_len (zig p.2.1)
  split <;> simp <;> omega

theorem head_byt {p : TNode} {last : Int} (hk : nok p = true) (h : last + 1 ≤ p.2.1) : Byt (headB p last) := by
  have := nok_kind hk
  unfold headB
  split
  · exact Byt.cons (by omega) (by omega) Byt.nil
  · exact Byt.cons (by omega) (by omega) (uv_byte _)

/-- the struct's node, as read so far -/
def sn (id j : Int) : TNode := (12, id, 0, ⟨#[]⟩, j, ())

theorem eqS_nil {s : ByteArray} (h : eqS s ⟨#[]⟩ = true) : s = ⟨#[]⟩ := by
  rw [eqS_iff] at h
  exact of_decide_eq_true h

end Go.Law
end

section
/- Lists of nodes that are built as trees are right. -/
set_option linter.unusedVariables false
set_option linter.unusedSimpArgs false
namespace Go.Law
open Go.Am Go.Fn
variable (k : Nat)

/-- so many parts, one behind the other -/
def EncP (E : List TNode → Prop) (n : TNode) : Nat → Int → List TNode → Prop
  | 0, _, X => X = []
  | c + 1, last, X => ∃ p Y Z, X = (p :: Y) ++ Z ∧ (n.1 = 9 → p.1 = n.2.2.1 ∧ p.2.1 = 0) ∧ (n.1 = 12 → last + 1 ≤ p.2.1 ∧ p.2.1 ≤ 1000) ∧ E (p :: Y) ∧ EncP E n c p.2.1 Z

/-- a node with all its parts -/
def Enc : Nat → List TNode → Prop
  | 0, _ => False
  | _ + 1, [] => False
  | d + 1, n :: X => nok n = true ∧ EncP (Enc d) n n.2.2.2.2.1.toNat 0 X

theorem EncP_len {E : List TNode → Prop} {n : TNode} : ∀ (c : Nat) (last : Int) (X : List TNode), EncP E n c last X → c ≤ X.length
  | 0, _, _, _ => Nat.zero_le _
  | c + 1, _, X, ⟨p, Y, Z, e, _, _, _, h⟩ => by
    have := EncP_len c _ _ h
    subst e
    simp
    omega

theorem nok_many' {n : TNode} (h : nok n = true) : 0 ≤ n.2.2.2.2.1 := by
  unfold nok at h
  repeat' split at h
  all_goals simp only [Bool.and_eq_true, beq_iff_eq, decide_eq_true_eq, Bool.or_eq_true] at h
  all_goals omega

theorem getMid' {α : Type} (pre post : List α) (x : α) : rdL (pre ++ x :: post) (pre.length : Int) = some x := by
  rw [rdL_nat, List.getElem?_append_right (Nat.le_refl _)]; simp

theorem checkEnc (hk : 2000 ≤ k) : ∀ (d D deep : Nat) (pre B post : List TNode), d + deep ≤ 13 → d < D → Enc d B → pre.length + B.length + post.length ≤ 1500 →
    spec_l4Check.rec k D (pre ++ (B ++ post)) (pre.length : Int) (deep : Int) = some ((pre.length + B.length : Nat) : Int) := by
  intro d
  induction d with
  | zero => intro D deep pre B post _ _ h; exact h.elim
  | succ d ih =>
    intro D deep pre B post hdd hD hB hlen
    obtain ⟨D, rfl⟩ : ∃ j, D = j + 1 := ⟨D - 1, by omega⟩
    cases B with
    | nil => exact hB.elim
    | cons n X =>
      obtain ⟨hok, hP⟩ := hB
      have hm0 := nok_many' hok
      have hcl := EncP_len _ _ _ hP
      simp only [List.length_cons] at hlen
      generalize hL : pre ++ (n :: X ++ post) = L
      have hLlen : L.length = pre.length + (X.length + 1) + post.length := by rw [← hL]; simp; omega
      have hget : rdL L (pre.length : Int) = some n := by rw [← hL]; exact getMid' pre (X ++ post) n
      simp only [spec_l4Check.rec, spec_l4Check.b, cst, Option.bind_some, decide_eq_false (show ¬ (pre.length : Int) ≥ (L.length : Int) by omega), decide_eq_false (show ¬ (deep : Int) > 12 by omega), Bool.or_self, cond_false, hget, plain_eq, hok, Bool.not_true]
      rw [w64 (by omega) (by omega), show ((pre.length : Int) + 1) = ((pre.length + 1 : Nat) : Int) by omega]
      have loop : ∀ (c : Nat) (last : Int) (f : Nat) (i : Int) (Q Z : List TNode), EncP (Enc d) n c last Z → pre ++ (n :: X) = Q ++ Z → c < f → n.2.2.2.2.1 - i = c → 0 ≤ i → n.2.2.2.2.1 ≤ 2000 →
          spec_l4Check.l7 k (spec_l4Check.rec k D) f L (deep : Int) (Q.length : Int) last i n = some ((pre.length + (X.length + 1) : Nat) : Int) := by
        intro c
        induction c with
        | zero =>
          intro last f i Q Z hZ hQ hf hi hi0 hi2
          obtain ⟨f, rfl⟩ : ∃ j, f = j + 1 := ⟨f - 1, by omega⟩
          have hZ : Z = [] := hZ
          subst hZ
          have := congrArg List.length hQ
          simp at this
          simp only [spec_l4Check.l7, decide_eq_false (show ¬ i < n.2.2.2.2.1 by omega), cond_false]
          congr 1
          omega
        | succ c ihc =>
          intro last f i Q Z ⟨p, Y, Z', hZ, h9, h12, hE, hZP⟩ hQ hf hi hi0 hi2
          obtain ⟨f, rfl⟩ : ∃ j, f = j + 1 := ⟨f - 1, by omega⟩
          have hLQ : L = Q ++ ((p :: Y) ++ (Z' ++ post)) := by
            rw [← hL, ← List.append_assoc, hQ, hZ]; simp
          have hQl := congrArg List.length hQ
          rw [hZ] at hQl
          simp at hQl
          have hp : rdL L (Q.length : Int) = some p := by rw [hLQ]; exact getMid' Q (Y ++ (Z' ++ post)) p
          have e1 : (n.1 == 9 && (p.1 != n.2.2.1 || p.2.1 != 0)) = false := by
            rw [Bool.eq_false_iff]; intro h
            simp only [Bool.and_eq_true, Bool.or_eq_true, beq_iff_eq, bne_iff_ne] at h
            have := h9 h.1
            omega
          have e2 : (n.1 == 12 && (decide (p.2.1 ≤ last) || decide (p.2.1 > 1000))) = false := by
            rw [Bool.eq_false_iff]; intro h
            simp only [Bool.and_eq_true, Bool.or_eq_true, beq_iff_eq, decide_eq_true_eq] at h
            have := h12 h.1
            omega
          have := ih D (deep + 1) Q (p :: Y) (Z' ++ post) (by omega) (by omega) hE (by simp; omega)
          rw [← hLQ] at this
          simp only [spec_l4Check.l7, decide_eq_true (show i < n.2.2.2.2.1 by omega), cond_true, decide_eq_false (show ¬ (Q.length : Int) ≥ (L.length : Int) by omega), cond_false, hp, Option.bind_some, csf, cst, e1, e2, Bool.or_self]
          rw [w64 (show -9223372036854775808 ≤ (deep : Int) + 1 by omega) (by omega), show ((deep : Int) + 1) = ((deep + 1 : Nat) : Int) by omega, this]
          simp only [Option.bind_some]
          rw [decide_eq_false (by omega), cond_false, w64 (by omega) (by omega)]
          have hr := ihc p.2.1 f (i + 1) (Q ++ (p :: Y)) Z' hZP (by rw [hQ, hZ]; simp) (by omega) (by omega) (by omega) hi2
          rw [List.length_append] at hr
          exact hr
      have hr := loop _ 0 k 0 (pre ++ [n]) X hP (by simp) (by omega) (by omega) (by omega) (by omega)
      simp only [List.length_append, List.length_singleton] at hr
      rw [hr]
      simp

/-- a built tree is right -/
theorem treeOkEnc (hk : 2000 ≤ k) (n : TNode) (X : List TNode) (h : Enc 12 (n :: X)) (hlen : (n :: X).length ≤ 1500) (h12 : n.1 = 12) (h0 : n.2.1 = 0) : spec_TreeOk k (n :: X) = some true := by
  unfold spec_TreeOk
  have c1 : (decide ((1 : Int) ≤ ((n :: X).length : Int)) && decide (((n :: X).length : Int) ≤ 1500)) = true := by simp; simp at hlen; omega
  have hc := checkEnc k hk 12 k 1 [] (n :: X) [] (by omega) (by omega) h (by simpa using hlen)
  simp only [List.nil_append, List.append_nil, List.length_nil, Nat.zero_add] at hc
  have hc : spec_l4Check k (n :: X) 0 1 = some (((n :: X).length : Nat) : Int) := hc
  have hr : rdL (n :: X) 0 = some n := rfl
  simp only [l1In_eq, c1, Option.bind_some, Bool.not_true, cond_false, hr, bneF h12, bneF h0, hc, beqT rfl]
end Go.Law
end

section
/- Trees: what is read of any bytes. -/
set_option linter.unusedVariables false
set_option linter.unusedSimpArgs false
namespace Go.Law
open Go.Am Go.Fn

/-- what a reader comes to: a code that tells what is wrong, or the place behind and what is read -/
inductive Res (α : Type) where
  | bad (code : Int)
  | ok (p : Nat) (x : α)

/-- the number behind a varint -/
def zagV (x : Int) : Int := if x % 2 = 0 then (x % 18446744073709551616) / 2 else - ((x % 18446744073709551616) / 2) - 1

def int32 (x : Int) : Bool := decide (-2147483648 ≤ x) && decide (x ≤ 2147483647)

/-- the head of a list: how many, of which type -/
def prMany (b : List Int) (p : Nat) : Res (Int × Int) :=
  match b[p]? with
  | none => .bad 1
  | some h =>
    match (if h / 16 = 15 then (gv (b.drop (p + 1))).map fun x => (x.1, p + 1 + x.2) else some (h / 16, p + 1)) with
    | none => .bad 1
    | some (many, q) =>
      if many = 0 then .ok q (0, 0)
      else if isItem (h % 16) = false then .bad 2
      else if many < 0 ∨ 1500 < many then .bad 4
      else .ok q (many, h % 16)

/-- the head of a part of a struct: its type (0: there is none) and its Id -/
def prHead (b : List Int) (p : Nat) (last : Int) : Res (Int × Int) :=
  match b[p]? with
  | none => .bad 1
  | some h =>
    if h = 0 then .ok (p + 1) (0, 0)
    else if isKind (h % 16) = false then .bad 2
    else match (if h / 16 = 0 then (gv (b.drop (p + 1))).map fun x => (zagV x.1, p + 1 + x.2) else some (last + h / 16, p + 1)) with
    | none => .bad 1
    | some (id, q) =>
      if id < 1 ∨ 1000 < id then .bad 3
      else if id ≤ last then .bad 5
      else .ok q (h % 16, id)

def prText (b : List Int) (p : Nat) : Res ByteArray :=
  match gv (b.drop p) with
  | none => .bad 1
  | some (u, n) =>
    if u < 0 ∨ 300 < u then .bad 4
    else if (b.length : Int) - (p + n : Nat) < u then .bad 1
    else .ok (p + n + u.toNat) (intsStr ((b.drop (p + n)).take u.toNat))

/-- so many parts of a list, behind so many nodes -/
def prParts (S : Nat → Nat → Res (List TNode)) : Nat → Nat → Nat → Res (List TNode)
  | 0, p, _ => .ok p []
  | m + 1, p, c => match S p c with
    | .bad e => .bad e
    | .ok q Y => match prParts S m q (c + Y.length) with
      | .bad e => .bad e
      | .ok r Z => .ok r (Y ++ Z)

/-- the parts of a struct: how many, and they -/
def prFields (S : Int → Int → Nat → Nat → Res (List TNode)) (b : List Int) : Nat → Int → Nat → Nat → Res (Nat × List TNode)
  | 0, _, _, _ => .bad 1
  | f + 1, last, p, c => match prHead b p last with
    | .bad e => .bad e
    | .ok q (t, id) =>
      if t = 0 then .ok q (0, [])
      else match S t id q c with
      | .bad e => .bad e
      | .ok r Y => match prFields S b f id r (c + Y.length) with
        | .bad e => .bad e
        | .ok z (m, Z) => .ok z (m + 1, Y ++ Z)

def prN : Nat → List Int → Int → Int → Nat → Nat → Res (List TNode)
  | 0, _, _, _, _, _ => .bad 4
  | d + 1, b, kind, id, p, c =>
    if c = 1500 then .bad 4
    else if kind = 5 ∨ kind = 6 then
      match gv (b.drop p) with
      | none => .bad 1
      | some (u, n) => if kind = 5 ∧ int32 (zagV u) = false then .bad 3 else .ok (p + n) [(kind, id, zagV u, ⟨#[]⟩, 0, ())]
    else if kind = 8 then
      match prText b p with
      | .bad e => .bad e
      | .ok q s => .ok q [(8, id, 0, s, 0, ())]
    else if kind = 9 then
      match prMany b p with
      | .bad e => .bad e
      | .ok q (many, item) => match prParts (fun p c => prN d b item 0 p c) many.toNat q (c + 1) with
        | .bad e => .bad e
        | .ok r Y => .ok r ((9, id, item, ⟨#[]⟩, many, ()) :: Y)
    else if kind = 12 then
      match prFields (fun t id p c => prN d b t id p c) b 1002 0 p (c + 1) with
      | .bad e => .bad e
      | .ok r (m, Y) => .ok r ((12, id, 0, ⟨#[]⟩, (m : Int), ()) :: Y)
    else .ok p [(kind, id, 0, ⟨#[]⟩, 0, ())]

theorem zig_zagV {u : Int} (h : I64 u) : zig (zagV u) = u := by
  obtain ⟨h0, h1⟩ := h
  unfold zig zagV
  simp only [IntKind.wrap_i64]
  split <;> split <;> omega

theorem zagV_i64 (u : Int) : I64 (zagV u) := by
  unfold zagV I64
  split <;> omega

theorem zag_eq (k : Nat) {u : Int} (h : I64 u) : impl_Zag k u = some (zagV u) := by
  have h2 := zagV_i64 u
  have := zag_zig k (zagV u) h2.1 h2.2
  rwa [zig_zagV h] at this

/-! ### what is read is a tree -/
theorem isKind_of_item {t : Int} (h : isItem t = true) : isKind t = true := by unfold isKind; rw [h]; simp
theorem kind_cases {t : Int} (h : isKind t = true) : t = 1 ∨ t = 2 ∨ t = 5 ∨ t = 6 ∨ t = 8 ∨ t = 9 ∨ t = 12 := by
  unfold isKind isItem at h
  simp only [Bool.or_eq_true, beq_iff_eq] at h
  omega

theorem prHead_ok {b : List Int} {p : Nat} {last : Int} {q : Nat} {t id : Int} (h : prHead b p last = .ok q (t, id)) : p < q ∧ (t = 0 ∨ (isKind t = true ∧ t ≠ 0 ∧ last + 1 ≤ id ∧ 1 ≤ id ∧ id ≤ 1000)) := by
  unfold prHead at h
  split at h
  · cases h
  · rename_i y hy
    split at h
    · simp only [Res.ok.injEq, Prod.mk.injEq] at h
      exact ⟨by omega, .inl h.2.1.symm⟩
    · split at h
      · cases h
      · rename_i hk
        split at h
        · cases h
        · rename_i id' q' hm
          split at h
          · cases h
          · split at h
            · cases h
            · simp only [Res.ok.injEq, Prod.mk.injEq] at h
              obtain ⟨rfl, rfl, rfl⟩ := h
              have hk : isKind (y % 16) = true := by simpa using hk
              refine ⟨?_, .inr ⟨hk, ?_, by omega, by omega, by omega⟩⟩
              · split at hm
                · cases hg : gv (b.drop (p + 1)) with
                  | none => rw [hg] at hm; cases hm
                  | some x =>
                    rw [hg] at hm
                    simp only [Option.map_some, Option.some.injEq, Prod.mk.injEq] at hm
                    omega
                · simp only [Option.some.injEq, Prod.mk.injEq] at hm
                  omega
              · rcases kind_cases hk with e | e | e | e | e | e | e <;> omega

theorem prMany_ok {b : List Int} {p q : Nat} {many item : Int} (h : prMany b p = .ok q (many, item)) : p < q ∧ ((many = 0 ∧ item = 0) ∨ (1 ≤ many ∧ many ≤ 1500 ∧ isItem item = true)) := by
  unfold prMany at h
  split at h
  · cases h
  · rename_i y hy
    split at h
    · cases h
    · rename_i m q' hm
      have hq : p < q' := by
        split at hm
        · cases hg : gv (b.drop (p + 1)) with
          | none => rw [hg] at hm; cases hm
          | some x =>
            rw [hg] at hm
            simp only [Option.map_some, Option.some.injEq, Prod.mk.injEq] at hm
            omega
        · simp only [Option.some.injEq, Prod.mk.injEq] at hm
          omega
      split at h
      · simp only [Res.ok.injEq, Prod.mk.injEq] at h
        exact ⟨by omega, .inl ⟨h.2.1.symm, h.2.2.symm⟩⟩
      · split at h
        · cases h
        · rename_i hi
          split at h
          · cases h
          · simp only [Res.ok.injEq, Prod.mk.injEq] at h
            obtain ⟨rfl, rfl, rfl⟩ := h
            exact ⟨hq, .inr ⟨by omega, by omega, by simpa using hi⟩⟩

theorem prText_ok {b : List Int} {p q : Nat} {s : ByteArray} (h : prText b p = .ok q s) : p ≤ q ∧ s.size ≤ 300 := by
  unfold prText at h
  split at h
  · cases h
  · split at h
    · cases h
    · split at h
      · cases h
      · simp only [Res.ok.injEq] at h
        obtain ⟨rfl, rfl⟩ := h
        refine ⟨by omega, ?_⟩
        rw [intsStr_size, List.length_take]
        omega

def EncS (d : Nat) (kind id : Int) (c : Nat) (Y : List TNode) : Prop := ∃ n X, Y = n :: X ∧ n.1 = kind ∧ n.2.1 = id ∧ Enc d Y ∧ c + Y.length ≤ 1500

theorem prParts_enc {d : Nat} {item : Int} {S : Nat → Nat → Res (List TNode)} (ih : ∀ p c q Y, c ≤ 1500 → S p c = .ok q Y → p ≤ q ∧ EncS d item 0 c Y) (n : TNode) (hn : n.1 = 9) (hi : n.2.2.1 = item) : ∀ (m p c : Nat) (last : Int) (q : Nat) (Y : List TNode), c ≤ 1500 → prParts S m p c = .ok q Y → p ≤ q ∧ EncP (Enc d) n m last Y ∧ c + Y.length ≤ 1500 := by
  intro m
  induction m with
  | zero =>
    intro p c last q Y hc h
    simp only [prParts, Res.ok.injEq] at h
    obtain ⟨rfl, rfl⟩ := h
    exact ⟨Nat.le_refl _, rfl, by simpa using hc⟩
  | succ m ihm =>
    intro p c last q Y hc h
    simp only [prParts] at h
    split at h
    · cases h
    · rename_i q1 Y1 h1
      split at h
      · cases h
      · rename_i q2 Z h2
        simp only [Res.ok.injEq] at h
        obtain ⟨rfl, rfl⟩ := h
        obtain ⟨hp, x, X, rfl, x1, x2, x3, x4⟩ := ih _ _ _ _ hc h1
        obtain ⟨g0, g1, g2⟩ := ihm _ _ x.2.1 _ _ (by omega) h2
        exact ⟨by omega, ⟨x, X, Z, rfl, fun _ => ⟨by rw [x1, hi], x2⟩, fun h12 => by omega, x3, g1⟩, by simp at g2 ⊢; omega⟩

theorem prFields_enc {d : Nat} {S : Int → Int → Nat → Nat → Res (List TNode)} {b : List Int} (ih : ∀ t id p c q Y, isKind t = true → c ≤ 1500 → S t id p c = .ok q Y → p ≤ q ∧ EncS d t id c Y) (n : TNode) (hn : n.1 = 12) : ∀ (f : Nat) (last : Int) (p c q m : Nat) (Y : List TNode), c ≤ 1500 → prFields S b f last p c = .ok q (m, Y) → p < q ∧ EncP (Enc d) n m last Y ∧ c + Y.length ≤ 1500 := by
  intro f
  induction f with
  | zero => intro last p c q m Y hc h; cases h
  | succ f ihf =>
    intro last p c q m Y hc h
    simp only [prFields] at h
    split at h
    · cases h
    · rename_i q1 t id h1
      obtain ⟨a1, a2⟩ := prHead_ok h1
      split at h
      · simp only [Res.ok.injEq, Prod.mk.injEq] at h
        obtain ⟨rfl, rfl, rfl⟩ := h
        exact ⟨a1, rfl, by simpa using hc⟩
      · rename_i ht
        rcases a2 with a2 | ⟨a2, _, a3, a4, a5⟩
        · exact (ht a2).elim
        · split at h
          · cases h
          · rename_i q2 Y1 h2
            split at h
            · cases h
            · rename_i q3 m' Z h3
              simp only [Res.ok.injEq, Prod.mk.injEq] at h
              obtain ⟨rfl, rfl, rfl⟩ := h
              obtain ⟨hp, x, X, rfl, x1, x2, x3, x4⟩ := ih _ _ _ _ _ _ a2 hc h2
              obtain ⟨g0, g1, g2⟩ := ihf _ _ _ _ _ _ (by omega) h3
              rw [← x2] at g1
              exact ⟨by omega, ⟨x, X, Z, rfl, fun h9 => by omega, fun _ => ⟨by omega, by omega⟩, x3, g1⟩, by simp at g2 ⊢; omega⟩

theorem prN_enc : ∀ (d : Nat) (b : List Int) (kind id : Int) (p c q : Nat) (Y : List TNode), isKind kind = true → c ≤ 1500 → prN d b kind id p c = .ok q Y → p ≤ q ∧ EncS d kind id c Y := by
  intro d
  induction d with
  | zero => intro b kind id p c q Y hk hc h; cases h
  | succ d ih =>
    intro b kind id p c q Y hk hc h
    have one : ∀ n : TNode, nok n = true → n.2.2.2.2.1 = 0 → Enc (d + 1) [n] := fun n hn h0 => ⟨hn, by rw [h0]; rfl⟩
    have ez : eqS (⟨#[]⟩ : ByteArray) ⟨#[]⟩ = true := by rw [eqS_iff]; simp
    simp only [prN] at h
    split at h
    · cases h
    · rename_i hc5
      split at h
      · rename_i h56
        split at h
        · cases h
        · rename_i u n hg
          split at h
          · cases h
          · rename_i h32
            simp only [Res.ok.injEq] at h
            obtain ⟨rfl, rfl⟩ := h
            refine ⟨by omega, _, [], rfl, rfl, rfl, one _ ?_ rfl, by simp; omega⟩
            unfold nok
            by_cases h5 : kind = 5
            · have : int32 (zagV u) = true := by
                cases hh : int32 (zagV u) with
                | true => rfl
                | false => exact (h32 ⟨h5, hh⟩).elim
              unfold int32 at this
              simp only [h5, if_true, this, ez, Bool.true_and]
              rfl
            · have h6 : kind = 6 := by omega
              simp [h6, ez]
      · rename_i h56
        split at h
        · rename_i h8
          split at h
          · cases h
          · rename_i q' s hs
            simp only [Res.ok.injEq] at h
            obtain ⟨rfl, rfl⟩ := h
            obtain ⟨s1, s2⟩ := prText_ok hs
            refine ⟨s1, _, [], rfl, h8.symm, rfl, one _ ?_ rfl, by simp; omega⟩
            unfold nok
            simp
            omega
        · rename_i h8
          split at h
          · rename_i h9
            split at h
            · cases h
            · rename_i q1 many item hm
              obtain ⟨m0, m1⟩ := prMany_ok hm
              split at h
              · cases h
              · rename_i q2 Y' hp
                simp only [Res.ok.injEq] at h
                obtain ⟨rfl, rfl⟩ := h
                rcases m1 with ⟨rfl, rfl⟩ | ⟨m1, m2, m3⟩
                · simp only [Int.toNat_zero, prParts, Res.ok.injEq] at hp
                  obtain ⟨rfl, rfl⟩ := hp
                  refine ⟨by omega, _, [], rfl, h9.symm, rfl, one _ ?_ rfl, by simp; omega⟩
                  unfold nok
                  simp [ez]
                · obtain ⟨g0, g1, g2⟩ := prParts_enc (d := d) (item := item) (fun p c q Y hc h => ih b item 0 p c q Y (isKind_of_item m3) hc h) (9, id, item, ⟨#[]⟩, many, ()) rfl rfl _ _ _ 0 _ _ (by omega) hp
                  refine ⟨by omega, _, Y', rfl, h9.symm, rfl, ⟨?_, g1⟩, by simp; omega⟩
                  unfold nok
                  simp [ez, m3]
                  omega
          · rename_i h9
            split at h
            · rename_i h12
              split at h
              · cases h
              · rename_i q1 m Y' hf
                simp only [Res.ok.injEq] at h
                obtain ⟨rfl, rfl⟩ := h
                obtain ⟨g0, g1, g2⟩ := prFields_enc (d := d) (fun t id p c q Y hk hc h => ih b t id p c q Y hk hc h) (12, id, 0, ⟨#[]⟩, (m : Int), ()) rfl _ _ _ _ _ _ _ (by omega) hf
                refine ⟨by omega, _, Y', rfl, h12.symm, rfl, ⟨?_, ?_⟩, by simp; omega⟩
                · unfold nok
                  simp [ez]
                · show EncP (Enc d) _ ((m : Int)).toNat 0 Y'
                  rw [Int.toNat_natCast]; exact g1
            · rename_i h12
              simp only [Res.ok.injEq] at h
              obtain ⟨rfl, rfl⟩ := h
              refine ⟨Nat.le_refl _, _, [], rfl, rfl, rfl, one _ ?_ rfl, by simp; omega⟩
              have : kind = 1 ∨ kind = 2 := by
                rcases kind_cases hk with e | e | e | e | e | e | e <;> omega
              unfold nok
              rcases this with rfl | rfl <;> simp [ez]

end Go.Law
end

section
/- Trees: how many bytes they have, and how many have been read at least. -/
set_option linter.unusedVariables false
set_option linter.unusedSimpArgs false
namespace Go.Law
open Go.Am Go.Fn

def CostLe (d : Nat) (Y : List TNode) (m : Nat) : Prop := ∀ rest, (cost d (Y ++ rest)).2 = rest ∧ (cost d (Y ++ rest)).1 ≤ m
def CostPLe (d : Nat) (st : Bool) (c : Nat) (last : Int) (Y : List TNode) (m : Nat) : Prop := ∀ rest, (costP (cost d) st c last (Y ++ rest)).2 = rest ∧ (costP (cost d) st c last (Y ++ rest)).1 ≤ m

theorem CostPLe_cons {d : Nat} {st : Bool} {c : Nat} {last : Int} {x : TNode} {X Z : List TNode} {m1 m2 m : Nat} (h1 : CostLe d (x :: X) m1) (h2 : CostPLe d st c x.2.1 Z m2) (hm : (if st then (headB x last).length else 0) + m1 + m2 ≤ m) : CostPLe d st (c + 1) last ((x :: X) ++ Z) m := by
  intro rest
  obtain ⟨a1, a2⟩ := h1 (Z ++ rest)
  obtain ⟨b1, b2⟩ := h2 rest
  rw [List.append_assoc, List.cons_append]
  rw [List.cons_append] at a1 a2
  simp only [costP, a1]
  exact ⟨b1, by omega⟩

/-- a head that is read has as many bytes as it needs, at least -/
theorem prHead_len {b : List Int} (hb : Byt b) {p : Nat} {last : Int} {q : Nat} {t id : Int} (hl : 0 ≤ last) (h : prHead b p last = .ok q (t, id)) : q ≤ b.length ∧ (t ≠ 0 → ∀ x : TNode, x.2.1 = id → p + (headB x last).length ≤ q) := by
  unfold prHead at h
  split at h
  · cases h
  · rename_i y hy
    have hp : p < b.length := (List.getElem?_eq_some_iff.1 hy).1
    obtain ⟨y0, y1⟩ := hb y (List.mem_of_getElem? hy)
    split at h
    · simp only [Res.ok.injEq, Prod.mk.injEq] at h
      exact ⟨by omega, fun hh => by omega⟩
    · split at h
      · cases h
      · split at h
        · cases h
        · rename_i id' q' hm
          split at h
          · cases h
          · split at h
            · cases h
            · simp only [Res.ok.injEq, Prod.mk.injEq] at h
              obtain ⟨rfl, rfl, rfl⟩ := h
              split at hm
              · cases hg : gv (b.drop (p + 1)) with
                | none => rw [hg] at hm; cases hm
                | some z =>
                  rw [hg] at hm
                  obtain ⟨u, n⟩ := z
                  simp only [Option.map_some, Option.some.injEq, Prod.mk.injEq] at hm
                  obtain ⟨rfl, rfl⟩ := hm
                  obtain ⟨f1, f2, f3, f4, f5⟩ := gv_facts _ u n (fun x hx => hb x (List.mem_of_mem_drop hx)) hg
                  rw [List.length_drop] at f3
                  refine ⟨by omega, fun _ x hx => ?_⟩
                  unfold headB
                  split
                  · simp <;> omega
                  · rw [hx, zig_zagV f1, List.length_cons]; omega
              · simp only [Option.some.injEq, Prod.mk.injEq] at hm
                obtain ⟨rfl, rfl⟩ := hm
                refine ⟨by omega, fun _ x hx => ?_⟩
                unfold headB
                rw [if_pos (by omega)]
                simp

theorem prMany_len {b : List Int} (hb : Byt b) {p q : Nat} {many item : Int} (h : prMany b p = .ok q (many, item)) : q ≤ b.length ∧ p + (if many ≤ 14 then 1 else 1 + (uv many).length) ≤ q := by
  unfold prMany at h
  split at h
  · cases h
  · rename_i y hy
    have hp : p < b.length := (List.getElem?_eq_some_iff.1 hy).1
    obtain ⟨y0, y1⟩ := hb y (List.mem_of_getElem? hy)
    split at h
    · cases h
    · rename_i m q' hm
      have hq : q' ≤ b.length ∧ p + (if m ≤ 14 then 1 else 1 + (uv m).length) ≤ q' := by
        split at hm
        · cases hg : gv (b.drop (p + 1)) with
          | none => rw [hg] at hm; cases hm
          | some z =>
            rw [hg] at hm
            obtain ⟨u, n⟩ := z
            simp only [Option.map_some, Option.some.injEq, Prod.mk.injEq] at hm
            obtain ⟨rfl, rfl⟩ := hm
            obtain ⟨f1, f2, f3, f4, f5⟩ := gv_facts _ u n (fun x hx => hb x (List.mem_of_mem_drop hx)) hg
            rw [List.length_drop] at f3
            refine ⟨by omega, ?_⟩
            split <;> omega
        · simp only [Option.some.injEq, Prod.mk.injEq] at hm
          obtain ⟨rfl, rfl⟩ := hm
          refine ⟨by omega, ?_⟩
          rw [if_pos (by omega)]
          omega
      split at h
      · rename_i h0
        simp only [Res.ok.injEq, Prod.mk.injEq] at h
        obtain ⟨rfl, rfl, rfl⟩ := h
        rw [h0] at hq
        exact hq
      · split at h
        · cases h
        · split at h
          · cases h
          · simp only [Res.ok.injEq, Prod.mk.injEq] at h
            obtain ⟨rfl, rfl, rfl⟩ := h
            exact hq

theorem prText_len {b : List Int} (hb : Byt b) {p q : Nat} {s : ByteArray} (h : prText b p = .ok q s) : q ≤ b.length ∧ p + ((uv (s.size : Int)).length + s.size) ≤ q := by
  unfold prText at h
  split at h
  · cases h
  · rename_i u n hg
    obtain ⟨f1, f2, f3, f4, f5⟩ := gv_facts _ u n (fun x hx => hb x (List.mem_of_mem_drop hx)) hg
    rw [List.length_drop] at f3
    split at h
    · cases h
    · split at h
      · cases h
      · simp only [Res.ok.injEq] at h
        obtain ⟨rfl, rfl⟩ := h
        have hs : (intsStr (List.take u.toNat (List.drop (p + n) b))).size = u.toNat := by
          rw [intsStr_size, List.length_take, List.length_drop]; omega
        rw [hs, show ((u.toNat : Nat) : Int) = u by omega]
        omega

theorem prParts_cost {d : Nat} {b : List Int} {S : Nat → Nat → Res (List TNode)} (ih : ∀ p c q Y, p ≤ b.length → c ≤ 1500 → S p c = .ok q Y → p ≤ q ∧ q ≤ b.length ∧ Y ≠ [] ∧ c + Y.length ≤ 1500 ∧ CostLe d Y (q - p)) : ∀ (m p c : Nat) (last : Int) (q : Nat) (Y : List TNode), p ≤ b.length → c ≤ 1500 → prParts S m p c = .ok q Y → p ≤ q ∧ q ≤ b.length ∧ CostPLe d false m last Y (q - p) := by
  intro m
  induction m with
  | zero =>
    intro p c last q Y hp hc h
    simp only [prParts, Res.ok.injEq] at h
    obtain ⟨rfl, rfl⟩ := h
    exact ⟨Nat.le_refl _, hp, fun rest => ⟨rfl, Nat.zero_le _⟩⟩
  | succ m ihm =>
    intro p c last q Y hp hc h
    simp only [prParts] at h
    split at h
    · cases h
    · rename_i q1 Y1 h1
      split at h
      · cases h
      · rename_i q2 Z h2
        simp only [Res.ok.injEq] at h
        obtain ⟨rfl, rfl⟩ := h
        obtain ⟨a1, a2, a3, a4, a5⟩ := ih _ _ _ _ hp hc h1
        cases Y1 with
        | nil => exact (a3 rfl).elim
        | cons x X =>
          obtain ⟨b1, b2, b3⟩ := ihm _ _ x.2.1 _ _ a2 (by omega) h2
          exact ⟨by omega, b2, CostPLe_cons a5 b3 (by simp; omega)⟩

theorem prFields_cost {d : Nat} {b : List Int} (hb : Byt b) {S : Int → Int → Nat → Nat → Res (List TNode)} (ih : ∀ t id p c q Y, isKind t = true → p ≤ b.length → c ≤ 1500 → S t id p c = .ok q Y → p ≤ q ∧ q ≤ b.length ∧ (∃ x X, Y = x :: X ∧ x.2.1 = id) ∧ c + Y.length ≤ 1500 ∧ CostLe d Y (q - p)) : ∀ (f : Nat) (last : Int) (p c q m : Nat) (Y : List TNode), 0 ≤ last → p ≤ b.length → c ≤ 1500 → prFields S b f last p c = .ok q (m, Y) → p < q ∧ q ≤ b.length ∧ CostPLe d true m last Y (q - p - 1) := by
  intro f
  induction f with
  | zero => intro last p c q m Y hl hp hc h; cases h
  | succ f ihf =>
    intro last p c q m Y hl hp hc h
    simp only [prFields] at h
    split at h
    · cases h
    · rename_i q1 t id h1
      obtain ⟨a1, a2⟩ := prHead_ok h1
      obtain ⟨l1, l2⟩ := prHead_len hb hl h1
      split at h
      · simp only [Res.ok.injEq, Prod.mk.injEq] at h
        obtain ⟨rfl, rfl, rfl⟩ := h
        exact ⟨a1, l1, fun rest => ⟨rfl, Nat.zero_le _⟩⟩
      · rename_i ht
        rcases a2 with a2 | ⟨a2, _, a3, a4, a5⟩
        · exact (ht a2).elim
        · split at h
          · cases h
          · rename_i q2 Y1 h2
            split at h
            · cases h
            · rename_i q3 m' Z h3
              simp only [Res.ok.injEq, Prod.mk.injEq] at h
              obtain ⟨rfl, rfl, rfl⟩ := h
              obtain ⟨c1, c2, ⟨x, X, rfl, hx⟩, c4, c5⟩ := ih _ _ _ _ _ _ a2 l1 hc h2
              obtain ⟨b1, b2, b3⟩ := ihf _ _ _ _ _ _ (by omega) c2 (by omega) h3
              rw [← hx] at b3
              have := l2 ht x hx
              exact ⟨by omega, b2, CostPLe_cons c5 b3 (by simp; omega)⟩

theorem prN_cost : ∀ (d : Nat) (b : List Int) (hb : Byt b) (kind id : Int) (p c q : Nat) (Y : List TNode), isKind kind = true → p ≤ b.length → c ≤ 1500 → prN d b kind id p c = .ok q Y → q ≤ b.length ∧ CostLe d Y (q - p) := by
  intro d
  induction d with
  | zero => intro b hb kind id p c q Y hk hp hc h; cases h
  | succ d ih =>
    intro b hb kind id p c q Y hk hp hc h
    have ihS : ∀ t id p c q Y, isKind t = true → p ≤ b.length → c ≤ 1500 → prN d b t id p c = .ok q Y → p ≤ q ∧ q ≤ b.length ∧ (∃ x X, Y = x :: X ∧ x.2.1 = id) ∧ c + Y.length ≤ 1500 ∧ CostLe d Y (q - p) := by
      intro t id p c q Y hk hp hc h
      obtain ⟨a1, x, X, rfl, x1, x2, x3, x4⟩ := prN_enc d b t id p c q Y hk hc h
      obtain ⟨b1, b2⟩ := ih b hb t id p c q _ hk hp hc h
      exact ⟨a1, b1, ⟨x, X, rfl, x2⟩, x4, b2⟩
    simp only [prN] at h
    split at h
    · cases h
    · rename_i hc5
      split at h
      · rename_i h56
        split at h
        · cases h
        · rename_i u n hg
          obtain ⟨f1, f2, f3, f4, f5⟩ := gv_facts _ u n (fun x hx => hb x (List.mem_of_mem_drop hx)) hg
          rw [List.length_drop] at f3
          split at h
          · cases h
          · simp only [Res.ok.injEq] at h
            obtain ⟨rfl, rfl⟩ := h
            refine ⟨by omega, fun rest => ?_⟩
            simp only [List.cons_append, List.nil_append, cost, if_pos h56, zig_zagV f1]
            exact ⟨trivial, by omega⟩
      · rename_i h56
        split at h
        · rename_i h8
          split at h
          · cases h
          · rename_i q' s hs
            simp only [Res.ok.injEq] at h
            obtain ⟨rfl, rfl⟩ := h
            obtain ⟨s1, s2⟩ := prText_len hb hs
            refine ⟨s1, fun rest => ?_⟩
            simp only [List.cons_append, List.nil_append, cost, if_neg (show ¬ ((8 : Int) = 5 ∨ (8 : Int) = 6) by omega), if_true]
            exact ⟨trivial, by omega⟩
        · rename_i h8
          split at h
          · rename_i h9
            split at h
            · cases h
            · rename_i q1 many item hm
              obtain ⟨m0, m1⟩ := prMany_ok hm
              obtain ⟨l0, l1⟩ := prMany_len hb hm
              split at h
              · cases h
              · rename_i q2 Y' hq
                simp only [Res.ok.injEq] at h
                obtain ⟨rfl, rfl⟩ := h
                have key : q1 ≤ q2 ∧ q2 ≤ b.length ∧ CostPLe d false many.toNat 0 Y' (q2 - q1) := by
                  rcases m1 with ⟨rfl, rfl⟩ | ⟨m1, m2, m3⟩
                  · simp only [Int.toNat_zero, prParts, Res.ok.injEq] at hq
                    obtain ⟨rfl, rfl⟩ := hq
                    exact ⟨Nat.le_refl _, l0, fun rest => ⟨rfl, Nat.zero_le _⟩⟩
                  · refine prParts_cost (d := d) (b := b) (fun p c q Y hp hc h => ?_) _ _ _ 0 _ _ l0 (by omega) hq
                    obtain ⟨c1, c2, ⟨x, X, c3, _⟩, c4, c5⟩ := ihS _ _ _ _ _ _ (isKind_of_item m3) hp hc h
                    exact ⟨c1, c2, by rw [c3]; simp, c4, c5⟩
                obtain ⟨k0, k1, k2⟩ := key
                refine ⟨k1, fun rest => ?_⟩
                obtain ⟨e1, e2⟩ := k2 rest
                simp only [List.cons_append, cost, if_neg (show ¬ ((9 : Int) = 5 ∨ (9 : Int) = 6) by omega), if_neg (show ¬ ((9 : Int) = 8) by omega), if_true]
                exact ⟨e1, by omega⟩
          · rename_i h9
            split at h
            · rename_i h12
              split at h
              · cases h
              · rename_i q1 m Y' hf
                simp only [Res.ok.injEq] at h
                obtain ⟨rfl, rfl⟩ := h
                obtain ⟨k0, k1, k2⟩ := prFields_cost (d := d) hb ihS _ _ _ _ _ _ _ (Int.le_refl 0) hp (by omega) hf
                refine ⟨k1, fun rest => ?_⟩
                obtain ⟨e1, e2⟩ := k2 rest
                simp only [List.cons_append, cost, if_neg (show ¬ ((12 : Int) = 5 ∨ (12 : Int) = 6) by omega), if_neg (show ¬ ((12 : Int) = 8) by omega), if_neg (show ¬ ((12 : Int) = 9) by omega), if_true, Int.toNat_natCast]
                exact ⟨e1, by omega⟩
            · rename_i h12
              simp only [Res.ok.injEq] at h
              obtain ⟨rfl, rfl⟩ := h
              refine ⟨hp, fun rest => ?_⟩
              simp only [List.cons_append, List.nil_append, cost, if_neg h56, if_neg h8, if_neg h9, if_neg h12]
              exact ⟨trivial, by omega⟩
end Go.Law
end

section
/- Trees: what is read of bytes that are cut off. -/
set_option linter.unusedVariables false
set_option linter.unusedSimpArgs false
namespace Go.Law
open Go.Am Go.Fn

theorem get_take (b : List Int) (m p : Nat) : (b.take m)[p]? = if p < m then b[p]? else none := List.getElem?_take

theorem gv_cut {b : List Int} {m p n : Nat} {u : Int} (h : gv (b.drop p) = some (u, n)) : gv ((b.take m).drop p) = if n ≤ m - p then some (u, n) else none := by
  rw [List.drop_take]
  exact gv_take _ u n (m - p) h

theorem gv_pos {l : List Int} {u : Int} {n : Nat} (h : gv l = some (u, n)) : 1 ≤ n := by
  cases n with
  | zero =>
    have := gv_take l u 0 0 h
    rw [List.take_zero] at this
    simp [gv, gvN] at this
  | succ n => omega

theorem prHead_cut {b : List Int} {p q m : Nat} {last : Int} {x : Int × Int} (h : prHead b p last = .ok q x) : prHead (b.take m) p last = if q ≤ m then .ok q x else .bad 1 := by
  unfold prHead at h ⊢
  rw [get_take]
  split at h
  · cases h
  · rename_i y hy
    by_cases hpm : p < m
    · rw [if_pos hpm, hy]
      simp only
      split at h
      · rename_i h0
        rw [if_pos h0]
        simp only [Res.ok.injEq] at h
        obtain ⟨rfl, rfl⟩ := h
        rw [if_pos (by omega)]
      · rename_i h0
        rw [if_neg h0]
        split at h
        · cases h
        · rename_i hk
          rw [if_neg hk]
          by_cases h16 : y / 16 = 0
          · simp only [h16, if_true] at h ⊢
            cases hg : gv (b.drop (p + 1)) with
            | none => rw [hg] at h; cases h
            | some z =>
              rw [hg] at h
              obtain ⟨u, n⟩ := z
              rw [gv_cut hg]
              simp only [Option.map_some] at h
              by_cases hn : n ≤ m - (p + 1)
              · rw [if_pos hn]
                simp only [Option.map_some]
                split at h
                · cases h
                · rename_i c1
                  rw [if_neg c1]
                  split at h
                  · cases h
                  · rename_i c2
                    rw [if_neg c2]
                    simp only [Res.ok.injEq] at h
                    obtain ⟨rfl, rfl⟩ := h
                    rw [if_pos (by omega)]
              · rw [if_neg hn]
                simp only [Option.map_none]
                split at h
                · cases h
                · split at h
                  · cases h
                  · simp only [Res.ok.injEq] at h
                    rw [if_neg (by omega)]
          · simp only [h16, if_false] at h ⊢
            split at h
            · cases h
            · rename_i c1
              rw [if_neg c1]
              split at h
              · cases h
              · rename_i c2
                rw [if_neg c2]
                simp only [Res.ok.injEq] at h
                obtain ⟨rfl, rfl⟩ := h
                rw [if_pos (by omega)]
    · rw [if_neg hpm]
      have hq : p < q := by
        obtain ⟨x1, x2⟩ := x
        exact (prHead_ok (b := b) (p := p) (last := last) (q := q) (t := x1) (id := x2) (by
          unfold prHead
          rw [hy]
          exact h)).1
      rw [if_neg (by omega)]

theorem prMany_cut {b : List Int} {p q m : Nat} {x : Int × Int} (h : prMany b p = .ok q x) : prMany (b.take m) p = if q ≤ m then .ok q x else .bad 1 := by
  unfold prMany at h ⊢
  rw [get_take]
  split at h
  · cases h
  · rename_i y hy
    by_cases hpm : p < m
    · rw [if_pos hpm, hy]
      simp only
      by_cases h15 : y / 16 = 15
      · simp only [h15, if_true] at h ⊢
        cases hg : gv (b.drop (p + 1)) with
        | none => rw [hg] at h; cases h
        | some z =>
          rw [hg] at h
          obtain ⟨u, n⟩ := z
          rw [gv_cut hg]
          simp only [Option.map_some] at h
          by_cases hn : n ≤ m - (p + 1)
          · rw [if_pos hn]
            simp only [Option.map_some]
            split at h
            · rename_i c1
              rw [if_pos c1]
              simp only [Res.ok.injEq] at h
              obtain ⟨rfl, rfl⟩ := h
              rw [if_pos (by omega)]
            · rename_i c1
              rw [if_neg c1]
              split at h
              · cases h
              · rename_i c2
                rw [if_neg c2]
                split at h
                · cases h
                · rename_i c3
                  rw [if_neg c3]
                  simp only [Res.ok.injEq] at h
                  obtain ⟨rfl, rfl⟩ := h
                  rw [if_pos (by omega)]
          · rw [if_neg hn]
            simp only [Option.map_none]
            split at h
            · simp only [Res.ok.injEq] at h
              rw [if_neg (by omega)]
            · split at h
              · cases h
              · split at h
                · cases h
                · simp only [Res.ok.injEq] at h
                  rw [if_neg (by omega)]
      · simp only [h15, if_false] at h ⊢
        split at h
        · rename_i c1
          rw [if_pos c1]
          simp only [Res.ok.injEq] at h
          obtain ⟨rfl, rfl⟩ := h
          rw [if_pos (by omega)]
        · rename_i c1
          rw [if_neg c1]
          split at h
          · cases h
          · rename_i c2
            rw [if_neg c2]
            split at h
            · cases h
            · rename_i c3
              rw [if_neg c3]
              simp only [Res.ok.injEq] at h
              obtain ⟨rfl, rfl⟩ := h
              rw [if_pos (by omega)]
    · rw [if_neg hpm]
      have hq : p < q := by
        obtain ⟨x1, x2⟩ := x
        exact (prMany_ok (b := b) (p := p) (q := q) (many := x1) (item := x2) (by
          unfold prMany
          rw [hy]
          exact h)).1
      rw [if_neg (by omega)]

theorem prText_cut {b : List Int} {p q m : Nat} {s : ByteArray} (h : prText b p = .ok q s) : prText (b.take m) p = if q ≤ m then .ok q s else .bad 1 := by
  unfold prText at h ⊢
  split at h
  · cases h
  · rename_i u n hg
    have hn1 := gv_pos hg
    rw [gv_cut hg]
    split at h
    · cases h
    · rename_i c1
      split at h
      · cases h
      · rename_i c2
        simp only [Res.ok.injEq] at h
        obtain ⟨rfl, rfl⟩ := h
        by_cases hn : n ≤ m - p
        · rw [if_pos hn]
          simp only
          rw [if_neg c1]
          by_cases hq : p + n + u.toNat ≤ m
          · rw [if_pos hq, if_neg (by rw [List.length_take]; omega), List.drop_take, List.take_take, show min u.toNat (m - (p + n)) = u.toNat by omega]
          · rw [if_neg hq, if_pos (by rw [List.length_take]; omega)]
        · rw [if_neg hn, if_neg (by omega)]

theorem prParts_mono {S : Nat → Nat → Res (List TNode)} (ih : ∀ p c q Y, S p c = .ok q Y → p ≤ q) : ∀ (j p c q : Nat) (Y : List TNode), prParts S j p c = .ok q Y → p ≤ q := by
  intro j
  induction j with
  | zero =>
    intro p c q Y h
    simp only [prParts, Res.ok.injEq] at h
    omega
  | succ j ihj =>
    intro p c q Y h
    simp only [prParts] at h
    split at h
    · cases h
    · rename_i h1
      split at h
      · cases h
      · rename_i h2
        simp only [Res.ok.injEq] at h
        have := ih _ _ _ _ h1
        have := ihj _ _ _ _ h2
        omega

theorem prFields_mono {S : Int → Int → Nat → Nat → Res (List TNode)} {b : List Int} (ih : ∀ t id p c q Y, S t id p c = .ok q Y → p ≤ q) : ∀ (f : Nat) (last : Int) (p c q : Nat) (Y : Nat × List TNode), prFields S b f last p c = .ok q Y → p < q := by
  intro f
  induction f with
  | zero => intro last p c q Y h; cases h
  | succ f ihf =>
    intro last p c q Y h
    simp only [prFields] at h
    split at h
    · cases h
    · rename_i h1
      have := (prHead_ok h1).1
      split at h
      · simp only [Res.ok.injEq] at h
        omega
      · split at h
        · cases h
        · rename_i h2
          split at h
          · cases h
          · rename_i h3
            simp only [Res.ok.injEq] at h
            have := ih _ _ _ _ _ _ h2
            have := ihf _ _ _ _ _ h3
            omega

theorem prN_mono : ∀ (d : Nat) (b : List Int) (kind id : Int) (p c q : Nat) (Y : List TNode), prN d b kind id p c = .ok q Y → p ≤ q := by
  intro d
  induction d with
  | zero => intro b kind id p c q Y h; cases h
  | succ d ih =>
    intro b kind id p c q Y h
    simp only [prN] at h
    split at h
    · cases h
    · split at h
      · split at h
        · cases h
        · split at h
          · cases h
          · simp only [Res.ok.injEq] at h
            omega
      · split at h
        · split at h
          · cases h
          · rename_i hs
            simp only [Res.ok.injEq] at h
            have := (prText_ok hs).1
            omega
        · split at h
          · split at h
            · cases h
            · rename_i hm
              have := (prMany_ok hm).1
              split at h
              · cases h
              · rename_i hp
                simp only [Res.ok.injEq] at h
                have := prParts_mono (fun p c q Y h => ih b _ 0 p c q Y h) _ _ _ _ _ hp
                omega
          · split at h
            · split at h
              · cases h
              · rename_i hf
                simp only [Res.ok.injEq] at h
                have := prFields_mono (fun t id p c q Y h => ih b t id p c q Y h) _ _ _ _ _ _ hf
                omega
            · simp only [Res.ok.injEq] at h
              omega

theorem prParts_cut {m : Nat} {S S' : Nat → Nat → Res (List TNode)} (mono : ∀ p c q Y, S p c = .ok q Y → p ≤ q) (ih : ∀ p c q Y, p ≤ m → S p c = .ok q Y → S' p c = if q ≤ m then .ok q Y else .bad 1) : ∀ (j p c q : Nat) (Y : List TNode), p ≤ m → prParts S j p c = .ok q Y → prParts S' j p c = if q ≤ m then .ok q Y else .bad 1 := by
  intro j
  induction j with
  | zero =>
    intro p c q Y hp h
    simp only [prParts, Res.ok.injEq] at h ⊢
    obtain ⟨rfl, rfl⟩ := h
    rw [if_pos hp]
  | succ j ihj =>
    intro p c q Y hp h
    simp only [prParts] at h ⊢
    split at h
    · cases h
    · rename_i q1 Y1 h1
      have a2 := ih _ _ _ _ hp h1
      split at h
      · cases h
      · rename_i q2 Z h2
        have hm := prParts_mono mono _ _ _ _ _ h2
        simp only [Res.ok.injEq] at h
        obtain ⟨rfl, rfl⟩ := h
        rw [a2]
        by_cases hq : q1 ≤ m
        · have b2 := ihj _ _ _ _ hq h2
          rw [if_pos hq]
          simp only [b2]
          by_cases hq2 : q2 ≤ m
          · rw [if_pos hq2, if_pos hq2]
          · rw [if_neg hq2, if_neg hq2]
        · rw [if_neg hq, if_neg (by omega)]

theorem prFields_cut {m : Nat} {b : List Int} {S S' : Int → Int → Nat → Nat → Res (List TNode)} (mono : ∀ t id p c q Y, S t id p c = .ok q Y → p ≤ q) (ih : ∀ t id p c q Y, p ≤ m → S t id p c = .ok q Y → S' t id p c = if q ≤ m then .ok q Y else .bad 1) : ∀ (f : Nat) (last : Int) (p c q : Nat) (Y : Nat × List TNode), prFields S b f last p c = .ok q Y → prFields S' (b.take m) f last p c = if q ≤ m then .ok q Y else .bad 1 := by
  intro f
  induction f with
  | zero => intro last p c q Y h; cases h
  | succ f ihf =>
    intro last p c q Y h
    simp only [prFields] at h ⊢
    split at h
    · cases h
    · rename_i q1 t id h1
      rw [prHead_cut h1]
      split at h
      · rename_i ht
        simp only [Res.ok.injEq] at h
        obtain ⟨rfl, rfl⟩ := h
        by_cases hq : q1 ≤ m
        · rw [if_pos hq, if_pos hq]
          simp only [if_pos ht]
        · rw [if_neg hq, if_neg hq]
      · rename_i ht
        split at h
        · cases h
        · rename_i q2 Y1 h2
          have m2 := mono _ _ _ _ _ _ h2
          split at h
          · cases h
          · rename_i q3 m' Z h3
            have m3 := prFields_mono mono _ _ _ _ _ _ h3
            simp only [Res.ok.injEq] at h
            obtain ⟨rfl, rfl⟩ := h
            by_cases hq : q1 ≤ m
            · rw [if_pos hq]
              simp only [if_neg ht, ih _ _ _ _ _ _ hq h2]
              by_cases hq2 : q2 ≤ m
              · rw [if_pos hq2]
                simp only [ihf _ _ _ _ _ h3]
                by_cases hq3 : q3 ≤ m
                · rw [if_pos hq3, if_pos hq3]
                · rw [if_neg hq3, if_neg hq3]
              · rw [if_neg hq2, if_neg (by omega)]
            · rw [if_neg hq, if_neg (by omega)]

theorem prN_cut : ∀ (d : Nat) (b : List Int) (kind id : Int) (p c q m : Nat) (Y : List TNode), p ≤ m → prN d b kind id p c = .ok q Y → prN d (b.take m) kind id p c = if q ≤ m then .ok q Y else .bad 1 := by
  intro d
  induction d with
  | zero => intro b kind id p c q m Y hp h; cases h
  | succ d ih =>
    intro b kind id p c q m Y hp h
    simp only [prN] at h ⊢
    split at h
    · cases h
    · rename_i hc5
      rw [if_neg hc5]
      split at h
      · rename_i h56
        rw [if_pos h56]
        split at h
        · cases h
        · rename_i u n hg
          have hn1 := gv_pos hg
          rw [gv_cut hg]
          split at h
          · cases h
          · rename_i h32
            simp only [Res.ok.injEq] at h
            obtain ⟨rfl, rfl⟩ := h
            by_cases hq : n ≤ m - p
            · rw [if_pos hq, if_pos (by omega)]
              simp only [if_neg h32]
            · rw [if_neg hq, if_neg (by omega)]
      · rename_i h56
        rw [if_neg h56]
        split at h
        · rename_i h8
          rw [if_pos h8]
          split at h
          · cases h
          · rename_i q' s hs
            simp only [Res.ok.injEq] at h
            obtain ⟨rfl, rfl⟩ := h
            rw [prText_cut hs]
            by_cases hq : q' ≤ m
            · rw [if_pos hq, if_pos hq]
            · rw [if_neg hq, if_neg hq]
        · rename_i h8
          rw [if_neg h8]
          split at h
          · rename_i h9
            rw [if_pos h9]
            split at h
            · cases h
            · rename_i q1 many item hm
              rw [prMany_cut hm]
              split at h
              · cases h
              · rename_i q2 Y' hq
                have hmono := prParts_mono (fun p c q Y h => prN_mono d b _ 0 p c q Y h) _ _ _ _ _ hq
                simp only [Res.ok.injEq] at h
                obtain ⟨rfl, rfl⟩ := h
                by_cases hq1 : q1 ≤ m
                · rw [if_pos hq1]
                  simp only
                  rw [prParts_cut (S' := fun p c => prN d (b.take m) item 0 p c) (fun p c q Y h => prN_mono d b _ 0 p c q Y h) (fun p c q Y hp h => ih b item 0 p c q m Y hp h) _ _ _ _ _ hq1 hq]
                  by_cases hq2 : q2 ≤ m
                  · rw [if_pos hq2, if_pos hq2]
                  · rw [if_neg hq2, if_neg hq2]
                · rw [if_neg hq1, if_neg (by omega)]
          · rename_i h9
            rw [if_neg h9]
            split at h
            · rename_i h12
              rw [if_pos h12]
              split at h
              · cases h
              · rename_i q1 m' Y' hf
                simp only [Res.ok.injEq] at h
                obtain ⟨rfl, rfl⟩ := h
                rw [prFields_cut (S' := fun t id p c => prN d (b.take m) t id p c) (fun t id p c q Y h => prN_mono d b t id p c q Y h) (fun t id p c q Y hp h => ih b t id p c q m Y hp h) _ _ _ _ _ _ hf]
                by_cases hq1 : q1 ≤ m
                · rw [if_pos hq1, if_pos hq1]
                · rw [if_neg hq1, if_neg hq1]
            · rename_i h12
              rw [if_neg h12]
              simp only [Res.ok.injEq] at h
              obtain ⟨rfl, rfl⟩ := h
              rw [if_pos hp]
end Go.Law
end

section
/- Trees: what a reader reads of the bytes at hand. -/
set_option linter.unusedVariables false
set_option linter.unusedSimpArgs false
namespace Go.Law
open Go.Am Go.Fn

/-- a reader at a place, nothing wrong -/
abbrev rdr (b : List Int) (p : Nat) : TTreeReaderB := (b, (p : Int), (), 0, ())

variable (k : Nat) (hk : 2000 ≤ k)

theorem one_ok {b : List Int} {p : Nat} {y : Int} {r : List Int} {acc : List TNode} (hb : b.length < 4611686018427387904) (h : b.drop p = y :: r) (h0 : 0 ≤ y) (h1 : y < 256) :
    impl_treeReader_one k (rdr b p) acc = some (y, (rdr b (p + 1), acc)) := by
  obtain ⟨g1, g2, g3⟩ := drop_get h
  unfold impl_treeReader_one
  have e : IntKind.wrap .i64 ((p : Int) + 1) = ((p + 1 : Nat) : Int) := by rw [w64 (by omega) (by omega)]; omega
  have e2 : IntKind.wrap .i64 (((p + 1 : Nat) : Int) - 1) = (p : Int) := by rw [w64 (by omega) (by omega)]; omega
  have c : decide ((p : Int) ≥ (b.length : Int)) = false := decide_eq_false (by omega)
  simp only [bneF rfl, cst, Option.bind_some, c, Bool.or_self, cond_false, e, e2, rdL_nat, g1, w64 (show -9223372036854775808 ≤ y by omega) (by omega)]

theorem uvar_ok (hk : 2000 ≤ k) {b : List Int} {p : Nat} {x : Int} {r : List Int} {acc : List TNode} (hb : b.length < 4611686018427387904) (h : b.drop p = uv x ++ r) (hx : I64 x) :
    impl_treeReader_uvar k (rdr b p) acc = some (x, (rdr b (p + (uv x).length), acc)) := by
  unfold impl_treeReader_uvar
  rw [show (rdr b p).1 = b from rfl, show (rdr b p).2.1 = (p : Int) from rfl, uvarGet k (by omega) b p x r hb h hx.1 hx.2]
  simp only [Option.bind_some, bneF rfl, cst, Bool.not_true, Bool.or_self, cond_false]

theorem text_ok (hk : 2000 ≤ k) {b : List Int} {p : Nat} {s : ByteArray} {r : List Int} {acc : List TNode} (hb : b.length < 4611686018427387904) (h : b.drop p = uv (s.size : Int) ++ (strInts s ++ r)) (hs : s.size ≤ 300) :
    impl_treeReader_text k (rdr b p) acc = some (s, (rdr b (p + ((uv (s.size : Int)).length + s.size)), acc)) := by
  have hu := (uv_len (s.size : Int)).2
  obtain ⟨d1, d2⟩ := drop_app h
  have hlen := congrArg List.length h
  simp [strInts_length] at hlen
  have hu0 := (uv_len (s.size : Int)).1
  unfold impl_treeReader_text impl_treeReader_text.c4 impl_treeReader_text.c6
  rw [uvar_ok k hk hb h ⟨by omega, by omega⟩]
  have e1 : IntKind.wrap .i64 ((b.length : Int) - ((p + (uv (s.size : Int)).length : Nat) : Int)) = (b.length : Int) - ((p + (uv (s.size : Int)).length : Nat) : Int) := w64 (by omega) (by omega)
  have e2 : IntKind.wrap .i64 (((p + (uv (s.size : Int)).length : Nat) : Int) + (s.size : Int)) = ((p + ((uv (s.size : Int)).length + s.size) : Nat) : Int) := by rw [w64 (by omega) (by omega)]; omega
  have e3 : IntKind.wrap .i64 (((p + ((uv (s.size : Int)).length + s.size) : Nat) : Int) - (s.size : Int)) = ((p + (uv (s.size : Int)).length : Nat) : Int) := by rw [w64 (by omega) (by omega)]; omega
  have c1 : (decide ((0 : Int) ≤ (s.size : Int)) && decide ((s.size : Int) ≤ 300)) = true := by simp; omega
  have c2 : decide ((s.size : Int) > (b.length : Int) - ((p + (uv (s.size : Int)).length : Nat) : Int)) = false := decide_eq_false (by omega)
  have c3 : inSl ((p + (uv (s.size : Int)).length : Nat) : Int) ((p + ((uv (s.size : Int)).length + s.size) : Nat) : Int) b.length = true := inSl_ok (by omega) (by omega) (by omega)
  have hcut : cutL b ((p + (uv (s.size : Int)).length : Nat) : Int) ((p + ((uv (s.size : Int)).length + s.size) : Nat) : Int) = strInts s := by
    unfold cutL
    rw [Int.toNat_natCast, Int.toNat_natCast, List.drop_take, d1, show p + ((uv (s.size : Int)).length + s.size) - (p + (uv (s.size : Int)).length) = (strInts s).length by rw [strInts_length]; omega]
    simp
  simp only [Option.bind_some, beqT rfl, bneF rfl, within_eq, c1, Bool.not_true, cond_true, cond_false, e1, c2, e2, e3, c3, hcut, intsStr_strInts]

theorem begin_ok {o : TTreeReaderB} {n : TNode} {deep : Nat} {acc : List TNode} (ho : o.2.2.2.1 = 0) (hd : deep ≤ 12) (ha : acc.length < 1500) :
    impl_treeReader_begin k n (deep : Int) o acc = some ((acc.length : Int), (o, acc ++ [n])) := by
  unfold impl_treeReader_begin impl_treeReader_begin.c3
  have c1 : decide ((deep : Int) > 12) = false := decide_eq_false (by omega)
  have c2 : ((acc.length : Int) == 1500) = false := beqF (by omega)
  have c3 : lim (acc.length + [n].length) = true := lim_ok (by simp; omega)
  have e : IntKind.wrap .i64 (((acc ++ [n]).length : Int) - 1) = (acc.length : Int) := by
    rw [List.length_append, List.length_singleton, w64 (by omega) (by omega)]; omega
  simp only [c1, c2, cond_false, Option.bind_some, ho, bneF rfl, c3, cond_true, e]
end Go.Law
end

section
/- Trees: what the program reads of any bytes. -/
set_option linter.unusedVariables false
set_option linter.unusedSimpArgs false
namespace Go.Law
open Go.Am Go.Fn

/-- a reader at a place, with a code -/
abbrev rdE (b : List Int) (p : Nat) (e : Int) : TTreeReaderB := (b, (p : Int), (), e, ())

variable (k : Nat)

theorem fail_ok (b : List Int) (p : Nat) (e : Int) (acc : List TNode) : impl_treeReader_fail k e (rdE b p 0) acc = some ((), (rdE b p e, acc)) := by
  unfold impl_treeReader_fail
  rw [beqT rfl, cond_true]
theorem fail_no (b : List Int) (p : Nat) {e : Int} (he : e ≠ 0) (x : Int) (acc : List TNode) : impl_treeReader_fail k x (rdE b p e) acc = some ((), (rdE b p e, acc)) := by
  unfold impl_treeReader_fail
  rw [beqF he, cond_false]

theorem iget_any (hk : 2000 ≤ k) {b : List Int} (hl : b.length < 4611686018427387904) (hb : Byt b) (p : Nat) (hp : p ≤ b.length) : impl_UvarGet k b (p : Int) = match gv (b.drop p) with
    | none => some (0, 0, false)
    | some (u, n) => some (u, ((p + n : Nat) : Int), true) := by
  unfold impl_UvarGet
  rw [decide_eq_false (by omega), cond_false]
  have h := igetLoop k b p hl hb (by omega) 10 k 0 0 rfl (by omega) (by simp)
  rw [show ((0 : Nat) : Int) = 0 from rfl] at h
  rw [h]
  unfold gv
  rw [Nat.add_zero]
  cases gvN 10 (b.drop p) with
  | none => rfl
  | some x =>
    simp only [Option.map_some, Nat.mul_zero, Nat.pow_zero, Nat.mul_one, Nat.zero_add]

theorem uvar_any (hk : 2000 ≤ k) {b : List Int} (hl : b.length < 4611686018427387904) (hb : Byt b) (p : Nat) (hp : p ≤ b.length) (acc : List TNode) : impl_treeReader_uvar k (rdE b p 0) acc = match gv (b.drop p) with
    | none => some (0, (rdE b p 1, acc))
    | some (u, n) => some (u, (rdE b (p + n) 0, acc)) := by
  unfold impl_treeReader_uvar
  rw [show (rdE b p 0).1 = b from rfl, show (rdE b p 0).2.1 = (p : Int) from rfl, iget_any k hk hl hb p hp]
  cases gv (b.drop p) with
  | none => simp only [Option.bind_some, bneF rfl, cst, Bool.not_false, Bool.or_true, cond_true, fail_ok]
  | some x => simp only [Option.bind_some, bneF rfl, cst, Bool.not_true, Bool.or_self, cond_false]

theorem uvar_no (hk : 2000 ≤ k) {b : List Int} (hl : b.length < 4611686018427387904) (hb : Byt b) (p : Nat) (hp : p ≤ b.length) {e : Int} (he : e ≠ 0) (acc : List TNode) : impl_treeReader_uvar k (rdE b p e) acc = some (0, (rdE b p e, acc)) := by
  unfold impl_treeReader_uvar
  rw [show (rdE b p e).1 = b from rfl, show (rdE b p e).2.1 = (p : Int) from rfl, iget_any k hk hl hb p hp]
  cases gv (b.drop p) with
  | none => simp only [Option.bind_some, bneT he, cst, Bool.true_or, cond_true, fail_no k b p he]
  | some x => simp only [Option.bind_some, bneT he, cst, Bool.true_or, cond_true, fail_no k b p he]

theorem one_any {b : List Int} (hl : b.length < 4611686018427387904) (hb : Byt b) (p : Nat) (hp : p ≤ b.length) (acc : List TNode) : impl_treeReader_one k (rdE b p 0) acc = match b[p]? with
    | none => some (0, (rdE b p 1, acc))
    | some h => some (h, (rdE b (p + 1) 0, acc)) := by
  unfold impl_treeReader_one
  by_cases hlt : p < b.length
  · obtain ⟨c, hc, hc2⟩ := drop_cons_of hlt
    obtain ⟨c0, c1⟩ := hb c (List.mem_of_getElem? hc2)
    rw [hc2]
    have e : IntKind.wrap .i64 ((p : Int) + 1) = ((p + 1 : Nat) : Int) := by rw [w64 (by omega) (by omega)]; omega
    have e2 : IntKind.wrap .i64 (((p + 1 : Nat) : Int) - 1) = (p : Int) := by rw [w64 (by omega) (by omega)]; omega
    have cc : decide ((p : Int) ≥ (b.length : Int)) = false := decide_eq_false (by omega)
    have ec : IntKind.wrap .i64 c = c := w64 (by omega) (by omega)
    simp only [bneF rfl, cst, Option.bind_some, cc, Bool.or_self, cond_false, e, e2, rdL_nat, hc2, ec]
  · rw [List.getElem?_eq_none (by omega)]
    have c : decide ((p : Int) ≥ (b.length : Int)) = true := decide_eq_true (by omega)
    simp only [bneF rfl, cst, Option.bind_some, c, Bool.or_true, cond_true, fail_ok]

theorem one_no {b : List Int} (p : Nat) {e : Int} (he : e ≠ 0) (acc : List TNode) : impl_treeReader_one k (rdE b p e) acc = some (0, (rdE b p e, acc)) := by
  unfold impl_treeReader_one
  simp only [bneT he, cst, Option.bind_some, Bool.true_or, cond_true, fail_no k b p he]

theorem text_any (hk : 2000 ≤ k) {b : List Int} (hl : b.length < 4611686018427387904) (hb : Byt b) (p : Nat) (hp : p ≤ b.length) (acc : List TNode) :
    match prText b p with
    | .bad e => e ≠ 0 ∧ ∃ q, q ≤ b.length ∧ impl_treeReader_text k (rdE b p 0) acc = some (⟨#[]⟩, (rdE b q e, acc))
    | .ok q s => impl_treeReader_text k (rdE b p 0) acc = some (s, (rdE b q 0, acc)) := by
  unfold impl_treeReader_text prText
  rw [uvar_any k hk hl hb p hp]
  cases hg : gv (b.drop p) with
  | none =>
    refine ⟨by decide, p, hp, ?_⟩
    simp only [Option.bind_some, beqF (show ¬ (1 : Int) = 0 by decide), cond_false, impl_treeReader_text.c4, impl_treeReader_text.c6, bneT (show ¬ (1 : Int) = 0 by decide), cond_true]
  | some z =>
    obtain ⟨u, n⟩ := z
    obtain ⟨⟨f0, f1⟩, f2, f3, f4, f5⟩ := gv_facts _ u n (fun x hx => hb x (List.mem_of_mem_drop hx)) hg
    rw [List.length_drop] at f3
    simp only [Option.bind_some, beqT rfl, cond_true, within_eq]
    by_cases hu : u < 0 ∨ 300 < u
    · rw [if_pos hu]
      have c1 : (decide ((0 : Int) ≤ u) && decide (u ≤ 300)) = false := by
        rw [Bool.eq_false_iff]; intro q
        simp only [Bool.and_eq_true, decide_eq_true_eq] at q
        omega
      refine ⟨by decide, p + n, by omega, ?_⟩
      simp only [c1, Bool.not_false, cond_true, fail_ok, Option.bind_some, impl_treeReader_text.c4, impl_treeReader_text.c6, beqF (show ¬ (4 : Int) = 0 by decide), cond_false, bneT (show ¬ (4 : Int) = 0 by decide)]
    · rw [if_neg hu]
      have c1 : (decide ((0 : Int) ≤ u) && decide (u ≤ 300)) = true := by simp; omega
      have e1 : IntKind.wrap .i64 ((b.length : Int) - ((p + n : Nat) : Int)) = (b.length : Int) - ((p + n : Nat) : Int) := w64 (by omega) (by omega)
      simp only [c1, Bool.not_true, cond_false, impl_treeReader_text.c4, beqT rfl, cond_true, Option.bind_some, e1]
      by_cases hs : (b.length : Int) - ((p + n : Nat) : Int) < u
      · rw [if_pos hs]
        refine ⟨by decide, p + n, by omega, ?_⟩
        simp only [decide_eq_true (show u > (b.length : Int) - ((p + n : Nat) : Int) from hs), cond_true, fail_ok, Option.bind_some, impl_treeReader_text.c6, bneT (show ¬ (1 : Int) = 0 by decide)]
      · rw [if_neg hs]
        obtain ⟨U, rfl⟩ := Int.eq_ofNat_of_zero_le (show 0 ≤ u by omega)
        have e2 : IntKind.wrap .i64 (((p + n : Nat) : Int) + (U : Int)) = ((p + n + U : Nat) : Int) := by rw [w64 (by omega) (by omega)]; omega
        have e3 : IntKind.wrap .i64 (((p + n + U : Nat) : Int) - (U : Int)) = ((p + n : Nat) : Int) := by rw [w64 (by omega) (by omega)]; omega
        have c3 : inSl ((p + n : Nat) : Int) ((p + n + U : Nat) : Int) b.length = true := inSl_ok (by omega) (by omega) (by omega)
        have hcut : cutL b ((p + n : Nat) : Int) ((p + n + U : Nat) : Int) = (b.drop (p + n)).take U := by
          unfold cutL
          rw [Int.toNat_natCast, Int.toNat_natCast, List.drop_take, show p + n + U - (p + n) = U by omega]
        simp only [decide_eq_false (show ¬ ((U : Int) > (b.length : Int) - ((p + n : Nat) : Int)) from hs), cond_false, impl_treeReader_text.c6, bneF rfl, e2, e3, c3, cond_true, hcut, Int.toNat_natCast]

/-- what a node comes to -/
def INode (S : Int → Int → Int → TTreeReaderB → List TNode → Option (Unit × TTreeReaderB × List TNode)) (b : List Int) (kind id deep : Int) (p : Nat) (acc : List TNode) (r : Res (List TNode)) : Prop :=
  match r with
  | .bad e => e ≠ 0 ∧ ∃ q l, q ≤ b.length ∧ S kind id deep (rdE b p 0) acc = some ((), (rdE b q e, l))
  | .ok q Y => q ≤ b.length ∧ S kind id deep (rdE b p 0) acc = some ((), (rdE b q 0, acc ++ Y))

theorem iparts (S : Int → Int → Int → TTreeReaderB → List TNode → Option (Unit × TTreeReaderB × List TNode)) (b : List Int) (item : Int) (deep : Nat) (hdeep : deep ≤ 100) (P : Nat → Nat → Res (List TNode))
    (ih : ∀ (p : Nat) (acc : List TNode), p ≤ b.length → acc.length ≤ 1500 → INode S b item 0 ((deep + 1 : Nat) : Int) p acc (P p acc.length))
    (hP : ∀ p c q Y, c ≤ 1500 → P p c = .ok q Y → c + Y.length ≤ 1500) (many : Int) (hm : many ≤ 1500) :
    ∀ (m f : Nat) (i : Int) (p : Nat) (acc : List TNode), many - i = m → 0 ≤ i → m < f → p ≤ b.length → acc.length ≤ 1500 →
    match prParts P m p acc.length with
    | .bad e => e ≠ 0 ∧ ∃ q l, q ≤ b.length ∧ impl_treeReader_parts.l11 k S f (deep : Int) many item i (rdE b p 0) acc = some ((), (rdE b q e, l))
    | .ok q Y => q ≤ b.length ∧ impl_treeReader_parts.l11 k S f (deep : Int) many item i (rdE b p 0) acc = some ((), (rdE b q 0, acc ++ Y)) := by
  have hdw : IntKind.wrap .i64 ((deep : Int) + 1) = ((deep + 1 : Nat) : Int) := by rw [w64 (by omega) (by omega)]; omega
  intro m
  induction m with
  | zero =>
    intro f i p acc hi h0 hf hp hc
    obtain ⟨f, rfl⟩ : ∃ j, f = j + 1 := ⟨f - 1, by omega⟩
    simp only [prParts, impl_treeReader_parts.l11, decide_eq_false (show ¬ i < many by omega), cond_false, Option.bind_some, List.append_nil]
    exact ⟨hp, trivial⟩
  | succ m ihm =>
    intro f i p acc hi h0 hf hp hc
    obtain ⟨f, rfl⟩ : ∃ j, f = j + 1 := ⟨f - 1, by omega⟩
    have hi1 : IntKind.wrap .i64 (i + 1) = i + 1 := w64 (by omega) (by omega)
    have h1 := ih p acc hp hc
    simp only [prParts, impl_treeReader_parts.l11, decide_eq_true (show i < many by omega), cond_true, Option.bind_some, beqT rfl, hdw, hi1]
    unfold INode at h1
    cases hr : P p acc.length with
    | bad e =>
      rw [hr] at h1
      obtain ⟨he, q, l, hq, e1⟩ := h1
      refine ⟨he, q, l, hq, ?_⟩
      obtain ⟨f, rfl⟩ : ∃ j, f = j + 1 := ⟨f - 1, by omega⟩
      simp only [e1, Option.bind_some, impl_treeReader_parts.l11, beqF he]
      cases decide (i + 1 < many) <;> rfl
    | ok q Y =>
      rw [hr] at h1
      obtain ⟨hq, e1⟩ := h1
      have hlen := hP _ _ _ _ hc hr
      have h2 := ihm f (i + 1) q (acc ++ Y) (by omega) (by omega) (by omega) hq (by rw [List.length_append]; exact hlen)
      rw [List.length_append] at h2
      simp only [e1, Option.bind_some]
      cases hr2 : prParts P m q (acc.length + Y.length) with
      | bad e => rw [hr2] at h2; exact h2
      | ok q2 Z => rw [hr2] at h2; simpa [List.append_assoc] using h2

/-- what the parts of a struct come to -/
def IField (b : List Int) (pre : List TNode) (id0 : Int) (j : Nat) (mid : List TNode) (r : Res (Nat × List TNode)) (X : Option (Unit × TTreeReaderB × List TNode)) : Prop :=
  match r with
  | .bad e => e ≠ 0 ∧ ∃ q l, q ≤ b.length ∧ X = some ((), (rdE b q e, l))
  | .ok q (m, Y) => q ≤ b.length ∧ X = some ((), (rdE b q 0, pre ++ sn id0 ((j + m : Nat) : Int) :: (mid ++ Y)))

theorem ifields (hk : 2000 ≤ k) (S : Int → Int → Int → TTreeReaderB → List TNode → Option (Unit × TTreeReaderB × List TNode)) (b : List Int) (hl : b.length < 4611686018427387904) (hb : Byt b) (deep : Nat) (hdeep : deep ≤ 100) (P : Int → Int → Nat → Nat → Res (List TNode))
    (ih : ∀ (t id : Int) (p : Nat) (acc : List TNode), isKind t = true → p ≤ b.length → acc.length ≤ 1500 → INode S b t id ((deep + 1 : Nat) : Int) p acc (P t id p acc.length))
    (hP : ∀ t id p c q Y, isKind t = true → c ≤ 1500 → P t id p c = .ok q Y → c + Y.length ≤ 1500) (id0 : Int) (pre : List TNode) :
    ∀ (g f : Nat) (last : Int) (p : Nat) (j : Nat) (mid : List TNode), 1002 ≤ (g : Int) + last → 0 ≤ last → last ≤ 1000 → g < f → p ≤ b.length → pre.length + 1 + mid.length ≤ 1500 → (j : Int) + g ≤ 4000 →
    IField b pre id0 j mid (prFields P b g last p (pre.length + 1 + mid.length)) (impl_treeReader_fields.l1 k S f (pre.length : Int) (deep : Int) last (rdE b p 0) (pre ++ sn id0 j :: mid)) := by
  have hdw : IntKind.wrap .i64 ((deep : Int) + 1) = ((deep + 1 : Nat) : Int) := by rw [w64 (by omega) (by omega)]; omega
  intro g
  induction g with
  | zero => intro f last p j mid h1 h2 h3; omega
  | succ g ihg =>
    intro f last p j mid h1 h2 h3 hf hp hc hj
    obtain ⟨f, rfl⟩ : ∃ j, f = j + 1 := ⟨f - 1, by omega⟩
    simp only [prFields, prHead, impl_treeReader_fields.l1, one_any k hl hb p hp]
    cases hy : b[p]? with
    | none =>
      refine ⟨by decide, p, pre ++ sn id0 j :: mid, hp, ?_⟩
      simp only [Option.bind_some, bneT (show ¬ (1 : Int) = 0 by decide), cst, Bool.true_or, cond_true]
    | some y =>
      have hp1 : p < b.length := (List.getElem?_eq_some_iff.1 hy).1
      obtain ⟨y0, y1⟩ := hb y (List.mem_of_getElem? hy)
      simp only [Option.bind_some, bneF rfl, cst, Bool.false_or]
      by_cases hy0 : y = 0
      · rw [if_pos hy0]
        simp only [beqT hy0, cond_true, if_true]
        exact ⟨by omega, by simp⟩
      · have hmod : Int.tmod y 16 = y % 16 := Int.tmod_eq_emod_of_nonneg y0
        have hdiv : IntKind.wrap .i64 (last + IntKind.wrap .i64 (Int.tdiv y 16)) = last + y / 16 := by
          rw [Int.tdiv_eq_ediv_of_nonneg y0, w64 (show -9223372036854775808 ≤ y / 16 by omega) (by omega), w64 (by omega) (by omega)]
        rw [if_neg hy0]
        simp only [beqF hy0, cond_false, hmod, hdiv, isType_eq, Option.bind_some]
        have hty : (isItem (y % 16) || ((y % 16 == 1 || y % 16 == 2) && !false)) = isKind (y % 16) := by
          unfold isKind
          cases isItem (y % 16) <;> cases (y % 16 == 1) <;> cases (y % 16 == 2) <;> rfl
        rw [hty]
        -- a reader that is stuck
        have stuck8 : ∀ (q : Nat) (e : Int), e ≠ 0 → ∀ x y z : Int, impl_treeReader_fields.c8 k S (impl_treeReader_fields.l1 k S f) (pre.length : Int) (deep : Int) x y z (rdE b q e) (pre ++ sn id0 j :: mid) = some ((), (rdE b q e, pre ++ sn id0 j :: mid)) := by
          intro q e he x y z
          simp only [impl_treeReader_fields.c8, impl_treeReader_fields.c10, impl_treeReader_fields.c12, beqF he, cond_false, Option.bind_some, bneT he, cond_true]
        by_cases hkd : isKind (y % 16) = true
        · rw [if_neg (by rw [hkd]; decide), hkd]
          simp only [Bool.not_true, cond_false, impl_treeReader_fields.c6]
          -- behind the Id
          have tail : ∀ (id : Int) (q : Nat), I64 id → q ≤ b.length →
              IField b pre id0 j mid (match (if id < 1 ∨ 1000 < id then (.bad 3 : Res (Int × Int)) else if id ≤ last then .bad 5 else .ok q (y % 16, id)) with
                | .bad e => .bad e
                | .ok q (t, id) => if t = 0 then .ok q (0, []) else match P t id q (pre.length + 1 + mid.length) with
                  | .bad e => .bad e
                  | .ok r Y => match prFields P b g id r (pre.length + 1 + mid.length + Y.length) with
                    | .bad e => .bad e
                    | .ok z (m, Z) => .ok z (m + 1, Y ++ Z))
                (impl_treeReader_fields.c8 k S (impl_treeReader_fields.l1 k S f) (pre.length : Int) (deep : Int) last (y % 16) id (rdE b q 0) (pre ++ sn id0 j :: mid)) := by
            have ht0 : ¬ y % 16 = 0 := by rcases kind_cases hkd with e | e | e | e | e | e | e <;> omega
            intro id q hid hq
            have hget : ∀ x : TNode, rdL (pre ++ x :: mid) (pre.length : Int) = some x := fun x => by
              rw [rdL_nat, List.getElem?_append_right (Nat.le_refl _)]; simp
            have hset : ∀ x y : TNode, List.set (pre ++ x :: mid) (Int.toNat (pre.length : Int)) y = pre ++ y :: mid := fun x y => by
              rw [Int.toNat_natCast, List.set_append_right _ _ (Nat.le_refl _)]; simp
            by_cases c1 : id < 1 ∨ 1000 < id
            · rw [if_pos c1]
              have hw : (decide ((1 : Int) ≤ id) && decide (id ≤ 1000)) = false := by
                rw [Bool.eq_false_iff]; intro q
                simp only [Bool.and_eq_true, decide_eq_true_eq] at q
                omega
              refine ⟨by decide, q, pre ++ sn id0 j :: mid, hq, ?_⟩
              simp only [impl_treeReader_fields.c8, beqT rfl, cond_true, within_eq, hw, Option.bind_some, Bool.not_false, fail_ok, impl_treeReader_fields.c10, impl_treeReader_fields.c12, beqF (show ¬ (3 : Int) = 0 by decide), cond_false, bneT (show ¬ (3 : Int) = 0 by decide)]
            · rw [if_neg c1]
              have hw : (decide ((1 : Int) ≤ id) && decide (id ≤ 1000)) = true := by simp; omega
              simp only [impl_treeReader_fields.c8, beqT rfl, cond_true, within_eq, hw, Option.bind_some, Bool.not_true, cond_false, impl_treeReader_fields.c10]
              by_cases c2 : id ≤ last
              · rw [if_pos c2]
                refine ⟨by decide, q, pre ++ sn id0 j :: mid, hq, ?_⟩
                simp only [decide_eq_true c2, cond_true, fail_ok, Option.bind_some, impl_treeReader_fields.c12, bneT (show ¬ (5 : Int) = 0 by decide)]
              · rw [if_neg c2]
                have hjw : IntKind.wrap .i64 ((j : Int) + 1) = ((j + 1 : Nat) : Int) := by rw [w64 (by omega) (by omega)]; omega
                have hsn : ((sn id0 j).1, (sn id0 j).2.1, (sn id0 j).2.2.1, (sn id0 j).2.2.2.1, IntKind.wrap .i64 ((sn id0 j).2.2.2.2.1 + 1), ()) = sn id0 ((j + 1 : Nat) : Int) := by
                  show (_, _, _, _, IntKind.wrap .i64 ((j : Int) + 1), ()) = _
                  rw [hjw]; rfl
                simp only [decide_eq_false c2, cond_false, impl_treeReader_fields.c12, bneF rfl, hget, hset, Option.bind_some, hdw, hsn, if_neg ht0]
                have hn := ih (y % 16) id q (pre ++ sn id0 ((j + 1 : Nat) : Int) :: mid) hkd hq (by simp; omega)
                rw [show (pre ++ sn id0 ((j + 1 : Nat) : Int) :: mid).length = pre.length + 1 + mid.length by simp; omega] at hn
                unfold INode at hn
                cases hr : P (y % 16) id q (pre.length + 1 + mid.length) with
                | bad e =>
                  rw [hr] at hn
                  obtain ⟨he, q', l, hq', e1⟩ := hn
                  refine ⟨he, q', l, hq', ?_⟩
                  obtain ⟨f, rfl⟩ : ∃ j, f = j + 1 := ⟨f - 1, by omega⟩
                  simp only [e1, Option.bind_some, impl_treeReader_fields.l1, one_no k q' he, bneT he, cst, Bool.true_or, cond_true]
                | ok r Y =>
                  rw [hr] at hn
                  obtain ⟨hr1, e1⟩ := hn
                  have hlen := hP _ _ _ _ _ _ hkd (by omega) hr
                  have h4 := ihg f id r (j + 1) (mid ++ Y) (by omega) (by omega) (by omega) (by omega) hr1 (by rw [List.length_append]; omega) (by omega)
                  rw [List.length_append, ← Nat.add_assoc] at h4
                  simp only [e1, Option.bind_some, List.append_assoc, List.cons_append]
                  cases hr2 : prFields P b g id r (pre.length + 1 + mid.length + Y.length) with
                  | bad e => rw [hr2] at h4; exact h4
                  | ok z x =>
                    obtain ⟨m, Z⟩ := x
                    rw [hr2] at h4
                    obtain ⟨h5, h6⟩ := h4
                    refine ⟨h5, ?_⟩
                    rw [h6, show j + 1 + m = j + (m + 1) by omega, List.append_assoc]
          by_cases h16 : y / 16 = 0
          · simp only [if_pos h16, decide_eq_true (show y < 16 by omega), cond_true, uvar_any k hk hl hb (p + 1) (by omega)]
            cases hg : gv (b.drop (p + 1)) with
            | none =>
              simp only [Option.map_none, Option.bind_some]
              obtain ⟨w, hw⟩ : ∃ w, impl_Zag k 0 = some w := ⟨_, zag_eq k ⟨by decide, by decide⟩⟩
              refine ⟨by decide, p + 1, pre ++ sn id0 j :: mid, by omega, ?_⟩
              rw [hw, Option.bind_some, stuck8 (p + 1) 1 (by decide)]
            | some z =>
              obtain ⟨u, n⟩ := z
              obtain ⟨f1, f2, f3, f4, f5⟩ := gv_facts _ u n (fun x hx => hb x (List.mem_of_mem_drop hx)) hg
              rw [List.length_drop] at f3
              simp only [Option.map_some, Option.bind_some, zag_eq k f1]
              exact tail (zagV u) (p + 1 + n) (zagV_i64 u) (by omega)
          · simp only [if_neg h16, decide_eq_false (show ¬ y < 16 by omega), cond_false]
            exact tail (last + y / 16) (p + 1) ⟨by omega, by omega⟩ (by omega)
        · have hkf : isKind (y % 16) = false := by simpa using hkd
          rw [if_pos hkf, hkf]
          simp only [Bool.not_false, cond_true, fail_ok, Option.bind_some, impl_treeReader_fields.c6]
          refine ⟨by decide, p + 1, pre ++ sn id0 j :: mid, by omega, ?_⟩
          by_cases h16 : y < 16
          · obtain ⟨w, hw⟩ : ∃ w, impl_Zag k 0 = some w := ⟨_, zag_eq k ⟨by decide, by decide⟩⟩
            simp only [decide_eq_true h16, cond_true, uvar_no k hk hl hb (p + 1) (by omega) (show (2 : Int) ≠ 0 by decide), Option.bind_some, hw, stuck8 (p + 1) 2 (by decide)]
          · simp only [decide_eq_false h16, cond_false, stuck8 (p + 1) 2 (by decide)]
theorem begin_any {n : TNode} {b : List Int} {p : Nat} {deep : Nat} {acc : List TNode} (hd : deep ≤ 100) (ha : acc.length ≤ 1500) :
    impl_treeReader_begin k n (deep : Int) (rdE b p 0) acc = if 12 < deep ∨ acc.length = 1500 then some (0, (rdE b p 4, acc)) else some ((acc.length : Int), (rdE b p 0, acc ++ [n])) := by
  by_cases h : 12 < deep ∨ acc.length = 1500
  · rw [if_pos h]
    unfold impl_treeReader_begin impl_treeReader_begin.c3
    have : (decide ((deep : Int) > 12) || ((acc.length : Int) == 1500)) = true := by
      rcases h with h | h
      · rw [decide_eq_true (show (deep : Int) > 12 by omega), Bool.true_or]
      · rw [beqT (show (acc.length : Int) = 1500 by omega), Bool.or_true]
    simp only [cst, this, Option.bind_some, cond_true, fail_ok, bneT (show ¬ (4 : Int) = 0 by decide)]
  · rw [if_neg h]
    exact begin_ok k rfl (by omega) (by omega)

theorem irdN (hk : 2000 ≤ k) (b : List Int) (hl : b.length < 4611686018427387904) (hb : Byt b) : ∀ (d D deep : Nat) (kind id : Int) (p : Nat) (acc : List TNode), d + deep = 13 → 2 * d < D → isKind kind = true → p ≤ b.length → acc.length ≤ 1500 →
    INode (impl_treeReader_node.rec k D).1 b kind id (deep : Int) p acc (prN d b kind id p acc.length) := by
  intro d
  induction d with
  | zero =>
    intro D deep kind id p acc hdd hD hkd hp hc
    obtain ⟨D, rfl⟩ : ∃ m, D = m + 1 := ⟨D - 1, by omega⟩
    refine ⟨by decide, p, acc, hp, ?_⟩
    simp only [impl_treeReader_node.rec, impl_treeReader_node.b]
    rw [begin_any k (by omega) hc, if_pos (by omega)]
    simp only [Option.bind_some, bneT (show ¬ (4 : Int) = 0 by decide), cond_true]
  | succ d ih =>
    intro D deep kind id p acc hdd hD hkd hp hc
    obtain ⟨D, rfl⟩ : ∃ m, D = m + 2 := ⟨D - 2, by omega⟩
    have hset : ∀ (acc : List TNode) (x y : TNode), List.set (acc ++ [x]) (Int.toNat (acc.length : Int)) y = acc ++ [y] := fun acc x y => by
      rw [Int.toNat_natCast, List.set_append_right _ _ (Nat.le_refl _)]; simp
    have hget : ∀ (acc : List TNode) (x : TNode), rdL (acc ++ [x]) (acc.length : Int) = some x := fun acc x => by
      rw [rdL_nat, List.getElem?_append_right (Nat.le_refl _)]; simp
    unfold prN
    by_cases hc5 : acc.length = 1500
    · rw [if_pos hc5]
      refine ⟨by decide, p, acc, hp, ?_⟩
      simp only [impl_treeReader_node.rec, impl_treeReader_node.b]
      rw [begin_any k (by omega) hc, if_pos (.inr hc5)]
      simp only [Option.bind_some, bneT (show ¬ (4 : Int) = 0 by decide), cond_true]
    · rw [if_neg hc5]
      unfold INode
      simp only [impl_treeReader_node.rec, impl_treeReader_node.b]
      rw [begin_any k (by omega) hc, if_neg (show ¬ (12 < deep ∨ acc.length = 1500) by omega)]
      simp only [Option.bind_some, bneF rfl, cond_false]
      by_cases h56 : kind = 5 ∨ kind = 6
      · rw [if_pos h56]
        have e0 : (cond (kind == 5)
             (impl_treeReader_node.c5 k (impl_treeReader_node.rec k (D + 1)).2.1 (impl_treeReader_node.rec k (D + 1)).2.2 kind (deep : Int) (acc.length : Int) kind (kind == 5) (rdE b p 0) (acc ++ [(kind, id, 0, (⟨#[]⟩ : ByteArray), 0, ())]))
             (impl_treeReader_node.c5 k (impl_treeReader_node.rec k (D + 1)).2.1 (impl_treeReader_node.rec k (D + 1)).2.2 kind (deep : Int) (acc.length : Int) kind (kind == 6) (rdE b p 0) (acc ++ [(kind, id, 0, (⟨#[]⟩ : ByteArray), 0, ())])))
            = impl_treeReader_node.c5 k (impl_treeReader_node.rec k (D + 1)).2.1 (impl_treeReader_node.rec k (D + 1)).2.2 kind (deep : Int) (acc.length : Int) kind true (rdE b p 0) (acc ++ [(kind, id, 0, (⟨#[]⟩ : ByteArray), 0, ())]) := by
          rcases h56 with h | h
          · rw [beqT h, cond_true]
          · rw [beqF (show ¬ kind = 5 by omega), beqT h, cond_false]
        simp only [impl_treeReader_node.rec] at e0
        rw [e0]
        simp only [impl_treeReader_node.c5, cond_true, uvar_any k hk hl hb p hp]
        cases hg : gv (b.drop p) with
        | none =>
          obtain ⟨w, hw⟩ : ∃ w, impl_Zag k 0 = some w := ⟨_, zag_eq k ⟨by decide, by decide⟩⟩
          refine ⟨by decide, p, acc ++ [(kind, id, w, ⟨#[]⟩, 0, ())], hp, ?_⟩
          simp only [Option.bind_some, hw, beqF (show ¬ (1 : Int) = 0 by decide), csf, Bool.and_false, cond_false, impl_treeReader_node.c8, hget, hset]
        | some z =>
          obtain ⟨u, n⟩ := z
          obtain ⟨f1, f2, f3, f4, f5⟩ := gv_facts _ u n (fun x hx => hb x (List.mem_of_mem_drop hx)) hg
          rw [List.length_drop] at f3
          simp only [Option.bind_some, zag_eq k f1, beqT rfl, csf, Bool.and_true, impl_isInt32, within_eq]
          have h32 : (decide (-2147483648 ≤ zagV u) && decide (zagV u ≤ 2147483647)) = int32 (zagV u) := rfl
          rw [h32]
          by_cases hbad : kind = 5 ∧ int32 (zagV u) = false
          · rw [if_pos hbad]
            refine ⟨by decide, p + n, acc ++ [(kind, id, zagV u, ⟨#[]⟩, 0, ())], by omega, ?_⟩
            simp only [beqT hbad.1, hbad.2, Bool.not_false, Bool.and_self, cond_true, fail_ok, Option.bind_some, impl_treeReader_node.c8, hget, hset]
          · rw [if_neg hbad]
            have hb2 : ((kind == 5) && !int32 (zagV u)) = false := by
              rw [Bool.eq_false_iff]; intro q
              simp only [Bool.and_eq_true, beq_iff_eq, Bool.not_eq_true'] at q
              exact hbad q
            refine ⟨by omega, ?_⟩
            simp only [hb2, cond_false, impl_treeReader_node.c8, hget, hset, Option.bind_some]
      · rw [if_neg h56]
        have e5 : (kind == 5) = false := beqF (by omega)
        have e6 : (kind == 6) = false := beqF (by omega)
        simp only [e5, e6, cond_false, impl_treeReader_node.c5]
        by_cases h8 : kind = 8
        · subst h8
          simp only [if_true, show ((8 : Int) == 8) = true from rfl, cond_true, impl_treeReader_node.d10]
          have ht := text_any k hk hl hb p hp (acc ++ [(8, id, 0, (⟨#[]⟩ : ByteArray), 0, ())])
          cases hr : prText b p with
          | bad e =>
            rw [hr] at ht
            obtain ⟨he, q, hq, e1⟩ := ht
            refine ⟨he, q, acc ++ [(8, id, 0, ⟨#[]⟩, 0, ())], hq, ?_⟩
            simp only [e1, Option.bind_some, hget, hset]
          | ok q s =>
            rw [hr] at ht
            have hq : q ≤ b.length := by
              unfold prText at hr
              split at hr
              · cases hr
              · rename_i u n hg
                obtain ⟨f1, f2, f3, f4, f5⟩ := gv_facts _ u n (fun x hx => hb x (List.mem_of_mem_drop hx)) hg
                rw [List.length_drop] at f3
                split at hr
                · cases hr
                · split at hr
                  · cases hr
                  · simp only [Res.ok.injEq] at hr
                    omega
            refine ⟨hq, ?_⟩
            simp only [ht, Option.bind_some, hget, hset]
        · rw [if_neg h8]
          simp only [beqF h8, cond_false]
          by_cases h9 : kind = 9
          · subst h9
            simp only [if_true, show ((9 : Int) == 9) = true from rfl, cond_true, impl_treeReader_parts.b, prMany, one_any k hl hb p hp]
            cases hy : b[p]? with
            | none =>
              refine ⟨by decide, p, acc ++ [(9, id, 0, ⟨#[]⟩, 0, ())], hp, ?_⟩
              simp only [Option.bind_some, show (IntKind.wrap .i64 (Int.tdiv 0 16) == 15) = false by decide, cond_false, impl_treeReader_parts.c4, bneT (show ¬ (1 : Int) = 0 by decide), cst, Bool.true_or, cond_true]
            | some y =>
              have hp1 : p < b.length := (List.getElem?_eq_some_iff.1 hy).1
              obtain ⟨y0, y1⟩ := hb y (List.mem_of_getElem? hy)
              have e16 : IntKind.wrap .i64 (Int.tdiv y 16) = y / 16 := by
                rw [Int.tdiv_eq_ediv_of_nonneg y0, w64 (by omega) (by omega)]
              have em : Int.tmod y 16 = y % 16 := Int.tmod_eq_emod_of_nonneg y0
              simp only [Option.bind_some, e16, em]
              have tail : ∀ (many : Int) (q : Nat), I64 many → q ≤ b.length →
                  match (match (if many = 0 then (.ok q (0, 0) : Res (Int × Int)) else if isItem (y % 16) = false then .bad 2 else if many < 0 ∨ 1500 < many then .bad 4 else .ok q (many, y % 16)) with
                    | .bad e => (.bad e : Res (List TNode))
                    | .ok q (many, item) => match prParts (fun p c => prN d b item 0 p c) many.toNat q (acc.length + 1) with
                      | .bad e => .bad e
                      | .ok r Y => .ok r ((9, id, item, ⟨#[]⟩, many, ()) :: Y)) with
                  | .bad e => e ≠ 0 ∧ ∃ q' l, q' ≤ b.length ∧ ((impl_treeReader_parts.c4 k (impl_treeReader_node.rec k D).1 (acc.length : Int) (deep : Int) many (y % 16) (rdE b q 0) (acc ++ [(9, id, 0, (⟨#[]⟩ : ByteArray), 0, ())])).bind fun r12 => some ((), (r12.2.1, r12.2.2))) = some ((), (rdE b q' e, l))
                  | .ok q' Y => q' ≤ b.length ∧ ((impl_treeReader_parts.c4 k (impl_treeReader_node.rec k D).1 (acc.length : Int) (deep : Int) many (y % 16) (rdE b q 0) (acc ++ [(9, id, 0, (⟨#[]⟩ : ByteArray), 0, ())])).bind fun r12 => some ((), (r12.2.1, r12.2.2))) = some ((), (rdE b q' 0, acc ++ Y)) := by
                intro many q hmany hq
                simp only [impl_treeReader_parts.c4, bneF rfl, cst, Bool.false_or, Option.bind_some]
                by_cases h0 : many = 0
                · simp only [if_pos h0, Int.toNat_zero, prParts, beqT h0, cond_true, Option.bind_some]
                  exact ⟨hq, trivial⟩
                · simp only [if_neg h0, beqF h0, cond_false, isType_eq, Bool.not_true, Bool.and_false, Bool.or_false, Option.bind_some]
                  by_cases hi : isItem (y % 16) = true
                  · rw [if_neg (by rw [hi]; decide), hi]
                    simp only [Bool.not_true, cond_false, impl_treeReader_parts.c7, within_eq, Option.bind_some]
                    by_cases hm : many < 0 ∨ 1500 < many
                    · have hw : (decide ((0 : Int) ≤ many) && decide (many ≤ 1500)) = false := by
                        rw [Bool.eq_false_iff]; intro q
                        simp only [Bool.and_eq_true, decide_eq_true_eq] at q
                        omega
                      obtain ⟨K, hK⟩ : ∃ K, k = K + 1 := ⟨k - 1, by omega⟩
                      rw [if_pos hm]
                      refine ⟨by decide, q, acc ++ [(9, id, y % 16, ⟨#[]⟩, many, ())], hq, ?_⟩
                      have hstop : impl_treeReader_parts.l11 k (impl_treeReader_node.rec k D).1 k (deep : Int) many (y % 16) 0 (rdE b q 4) (acc ++ [(9, id, y % 16, ⟨#[]⟩, many, ())]) = some ((), (rdE b q 4, acc ++ [(9, id, y % 16, ⟨#[]⟩, many, ())])) := by
                        conv => lhs; rw [show k = k from rfl]
                        have : ∀ f, f ≠ 0 → impl_treeReader_parts.l11 k (impl_treeReader_node.rec k D).1 f (deep : Int) many (y % 16) 0 (rdE b q 4) (acc ++ [(9, id, y % 16, ⟨#[]⟩, many, ())]) = some ((), (rdE b q 4, acc ++ [(9, id, y % 16, ⟨#[]⟩, many, ())])) := by
                          intro f hf
                          obtain ⟨f, rfl⟩ : ∃ j, f = j + 1 := ⟨f - 1, by omega⟩
                          simp only [impl_treeReader_parts.l11, beqF (show ¬ (4 : Int) = 0 by decide)]
                          cases decide ((0 : Int) < many) <;> rfl
                        exact this k (by omega)
                      simp only [hw, Bool.not_false, cond_true, fail_ok, Option.bind_some, impl_treeReader_parts.c9, hget, hset, hstop]
                    · rw [if_neg hm]
                      have hw : (decide ((0 : Int) ≤ many) && decide (many ≤ 1500)) = true := by simp; omega
                      simp only [hw, Bool.not_true, cond_false, impl_treeReader_parts.c9, hget, hset, Option.bind_some]
                      have hp := iparts k (impl_treeReader_node.rec k D).1 b (y % 16) deep (by omega) (fun p c => prN d b (y % 16) 0 p c)
                        (fun p acc hp hc => ih D (deep + 1) (y % 16) 0 p acc (by omega) (by omega) (isKind_of_item hi) hp hc)
                        (fun p c q Y hc h => by
                          obtain ⟨_, n, X, rfl, _, _, _, h5⟩ := prN_enc d b (y % 16) 0 p c q Y (isKind_of_item hi) hc h
                          exact h5) many (by omega) many.toNat k 0 q (acc ++ [(9, id, y % 16, ⟨#[]⟩, many, ())]) (by omega) (by omega) (by omega) hq (by simp; omega)
                      rw [List.length_append, List.length_singleton] at hp
                      cases hr : prParts (fun p c => prN d b (y % 16) 0 p c) many.toNat q (acc.length + 1) with
                      | bad e =>
                        rw [hr] at hp
                        obtain ⟨he, q', l, hq', e1⟩ := hp
                        exact ⟨he, q', l, hq', by rw [e1]; rfl⟩
                      | ok q' Y =>
                        rw [hr] at hp
                        obtain ⟨hq', e1⟩ := hp
                        exact ⟨hq', by rw [e1]; simp⟩
                  · have hif : isItem (y % 16) = false := by simpa using hi
                    rw [if_pos hif, hif]
                    simp only [Bool.not_false, cond_true, fail_ok, Option.bind_some, impl_treeReader_parts.c7, within_eq]
                    have hstop : impl_treeReader_parts.c9 k (impl_treeReader_node.rec k D).1 (acc.length : Int) (deep : Int) many (y % 16) (rdE b q 2) (acc ++ [(9, id, 0, (⟨#[]⟩ : ByteArray), 0, ())]) = some ((), (rdE b q 2, acc ++ [(9, id, y % 16, ⟨#[]⟩, many, ())])) := by
                      simp only [impl_treeReader_parts.c9, hget, hset, Option.bind_some]
                      have : ∀ f, f ≠ 0 → impl_treeReader_parts.l11 k (impl_treeReader_node.rec k D).1 f (deep : Int) many (y % 16) 0 (rdE b q 2) (acc ++ [(9, id, y % 16, ⟨#[]⟩, many, ())]) = some ((), (rdE b q 2, acc ++ [(9, id, y % 16, ⟨#[]⟩, many, ())])) := by
                        intro f hf
                        obtain ⟨f, rfl⟩ : ∃ j, f = j + 1 := ⟨f - 1, by omega⟩
                        simp only [impl_treeReader_parts.l11, beqF (show ¬ (2 : Int) = 0 by decide)]
                        cases decide ((0 : Int) < many) <;> rfl
                      exact this k (by omega)
                    refine ⟨by decide, q, acc ++ [(9, id, y % 16, ⟨#[]⟩, many, ())], hq, ?_⟩
                    cases hw : (decide ((0 : Int) ≤ many) && decide (many ≤ 1500)) with
                    | true => simp only [Bool.not_true, cond_false, hstop, Option.bind_some]
                    | false => simp only [Bool.not_false, cond_true, fail_no k b q (show (2 : Int) ≠ 0 by decide), Option.bind_some, hstop]
              by_cases h15 : y / 16 = 15
              · simp only [if_pos h15, beqT h15, cond_true, uvar_any k hk hl hb (p + 1) (by omega)]
                cases hg : gv (b.drop (p + 1)) with
                | none =>
                  refine ⟨by decide, p + 1, acc ++ [(9, id, 0, ⟨#[]⟩, 0, ())], by omega, ?_⟩
                  simp only [Option.map_none, Option.bind_some, impl_treeReader_parts.c4, bneT (show ¬ (1 : Int) = 0 by decide), cst, Bool.true_or, cond_true]
                | some z =>
                  obtain ⟨u, n⟩ := z
                  obtain ⟨f1, f2, f3, f4, f5⟩ := gv_facts _ u n (fun x hx => hb x (List.mem_of_mem_drop hx)) hg
                  rw [List.length_drop] at f3
                  simp only [Option.map_some, Option.bind_some]
                  exact tail u (p + 1 + n) f1 (by omega)
              · simp only [if_neg h15, beqF h15, cond_false]
                exact tail (y / 16) (p + 1) ⟨by omega, by omega⟩ (by omega)
          · rw [if_neg h9]
            simp only [beqF h9, cond_false]
            by_cases h12 : kind = 12
            · subst h12
              simp only [if_true, show ((12 : Int) == 12) = true from rfl, cond_true, impl_treeReader_fields.b]
              have hf := ifields k hk (impl_treeReader_node.rec k D).1 b hl hb deep (by omega) (fun t id p c => prN d b t id p c)
                (fun t id p acc ht hp hc => ih D (deep + 1) t id p acc (by omega) (by omega) ht hp hc)
                (fun t id p c q Y ht hc h => by
                  obtain ⟨_, n, X, rfl, _, _, _, h5⟩ := prN_enc d b t id p c q Y ht hc h
                  exact h5) id acc 1002 k 0 p 0 [] (by omega) (by omega) (by omega) (by omega) hp (by simp; omega) (by omega)
              rw [List.length_nil, Nat.add_zero] at hf
              rw [show (acc ++ [((12 : Int), id, (0 : Int), (⟨#[]⟩ : ByteArray), (0 : Int), ())] : List TNode) = acc ++ sn id ((0 : Nat) : Int) :: [] from rfl]
              unfold IField at hf
              cases hr : prFields (fun t id p c => prN d b t id p c) b 1002 0 p (acc.length + 1) with
              | bad e =>
                rw [hr] at hf
                obtain ⟨he, q', l, hq', e1⟩ := hf
                exact ⟨he, q', l, hq', by rw [e1]; rfl⟩
              | ok q' x =>
                obtain ⟨m, Y⟩ := x
                rw [hr] at hf
                obtain ⟨hq', e1⟩ := hf
                refine ⟨hq', ?_⟩
                rw [e1]
                simp [sn]
            · rw [if_neg h12]
              simp only [beqF h12, cond_false]
              exact ⟨hp, trivial⟩
end Go.Law
end

section
/- Bits side by side: written and read. -/
set_option linter.unusedVariables false
set_option linter.unusedSimpArgs false
namespace Go.Law
open Go.Am Go.Fn
variable (k : Nat)

theorem wrap_emod (k : IntKind) (x : Int) : IntKind.wrap k x % 2 ^ k.bits = x % 2 ^ k.bits := by
  have hp : (0 : Int) < 2 ^ k.bits := by have := Nat.two_pow_pos k.bits; exact_mod_cast this
  have h0 := Int.emod_nonneg x (show (2 : Int) ^ k.bits ≠ 0 by omega)
  cases k <;> simp [IntKind.wrap, IntKind.bits, IntKind.signed] <;> omega

theorem ofInt_congr {n : Nat} {a b : Int} (h : a % 2 ^ n = b % 2 ^ n) : BitVec.ofInt n a = BitVec.ofInt n b := by
  apply BitVec.eq_of_toNat_eq
  rw [BitVec.toNat_ofInt, BitVec.toNat_ofInt]
  have : ((2 ^ n : Nat) : Int) = (2 : Int) ^ n := by simp
  rw [this, h]

theorem or_wrap (k : IntKind) (a b : Int) : bits .or k (k.wrap a) (k.wrap b) = bits .or k a b := by
  simp only [bits]
  rw [ofInt_congr (wrap_emod k a), ofInt_congr (wrap_emod k b)]

theorem or_nat (k : IntKind) {a b i : Nat} (ha : a < 2 ^ i) (hab : a + b * 2 ^ i < 2 ^ k.bits) : bits .or k (a : Int) ((b * 2 ^ i : Nat) : Int) = k.wrap ((a + b * 2 ^ i : Nat) : Int) := by
  have h1 : a ||| b * 2 ^ i = a + b * 2 ^ i := by
    rw [Nat.or_comm, Nat.mul_comm, ← Nat.two_pow_add_eq_or_of_lt ha b, Nat.add_comm]
  simp only [bits, BitVec.ofInt_natCast, BitVec.toNat_or, BitVec.toNat_ofNat]
  rw [Nat.mod_eq_of_lt (show a < 2 ^ k.bits by omega), Nat.mod_eq_of_lt (show b * 2 ^ i < 2 ^ k.bits by omega), h1]

/-- a | (b << i) -/
theorem or_shl (k : IntKind) {a b i : Nat} (hi : i ≤ k.bits) (ha : a < 2 ^ i) (hab : a + b * 2 ^ i < 2 ^ k.bits) : bits .or k (k.wrap (a : Int)) (shlI k (b : Int) (i : Int)) = k.wrap ((a + b * 2 ^ i : Nat) : Int) := by
  unfold shlI
  rw [Int.toNat_natCast, Nat.min_eq_left hi, or_wrap]
  have := or_nat k ha hab
  rw [← this]
  simp

/-! ### bytes of a number, the least first -/
def leB (L M : Nat) : List Int := (List.range L).map fun i => ((M / 256 ^ i % 256 : Nat) : Int)

theorem leB_len (L M : Nat) : (leB L M).length = L := by simp [leB]
theorem leB_get? {L M i : Nat} (h : i < L) : (leB L M)[i]? = some ((M / 256 ^ i % 256 : Nat) : Int) := by
  simp [leB, h]
theorem leB_zero (L : Nat) : leB L 0 = List.replicate L 0 := by
  apply List.ext_getElem (by simp [leB])
  intro i h1 h2
  simp [leB]
theorem leB_byte (L M : Nat) : ∀ x, x ∈ leB L M → 0 ≤ x ∧ x < 256 := by
  intro x hx
  simp only [leB, List.mem_map] at hx
  obtain ⟨i, _, rfl⟩ := hx
  have := Nat.mod_lt (M / 256 ^ i) (show 256 > 0 by decide)
  omega

theorem pow_split (p : Nat) : 2 ^ p = 256 ^ (p / 8) * 2 ^ (p % 8) := by
  rw [show (256 : Nat) = 2 ^ 8 by decide, ← Nat.pow_mul, ← Nat.pow_add, Nat.div_add_mod]

theorem byte_low {M p : Nat} (h : M < 2 ^ p) : M / 256 ^ (p / 8) < 2 ^ (p % 8) := by
  rw [pow_split p] at h
  exact Nat.div_lt_of_lt_mul h

theorem byte_add (M b p : Nat) : (M + b * 2 ^ p) / 256 ^ (p / 8) = M / 256 ^ (p / 8) + b * 2 ^ (p % 8) := by
  rw [pow_split p, show b * (256 ^ (p / 8) * 2 ^ (p % 8)) = (b * 2 ^ (p % 8)) * 256 ^ (p / 8) by rw [Nat.mul_comm (256 ^ _), Nat.mul_assoc], Nat.add_mul_div_right _ _ (Nat.pow_pos (by decide))]

theorem pow8 {r : Nat} (h : r < 8) : 2 ^ r ≤ 128 := by
  have := Nat.pow_le_pow_right (n := 2) (by decide) (show r ≤ 7 by omega)
  simpa using this

theorem byte_sum {M b p : Nat} (h : M < 2 ^ p) (hb : b ≤ 1) : M / 256 ^ (p / 8) + b * 2 ^ (p % 8) < 256 := by
  have h1 := byte_low h
  have h2 := pow8 (Nat.mod_lt p (show 8 > 0 by decide))
  have h3 : b * 2 ^ (p % 8) ≤ 1 * 2 ^ (p % 8) := Nat.mul_le_mul_right _ hb
  omega

theorem leB_set {L M b p : Nat} (hp : p < 8 * L) (h : M < 2 ^ p) (hb : b ≤ 1) : (leB L M).set (p / 8) ((M / 256 ^ (p / 8) + b * 2 ^ (p % 8) : Nat) : Int) = leB L (M + b * 2 ^ p) := by
  apply List.ext_getElem (by simp [leB])
  intro i h1 h2
  simp only [leB_len] at h2
  rw [List.getElem_set]
  by_cases hi : p / 8 = i
  · subst hi
    simp only [if_true]
    simp only [leB, List.getElem_map, List.getElem_range]
    rw [byte_add, Nat.mod_eq_of_lt (byte_sum h hb)]
  · simp only [hi, if_false, leB, List.getElem_map, List.getElem_range]
    congr 1
    rcases Nat.lt_or_ge i (p / 8) with hlt | hge
    · have hdv : 2 ^ p = 256 ^ i * (256 * (256 ^ (p / 8 - i - 1) * 2 ^ (p % 8))) := by
        rw [pow_split p]
        have : p / 8 = i + (1 + (p / 8 - i - 1)) := by omega
        conv => lhs; rw [this, Nat.pow_add, Nat.pow_add]
        simp [Nat.mul_assoc]
      rw [hdv, show b * (256 ^ i * (256 * (256 ^ (p / 8 - i - 1) * 2 ^ (p % 8)))) = 256 ^ i * (256 * (b * (256 ^ (p / 8 - i - 1) * 2 ^ (p % 8)))) by rw [Nat.mul_left_comm, Nat.mul_left_comm b], Nat.add_mul_div_left _ _ (Nat.pow_pos (by decide)), Nat.add_mul_mod_self_left]
    · have hlt : p < 8 * i := by omega
      have hp2 : 2 ^ (p + 1) ≤ 256 ^ i := by
        rw [show (256 : Nat) = 2 ^ 8 by decide, ← Nat.pow_mul]
        exact Nat.pow_le_pow_right (by decide) (by omega)
      have hb2 : b * 2 ^ p ≤ 1 * 2 ^ p := Nat.mul_le_mul_right _ hb
      rw [Nat.pow_succ] at hp2
      rw [Nat.div_eq_of_lt (show M < 256 ^ i by omega), Nat.div_eq_of_lt (show M + b * 2 ^ p < 256 ^ i by omega)]

theorem leB_bit (M p : Nat) : (M / 256 ^ (p / 8) % 256) / 2 ^ (p % 8) % 2 = M / 2 ^ p % 2 := by
  have h8 := Nat.mod_lt p (show 8 > 0 by decide)
  have h1 : 256 = 2 ^ (p % 8) * (2 * 2 ^ (7 - p % 8)) := by
    rw [← Nat.mul_assoc, Nat.mul_right_comm, ← Nat.pow_add, show p % 8 + (7 - p % 8) = 7 by omega]
  have h2 : ∀ x : Nat, x % 256 / 2 ^ (p % 8) % 2 = x / 2 ^ (p % 8) % 2 := by
    intro x
    rw [h1, Nat.mod_mul_right_div_self, Nat.mod_mul_right_mod]
  rw [h2, Nat.div_div_eq_div_mul, ← pow_split]

/-! ### numbers side by side -/
def u64 (v : Int) : Nat := (v % 18446744073709551616).toNat

theorem u64_lt (v : Int) : u64 v < 18446744073709551616 := by unfold u64; omega
theorem u64_cast (v : Int) : (u64 v : Int) = v % 18446744073709551616 := by unfold u64; omega
theorem wrap_u64 {v : Int} (h : I64 v) : IntKind.wrap .i64 (u64 v : Int) = v := by
  obtain ⟨h0, h1⟩ := h
  rw [u64_cast, IntKind.wrap_i64]
  omega

theorem bit_eq (v : Int) {j : Nat} (hj : j < 64) : (v / 2 ^ j) % 2 = ((u64 v / 2 ^ j % 2 : Nat) : Int) := by
  have hv : v = (u64 v : Int) + 18446744073709551616 * (v / 18446744073709551616) := by rw [u64_cast]; omega
  have hp0 : (2 : Int) ^ j ≠ 0 := by have := Nat.two_pow_pos j; have : (0 : Int) < 2 ^ j := by exact_mod_cast this
                                     omega
  have hs : (18446744073709551616 : Int) = 2 ^ j * (2 * 2 ^ (63 - j)) := by
    have : 2 ^ j * (2 * 2 ^ (63 - j)) = 2 ^ 64 := by
      rw [← Nat.mul_assoc, Nat.mul_right_comm, ← Nat.pow_add, show j + (63 - j) = 63 by omega]
    have h2 : ((2 ^ j * (2 * 2 ^ (63 - j)) : Nat) : Int) = ((2 ^ 64 : Nat) : Int) := by rw [this]
    rw [Int.natCast_mul, Int.natCast_mul, Int.natCast_pow, Int.natCast_pow] at h2
    exact h2.symm
  have key : ∀ (u : Nat) (q : Int), (((u : Int) + 18446744073709551616 * q) / 2 ^ j) % 2 = ((u / 2 ^ j % 2 : Nat) : Int) := by
    intro u q
    rw [hs, Int.mul_assoc, Int.add_mul_ediv_left _ _ hp0]
    rw [show (2 : Int) * 2 ^ (63 - j) * q = 2 * (2 ^ (63 - j) * q) by rw [Int.mul_assoc], Int.add_mul_emod_self_left]
    simp
  conv => lhs; rw [hv]
  exact key _ _

def packN (w : Nat) : List Nat → Nat
  | [] => 0
  | u :: r => u % 2 ^ w + 2 ^ w * packN w r

theorem packN_lt (w : Nat) : ∀ us : List Nat, packN w us < 2 ^ (us.length * w)
  | [] => by simp [packN]
  | u :: r => by
    have h1 := packN_lt w r
    have h2 := Nat.mod_lt u (Nat.two_pow_pos w)
    simp only [packN, List.length_cons]
    rw [Nat.add_mul, Nat.one_mul, Nat.pow_add, Nat.mul_comm (2 ^ (r.length * w))]
    have h3 : 2 ^ w * (packN w r + 1) ≤ 2 ^ w * 2 ^ (r.length * w) := Nat.mul_le_mul_left _ h1
    rw [Nat.mul_add] at h3
    omega

theorem packN_snoc (w u : Nat) : ∀ a : List Nat, packN w (a ++ [u]) = packN w a + (u % 2 ^ w) * 2 ^ (a.length * w)
  | [] => by simp [packN]
  | x :: a => by
    simp only [List.cons_append, packN, packN_snoc w u a, List.length_cons]
    rw [Nat.mul_add, Nat.add_mul (a.length) 1, Nat.one_mul, Nat.pow_add, ← Nat.add_assoc]
    congr 1
    rw [Nat.mul_left_comm, Nat.mul_comm (2 ^ w)]

theorem packN_get (w : Nat) : ∀ (us : List Nat) (i : Nat) (u : Nat), us[i]? = some u → packN w us / 2 ^ (i * w) % 2 ^ w = u % 2 ^ w
  | [], i, u, h => by cases h
  | x :: r, 0, u, h => by
    simp at h; subst h
    simp [packN]
  | x :: r, i + 1, u, h => by
    have := packN_get w r i u (by simpa using h)
    rw [← this]
    simp only [packN]
    rw [Nat.add_mul, Nat.one_mul, Nat.add_comm, Nat.pow_add, Nat.mul_comm (2 ^ (i * w)), ← Nat.div_div_eq_div_mul, Nat.add_comm _ (x % 2 ^ w), Nat.add_mul_div_left _ _ (Nat.two_pow_pos w), Nat.div_eq_of_lt (Nat.mod_lt _ (Nat.two_pow_pos w)), Nat.zero_add]

theorem mod_succ (u j : Nat) : u % 2 ^ (j + 1) = u % 2 ^ j + (u / 2 ^ j % 2) * 2 ^ j := by
  rw [Nat.pow_succ, Nat.mod_mul, Nat.mul_comm (2 ^ j)]

/-- how many bytes -/
def bytesOf (n w : Nat) : Nat := (n * w + 7) / 8

theorem tdiv8 {x : Int} (h : 0 ≤ x) : Int.tdiv x 8 = x / 8 := Int.tdiv_eq_ediv_of_nonneg h
theorem tmod8 {x : Int} (h : 0 ≤ x) : Int.tmod x 8 = x % 8 := Int.tmod_eq_emod_of_nonneg h

theorem w8_bit {x : Int} : IntKind.wrap .u8 (x % 2) = x % 2 := w8 (by omega) (by omega)
end Go.Law
end

section
/- Trees: what the reference reads of any bytes. -/
set_option linter.unusedVariables false
set_option linter.unusedSimpArgs false
namespace Go.Law
open Go.Am Go.Fn

theorem bits_xor_comm (k : IntKind) (a b : Int) : bits .xor k a b = bits .xor k b a := by
  simp only [bits, BitVec.xor_comm]

theorem and_mask63 (x : Int) : bits .and .i64 x 9223372036854775807 = x % 9223372036854775808 := by
  have hc : (9223372036854775807 : Int) = ((2 ^ 63 - 1 : Nat) : Int) := by decide
  have hb : (2 ^ 63 - 1) % 2 ^ IntKind.i64.bits = 2 ^ 63 - 1 := by decide
  rw [hc]
  simp only [bits, BitVec.ofInt_natCast, BitVec.toNat_and, BitVec.toNat_ofNat, hb, Nat.and_two_pow_sub_one_eq_mod, BitVec.toNat_ofInt]
  show IntKind.wrap .i64 (((x % ((2 ^ 64 : Nat) : Int)).toNat % 2 ^ 63 : Nat) : Int) = _
  rw [w64 (by omega) (by omega)]
  omega

variable (k : Nat)

theorem szag_eq {u : Int} (h : I64 u) : spec_Zag k u = some (zagV u) := by
  obtain ⟨h0, h1⟩ := h
  have hm : IntKind.wrap .i64 (shlI .i64 1 (IntKind.wrap .i64 (64 - 1)) - 1) = 9223372036854775807 := by decide
  have hd : spec_l2Down k u 1 = some ((u % 18446744073709551616) / 2) := by
    unfold spec_l2Down
    rw [beqF (by decide), cond_false, decide_eq_true (show (0 : Int) ≤ 1 by decide), cond_true, decide_eq_true (show (0 : Int) ≤ IntKind.wrap .i64 (64 - 1) by decide), cond_true, hm, and_mask63]
    have := shrI_eq .i64 u 1 (by decide)
    rw [show ((1 : Nat) : Int) = 1 from rfl] at this
    rw [this]
    congr 1
    omega
  unfold spec_Zag zagV
  rw [hd, and1]
  by_cases h2 : u % 2 = 0
  · rw [if_pos h2, beqF (by omega)]
    rfl
  · rw [if_neg h2, beqT (by omega)]
    simp only [cond_true, Option.bind_some]
    rw [bits_xor_comm, xor_ones _ (by omega) (by omega)]

theorem sgetLoop (b : List Int) (p : Nat) (hb : b.length < 4611686018427387904) (hby : ∀ x, x ∈ b → 0 ≤ x ∧ x < 256) (hp : p ≤ b.length) : ∀ (f n i acc : Nat), i + f = 10 → f < n → acc < 2 ^ (7 * i) →
    spec_UvarGet.l5 k n b (p : Int) (IntKind.wrap .i64 (acc : Int)) (i : Int) = match gvN f (b.drop (p + i)) with
      | none => some (0, 0, false)
      | some (v, m) => some (IntKind.wrap .i64 ((acc + v * 2 ^ (7 * i) : Nat) : Int), ((p + i + m : Nat) : Int), true) := by
  have last : ∀ (n : Nat) (x : Int), 0 < n → spec_UvarGet.l5 k n b (p : Int) x ((10 : Nat) : Int) = some (0, 0, false) := by
    intro n x hn
    obtain ⟨n, rfl⟩ : ∃ j, n = j + 1 := ⟨n - 1, by omega⟩
    simp only [spec_UvarGet.l5, show decide (((10 : Nat) : Int) < 10) = false by decide, cond_false, Option.bind_some]
  intro f
  induction f with
  | zero =>
    intro n i acc hi hn hacc
    obtain rfl : i = 10 := by omega
    exact last n _ (by omega)
  | succ f ih =>
    intro n i acc hi hn hacc
    obtain ⟨n, rfl⟩ : ∃ j, n = j + 1 := ⟨n - 1, by omega⟩
    have hP : 0 < 2 ^ (7 * i) := Nat.two_pow_pos _
    have hP7 : 2 ^ (7 * (i + 1)) = 128 * 2 ^ (7 * i) := by rw [Nat.mul_add, Nat.pow_add]; simp [Nat.mul_comm]
    have c1 : decide ((i : Int) < 10) = true := by simp; omega
    have e2 : IntKind.wrap .i64 ((p : Int) + (i : Int)) = ((p + i : Nat) : Int) := by rw [w64 (by omega) (by omega)]; omega
    by_cases hlt : p + i < b.length
    · obtain ⟨c, hc, hc2⟩ := drop_cons_of hlt
      obtain ⟨c0, c255⟩ := hby c (List.mem_of_getElem? hc2)
      have e3 : IntKind.wrap .i64 (7 * (i : Int)) = ((7 * i : Nat) : Int) := by rw [w64 (by omega) (by omega)]; omega
      have e5 : IntKind.wrap .i64 (((p + i : Nat) : Int) + 1) = ((p + i + 1 : Nat) : Int) := by rw [w64 (by omega) (by omega)]; omega
      have e6 : IntKind.wrap .i64 ((i : Int) + 1) = ((i + 1 : Nat) : Int) := by rw [w64 (by omega) (by omega)]; omega
      have c2 : decide (((p + i : Nat) : Int) < (b.length : Int)) = true := by simp; omega
      have c5 : decide ((0 : Int) ≤ ((7 * i : Nat) : Int)) = true := decide_eq_true (by omega)
      have hget : rdL b ((p + i : Nat) : Int) = some c := by rw [rdL_nat]; exact hc2
      have ec : IntKind.wrap .i64 c = c := w64 (by omega) (by omega)
      have e127 : bits .and .i64 c 127 = (((c % 128).toNat : Nat) : Int) := by
        have := and_mask_i64 c 7 (by decide)
        rw [show ((2 : Int) ^ 7 - 1) = 127 by decide, show ((2 : Int) ^ 7) = 128 by decide] at this
        rw [this]; omega
      rw [hc, gvN]
      simp only [spec_UvarGet.l5, c1, c2, e2, e3, e5, e6, hget, ec, c5, cond_true, Option.bind_some, csf, e127]
      by_cases h9 : f = 0 ∧ 1 < c
      · obtain ⟨rfl, h1c⟩ := h9
        obtain rfl : i = 9 := by omega
        rw [if_pos ⟨rfl, h1c⟩]
        by_cases h128 : c < 128
        · simp only [decide_eq_true h128, cond_true, show (((9 : Nat) : Int) == 9) = true by decide, show decide (c > 1) = true from decide_eq_true h1c, Bool.and_self]
        · simp only [decide_eq_false h128, cond_false]
          exact last n _ (by omega)
      · rw [if_neg h9]
        have h9b : (((i : Int) == 9) && decide (c > 1)) = false := by
          rw [Bool.eq_false_iff]; intro q
          simp only [Bool.and_eq_true, beq_iff_eq, decide_eq_true_eq] at q
          exact h9 ⟨by omega, q.2⟩
        have hsum : acc + (c % 128).toNat * 2 ^ (7 * i) < 2 ^ IntKind.bits .i64 := by
          show _ < 2 ^ 64
          by_cases hf : f = 0
          · have : i = 9 := by omega
            subst this
            have hc1 : c ≤ 1 := by
              rcases Int.lt_or_le 1 c with q | q
              · exact (h9 ⟨hf, q⟩).elim
              · exact q
            have h1 : (c % 128).toNat ≤ 1 := by omega
            have h2 : (2 : Nat) ^ (7 * 9) = 9223372036854775808 := by decide
            rw [h2] at hacc ⊢
            have := Nat.mul_le_mul_right 9223372036854775808 h1
            omega
          · have h1 : (c % 128).toNat * 2 ^ (7 * i) ≤ 127 * 2 ^ (7 * i) := Nat.mul_le_mul_right _ (by omega)
            have h2 : 2 ^ (7 * (i + 1)) ≤ 2 ^ 63 := Nat.pow_le_pow_right (by omega) (by omega)
            rw [hP7] at h2
            have h3 : (2 : Nat) ^ 63 = 9223372036854775808 := by decide
            omega
        have eor := or_shl .i64 (a := acc) (b := (c % 128).toNat) (i := 7 * i) (show 7 * i ≤ 64 by omega) hacc hsum
        rw [eor]
        by_cases h128 : c < 128
        · rw [if_pos h128]
          simp only [decide_eq_true h128, cond_true, h9b, cond_false]
          have : (c % 128).toNat = c.toNat := by omega
          rw [this]
        · rw [if_neg h128]
          simp only [decide_eq_false h128, cond_false]
          have hlt2 : acc + (c % 128).toNat * 2 ^ (7 * i) < 2 ^ (7 * (i + 1)) := by
            rw [hP7]
            have : (c % 128).toNat * 2 ^ (7 * i) ≤ 127 * 2 ^ (7 * i) := Nat.mul_le_mul_right _ (by omega)
            omega
          rw [ih n (i + 1) _ (by omega) (by omega) hlt2, ← Nat.add_assoc]
          cases gvN f (b.drop (p + i + 1)) with
          | none => rfl
          | some x =>
            obtain ⟨v, m⟩ := x
            simp only [Option.map_some]
            rw [hP7, show acc + (c % 128).toNat * 2 ^ (7 * i) + v * (128 * 2 ^ (7 * i)) = acc + ((c % 128).toNat + 128 * v) * 2 ^ (7 * i) by grind, show p + i + 1 + m = p + i + (m + 1) by omega]
    · have c2 : decide (((p + i : Nat) : Int) < (b.length : Int)) = false := decide_eq_false (by omega)
      rw [List.drop_eq_nil_of_le (by omega), gvN]
      simp only [spec_UvarGet.l5, c1, e2, c2, cond_true, cond_false, Option.bind_some]

theorem sget_any (hk : 2000 ≤ k) {b : List Int} (hl : b.length < 4611686018427387904) (hb : Byt b) (p : Nat) (hp : p ≤ b.length) : spec_UvarGet k b (p : Int) = match gv (b.drop p) with
    | none => some (0, 0, false)
    | some (u, n) => some (u, ((p + n : Nat) : Int), true) := by
  unfold spec_UvarGet
  rw [decide_eq_false (show ¬ ((p : Int) < 0) by omega)]
  by_cases h : p = b.length
  · rw [decide_eq_true (show (p : Int) ≥ (b.length : Int) by omega), List.drop_eq_nil_of_le (by omega)]
    rfl
  · rw [decide_eq_false (show ¬ (p : Int) ≥ (b.length : Int) by omega)]
    simp only [cond_false, Option.bind_some]
    have h := sgetLoop k b p hl hb hp 10 k 0 0 rfl (by omega) (by simp)
    rw [show IntKind.wrap .i64 ((0 : Nat) : Int) = 0 by decide, show ((0 : Nat) : Int) = 0 from rfl] at h
    rw [h]
    unfold gv
    rw [Nat.add_zero]
    cases gvN 10 (b.drop p) with
    | none => rfl
    | some x =>
      simp only [Option.map_some, Nat.mul_zero, Nat.pow_zero, Nat.mul_one, Nat.zero_add]

theorem szig_any (hk : 2000 ≤ k) {b : List Int} (hl : b.length < 4611686018427387904) (hb : Byt b) (p : Nat) (hp : p ≤ b.length) : spec_ZigGet k b (p : Int) = match gv (b.drop p) with
    | none => some (0, 0, false)
    | some (u, n) => some (zagV u, ((p + n : Nat) : Int), true) := by
  unfold spec_ZigGet
  rw [sget_any k hk hl hb p hp]
  cases hg : gv (b.drop p) with
  | none => rfl
  | some z =>
    obtain ⟨u, n⟩ := z
    obtain ⟨f1, _⟩ := gv_facts _ u n (fun x hx => hb x (List.mem_of_mem_drop hx)) hg
    simp only [Option.bind_some, Bool.not_true, cond_false, szag_eq k f1]

theorem smany_any (hk : 2000 ≤ k) {b : List Int} (hl : b.length < 4611686018427387904) (hb : Byt b) (p : Nat) (hp : p ≤ b.length) : ∃ x y z e, spec_l4Many k b (p : Int) = some (x, y, z, e) ∧
    (match prMany b p with
    | .bad c => e = c ∧ c ≠ 0
    | .ok q (many, item) => x = many ∧ y = item ∧ z = (q : Int) ∧ e = 0 ∧ q ≤ b.length) := by
  unfold spec_l4Many prMany
  by_cases hlt : p < b.length
  · obtain ⟨c, hc, hc2⟩ := drop_cons_of hlt
    obtain ⟨c0, c255⟩ := hb c (List.mem_of_getElem? hc2)
    have ec : IntKind.wrap .i64 c = c := w64 (by omega) (by omega)
    have e16 : IntKind.wrap .i64 (Int.tdiv c 16) = c / 16 := by
      rw [Int.tdiv_eq_ediv_of_nonneg c0, w64 (by omega) (by omega)]
    have em : Int.tmod c 16 = c % 16 := Int.tmod_eq_emod_of_nonneg c0
    have ep : IntKind.wrap .i64 ((p : Int) + 1) = ((p + 1 : Nat) : Int) := by rw [w64 (by omega) (by omega)]; omega
    rw [decide_eq_false (by omega), cond_false, rdL_nat, hc2]
    simp only [Option.bind_some, ec, e16, em, ep]
    have tail : ∀ (many : Int) (q : Nat), q ≤ b.length → ∃ x y z e, spec_l4Many.c11 k (q : Int) many (c % 16) = some (x, y, z, e) ∧
        (match (if many = 0 then (.ok q (0, 0) : Res (Int × Int)) else if isItem (c % 16) = false then .bad 2 else if many < 0 ∨ 1500 < many then .bad 4 else .ok q (many, c % 16)) with
        | .bad c => e = c ∧ c ≠ 0
        | .ok q (many, item) => x = many ∧ y = item ∧ z = (q : Int) ∧ e = 0 ∧ q ≤ b.length) := by
      intro many q hq
      unfold spec_l4Many.c11
      by_cases h0 : many = 0
      · rw [beqT h0, cond_true, if_pos h0]
        exact ⟨_, _, _, _, rfl, rfl, rfl, rfl, rfl, hq⟩
      · rw [beqF h0, cond_false, if_neg h0, l4Item_eq]
        simp only [Option.bind_some, cst]
        cases isItem (c % 16) with
        | false =>
          rw [if_pos rfl]
          exact ⟨_, _, _, _, rfl, rfl, by decide⟩
        | true =>
          rw [if_neg (by decide)]
          simp only [Bool.not_true, cond_false]
          by_cases hm : many < 0 ∨ 1500 < many
          · rw [if_pos hm]
            have : (decide (many < 0) || decide (many > 1500)) = true := by
              rcases hm with h | h
              · rw [decide_eq_true h, Bool.true_or]
              · rw [decide_eq_true (show many > 1500 from h), Bool.or_true]
            rw [this]
            exact ⟨_, _, _, _, rfl, rfl, by decide⟩
          · rw [if_neg hm]
            rw [decide_eq_false (show ¬ many < 0 by omega), decide_eq_false (show ¬ many > 1500 by omega)]
            exact ⟨_, _, _, _, rfl, rfl, rfl, rfl, rfl, hq⟩
    by_cases h15 : c / 16 = 15
    · simp only [if_pos h15, beqT h15, cond_true, sget_any k hk hl hb (p + 1) (by omega)]
      cases hg : gv (b.drop (p + 1)) with
      | none =>
        simp only [Option.bind_some, Bool.not_false, cond_true, Option.map_none]
        exact ⟨_, _, _, _, rfl, rfl, by decide⟩
      | some z =>
        obtain ⟨u, n⟩ := z
        obtain ⟨f1, f2, f3, f4, f5⟩ := gv_facts _ u n (fun x hx => hb x (List.mem_of_mem_drop hx)) hg
        rw [List.length_drop] at f3
        simp only [Option.bind_some, Bool.not_true, cond_false, Option.map_some]
        exact tail u (p + 1 + n) (by omega)
    · simp only [if_neg h15, beqF h15, cond_false]
      exact tail (c / 16) (p + 1) (by omega)
  · rw [decide_eq_true (by omega), cond_true, List.getElem?_eq_none (by omega)]
    exact ⟨_, _, _, _, rfl, rfl, by decide⟩

theorem shead_any (hk : 2000 ≤ k) {b : List Int} (hl : b.length < 4611686018427387904) (hb : Byt b) (p : Nat) (hp : p ≤ b.length) (last : Int) (hla : 0 ≤ last ∧ last ≤ 1000) : ∃ x y z e, spec_l4Head k b (p : Int) last = some (x, y, z, e) ∧
    (match prHead b p last with
    | .bad c => e = c ∧ c ≠ 0
    | .ok q (t, id) => x = t ∧ (t ≠ 0 → y = id) ∧ z = (q : Int) ∧ e = 0 ∧ q ≤ b.length) := by
  unfold spec_l4Head prHead
  by_cases hlt : p < b.length
  · obtain ⟨c, hc, hc2⟩ := drop_cons_of hlt
    obtain ⟨c0, c255⟩ := hb c (List.mem_of_getElem? hc2)
    have ec : IntKind.wrap .i64 c = c := w64 (by omega) (by omega)
    have e16 : IntKind.wrap .i64 (Int.tdiv c 16) = c / 16 := by
      rw [Int.tdiv_eq_ediv_of_nonneg c0, w64 (by omega) (by omega)]
    have em : Int.tmod c 16 = c % 16 := Int.tmod_eq_emod_of_nonneg c0
    have ep : IntKind.wrap .i64 ((p : Int) + 1) = ((p + 1 : Nat) : Int) := by rw [w64 (by omega) (by omega)]; omega
    have el : IntKind.wrap .i64 (last + c / 16) = last + c / 16 := w64 (by omega) (by omega)
    rw [decide_eq_false (by omega), cond_false, rdL_nat, hc2]
    simp only [Option.bind_some, ec, e16, em, ep, el]
    by_cases h0 : c = 0
    · rw [beqT h0, cond_true, if_pos h0]
      exact ⟨_, _, _, _, rfl, rfl, fun h => (h rfl).elim, rfl, rfl, by omega⟩
    · rw [beqF h0, cond_false, if_neg h0, l4Kind_eq]
      simp only [Option.bind_some]
      cases hkd : isKind (c % 16) with
      | false =>
        rw [if_pos rfl]
        exact ⟨_, _, _, _, rfl, rfl, by decide⟩
      | true =>
        rw [if_neg (by decide)]
        simp only [Bool.not_true, cond_false]
        have tail : ∀ (id : Int) (q : Nat), q ≤ b.length → ∃ x y z e, spec_l4Head.c16 k (q : Int) last (c % 16) id = some (x, y, z, e) ∧
            (match (if id < 1 ∨ 1000 < id then (.bad 3 : Res (Int × Int)) else if id ≤ last then .bad 5 else .ok q (c % 16, id)) with
            | .bad c => e = c ∧ c ≠ 0
            | .ok q (t, id) => x = t ∧ (t ≠ 0 → y = id) ∧ z = (q : Int) ∧ e = 0 ∧ q ≤ b.length) := by
          intro id q hq
          unfold spec_l4Head.c16
          rw [l1In_eq]
          simp only [Option.bind_some]
          by_cases hi : id < 1 ∨ 1000 < id
          · rw [if_pos hi]
            have hw : (decide ((1 : Int) ≤ id) && decide (id ≤ 1000)) = false := by
              rw [Bool.eq_false_iff]; intro q
              simp only [Bool.and_eq_true, decide_eq_true_eq] at q
              omega
            rw [hw]
            exact ⟨_, _, _, _, rfl, rfl, by decide⟩
          · rw [if_neg hi]
            have hw : (decide ((1 : Int) ≤ id) && decide (id ≤ 1000)) = true := by simp; omega
            rw [hw]
            simp only [Bool.not_true, cond_false]
            by_cases h5 : id ≤ last
            · rw [if_pos h5, decide_eq_true h5]
              exact ⟨_, _, _, _, rfl, rfl, by decide⟩
            · rw [if_neg h5, decide_eq_false h5]
              exact ⟨_, _, _, _, rfl, rfl, fun _ => rfl, rfl, rfl, hq⟩
        by_cases h16 : c / 16 = 0
        · simp only [if_pos h16, beqT h16, cond_true, szig_any k hk hl hb (p + 1) (by omega)]
          cases hg : gv (b.drop (p + 1)) with
          | none =>
            simp only [Option.bind_some, Bool.not_false, cond_true, Option.map_none]
            exact ⟨_, _, _, _, rfl, rfl, by decide⟩
          | some z =>
            obtain ⟨u, n⟩ := z
            obtain ⟨f1, f2, f3, f4, f5⟩ := gv_facts _ u n (fun x hx => hb x (List.mem_of_mem_drop hx)) hg
            rw [List.length_drop] at f3
            simp only [Option.bind_some, Bool.not_true, cond_false, Option.map_some]
            exact tail (zagV u) (p + 1 + n) (by omega)
        · simp only [if_neg h16, beqF h16, cond_false]
          exact tail (last + c / 16) (p + 1) (by omega)
  · rw [decide_eq_true (by omega), cond_true, List.getElem?_eq_none (by omega)]
    exact ⟨_, _, _, _, rfl, rfl, by decide⟩

theorem stext_any (hk : 2000 ≤ k) {b : List Int} (hl : b.length < 4611686018427387904) (hb : Byt b) (p : Nat) (hp : p ≤ b.length) : ∃ x z e, spec_l4Text k b (p : Int) = some (x, z, e) ∧
    (match prText b p with
    | .bad c => e = c ∧ c ≠ 0
    | .ok q s => x = s ∧ z = (q : Int) ∧ e = 0 ∧ q ≤ b.length) := by
  unfold spec_l4Text prText
  rw [sget_any k hk hl hb p hp]
  cases hg : gv (b.drop p) with
  | none => exact ⟨_, _, _, rfl, rfl, by decide⟩
  | some z =>
    obtain ⟨u, n⟩ := z
    obtain ⟨⟨f0, f1⟩, f2, f3, f4, f5⟩ := gv_facts _ u n (fun x hx => hb x (List.mem_of_mem_drop hx)) hg
    rw [List.length_drop] at f3
    simp only [Option.bind_some, Bool.not_true, cond_false, cst]
    by_cases hu : u < 0 ∨ 300 < u
    · rw [if_pos hu]
      have : (decide (u < 0) || decide (u > 300)) = true := by
        rcases hu with h | h
        · rw [decide_eq_true h, Bool.true_or]
        · rw [decide_eq_true (show u > 300 from h), Bool.or_true]
      rw [this]
      exact ⟨_, _, _, rfl, rfl, by decide⟩
    · rw [if_neg hu, decide_eq_false (show ¬ u < 0 by omega), decide_eq_false (show ¬ u > 300 by omega)]
      have e1 : IntKind.wrap .i64 ((b.length : Int) - ((p + n : Nat) : Int)) = (b.length : Int) - ((p + n : Nat) : Int) := w64 (by omega) (by omega)
      simp only [Bool.or_self, cond_false, e1]
      by_cases hs : (b.length : Int) - ((p + n : Nat) : Int) < u
      · rw [if_pos hs, decide_eq_true hs]
        exact ⟨_, _, _, rfl, rfl, by decide⟩
      · rw [if_neg hs, decide_eq_false hs]
        obtain ⟨U, rfl⟩ := Int.eq_ofNat_of_zero_le (show 0 ≤ u by omega)
        have e2 : IntKind.wrap .i64 (((p + n : Nat) : Int) + (U : Int)) = ((p + n + U : Nat) : Int) := by rw [w64 (by omega) (by omega)]; omega
        have c3 : inSl ((p + n : Nat) : Int) ((p + n + U : Nat) : Int) b.length = true := inSl_ok (by omega) (by omega) (by omega)
        have hcut : cutL b ((p + n : Nat) : Int) ((p + n + U : Nat) : Int) = (b.drop (p + n)).take U := by
          unfold cutL
          rw [Int.toNat_natCast, Int.toNat_natCast, List.drop_take, show p + n + U - (p + n) = U by omega]
        simp only [cond_false, e2, c3, cond_true, hcut, Int.toNat_natCast]
        exact ⟨_, _, _, rfl, rfl, rfl, rfl, by omega⟩

def SNode (S : (List Int) → Int → Int → Int → Int → (List TNode) → Option ((Unit × Int × Int) × (List TNode))) (b : List Int) (kind id deep : Int) (p : Nat) (acc : List TNode) (r : Res (List TNode)) : Prop :=
  match r with
  | .bad e => e ≠ 0 ∧ ∃ q l, S b (p : Int) kind id deep acc = some (((), q, e), l)
  | .ok q Y => q ≤ b.length ∧ S b (p : Int) kind id deep acc = some (((), (q : Int), 0), acc ++ Y)

theorem sparts (S : (List Int) → Int → Int → Int → Int → (List TNode) → Option ((Unit × Int × Int) × (List TNode))) (b : List Int) (item : Int) (deep : Nat) (hdeep : deep ≤ 100) (P : Nat → Nat → Res (List TNode))
    (ih : ∀ (p : Nat) (acc : List TNode), p ≤ b.length → acc.length ≤ 1500 → SNode S b item 0 ((deep + 1 : Nat) : Int) p acc (P p acc.length))
    (hP : ∀ p c q Y, c ≤ 1500 → P p c = .ok q Y → c + Y.length ≤ 1500) (many : Int) (hm : many ≤ 1500) :
    ∀ (m f : Nat) (i : Int) (p : Nat) (acc : List TNode), many - i = m → 0 ≤ i → m < f → p ≤ b.length → acc.length ≤ 1500 →
    match prParts P m p acc.length with
    | .bad e => e ≠ 0 ∧ ∃ q l, spec_l4Read.l24 k S f b (deep : Int) many item (p : Int) 0 i acc = some (((), q, e), l)
    | .ok q Y => q ≤ b.length ∧ spec_l4Read.l24 k S f b (deep : Int) many item (p : Int) 0 i acc = some (((), (q : Int), 0), acc ++ Y) := by
  have hdw : IntKind.wrap .i64 ((deep : Int) + 1) = ((deep + 1 : Nat) : Int) := by rw [w64 (by omega) (by omega)]; omega
  intro m
  induction m with
  | zero =>
    intro f i p acc hi h0 hf hp hc
    obtain ⟨f, rfl⟩ : ∃ j, f = j + 1 := ⟨f - 1, by omega⟩
    simp only [prParts, spec_l4Read.l24, decide_eq_false (show ¬ i < many by omega), cond_false, Option.bind_some, List.append_nil]
    exact ⟨hp, trivial⟩
  | succ m ihm =>
    intro f i p acc hi h0 hf hp hc
    obtain ⟨f, rfl⟩ : ∃ j, f = j + 1 := ⟨f - 1, by omega⟩
    have hi1 : IntKind.wrap .i64 (i + 1) = i + 1 := w64 (by omega) (by omega)
    have h1 := ih p acc hp hc
    simp only [prParts, spec_l4Read.l24, decide_eq_true (show i < many by omega), cond_true, Option.bind_some, beqT rfl, hdw, hi1]
    unfold SNode at h1
    cases hr : P p acc.length with
    | bad e =>
      rw [hr] at h1
      obtain ⟨he, q, l, e1⟩ := h1
      refine ⟨he, q, l, ?_⟩
      obtain ⟨f, rfl⟩ : ∃ j, f = j + 1 := ⟨f - 1, by omega⟩
      simp only [e1, Option.bind_some, spec_l4Read.l24, beqF he]
      cases decide (i + 1 < many) <;> rfl
    | ok q Y =>
      rw [hr] at h1
      obtain ⟨hq, e1⟩ := h1
      have hlen := hP _ _ _ _ hc hr
      have h2 := ihm f (i + 1) q (acc ++ Y) (by omega) (by omega) (by omega) hq (by rw [List.length_append]; exact hlen)
      rw [List.length_append] at h2
      simp only [e1, Option.bind_some]
      cases hr2 : prParts P m q (acc.length + Y.length) with
      | bad e => rw [hr2] at h2; exact h2
      | ok q2 Z => rw [hr2] at h2; simpa [List.append_assoc] using h2

theorem sfields (hk : 2000 ≤ k) (S : (List Int) → Int → Int → Int → Int → (List TNode) → Option ((Unit × Int × Int) × (List TNode))) (b : List Int) (hl : b.length < 4611686018427387904) (hb : Byt b) (deep : Nat) (hdeep : deep ≤ 100) (P : Int → Int → Nat → Nat → Res (List TNode))
    (ih : ∀ (t id : Int) (p : Nat) (acc : List TNode), isKind t = true → p ≤ b.length → acc.length ≤ 1500 → SNode S b t id ((deep + 1 : Nat) : Int) p acc (P t id p acc.length))
    (hP : ∀ t id p c q Y, isKind t = true → c ≤ 1500 → P t id p c = .ok q Y → c + Y.length ≤ 1500) (id0 : Int) (pre : List TNode) :
    ∀ (g f : Nat) (last : Int) (p : Nat) (j : Nat) (mid : List TNode), 1002 ≤ (g : Int) + last → 0 ≤ last → last ≤ 1000 → g < f → p ≤ b.length → pre.length + 1 + mid.length ≤ 1500 → (j : Int) + g ≤ 4000 →
    match prFields P b g last p (pre.length + 1 + mid.length) with
    | .bad e => e ≠ 0 ∧ ∃ q l, spec_l4Read.l30 k S f b (p : Int) (deep : Int) (pre.length : Int) last (j : Int) (pre ++ sn id0 0 :: mid) = some (((), q, e), l)
    | .ok q (m, Y) => q ≤ b.length ∧ spec_l4Read.l30 k S f b (p : Int) (deep : Int) (pre.length : Int) last (j : Int) (pre ++ sn id0 0 :: mid) = some (((), (q : Int), 0), pre ++ sn id0 ((j + m : Nat) : Int) :: (mid ++ Y)) := by
  have hdw : IntKind.wrap .i64 ((deep : Int) + 1) = ((deep + 1 : Nat) : Int) := by rw [w64 (by omega) (by omega)]; omega
  intro g
  induction g with
  | zero => intro f last p j mid h1 h2 h3; omega
  | succ g ihg =>
    intro f last p j mid h1 h2 h3 hf hp hc hj
    obtain ⟨f, rfl⟩ : ∃ j, f = j + 1 := ⟨f - 1, by omega⟩
    have hjw : IntKind.wrap .i64 ((j : Int) + 1) = ((j + 1 : Nat) : Int) := by rw [w64 (by omega) (by omega)]; omega
    obtain ⟨x, y, z, e, e1, e2⟩ := shead_any k hk hl hb p hp last ⟨h2, h3⟩
    simp only [prFields, spec_l4Read.l30, e1, Option.bind_some]
    cases hr : prHead b p last with
    | bad c =>
      rw [hr] at e2
      obtain ⟨rfl, he⟩ := e2
      simp only [bneT he, cond_true]
      exact ⟨he, _, _, rfl⟩
    | ok q w =>
      obtain ⟨t, id⟩ := w
      rw [hr] at e2
      obtain ⟨rfl, hy, rfl, rfl, hq⟩ := e2
      obtain ⟨a1, a2⟩ := prHead_ok hr
      simp only [bneF rfl, cond_false]
      by_cases ht : x = 0
      · simp only [if_pos ht, beqT ht, cond_true]
        have hget : rdL (pre ++ sn id0 0 :: mid) (pre.length : Int) = some (sn id0 0) := by
          rw [rdL_nat, List.getElem?_append_right (Nat.le_refl _)]; simp
        have hset : ∀ x y : TNode, List.set (pre ++ x :: mid) (Int.toNat (pre.length : Int)) y = pre ++ y :: mid := fun x y => by
          rw [Int.toNat_natCast, List.set_append_right _ _ (Nat.le_refl _)]; simp
        simp only [hget, Option.bind_some, hset]
        exact ⟨hq, by simp [sn]⟩
      · obtain rfl := hy ht
        rcases a2 with a2 | ⟨a2, _, a3, a4, a5⟩
        · exact (ht a2).elim
        · simp only [if_neg ht, beqF ht, cond_false, hdw]
          have hn := ih x y q (pre ++ sn id0 0 :: mid) a2 hq (by simp; omega)
          rw [show (pre ++ sn id0 0 :: mid).length = pre.length + 1 + mid.length by simp; omega] at hn
          unfold SNode at hn
          cases hr2 : P x y q (pre.length + 1 + mid.length) with
          | bad e =>
            rw [hr2] at hn
            obtain ⟨he, q', l, e3⟩ := hn
            simp only [e3, Option.bind_some, bneT he, cond_true]
            exact ⟨he, _, _, rfl⟩
          | ok r Y =>
            rw [hr2] at hn
            obtain ⟨hr1, e3⟩ := hn
            have hlen := hP _ _ _ _ _ _ a2 (by omega) hr2
            have h4 := ihg f y r (j + 1) (mid ++ Y) (by omega) (by omega) (by omega) (by omega) hr1 (by rw [List.length_append]; omega) (by omega)
            rw [List.length_append, ← Nat.add_assoc] at h4
            simp only [e3, Option.bind_some, bneF rfl, cond_false, hjw, List.append_assoc, List.cons_append]
            cases hr3 : prFields P b g y r (pre.length + 1 + mid.length + Y.length) with
            | bad e => rw [hr3] at h4; exact h4
            | ok z w =>
              obtain ⟨m, Z⟩ := w
              rw [hr3] at h4
              obtain ⟨h5, h6⟩ := h4
              refine ⟨h5, ?_⟩
              rw [h6, show j + 1 + m = j + (m + 1) by omega, List.append_assoc]

theorem srdN (hk : 2000 ≤ k) (b : List Int) (hl : b.length < 4611686018427387904) (hb : Byt b) : ∀ (d D deep : Nat) (kind id : Int) (p : Nat) (acc : List TNode), d + deep = 13 → d < D → isKind kind = true → p ≤ b.length → acc.length ≤ 1500 →
    SNode (spec_l4Read.rec k D) b kind id (deep : Int) p acc (prN d b kind id p acc.length) := by
  intro d
  induction d with
  | zero =>
    intro D deep kind id p acc hdd hD hkd hp hc
    obtain ⟨D, rfl⟩ : ∃ m, D = m + 1 := ⟨D - 1, by omega⟩
    refine ⟨by decide, 0, acc, ?_⟩
    simp only [spec_l4Read.rec, spec_l4Read.b, cst, decide_eq_true (show (deep : Int) > 12 by omega), Bool.or_true, Option.bind_some, cond_true]
  | succ d ih =>
    intro D deep kind id p acc hdd hD hkd hp hc
    obtain ⟨D, rfl⟩ : ∃ m, D = m + 1 := ⟨D - 1, by omega⟩
    have hset : ∀ (acc : List TNode) (x y : TNode), List.set (acc ++ [x]) (Int.toNat (acc.length : Int)) y = acc ++ [y] := fun acc x y => by
      rw [Int.toNat_natCast, List.set_append_right _ _ (Nat.le_refl _)]; simp
    have hget : ∀ (acc : List TNode) (x : TNode), rdL (acc ++ [x]) (acc.length : Int) = some x := fun acc x => by
      rw [rdL_nat, List.getElem?_append_right (Nat.le_refl _)]; simp
    unfold prN
    by_cases hc5 : acc.length = 1500
    · rw [if_pos hc5]
      refine ⟨by decide, 0, acc, ?_⟩
      simp only [spec_l4Read.rec, spec_l4Read.b, cst, beqT (show (acc.length : Int) = 1500 by omega), Bool.true_or, Option.bind_some, cond_true]
    · rw [if_neg hc5]
      unfold SNode
      simp only [spec_l4Read.rec, spec_l4Read.b, cst, beqF (show ¬ (acc.length : Int) = 1500 by omega), decide_eq_false (show ¬ (deep : Int) > 12 by omega), Bool.or_self, Option.bind_some, cond_false]
      rw [lim_ok (by simp; omega), cond_true]
      by_cases h56 : kind = 5 ∨ kind = 6
      · rw [if_pos h56]
        have e0 : (cond (kind == 5)
             (spec_l4Read.c8 k (spec_l4Read.rec k D) b (p : Int) kind (deep : Int) (acc.length : Int) kind (kind == 5) (acc ++ [(kind, id, 0, (⟨#[]⟩ : ByteArray), 0, ())]))
             (spec_l4Read.c8 k (spec_l4Read.rec k D) b (p : Int) kind (deep : Int) (acc.length : Int) kind (kind == 6) (acc ++ [(kind, id, 0, (⟨#[]⟩ : ByteArray), 0, ())])))
            = spec_l4Read.c8 k (spec_l4Read.rec k D) b (p : Int) kind (deep : Int) (acc.length : Int) kind true (acc ++ [(kind, id, 0, (⟨#[]⟩ : ByteArray), 0, ())]) := by
          rcases h56 with h | h
          · rw [beqT h, cond_true]
          · rw [beqF (show ¬ kind = 5 by omega), beqT h, cond_false]
        rw [e0]
        simp only [spec_l4Read.c8, cond_true, szig_any k hk hl hb p hp]
        cases hg : gv (b.drop p) with
        | none => exact ⟨by decide, _, _, rfl⟩
        | some z =>
          obtain ⟨u, n⟩ := z
          obtain ⟨f1, f2, f3, f4, f5⟩ := gv_facts _ u n (fun x hx => hb x (List.mem_of_mem_drop hx)) hg
          rw [List.length_drop] at f3
          simp only [Option.bind_some, Bool.not_true, cond_false, spec_l4Int, l1In_eq, csf]
          have h32 : (decide (-2147483648 ≤ zagV u) && decide (zagV u ≤ 2147483647)) = int32 (zagV u) := rfl
          rw [h32]
          by_cases hbad : kind = 5 ∧ int32 (zagV u) = false
          · rw [if_pos hbad]
            refine ⟨by decide, 0, acc ++ [(kind, id, 0, ⟨#[]⟩, 0, ())], ?_⟩
            simp only [beqT hbad.1, hbad.2, Bool.not_false, Bool.and_self, cond_true]
          · rw [if_neg hbad]
            have hb2 : ((kind == 5) && !int32 (zagV u)) = false := by
              rw [Bool.eq_false_iff]; intro q
              simp only [Bool.and_eq_true, beq_iff_eq, Bool.not_eq_true'] at q
              exact hbad q
            refine ⟨by omega, ?_⟩
            simp only [hb2, cond_false, hget, hset, Option.bind_some]
      · rw [if_neg h56]
        have e5 : (kind == 5) = false := beqF (by omega)
        have e6 : (kind == 6) = false := beqF (by omega)
        simp only [e5, e6, cond_false, spec_l4Read.c8]
        by_cases h8 : kind = 8
        · subst h8
          simp only [if_true, show ((8 : Int) == 8) = true from rfl, cond_true]
          obtain ⟨x, z, e, e1, e2⟩ := stext_any k hk hl hb p hp
          simp only [e1, Option.bind_some, hget, hset]
          cases hr : prText b p with
          | bad c =>
            rw [hr] at e2
            obtain ⟨rfl, he⟩ := e2
            exact ⟨he, _, _, rfl⟩
          | ok q s =>
            rw [hr] at e2
            obtain ⟨rfl, rfl, rfl, hq⟩ := e2
            exact ⟨hq, rfl⟩
        · rw [if_neg h8]
          simp only [beqF h8, cond_false]
          by_cases h9 : kind = 9
          · subst h9
            simp only [if_true, show ((9 : Int) == 9) = true from rfl, cond_true]
            obtain ⟨x, y, z, e, e1, e2⟩ := smany_any k hk hl hb p hp
            simp only [e1, Option.bind_some, hget, hset]
            cases hr : prMany b p with
            | bad c =>
              rw [hr] at e2
              obtain ⟨rfl, he⟩ := e2
              have : ∀ f a, f ≠ 0 → spec_l4Read.l24 k (spec_l4Read.rec k D) f b (deep : Int) x y z e 0 a = some (((), z, e), a) := by
                intro f a hf
                obtain ⟨f, rfl⟩ : ∃ j, f = j + 1 := ⟨f - 1, by omega⟩
                simp only [spec_l4Read.l24, beqF he]
                cases decide ((0 : Int) < x) <;> rfl
              refine ⟨he, _, _, this k _ (by omega)⟩
            | ok q w =>
              obtain ⟨many, item⟩ := w
              rw [hr] at e2
              obtain ⟨rfl, rfl, rfl, rfl, hq⟩ := e2
              obtain ⟨_, m1⟩ := prMany_ok hr
              simp only
              have hx : x ≤ 1500 := by rcases m1 with h | h <;> omega
              have hx0 : 0 ≤ x := by rcases m1 with h | h <;> omega
              rcases m1 with ⟨rfl, rfl⟩ | ⟨m1, m2, m3⟩
              · obtain ⟨K, hK⟩ : ∃ K, k = K + 1 := ⟨k - 1, by omega⟩
                have : ∀ f a, f ≠ 0 → spec_l4Read.l24 k (spec_l4Read.rec k D) f b (deep : Int) 0 0 (q : Int) 0 0 a = some (((), (q : Int), 0), a) := by
                  intro f a hf
                  obtain ⟨f, rfl⟩ : ∃ j, f = j + 1 := ⟨f - 1, by omega⟩
                  simp only [spec_l4Read.l24, decide_eq_false (show ¬ ((0 : Int) < 0) by omega), cond_false, Option.bind_some]
                simp only [Int.toNat_zero, prParts]
                exact ⟨hq, this k _ (by omega)⟩
              · have hp := sparts k (spec_l4Read.rec k D) b y deep (by omega) (fun p c => prN d b y 0 p c)
                  (fun p acc hp hc => ih D (deep + 1) y 0 p acc (by omega) (by omega) (isKind_of_item m3) hp hc)
                  (fun p c q Y hc h => by
                    obtain ⟨_, n, X, rfl, _, _, _, h5⟩ := prN_enc d b y 0 p c q Y (isKind_of_item m3) hc h
                    exact h5) x hx x.toNat k 0 q (acc ++ [(9, id, y, ⟨#[]⟩, x, ())]) (by omega) (by omega) (by omega) hq (by simp; omega)
                rw [List.length_append, List.length_singleton] at hp
                cases hr2 : prParts (fun p c => prN d b y 0 p c) x.toNat q (acc.length + 1) with
                | bad e => rw [hr2] at hp; exact hp
                | ok q' Y =>
                  rw [hr2] at hp
                  obtain ⟨h1, h2⟩ := hp
                  exact ⟨h1, by rw [h2]; simp⟩
          · rw [if_neg h9]
            simp only [beqF h9, cond_false]
            by_cases h12 : kind = 12
            · subst h12
              simp only [if_true, show ((12 : Int) == 12) = true from rfl, cond_true]
              have hf := sfields k hk (spec_l4Read.rec k D) b hl hb deep (by omega) (fun t id p c => prN d b t id p c)
                (fun t id p acc ht hp hc => ih D (deep + 1) t id p acc (by omega) (by omega) ht hp hc)
                (fun t id p c q Y ht hc h => by
                  obtain ⟨_, n, X, rfl, _, _, _, h5⟩ := prN_enc d b t id p c q Y ht hc h
                  exact h5) id acc 1002 k 0 p 0 [] (by omega) (by omega) (by omega) (by omega) hp (by simp; omega) (by omega)
              rw [List.length_nil, Nat.add_zero] at hf
              rw [show (acc ++ [((12 : Int), id, (0 : Int), (⟨#[]⟩ : ByteArray), (0 : Int), ())] : List TNode) = acc ++ sn id 0 :: [] from rfl]
              cases hr : prFields (fun t id p c => prN d b t id p c) b 1002 0 p (acc.length + 1) with
              | bad e => rw [hr] at hf; exact hf
              | ok q' x =>
                obtain ⟨m, Y⟩ := x
                rw [hr] at hf
                obtain ⟨hq', e1⟩ := hf
                refine ⟨hq', ?_⟩
                rw [show ((0 : Nat) : Int) = 0 from rfl] at e1
                rw [e1]
                simp [sn]
            · rw [if_neg h12]
              simp only [beqF h12, cond_false]
              exact ⟨hp, trivial⟩
end Go.Law
end

section
/- Trees: the program and the reference read the same of any bytes. -/
set_option linter.unusedVariables false
set_option linter.unusedSimpArgs false
namespace Go.Law
open Go.Am Go.Fn

theorem isz {x : Int} (h0 : -1000000000000 ≤ x) (h1 : x ≤ 1000000000000) : I64 x := ⟨by omega, by omega⟩

theorem wfn_mk {k id num m : Int} {t : ByteArray} (h1 : I64 k) (h2 : I64 id) (h3 : I64 num) (h4 : I64 m) (h5 : t.size ≤ 1073741824) : WfN (k, id, num, t, m, ()) := ⟨h1, h2, h3, h4, h5⟩
theorem i8 : I64 8 := ⟨by decide, by decide⟩
theorem i9 : I64 9 := ⟨by decide, by decide⟩
theorem i12 : I64 12 := ⟨by decide, by decide⟩

theorem prParts_wf {S : Nat → Nat → Res (List TNode)} (ih : ∀ p c q Y, S p c = .ok q Y → ∀ n, n ∈ Y → WfN n) : ∀ (m p c q : Nat) (Y : List TNode), prParts S m p c = .ok q Y → ∀ n, n ∈ Y → WfN n := by
  intro m
  induction m with
  | zero =>
    intro p c q Y h n hn
    simp only [prParts, Res.ok.injEq] at h
    obtain ⟨_, rfl⟩ := h
    cases hn
  | succ m ihm =>
    intro p c q Y h n hn
    simp only [prParts] at h
    split at h
    · cases h
    · rename_i h1
      split at h
      · cases h
      · rename_i h2
        simp only [Res.ok.injEq] at h
        obtain ⟨_, rfl⟩ := h
        rcases List.mem_append.1 hn with hn | hn
        · exact ih _ _ _ _ h1 n hn
        · exact ihm _ _ _ _ h2 n hn

theorem prFields_wf {S : Int → Int → Nat → Nat → Res (List TNode)} {b : List Int} (ih : ∀ t id p c q Y, isKind t = true → 0 ≤ id → id ≤ 1000 → S t id p c = .ok q Y → ∀ n, n ∈ Y → WfN n) : ∀ (f : Nat) (last : Int) (p c q m : Nat) (Y : List TNode), prFields S b f last p c = .ok q (m, Y) → m ≤ f ∧ ∀ n, n ∈ Y → WfN n := by
  intro f
  induction f with
  | zero => intro last p c q m Y h; cases h
  | succ f ihf =>
    intro last p c q m Y h
    simp only [prFields] at h
    split at h
    · cases h
    · rename_i q1 t id h1
      obtain ⟨a1, a2⟩ := prHead_ok h1
      split at h
      · simp only [Res.ok.injEq, Prod.mk.injEq] at h
        obtain ⟨_, rfl, rfl⟩ := h
        exact ⟨by omega, fun n hn => by cases hn⟩
      · rename_i ht
        rcases a2 with a2 | ⟨a2, _, a3, a4, a5⟩
        · exact (ht a2).elim
        · split at h
          · cases h
          · rename_i h2
            split at h
            · cases h
            · rename_i h3
              simp only [Res.ok.injEq, Prod.mk.injEq] at h
              obtain ⟨_, rfl, rfl⟩ := h
              obtain ⟨g1, g2⟩ := ihf _ _ _ _ _ _ h3
              refine ⟨by omega, fun n hn => ?_⟩
              rcases List.mem_append.1 hn with hn | hn
              · exact ih _ _ _ _ _ _ a2 (by omega) a5 h2 n hn
              · exact g2 n hn

theorem prN_wf : ∀ (d : Nat) (b : List Int) (kind id : Int) (p c q : Nat) (Y : List TNode), isKind kind = true → 0 ≤ id → id ≤ 1000 → prN d b kind id p c = .ok q Y → ∀ n, n ∈ Y → WfN n := by
  intro d
  induction d with
  | zero => intro b kind id p c q Y _ _ _ h; cases h
  | succ d ih =>
    intro b kind id p c q Y hk h0 h1 h
    have hkb : I64 kind := by rcases kind_cases hk with e | e | e | e | e | e | e <;> subst e <;> exact ⟨by decide, by decide⟩
    have hid : I64 id := isz (by omega) (by omega)
    have hz : I64 0 := ⟨by decide, by decide⟩
    have he : (⟨#[]⟩ : ByteArray).size ≤ 1073741824 := by decide
    have mk : ∀ (x : TNode) (Y : List TNode), WfN x → (∀ n, n ∈ Y → WfN n) → ∀ n, n ∈ x :: Y → WfN n := fun x Y hx hY n hn => by
      rcases List.mem_cons.1 hn with rfl | hn
      · exact hx
      · exact hY n hn
    have nil : ∀ n : TNode, n ∈ ([] : List TNode) → WfN n := fun n hn => by cases hn
    simp only [prN] at h
    split at h
    · cases h
    · split at h
      · split at h
        · cases h
        · split at h
          · cases h
          · simp only [Res.ok.injEq] at h
            obtain ⟨_, rfl⟩ := h
            exact mk _ _ (wfn_mk hkb hid (zagV_i64 _) hz he) nil
      · split at h
        · split at h
          · cases h
          · rename_i s hs
            obtain ⟨_, s2⟩ := prText_ok hs
            simp only [Res.ok.injEq] at h
            obtain ⟨_, rfl⟩ := h
            exact mk _ _ (wfn_mk i8 hid hz hz (by omega)) nil
        · split at h
          · split at h
            · cases h
            · rename_i many item hm
              obtain ⟨_, m1⟩ := prMany_ok hm
              split at h
              · cases h
              · rename_i hp
                simp only [Res.ok.injEq] at h
                obtain ⟨_, rfl⟩ := h
                rcases m1 with ⟨rfl, rfl⟩ | ⟨m1, m2, m3⟩
                · simp only [Int.toNat_zero, prParts, Res.ok.injEq] at hp
                  obtain ⟨_, rfl⟩ := hp
                  exact mk _ _ (wfn_mk i9 hid hz hz he) nil
                · refine mk _ _ (wfn_mk i9 hid ?_ (isz (by omega) (by omega)) he) (prParts_wf (fun p c q Y h => ih b item 0 p c q Y (isKind_of_item m3) (by omega) (by omega) h) _ _ _ _ _ hp)
                  rcases kind_cases (isKind_of_item m3) with e | e | e | e | e | e | e <;> subst e <;> exact ⟨by decide, by decide⟩
          · split at h
            · split at h
              · cases h
              · rename_i hf
                simp only [Res.ok.injEq] at h
                obtain ⟨_, rfl⟩ := h
                obtain ⟨g1, g2⟩ := prFields_wf (fun t id p c q Y hk h0 h1 h => ih b t id p c q Y hk h0 h1 h) _ _ _ _ _ _ _ hf
                exact mk _ _ (wfn_mk i12 hid hz (isz (by omega) (by omega)) he) g2
            · simp only [Res.ok.injEq] at h
              obtain ⟨_, rfl⟩ := h
              exact mk _ _ (wfn_mk hkb hid hz hz he) nil

/-- what is read at a place -/
def trd (b : List Int) (at_ : Int) : Res (List TNode) := if 0 ≤ at_ ∧ at_ < b.length then prN 12 b 12 0 at_.toNat 0 else .bad 1

/-- what is known of a tree that is read -/
structure ReadOk (b : List Int) (at_ : Int) (q : Nat) (Y : List TNode) : Prop where
  rng : 0 ≤ at_ ∧ at_ < q ∧ q ≤ b.length
  enc : Enc 12 Y
  root : ∃ X, ∃ n : TNode, Y = n :: X ∧ n.1 = 12 ∧ n.2.1 = 0
  len : Y.length ≤ 1500
  wf : ∀ n, n ∈ Y → WfN n

theorem trd_ok {b : List Int} (hl : b.length < 4611686018427387904) (hb : Byt b) {at_ : Int} {q : Nat} {Y : List TNode} (h : trd b at_ = .ok q Y) : ReadOk b at_ q Y := by
  unfold trd at h
  split at h
  · rename_i hr
    obtain ⟨a1, n, X, e1, e2, e3, e4, e5⟩ := prN_enc 12 b 12 0 _ 0 q Y (by decide) (by omega) h
    have hlt : at_.toNat < q := by
      simp only [prN] at h
      simp only [if_neg (show ¬ (0 : Nat) = 1500 by omega), if_neg (show ¬ ((12 : Int) = 5 ∨ (12 : Int) = 6) by omega), if_neg (show ¬ ((12 : Int) = 8) by omega), if_neg (show ¬ ((12 : Int) = 9) by omega), if_true] at h
      split at h
      · cases h
      · rename_i hf
        simp only [Res.ok.injEq] at h
        obtain ⟨rfl, rfl⟩ := h
        exact prFields_mono (fun t id p c q Y h => prN_mono 11 b t id p c q Y h) _ _ _ _ _ _ hf
    have hq := (prN_cost 12 b hb 12 0 _ 0 q Y (by decide) (by omega) (by omega) h).1
    exact ⟨⟨hr.1, by omega, hq⟩, e4, ⟨X, n, e1, e2, e3⟩, by omega, prN_wf 12 b 12 0 _ 0 q Y (by decide) (by omega) (by omega) h⟩
  · cases h

variable (k : Nat)

/-- both read the same -/
theorem treeRead_eq (hk : 2000 ≤ k) (b : List Int) (hl : b.length < 4611686018427387904) (hb : Byt b) (at_ : Int) :
    match trd b at_ with
    | .bad e => e ≠ 0 ∧ spec_TreeRead k b at_ = some (((), 0, e), []) ∧ impl_TreeRead k b at_ = some (((), 0, e), [])
    | .ok q Y => spec_TreeRead k b at_ = some (((), (q : Int), 0), Y) ∧ impl_TreeRead k b at_ = some (((), (q : Int), 0), Y) := by
  unfold trd spec_TreeRead impl_TreeRead
  simp only [cst, within_eq]
  by_cases hr : 0 ≤ at_ ∧ at_ < b.length
  · rw [if_pos hr]
    have c1 : (decide ((0 : Int) ≤ at_) && decide (at_ ≤ IntKind.wrap .i64 ((b.length : Int) - 1))) = true := by
      rw [w64 (by omega) (by omega)]
      simp
      omega
    rw [decide_eq_false (show ¬ at_ < 0 by omega), decide_eq_false (show ¬ at_ ≥ (b.length : Int) by omega), c1]
    simp only [Bool.or_self, Option.bind_some, cond_false, Bool.not_true]
    obtain ⟨p, rfl⟩ := Int.eq_ofNat_of_zero_le hr.1
    rw [Int.toNat_natCast]
    have hs := srdN k hk b hl hb 12 k 1 12 0 p [] (by omega) (by omega) (by decide) (by omega) (by simp)
    have hi := irdN k hk b hl hb 12 k 1 12 0 p [] (by omega) (by omega) (by decide) (by omega) (by simp)
    have es : ∀ x, spec_l4Read k b (p : Int) 12 0 1 [] = x ↔ spec_l4Read.rec k k b (p : Int) 12 0 ((1 : Nat) : Int) [] = x := fun x => Iff.rfl
    have ei : ∀ x, impl_treeReader_node k 12 0 1 (b, (p : Int), (), 0, ()) [] = x ↔ (impl_treeReader_node.rec k k).1 12 0 ((1 : Nat) : Int) (rdE b p 0) [] = x := fun x => Iff.rfl
    rw [List.length_nil] at hs hi
    unfold SNode at hs
    unfold INode at hi
    cases h : prN 12 b 12 0 p 0 with
    | bad e =>
      rw [h] at hs hi
      obtain ⟨he, q, l, e1⟩ := hs
      obtain ⟨_, q', l', _, e2⟩ := hi
      rw [(es _).2 e1, (ei _).2 e2]
      simp only [Option.bind_some, bneT he, cond_true]
      exact ⟨he, trivial, trivial⟩
    | ok q Y =>
      rw [h] at hs hi
      obtain ⟨_, e1⟩ := hs
      obtain ⟨_, e2⟩ := hi
      rw [(es _).2 e1, (ei _).2 e2]
      simp only [Option.bind_some, bneF rfl, cond_false, List.nil_append]
      exact ⟨trivial, trivial⟩
  · rw [if_neg hr]
    have c1 : (decide ((0 : Int) ≤ at_) && decide (at_ ≤ IntKind.wrap .i64 ((b.length : Int) - 1))) = false := by
      rw [w64 (by omega) (by omega), Bool.eq_false_iff]
      intro q
      simp only [Bool.and_eq_true, decide_eq_true_eq] at q
      omega
    have c2 : (decide (at_ < 0) || decide (at_ ≥ (b.length : Int))) = true := by
      simp only [Bool.or_eq_true, decide_eq_true_eq]
      omega
    rw [c1, c2]
    simp only [Option.bind_some, cond_true, Bool.not_false]
    exact ⟨by decide, trivial, trivial⟩

/-- what is read is a tree -/
theorem read_tree (hk : 2000 ≤ k) {b : List Int} {at_ : Int} {q : Nat} {Y : List TNode} (h : ReadOk b at_ q Y) : spec_TreeOk k Y = some true := by
  obtain ⟨X, n, rfl, h1, h2⟩ := h.root
  exact treeOkEnc k hk n X h.enc h.len h1 h2
end Go.Law
end
