/- Plain laws of the words that clean functions use: whole numbers that wrap, bits, rows, strings. -/
import Derived.Test.YtmdmkakkodeniaaAmStep
import Derived.Laws.BitsLemmas
import Derived.Laws.Strings
set_option linter.unusedVariables false
set_option linter.unusedSimpArgs false
namespace Go.Law
open Go.Am

/-! ### numbers that wrap -/
theorem w64 {x : Int} (h0 : -9223372036854775808 ≤ x) (h1 : x < 9223372036854775808) : IntKind.wrap .i64 x = x := by
  rw [IntKind.wrap_i64]; omega
theorem w64_lo (x : Int) : -9223372036854775808 ≤ IntKind.wrap .i64 x := by rw [IntKind.wrap_i64]; omega
theorem w64_hi (x : Int) : IntKind.wrap .i64 x < 9223372036854775808 := by rw [IntKind.wrap_i64]; omega
theorem wu64_eq (x : Int) : IntKind.wrap .u64 x = x % 18446744073709551616 := by simp [IntKind.wrap, IntKind.bits, IntKind.signed]
theorem wu8_eq (x : Int) : IntKind.wrap .u8 x = x % 256 := IntKind.wrap_u8 x
theorem w8 {x : Int} (h0 : 0 ≤ x) (h1 : x < 256) : IntKind.wrap .u8 x = x := by rw [wu8_eq]; omega
theorem wraps_u64 (n : Int) (h₀ : 0 ≤ n) (h₁ : n < 2 ^ 64) : IntKind.u64.wrap n = n := by rw [wu64_eq]; omega
theorem wraps_i64 (n : Int) (h₀ : 0 ≤ n) (h₁ : n < 2 ^ 63) : IntKind.i64.wrap n = n := by rw [IntKind.wrap_i64]; omega

def I64 (x : Int) : Prop := -9223372036854775808 ≤ x ∧ x < 9223372036854775808

/-! ### bits -/
theorem and_mask_i64 (x : Int) (i : Nat) (hi : i ≤ 62) : bits .and .i64 x (2 ^ i - 1) = x % 2 ^ i := by
  have hpos : 0 < 2 ^ i := Nat.two_pow_pos i
  have hle : 2 ^ i ≤ 2 ^ 62 := Nat.pow_le_pow_right (by decide) hi
  have hc : ((2 : Int) ^ i - 1) = ((2 ^ i - 1 : Nat) : Int) := by
    rw [Int.natCast_sub hpos]; simp
  have hb : (2 ^ i - 1) % 2 ^ IntKind.i64.bits = 2 ^ i - 1 := Nat.mod_eq_of_lt (show 2 ^ i - 1 < 2 ^ 64 by omega)
  rw [hc]
  simp only [bits, BitVec.ofInt_natCast, BitVec.toNat_and, BitVec.toNat_ofNat, hb, Nat.and_two_pow_sub_one_eq_mod, BitVec.toNat_ofInt]
  show IntKind.wrap .i64 (((x % ((2 ^ 64 : Nat) : Int)).toNat % 2 ^ i : Nat) : Int) = _
  have h1 : (x % ((2 ^ 64 : Nat) : Int)).toNat % 2 ^ i < 2 ^ i := Nat.mod_lt _ hpos
  have h2 : (((x % ((2 ^ 64 : Nat) : Int)).toNat % 2 ^ i : Nat) : Int) = x % 2 ^ i := by
    have h3 : 0 ≤ x % ((2 ^ 64 : Nat) : Int) := Int.emod_nonneg _ (by decide)
    rw [Int.natCast_emod, Int.toNat_of_nonneg h3]
    have hd : ((2 ^ i : Nat) : Int) ∣ ((2 ^ 64 : Nat) : Int) := by
      have := Nat.pow_dvd_pow 2 (show i ≤ 64 by omega)
      exact_mod_cast this
    rw [Int.emod_emod_of_dvd x hd]
    simp
  rw [h2]
  have h4 : x % 2 ^ i < 2 ^ i := Int.emod_lt_of_pos _ (by exact_mod_cast hpos)
  have h5 : 0 ≤ x % 2 ^ i := Int.emod_nonneg _ (by have : (0 : Int) < 2 ^ i := by exact_mod_cast hpos
                                                   omega)
  have h6 : (2 : Int) ^ i ≤ 2 ^ 62 := by exact_mod_cast hle
  rw [w64 (by omega) (by omega)]

theorem and255 (x : Int) : bits .and .i64 x 255 = x % 256 := and_mask_i64 x 8 (by decide)
theorem and1 (x : Int) : bits .and .i64 x 1 = x % 2 := and_mask_i64 x 1 (by decide)
theorem and30 (x : Int) : bits .and .i64 x 1073741823 = x % 1073741824 := and_mask_i64 x 30 (by decide)

theorem u64_and127 {x : Int} (h0 : 0 ≤ x) (h1 : x < 18446744073709551616) : bits .and .u64 x 127 = x % 128 :=
  bits_mask .u64 64 (by decide) wraps_u64 7 (by decide) x h0 h1
theorem u8_and127 {x : Int} (h0 : 0 ≤ x) (h1 : x < 256) : bits .and .u8 x 127 = x % 128 :=
  bits_mask .u8 8 (by decide) wraps_u8 7 (by decide) x h0 h1

theorem bits_or_comm (k : IntKind) (a b : Int) : bits .or k a b = bits .or k b a := by
  simp only [bits, BitVec.toNat_or]
  rw [Nat.or_comm]

theorem u64_or128 {x : Int} (h0 : 0 ≤ x) (h1 : x < 128) : bits .or .u64 x 128 = x + 128 := by
  rw [bits_or_comm, bits_join .u64 64 (by decide) wraps_u64 7 128 x (by decide) (by decide) (by decide) h0 (by simpa using h1) (by omega)]
  omega

/-- a | (b << i), where a lies below -/
theorem u64_or_shl {a b : Int} {i : Nat} (ha0 : 0 ≤ a) (ha : a < 2 ^ i) (hb0 : 0 ≤ b) (hb : b * 2 ^ i < 2 ^ 64) (hi : i ≤ 64) : bits .or .u64 a (b * 2 ^ i) = a + b * 2 ^ i := by
  have hp : (2 : Int) ^ i ≤ 2 ^ 64 := by
    have := Nat.pow_le_pow_right (n := 2) (by decide) hi
    exact_mod_cast this
  have hp0 : (0 : Int) < 2 ^ i := by have := Nat.two_pow_pos i; exact_mod_cast this
  rw [bits_or_comm, bits_join .u64 64 (by decide) wraps_u64 i (b * 2 ^ i) a (Int.mul_nonneg hb0 (by omega)) (Int.mul_emod_left _ _) hb ha0 ha (by omega)]
  omega

theorem shrI_eq (k : IntKind) (a : Int) (n : Nat) (h : n ≤ k.bits) : shrI k a (n : Int) = a / 2 ^ n := by
  unfold shrI
  rw [Int.toNat_natCast, Nat.min_eq_left h, Int.fdiv_eq_ediv_of_nonneg]
  have := Nat.two_pow_pos n
  have : (0 : Int) < 2 ^ n := by exact_mod_cast this
  omega
theorem shr7 (a : Int) : shrI .u64 a 7 = a / 128 := shrI_eq .u64 a 7 (by decide)
theorem shr1u (a : Int) : shrI .u64 a 1 = a / 2 := shrI_eq .u64 a 1 (by decide)
theorem shr63 (a : Int) : shrI .i64 a 63 = a / 9223372036854775808 := shrI_eq .i64 a 63 (by decide)

/-! ### conditions -/
theorem lim_ok {n : Nat} (h : n ≤ 4294967296) : lim n = true := by unfold lim; exact Nat.ble_eq_true_of_le h
theorem okLen_ok {n : Int} (h0 : 0 ≤ n) (h : n ≤ 4294967296) : okLen n = true := by simp [okLen, h0, h]
theorem inSl_ok {l h : Int} {n : Nat} (h0 : 0 ≤ l) (h1 : l ≤ h) (h2 : h ≤ n) : inSl l h n = true := by simp [inSl, h0, h1, h2]

theorem beqF {a b : Int} (h : ¬ a = b) : (a == b) = false := by simpa using h

theorem bneT {a b : Int} (h : ¬ a = b) : (a != b) = true := by simpa using h
theorem beqT {a b : Int} (h : a = b) : (a == b) = true := by simpa using h
theorem bneF {a b : Int} (h : a = b) : (a != b) = false := by simpa using h

theorem csf (b c : Bool) : (cond b (some c) (some false) : Option Bool) = some (b && c) := by cases b <;> rfl
theorem cst (b c : Bool) : (cond b (some true) (some c) : Option Bool) = some (b || c) := by cases b <;> rfl
theorem csb (b c d : Bool) : (cond b (some c) (some d) : Option Bool) = some (cond b c d) := by cases b <;> rfl

/-! ### rows -/
theorem rdL_nat {α : Type} (xs : List α) (n : Nat) : rdL xs (n : Int) = xs[n]? := rfl
theorem rdL_some {α : Type} {xs : List α} {i : Int} (h0 : 0 ≤ i) (h1 : i < xs.length) : ∃ x, rdL xs i = some x ∧ xs[i.toNat]? = some x := by
  obtain ⟨n, rfl⟩ := Int.eq_ofNat_of_zero_le h0
  have h : n < xs.length := by omega
  exact ⟨xs[n], by rw [rdL_nat, List.getElem?_eq_getElem h], by simp [h]⟩
theorem rdL_of {α : Type} {xs : List α} {i : Int} {x : α} (h0 : 0 ≤ i) (h : xs[i.toNat]? = some x) : rdL xs i = some x := by
  obtain ⟨n, rfl⟩ := Int.eq_ofNat_of_zero_le h0
  exact h
theorem rdL_zero {α : Type} (xs : List α) : rdL xs 0 = xs[0]? := rfl

theorem drop_get {α : Type} {b : List α} {p : Nat} {y : α} {r : List α} (h : b.drop p = y :: r) : b[p]? = some y ∧ p < b.length ∧ b.drop (p + 1) = r := by
  have h1 := List.getElem?_drop (xs := b) (i := p) (j := 0)
  rw [h] at h1
  have hl := congrArg List.length h
  simp at hl
  refine ⟨by simpa using h1.symm, by omega, ?_⟩
  rw [← List.drop_drop, h]
  rfl

theorem drop_app {α : Type} {b x r : List α} {p : Nat} (h : b.drop p = x ++ r) : b.drop (p + x.length) = r ∧ p + x.length ≤ max p b.length := by
  rw [← List.drop_drop, h]
  have hl := congrArg List.length h
  simp at hl
  exact ⟨by simp, by omega⟩


/-! ### strings -/
theorem eqS_iff (a b : ByteArray) : eqS a b = decide (a = b) := by
  unfold eqS
  have h : a.toList = b.toList ↔ a = b := by
    constructor
    · intro h
      rw [ByteArray.toList_eq, ByteArray.toList_eq] at h
      cases a; cases b
      simp only [ByteArray.mk.injEq]
      exact Array.ext' h
    · rintro rfl; rfl
  by_cases e : a = b
  · simp [e]
  · simp only [e, decide_false]
    have : a.toList ≠ b.toList := fun h' => e (h.1 h')
    simp [this]

theorem intsStr_strInts (s : ByteArray) : intsStr (strInts s) = s := by
  unfold intsStr strInts strOfNums
  cases s with
  | mk d =>
    simp only [List.map_map]
    congr 1
    have : ((fun n : Int => UInt8.ofNat n.toNat) ∘ fun c : UInt8 => (c.toNat : Int)) = id := by
      funext c
      simp
    rw [this]
    simp

theorem strInts_length (s : ByteArray) : (strInts s).length = s.size := by
  unfold strInts
  rw [List.length_map, Array.length_toList]
  rfl

theorem strInts_byte (s : ByteArray) (x : Int) (h : x ∈ strInts s) : 0 ≤ x ∧ x < 256 := by
  unfold strInts at h
  obtain ⟨c, _, hc⟩ := List.mem_map.1 h
  have := c.toNat_lt
  omega

theorem intsStr_size (xs : List Int) : (intsStr xs).size = xs.length := strOfNums_size xs

theorem strInts_intsStr : ∀ (xs : List Int), (∀ x, x ∈ xs → 0 ≤ x ∧ x < 256) → strInts (intsStr xs) = xs
  | [], _ => rfl
  | x :: xs, h => by
    have ih := strInts_intsStr xs (fun y hy => h y (List.mem_cons_of_mem _ hy))
    obtain ⟨h0, h1⟩ := h x (List.mem_cons_self ..)
    obtain ⟨n, rfl⟩ := Int.eq_ofNat_of_zero_le h0
    have hn : n < 256 := by omega
    have e : strInts (intsStr ((n : Int) :: xs)) = (((UInt8.ofNat n).toNat : Nat) : Int) :: strInts (intsStr xs) := rfl
    rw [e, ih, UInt8.toNat_ofNat_of_lt' hn]

end Go.Law
