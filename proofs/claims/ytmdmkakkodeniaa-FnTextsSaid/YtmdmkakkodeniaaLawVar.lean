/- Varints: what is put is got again. -/
import Derived.Test.YtmdmkakkodeniaaTextsF0
import Derived.Test.YtmdmkakkodeniaaLawKit
set_option linter.unusedVariables false
set_option linter.unusedSimpArgs false
namespace Go.Law
open Go.Am Go.Fn

/-- the bytes of a varint -/
def uvB : Nat → Nat → List Int
  | 0, n => [(n : Int)]
  | f + 1, n => if 127 < n then ((n % 128 + 128 : Nat) : Int) :: uvB f (n / 128) else [(n : Int)]

theorem uvB_len : ∀ f n, 0 < (uvB f n).length ∧ (uvB f n).length ≤ f + 1
  | 0, n => by simp [uvB]
  | f + 1, n => by
    have := uvB_len f (n / 128)
    unfold uvB; split <;> simp <;> omega

theorem uvB_byte : ∀ f n, n < 128 ^ (f + 1) → ∀ x, x ∈ uvB f n → 0 ≤ x ∧ x < 256
  | 0, n, h, x, hx => by simp [uvB] at hx; subst hx; simp at h; omega
  | f + 1, n, h, x, hx => by
    unfold uvB at hx
    split at hx
    · rcases List.mem_cons.1 hx with rfl | hx
      · omega
      · exact uvB_byte f (n / 128) (by rw [Nat.pow_succ] at h; exact Nat.div_lt_of_lt_mul (by rw [Nat.mul_comm]; exact h)) x hx
    · simp at hx; subst hx; omega

theorem putLoop (k : Nat) : ∀ (f n t : Nat) (acc : List Int), t < 128 ^ (f + 1) → t < 2 ^ 64 → f < n → acc.length + f ≤ 4294967000 →
    impl_UvarPut.l3 k n (t : Int) acc = some ((), acc ++ uvB f t) := by
  intro f
  induction f with
  | zero =>
    intro n t acc h h64 hn hl
    obtain ⟨n, rfl⟩ : ∃ m, n = m + 1 := ⟨n - 1, by omega⟩
    have h : t < 128 := by simpa using h
    simp only [impl_UvarPut.l3, show decide ((t : Int) > 127) = false by simp; omega, cond_false, lim_ok (show acc.length + [IntKind.wrap .u8 (t : Int)].length ≤ 4294967296 by simp; omega), cond_true]
    rw [w8 (by omega) (by omega)]
    rfl
  | succ f ih =>
    intro n t acc h h64 hn hl
    obtain ⟨n, rfl⟩ : ∃ m, n = m + 1 := ⟨n - 1, by omega⟩
    by_cases ht : 127 < t
    · have e1 : bits .or .u64 (bits .and .u64 (t : Int) 127) 128 = ((t % 128 + 128 : Nat) : Int) := by
        rw [u64_and127 (by omega) (by omega), u64_or128 (by omega) (by omega)]; omega
      have e2 : shrI .u64 (t : Int) 7 = ((t / 128 : Nat) : Int) := by
        rw [shr7]; omega
      have h' : t / 128 < 128 ^ (f + 1) := by rw [Nat.pow_succ] at h; exact Nat.div_lt_of_lt_mul (by rw [Nat.mul_comm]; exact h)
      simp only [impl_UvarPut.l3, show decide ((t : Int) > 127) = true by simp; omega, cond_true, e1, e2]
      rw [w8 (by omega) (by omega)]
      simp only [lim_ok (show acc.length + [((t % 128 + 128 : Nat) : Int)].length ≤ 4294967296 by simp; omega), cond_true]
      rw [ih n (t / 128) _ h' (by omega) (by omega) (by simp; omega)]
      simp only [uvB, if_pos ht, List.append_assoc]
      rfl
    · simp only [impl_UvarPut.l3, show decide ((t : Int) > 127) = false by simp; omega, cond_false, lim_ok (show acc.length + [IntKind.wrap .u8 (t : Int)].length ≤ 4294967296 by simp; omega), cond_true]
      rw [w8 (by omega) (by omega)]
      simp only [uvB, if_neg ht]

/-- the bytes of a whole number as a varint -/
def uv (x : Int) : List Int := uvB 9 (x % 18446744073709551616).toNat

theorem uv_len (x : Int) : 0 < (uv x).length ∧ (uv x).length ≤ 10 := uvB_len _ _
theorem uv_byte (x : Int) : ∀ y, y ∈ uv x → 0 ≤ y ∧ y < 256 := uvB_byte _ _ (by omega)

theorem uvarPut (k : Nat) (hk : 100 ≤ k) (x : Int) : impl_UvarPut k x = some ((), uv x) := by
  unfold impl_UvarPut
  rw [wu64_eq]
  have h := putLoop k 9 k (x % 18446744073709551616).toNat [] (by omega) (by omega) (by omega) (by simp)
  rw [Int.toNat_of_nonneg (by omega)] at h
  rw [h]
  rfl

theorem getLoop (k : Nat) (b : List Int) (p : Nat) (hb : b.length < 4611686018427387904) : ∀ (f n i acc m : Nat) (rest : List Int), i + f = 9 → f < n → b.drop (p + i) = uvB f m ++ rest →
    acc < 2 ^ (7 * i) → acc + m * 2 ^ (7 * i) < 2 ^ 64 → m < 128 ^ (f + 1) →
    impl_UvarGet.l5 k n b (p : Int) (acc : Int) (i : Int) = some (IntKind.wrap .i64 ((acc + m * 2 ^ (7 * i) : Nat) : Int), ((p + i + (uvB f m).length : Nat) : Int), true) := by
  intro f
  induction f with
  | zero =>
    intro n i acc m rest hi hn hd hacc htot hm
    obtain ⟨n, rfl⟩ : ∃ j, n = j + 1 := ⟨n - 1, by omega⟩
    obtain rfl : i = 9 := by omega
    have hm : m < 128 := by simpa using hm
    have hlen : p + 9 < b.length := by
      have := congrArg List.length hd
      simp [uvB] at this
      omega
    have hget : rdL b ((p + 9 : Nat) : Int) = some (m : Int) := by
      rw [rdL_nat]
      have := List.getElem?_drop (xs := b) (i := p + 9) (j := 0)
      rw [hd] at this
      simpa [uvB] using this.symm
    have hm1 : m ≤ 1 := by
      have : (2 : Nat) ^ (7 * 9) = 9223372036854775808 := by decide
      rw [this] at htot
      omega
    have e1 : IntKind.wrap .i64 ((b.length : Int) - (p : Int)) = (b.length : Int) - p := w64 (by omega) (by omega)
    have e2 : IntKind.wrap .i64 ((p : Int) + ((9 : Nat) : Int)) = ((p + 9 : Nat) : Int) := by rw [w64 (by omega) (by omega)]; omega
    have e3 : IntKind.wrap .i64 (7 * ((9 : Nat) : Int)) = 63 := by decide
    have e4 : shlI .u64 (IntKind.wrap .u64 (bits .and .u8 (m : Int) 127)) 63 = (m : Int) * 2 ^ 63 := by
      rw [u8_and127 (by omega) (by omega), wu64_eq]
      unfold shlI
      rw [wu64_eq]
      simp [IntKind.bits]
      omega
    have e5 : IntKind.wrap .i64 (((p + 9 : Nat) : Int) + 1) = ((p + 9 + 1 : Nat) : Int) := by rw [w64 (by omega) (by omega)]; omega
    simp only [impl_UvarGet.l5, e1, e2, e3, e4, e5, hget]
    have c1 : decide (((9 : Nat) : Int) < 10) = true := by decide
    have c0 : (((9 : Nat) : Int) == 9) = true := by decide
    have c5 : decide ((0 : Int) ≤ 63) = true := by decide
    have c2 : decide (((9 : Nat) : Int) < (b.length : Int) - p) = true := by simp; omega
    have c3 : decide ((m : Int) > 1) = false := by simp; omega
    have c4 : decide ((m : Int) < 128) = true := by simp; omega
    simp only [c0, c1, c2, c3, c4, c5, e4, cond_true, cond_false, Option.bind_some]
    rw [u64_or_shl (i := 63) (by omega) (by exact_mod_cast hacc) (by omega) (by omega) (by omega)]
    simp [uvB]
  | succ f ih =>
    intro n i acc m rest hi hn hd hacc htot hm
    obtain ⟨n, rfl⟩ : ∃ j, n = j + 1 := ⟨n - 1, by omega⟩
    have hP : 0 < 2 ^ (7 * i) := Nat.two_pow_pos _
    have hP7 : 2 ^ (7 * (i + 1)) = 128 * 2 ^ (7 * i) := by rw [Nat.mul_add, Nat.pow_add]; simp [Nat.mul_comm]
    have hi9 : i < 9 := by omega
    have hdv := Nat.div_add_mod m 128
    have hmul : m * 2 ^ (7 * i) = (m % 128) * 2 ^ (7 * i) + (m / 128) * (128 * 2 ^ (7 * i)) := by
      have : m * 2 ^ (7 * i) = (128 * (m / 128) + m % 128) * 2 ^ (7 * i) := by rw [hdv]
      rw [this]
      grind
    generalize hPdef : 2 ^ (7 * i) = P at *
    have hlt1 : m % 128 * P < 2 ^ 64 := by omega
    have hlen : p + i < b.length := by
      have := congrArg List.length hd
      have := (uvB_len (f + 1) m).1
      simp at *
      omega
    -- the byte at hand
    have hbyte : ∀ y l, uvB (f + 1) m = y :: l → rdL b ((p + i : Nat) : Int) = some y := by
      intro y l hy
      rw [rdL_nat]
      have := List.getElem?_drop (xs := b) (i := p + i) (j := 0)
      rw [hd, hy] at this
      simpa using this.symm
    have e1 : IntKind.wrap .i64 ((b.length : Int) - (p : Int)) = (b.length : Int) - p := w64 (by omega) (by omega)
    have e2 : IntKind.wrap .i64 ((p : Int) + (i : Int)) = ((p + i : Nat) : Int) := by rw [w64 (by omega) (by omega)]; omega
    have e3 : IntKind.wrap .i64 (7 * (i : Int)) = ((7 * i : Nat) : Int) := by rw [w64 (by omega) (by omega)]; omega
    have e4 : ∀ y : Int, 0 ≤ y → y < 256 → y % 128 = ((m % 128 : Nat) : Int) → shlI .u64 (IntKind.wrap .u64 (bits .and .u8 y 127)) ((7 * i : Nat) : Int) = ((m % 128 : Nat) : Int) * (P : Int) := by
      intro y hy0 hy1 hy
      rw [u8_and127 hy0 hy1, hy, wu64_eq]
      unfold shlI
      rw [wu64_eq]
      have : min (((7 * i : Nat) : Int)).toNat (IntKind.bits .u64) = 7 * i := by simp [IntKind.bits]; omega
      rw [this]
      have hP' : (2 : Int) ^ (7 * i) = (P : Int) := by rw [← hPdef]; simp
      rw [hP']
      have h1 : (((m % 128 : Nat) : Int) % 18446744073709551616) = ((m % 128 : Nat) : Int) := by omega
      rw [h1]
      have h2 : ((m % 128 : Nat) : Int) * (P : Int) = ((m % 128 * P : Nat) : Int) := by simp
      rw [h2]
      omega
    have e5 : IntKind.wrap .i64 (((p + i : Nat) : Int) + 1) = ((p + i + 1 : Nat) : Int) := by rw [w64 (by omega) (by omega)]; omega
    have e6 : IntKind.wrap .i64 ((i : Int) + 1) = ((i + 1 : Nat) : Int) := by rw [w64 (by omega) (by omega)]; omega
    have c1 : decide ((i : Int) < 10) = true := by simp; omega
    have c2 : decide ((i : Int) < (b.length : Int) - p) = true := by simp; omega
    have c3 : ((i : Int) == 9) = false := by simp; omega
    have c5 : decide ((0 : Int) ≤ ((7 * i : Nat) : Int)) = true := decide_eq_true (by omega)
    have eor : bits .or .u64 (acc : Int) (((m % 128 : Nat) : Int) * (P : Int)) = ((acc + m % 128 * P : Nat) : Int) := by
      have hP' : (P : Int) = 2 ^ (7 * i) := by rw [← hPdef]; simp
      rw [hP', u64_or_shl (i := 7 * i) (by omega) (by rw [← hP']; omega) (by omega) (by rw [← hP']; have : ((m % 128 : Nat) : Int) * (P : Int) = ((m % 128 * P : Nat) : Int) := by simp
                                                                                        rw [this]; omega) (by omega)]
      rw [← hP']
      simp
    by_cases hm' : 127 < m
    · have hu : uvB (f + 1) m = ((m % 128 + 128 : Nat) : Int) :: uvB f (m / 128) := by simp only [uvB, if_pos hm']
      have hb1 := hbyte _ _ hu
      simp only [impl_UvarGet.l5, e1, e2, e3, hb1, c1, c2, c3, c5, cond_true, cond_false, Option.bind_some]
      rw [e4 _ (by omega) (by omega) (by omega), eor, e6]
      have c4 : decide (((m % 128 + 128 : Nat) : Int) < 128) = false := by simp; omega
      simp only [c4, cond_false]
      rw [ih n (i + 1) (acc + m % 128 * P) (m / 128) rest (by omega) (by omega) ?_ ?_ ?_ ?_]
      · rw [hP7, hu, show acc + m % 128 * P + m / 128 * (128 * P) = acc + m * P by omega, List.length_cons, show p + (i + 1) + (uvB f (m / 128)).length = p + i + ((uvB f (m / 128)).length + 1) by omega]
      · rw [← Nat.add_assoc, ← List.drop_drop, hd, hu]
        rfl
      · rw [hP7]
        have : m % 128 * P ≤ 127 * P := Nat.mul_le_mul_right _ (by omega)
        omega
      · rw [hP7]; omega
      · rw [Nat.pow_succ] at hm; exact Nat.div_lt_of_lt_mul (by rw [Nat.mul_comm]; exact hm)
    · have hu : uvB (f + 1) m = [(m : Int)] := by simp only [uvB, if_neg hm']
      have hb1 := hbyte _ _ hu
      simp only [impl_UvarGet.l5, e1, e2, e3, hb1, c1, c2, c3, c5, cond_true, cond_false, Option.bind_some]
      rw [e4 _ (by omega) (by omega) (by omega), eor]
      have c4 : decide ((m : Int) < 128) = true := by simp; omega
      have hmm : m % 128 = m := Nat.mod_eq_of_lt (by omega)
      simp only [c4, cond_true, e5, hu, hmm]
      rfl

theorem uvarGet (k : Nat) (hk : 100 ≤ k) (b : List Int) (p : Nat) (x : Int) (rest : List Int) (hb : b.length < 4611686018427387904) (hd : b.drop p = uv x ++ rest) (h0 : -9223372036854775808 ≤ x) (h1 : x < 9223372036854775808) :
    impl_UvarGet k b (p : Int) = some (x, ((p + (uv x).length : Nat) : Int), true) := by
  unfold impl_UvarGet
  have c : decide ((p : Int) < 0) = false := decide_eq_false (by omega)
  simp only [c, cond_false]
  have h := getLoop k b p hb 9 k 0 0 (x % 18446744073709551616).toNat rest rfl (by omega) hd (by simp) (by simp; omega) (by omega)
  rw [show ((0 : Nat) : Int) = 0 from rfl] at h
  rw [h]
  simp only [Nat.mul_zero, Nat.pow_zero, Nat.mul_one, Nat.zero_add, Nat.add_zero, uv]
  rw [Int.toNat_of_nonneg (by omega), IntKind.wrap_i64]
  congr 2
  omega

theorem xor_zero (a : Int) (h0 : -9223372036854775808 ≤ a) (h1 : a < 9223372036854775808) : bits .xor .i64 a 0 = a := by
  have e : (BitVec.ofInt (IntKind.bits .i64) a ^^^ BitVec.ofInt (IntKind.bits .i64) 0) = BitVec.ofInt (IntKind.bits .i64) a := by simp
  simp only [bits, e, BitVec.toNat_ofInt]
  show IntKind.wrap .i64 (((a % ((2 ^ 64 : Nat) : Int)).toNat : Nat) : Int) = a
  rw [IntKind.wrap_i64]
  omega

theorem xor_ones (a : Int) (h0 : -9223372036854775808 ≤ a) (h1 : a < 9223372036854775808) : bits .xor .i64 a (-1) = -a - 1 := by
  have e : (BitVec.ofInt (IntKind.bits .i64) a ^^^ BitVec.ofInt (IntKind.bits .i64) (-1)) = ~~~ BitVec.ofInt (IntKind.bits .i64) a := by
    have : BitVec.ofInt (IntKind.bits .i64) (-1) = BitVec.allOnes (IntKind.bits .i64) := by decide
    rw [this, BitVec.xor_allOnes]
  simp only [bits, e, BitVec.toNat_not, BitVec.toNat_ofInt]
  show IntKind.wrap .i64 ((2 ^ 64 - 1 - (a % ((2 ^ 64 : Nat) : Int)).toNat : Nat) : Int) = _
  rw [IntKind.wrap_i64]
  omega

def zig (x : Int) : Int := if 0 ≤ x then IntKind.wrap .i64 (x * 2) else -IntKind.wrap .i64 (x * 2) - 1

theorem zig_eq (k : Nat) (x : Int) (h0 : -9223372036854775808 ≤ x) (h1 : x < 9223372036854775808) : impl_Zig k x = some (zig x) := by
  unfold impl_Zig zig
  have e : shlI .i64 x 1 = IntKind.wrap .i64 (x * 2) := by
    unfold shlI
    simp [IntKind.bits]
  have := w64_lo (x * 2)
  have := w64_hi (x * 2)
  rw [e, shr63]
  split
  · rw [show x / 9223372036854775808 = 0 by omega, xor_zero _ (by assumption) (by assumption)]
  · rw [show x / 9223372036854775808 = -1 by omega, xor_ones _ (by assumption) (by assumption)]

theorem zig_range (x : Int) : -9223372036854775808 ≤ zig x ∧ zig x < 9223372036854775808 := by
  have := w64_lo (x * 2)
  have := w64_hi (x * 2)
  unfold zig
  split <;> omega

theorem zag_zig (k : Nat) (x : Int) (h0 : -9223372036854775808 ≤ x) (h1 : x < 9223372036854775808) : impl_Zag k (zig x) = some x := by
  unfold impl_Zag
  rw [and1, wu64_eq, shr1u, w64 (by omega) (by omega)]
  have hz : zig x = if 0 ≤ x then (x * 2 + 9223372036854775808) % 18446744073709551616 - 9223372036854775808 else -((x * 2 + 9223372036854775808) % 18446744073709551616 - 9223372036854775808) - 1 := by
    unfold zig; rw [IntKind.wrap_i64]
  by_cases hx : 0 ≤ x
  · rw [if_pos hx] at hz
    rw [show zig x % 2 = 0 by omega, show IntKind.wrap .i64 (0 - 0) = 0 by decide, xor_zero _ (by omega) (by omega)]
    congr 1
    omega
  · rw [if_neg hx] at hz
    rw [show zig x % 2 = 1 by omega, show IntKind.wrap .i64 (0 - 1) = -1 by decide, xor_ones _ (by omega) (by omega)]
    congr 1
    omega

theorem zigPut (k : Nat) (hk : 100 ≤ k) (x : Int) (h0 : -9223372036854775808 ≤ x) (h1 : x < 9223372036854775808) : impl_ZigPut k x = some ((), uv (zig x)) := by
  unfold impl_ZigPut
  rw [zig_eq k x h0 h1]
  simp only [Option.bind_some, uvarPut k hk]

end Go.Law
