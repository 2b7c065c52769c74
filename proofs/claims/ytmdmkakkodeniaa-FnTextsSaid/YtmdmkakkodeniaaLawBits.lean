/- Bits side by side: written and read. -/
import Derived.Test.YtmdmkakkodeniaaLawKit
set_option linter.unusedVariables false
set_option linter.unusedSimpArgs false
namespace Go.Law
open Go.Am Go.Fn
variable (k : Nat)

theorem wrap_emod (k : IntKind) (x : Int) : IntKind.wrap k x % 2 ^ k.bits = x % 2 ^ k.bits := by
  have hp : (0 : Int) < 2 ^ k.bits := by have := Nat.two_pow_pos k.bits; exact_mod_cast this
  have h0 := Int.emod_nonneg x (show (2 : Int) ^ k.bits ≠ 0 by omega)
  cases k <;> simp [IntKind.wrap, IntKind.bits, IntKind.signed] <;> omega

theorem ofInt_congr {n : Nat} {a b : Int} (h : a % 2 ^ n = b % 2 ^ n) : BitVec.ofInt n a = BitVec.ofInt n b := by
  apply BitVec.eq_of_toNat_eq
  rw [BitVec.toNat_ofInt, BitVec.toNat_ofInt]
  have : ((2 ^ n : Nat) : Int) = (2 : Int) ^ n := by simp
  rw [this, h]

theorem or_wrap (k : IntKind) (a b : Int) : bits .or k (k.wrap a) (k.wrap b) = bits .or k a b := by
  simp only [bits]
  rw [ofInt_congr (wrap_emod k a), ofInt_congr (wrap_emod k b)]

theorem or_nat (k : IntKind) {a b i : Nat} (ha : a < 2 ^ i) (hab : a + b * 2 ^ i < 2 ^ k.bits) : bits .or k (a : Int) ((b * 2 ^ i : Nat) : Int) = k.wrap ((a + b * 2 ^ i : Nat) : Int) := by
  have h1 : a ||| b * 2 ^ i = a + b * 2 ^ i := by
    rw [Nat.or_comm, Nat.mul_comm, ← Nat.two_pow_add_eq_or_of_lt ha b, Nat.add_comm]
  simp only [bits, BitVec.ofInt_natCast, BitVec.toNat_or, BitVec.toNat_ofNat]
  rw [Nat.mod_eq_of_lt (show a < 2 ^ k.bits by omega), Nat.mod_eq_of_lt (show b * 2 ^ i < 2 ^ k.bits by omega), h1]

/-- a | (b << i) -/
theorem or_shl (k : IntKind) {a b i : Nat} (hi : i ≤ k.bits) (ha : a < 2 ^ i) (hab : a + b * 2 ^ i < 2 ^ k.bits) : bits .or k (k.wrap (a : Int)) (shlI k (b : Int) (i : Int)) = k.wrap ((a + b * 2 ^ i : Nat) : Int) := by
  unfold shlI
  rw [Int.toNat_natCast, Nat.min_eq_left hi, or_wrap]
  have := or_nat k ha hab
  rw [← this]
  simp

/-! ### bytes of a number, the least first -/
def leB (L M : Nat) : List Int := (List.range L).map fun i => ((M / 256 ^ i % 256 : Nat) : Int)

theorem leB_len (L M : Nat) : (leB L M).length = L := by simp [leB]
theorem leB_get? {L M i : Nat} (h : i < L) : (leB L M)[i]? = some ((M / 256 ^ i % 256 : Nat) : Int) := by
  simp [leB, h]
theorem leB_zero (L : Nat) : leB L 0 = List.replicate L 0 := by
  apply List.ext_getElem (by simp [leB])
  intro i h1 h2
  simp [leB]
theorem leB_byte (L M : Nat) : ∀ x, x ∈ leB L M → 0 ≤ x ∧ x < 256 := by
  intro x hx
  simp only [leB, List.mem_map] at hx
  obtain ⟨i, _, rfl⟩ := hx
  have := Nat.mod_lt (M / 256 ^ i) (show 256 > 0 by decide)
  omega

theorem pow_split (p : Nat) : 2 ^ p = 256 ^ (p / 8) * 2 ^ (p % 8) := by
  rw [show (256 : Nat) = 2 ^ 8 by decide, ← Nat.pow_mul, ← Nat.pow_add, Nat.div_add_mod]

theorem byte_low {M p : Nat} (h : M < 2 ^ p) : M / 256 ^ (p / 8) < 2 ^ (p % 8) := by
  rw [pow_split p] at h
  exact Nat.div_lt_of_lt_mul h

theorem byte_add (M b p : Nat) : (M + b * 2 ^ p) / 256 ^ (p / 8) = M / 256 ^ (p / 8) + b * 2 ^ (p % 8) := by
  rw [pow_split p, show b * (256 ^ (p / 8) * 2 ^ (p % 8)) = (b * 2 ^ (p % 8)) * 256 ^ (p / 8) by rw [Nat.mul_comm (256 ^ _), Nat.mul_assoc], Nat.add_mul_div_right _ _ (Nat.pow_pos (by decide))]

theorem pow8 {r : Nat} (h : r < 8) : 2 ^ r ≤ 128 := by
  have := Nat.pow_le_pow_right (n := 2) (by decide) (show r ≤ 7 by omega)
  simpa using this

theorem byte_sum {M b p : Nat} (h : M < 2 ^ p) (hb : b ≤ 1) : M / 256 ^ (p / 8) + b * 2 ^ (p % 8) < 256 := by
  have h1 := byte_low h
  have h2 := pow8 (Nat.mod_lt p (show 8 > 0 by decide))
  have h3 : b * 2 ^ (p % 8) ≤ 1 * 2 ^ (p % 8) := Nat.mul_le_mul_right _ hb
  omega

theorem leB_set {L M b p : Nat} (hp : p < 8 * L) (h : M < 2 ^ p) (hb : b ≤ 1) : (leB L M).set (p / 8) ((M / 256 ^ (p / 8) + b * 2 ^ (p % 8) : Nat) : Int) = leB L (M + b * 2 ^ p) := by
  apply List.ext_getElem (by simp [leB])
  intro i h1 h2
  simp only [leB_len] at h2
  rw [List.getElem_set]
  by_cases hi : p / 8 = i
  · subst hi
    simp only [if_true]
    simp only [leB, List.getElem_map, List.getElem_range]
    rw [byte_add, Nat.mod_eq_of_lt (byte_sum h hb)]
  · simp only [hi, if_false, leB, List.getElem_map, List.getElem_range]
    congr 1
    rcases Nat.lt_or_ge i (p / 8) with hlt | hge
    · have hdv : 2 ^ p = 256 ^ i * (256 * (256 ^ (p / 8 - i - 1) * 2 ^ (p % 8))) := by
        rw [pow_split p]
        have : p / 8 = i + (1 + (p / 8 - i - 1)) := by omega
        conv => lhs; rw [this, Nat.pow_add, Nat.pow_add]
        simp [Nat.mul_assoc]
      rw [hdv, show b * (256 ^ i * (256 * (256 ^ (p / 8 - i - 1) * 2 ^ (p % 8)))) = 256 ^ i * (256 * (b * (256 ^ (p / 8 - i - 1) * 2 ^ (p % 8)))) by rw [Nat.mul_left_comm, Nat.mul_left_comm b], Nat.add_mul_div_left _ _ (Nat.pow_pos (by decide)), Nat.add_mul_mod_self_left]
    · have hlt : p < 8 * i := by omega
      have hp2 : 2 ^ (p + 1) ≤ 256 ^ i := by
        rw [show (256 : Nat) = 2 ^ 8 by decide, ← Nat.pow_mul]
        exact Nat.pow_le_pow_right (by decide) (by omega)
      have hb2 : b * 2 ^ p ≤ 1 * 2 ^ p := Nat.mul_le_mul_right _ hb
      rw [Nat.pow_succ] at hp2
      rw [Nat.div_eq_of_lt (show M < 256 ^ i by omega), Nat.div_eq_of_lt (show M + b * 2 ^ p < 256 ^ i by omega)]

theorem leB_bit (M p : Nat) : (M / 256 ^ (p / 8) % 256) / 2 ^ (p % 8) % 2 = M / 2 ^ p % 2 := by
  have h8 := Nat.mod_lt p (show 8 > 0 by decide)
  have h1 : 256 = 2 ^ (p % 8) * (2 * 2 ^ (7 - p % 8)) := by
    rw [← Nat.mul_assoc, Nat.mul_right_comm, ← Nat.pow_add, show p % 8 + (7 - p % 8) = 7 by omega]
  have h2 : ∀ x : Nat, x % 256 / 2 ^ (p % 8) % 2 = x / 2 ^ (p % 8) % 2 := by
    intro x
    rw [h1, Nat.mod_mul_right_div_self, Nat.mod_mul_right_mod]
  rw [h2, Nat.div_div_eq_div_mul, ← pow_split]

/-! ### numbers side by side -/
def u64 (v : Int) : Nat := (v % 18446744073709551616).toNat

theorem u64_lt (v : Int) : u64 v < 18446744073709551616 := by unfold u64; omega
theorem u64_cast (v : Int) : (u64 v : Int) = v % 18446744073709551616 := by unfold u64; omega
theorem wrap_u64 {v : Int} (h : I64 v) : IntKind.wrap .i64 (u64 v : Int) = v := by
  obtain ⟨h0, h1⟩ := h
  rw [u64_cast, IntKind.wrap_i64]
  omega

theorem bit_eq (v : Int) {j : Nat} (hj : j < 64) : (v / 2 ^ j) % 2 = ((u64 v / 2 ^ j % 2 : Nat) : Int) := by
  have hv : v = (u64 v : Int) + 18446744073709551616 * (v / 18446744073709551616) := by rw [u64_cast]; omega
  have hp0 : (2 : Int) ^ j ≠ 0 := by have := Nat.two_pow_pos j; have : (0 : Int) < 2 ^ j := by exact_mod_cast this
                                     omega
  have hs : (18446744073709551616 : Int) = 2 ^ j * (2 * 2 ^ (63 - j)) := by
    have : 2 ^ j * (2 * 2 ^ (63 - j)) = 2 ^ 64 := by
      rw [← Nat.mul_assoc, Nat.mul_right_comm, ← Nat.pow_add, show j + (63 - j) = 63 by omega]
    have h2 : ((2 ^ j * (2 * 2 ^ (63 - j)) : Nat) : Int) = ((2 ^ 64 : Nat) : Int) := by rw [this]
    rw [Int.natCast_mul, Int.natCast_mul, Int.natCast_pow, Int.natCast_pow] at h2
    exact h2.symm
  have key : ∀ (u : Nat) (q : Int), (((u : Int) + 18446744073709551616 * q) / 2 ^ j) % 2 = ((u / 2 ^ j % 2 : Nat) : Int) := by
    intro u q
    rw [hs, Int.mul_assoc, Int.add_mul_ediv_left _ _ hp0]
    rw [show (2 : Int) * 2 ^ (63 - j) * q = 2 * (2 ^ (63 - j) * q) by rw [Int.mul_assoc], Int.add_mul_emod_self_left]
    simp
  conv => lhs; rw [hv]
  exact key _ _

def packN (w : Nat) : List Nat → Nat
  | [] => 0
  | u :: r => u % 2 ^ w + 2 ^ w * packN w r

theorem packN_lt (w : Nat) : ∀ us : List Nat, packN w us < 2 ^ (us.length * w)
  | [] => by simp [packN]
  | u :: r => by
    have h1 := packN_lt w r
    have h2 := Nat.mod_lt u (Nat.two_pow_pos w)
    simp only [packN, List.length_cons]
    rw [Nat.add_mul, Nat.one_mul, Nat.pow_add, Nat.mul_comm (2 ^ (r.length * w))]
    have h3 : 2 ^ w * (packN w r + 1) ≤ 2 ^ w * 2 ^ (r.length * w) := Nat.mul_le_mul_left _ h1
    rw [Nat.mul_add] at h3
    omega

theorem packN_snoc (w u : Nat) : ∀ a : List Nat, packN w (a ++ [u]) = packN w a + (u % 2 ^ w) * 2 ^ (a.length * w)
  | [] => by simp [packN]
  | x :: a => by
    simp only [List.cons_append, packN, packN_snoc w u a, List.length_cons]
    rw [Nat.mul_add, Nat.add_mul (a.length) 1, Nat.one_mul, Nat.pow_add, ← Nat.add_assoc]
    congr 1
    rw [Nat.mul_left_comm, Nat.mul_comm (2 ^ w)]

theorem packN_get (w : Nat) : ∀ (us : List Nat) (i : Nat) (u : Nat), us[i]? = some u → packN w us / 2 ^ (i * w) % 2 ^ w = u % 2 ^ w
  | [], i, u, h => by cases h
  | x :: r, 0, u, h => by
    simp at h; subst h
    simp [packN]
  | x :: r, i + 1, u, h => by
    have := packN_get w r i u (by simpa using h)
    rw [← this]
    simp only [packN]
    rw [Nat.add_mul, Nat.one_mul, Nat.add_comm, Nat.pow_add, Nat.mul_comm (2 ^ (i * w)), ← Nat.div_div_eq_div_mul, Nat.add_comm _ (x % 2 ^ w), Nat.add_mul_div_left _ _ (Nat.two_pow_pos w), Nat.div_eq_of_lt (Nat.mod_lt _ (Nat.two_pow_pos w)), Nat.zero_add]

theorem mod_succ (u j : Nat) : u % 2 ^ (j + 1) = u % 2 ^ j + (u / 2 ^ j % 2) * 2 ^ j := by
  rw [Nat.pow_succ, Nat.mod_mul, Nat.mul_comm (2 ^ j)]

/-- how many bytes -/
def bytesOf (n w : Nat) : Nat := (n * w + 7) / 8

theorem tdiv8 {x : Int} (h : 0 ≤ x) : Int.tdiv x 8 = x / 8 := Int.tdiv_eq_ediv_of_nonneg h
theorem tmod8 {x : Int} (h : 0 ≤ x) : Int.tmod x 8 = x % 8 := Int.tmod_eq_emod_of_nonneg h

theorem w8_bit {x : Int} : IntKind.wrap .u8 (x % 2) = x % 2 := w8 (by omega) (by omega)
end Go.Law
