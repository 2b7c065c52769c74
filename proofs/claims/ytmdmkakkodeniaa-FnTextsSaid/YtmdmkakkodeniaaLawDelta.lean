/- Numbers by their differences: what is written. -/
import Derived.Test.YtmdmkakkodeniaaLawPack
set_option linter.unusedVariables false
set_option linter.unusedSimpArgs false
namespace Go.Law
open Go.Am Go.Fn
variable (k : Nat)

/-! ### how many bits -/
def blenF : Nat → Nat → Nat
  | 0, _ => 0
  | f + 1, u => if u = 0 then 0 else blenF f (u / 2) + 1

theorem blenF_zero : ∀ f, blenF f 0 = 0
  | 0 => rfl
  | f + 1 => rfl

theorem blenF_le : ∀ f u, blenF f u ≤ f
  | 0, _ => Nat.le_refl _
  | f + 1, u => by
    have := blenF_le f (u / 2)
    simp only [blenF]
    split <;> omega

theorem blenF_lt : ∀ f u, u < 2 ^ f → u < 2 ^ blenF f u
  | 0, u, h => h
  | f + 1, u, h => by
    simp only [blenF]
    split
    · omega
    · rw [Nat.pow_succ] at h ⊢
      have := blenF_lt f (u / 2) (by omega)
      omega

theorem blenF_more : ∀ f g u, u < 2 ^ f → blenF (f + g) u = blenF f u
  | 0, g, u, h => by
    have : u = 0 := by simpa using h
    subst this
    simp [blenF_zero]
  | f + 1, g, u, h => by
    rw [show f + 1 + g = (f + g) + 1 by omega]
    simp only [blenF]
    rw [Nat.pow_succ] at h
    rw [blenF_more f g (u / 2) (by omega)]

theorem blenF_shift : ∀ s f u, 2 ^ s ≤ u → blenF (f + s) u = blenF f (u / 2 ^ s) + s
  | 0, f, u, _ => by simp
  | s + 1, f, u, h => by
    rw [Nat.pow_succ] at h
    have h0 : u ≠ 0 := by have := Nat.two_pow_pos s; omega
    rw [show f + (s + 1) = (f + s) + 1 by omega]
    simp only [blenF, h0, if_false]
    rw [blenF_shift s f (u / 2) (by omega), Nat.div_div_eq_div_mul, Nat.pow_succ, Nat.mul_comm 2]
    omega

def blen (u : Nat) : Nat := blenF 64 u

theorem shr_nat (kk : IntKind) (a n : Nat) (h : n ≤ kk.bits) : shrI kk (a : Int) (n : Int) = ((a / 2 ^ n : Nat) : Int) := by
  rw [shrI_eq kk _ n h]; simp

theorem len_tab0 : ∀ u : Fin 256, bits_Len64.c10 0 ((u.val : Nat) : Int) 0 = some ((blenF 8 u.val : Nat) : Int) := by decide +kernel

theorem len_tab (u : Nat) (hu : u < 256) (t2 : Nat) (h2 : t2 < 1000) : bits_Len64.c10 k (u : Int) (t2 : Int) = some ((t2 + blenF 8 u : Nat) : Int) := by
  have h0 := len_tab0 ⟨u, hu⟩
  have hs : bits_Len64.c10 k (u : Int) (t2 : Int) = (bits_Len64.c10 0 (u : Int) 0).bind fun r => some (IntKind.wrap .i64 ((t2 : Int) + r)) := by
    unfold bits_Len64.c10
    rw [Option.bind_assoc]
    congr 1
    funext y
    simp only [Option.bind_some]
    rw [Int.zero_add, w64 (w64_lo y) (w64_hi y)]
  have hb := blenF_le 8 u
  rw [hs, h0]
  simp only [Option.bind_some]
  rw [w64 (by omega) (by omega)]
  rfl

theorem len64_eq (u : Nat) (hu : u < 18446744073709551616) : bits_Len64 k (u : Int) = some (blen u : Int) := by
  unfold bits_Len64
  have c7 : ∀ (u t : Nat), u < 65536 → t < 900 → bits_Len64.c7 k (u : Int) (t : Int) = some ((t + blenF 16 u : Nat) : Int) := by
    intro u t hu ht
    unfold bits_Len64.c7
    by_cases h : 256 ≤ u
    · rw [decide_eq_true (show (u : Int) ≥ 256 by omega), cond_true]
      have := shr_nat .u64 u 8 (by decide)
      rw [show ((8 : Nat) : Int) = 8 from rfl] at this
      rw [this, w64 (by omega) (by omega)]
      have := len_tab k (u / 2 ^ 8) (by simp; omega) (t + 8) (by omega)
      rw [show ((t : Int) + 8) = ((t + 8 : Nat) : Int) by omega, this]
      rw [show (16 : Nat) = 8 + 8 by rfl, blenF_shift 8 8 u (by simpa using h)]
      congr 2; omega
    · rw [decide_eq_false (show ¬ (u : Int) ≥ 256 by omega), cond_false, len_tab k u (by omega) t (by omega)]
      have := blenF_more 8 8 u (by simp; omega)
      rw [this]
  have c4 : ∀ (u t : Nat), u < 4294967296 → t < 800 → bits_Len64.c4 k (u : Int) (t : Int) = some ((t + blenF 32 u : Nat) : Int) := by
    intro u t hu ht
    unfold bits_Len64.c4
    by_cases h : 65536 ≤ u
    · rw [decide_eq_true (show (u : Int) ≥ 65536 by omega), cond_true]
      have := shr_nat .u64 u 16 (by decide)
      rw [show ((16 : Nat) : Int) = 16 from rfl] at this
      rw [this, w64 (by omega) (by omega)]
      have := c7 (u / 2 ^ 16) (t + 16) (by simp; omega) (by omega)
      rw [show ((t : Int) + 16) = ((t + 16 : Nat) : Int) by omega, this]
      rw [show (32 : Nat) = 16 + 16 by rfl, blenF_shift 16 16 u (by simpa using h)]
      congr 2; omega
    · rw [decide_eq_false (show ¬ (u : Int) ≥ 65536 by omega), cond_false, c7 u t (by omega) (by omega)]
      have := blenF_more 16 16 u (by simp; omega)
      rw [this]
  unfold blen
  by_cases h : 4294967296 ≤ u
  · rw [decide_eq_true (show (u : Int) ≥ 4294967296 by omega), cond_true]
    have := shr_nat .u64 u 32 (by decide)
    rw [show ((32 : Nat) : Int) = 32 from rfl] at this
    rw [this]
    have := c4 (u / 2 ^ 32) 32 (by simp; omega) (by omega)
    rw [show ((32 : Nat) : Int) = 32 from rfl] at this
    rw [this, show (64 : Nat) = 32 + 32 by rfl, blenF_shift 32 32 u (by simpa using h)]
    congr 2; omega
  · rw [decide_eq_false (show ¬ (u : Int) ≥ 4294967296 by omega), cond_false]
    have := c4 u 0 (by omega) (by omega)
    rw [show ((0 : Nat) : Int) = 0 from rfl] at this
    rw [this]
    have := blenF_more 32 32 u (by simp; omega)
    rw [this]
    simp

theorem wu64 (v : Int) : IntKind.wrap .u64 v = (u64 v : Int) := by rw [wu64_eq, u64_cast]

theorem widthOf_eq (v : Int) : impl_widthOf k v = some (blen (u64 v) : Int) := by
  unfold impl_widthOf
  rw [wu64, len64_eq k _ (u64_lt v)]
  rfl

theorem blen_le (u : Nat) : blen u ≤ 64 := blenF_le 64 u
theorem blen_lt {u : Nat} (h : u < 18446744073709551616) : u < 2 ^ blen u := blenF_lt 64 u (by simpa using h)

theorem u64_zero : u64 0 = 0 := by decide
theorem u64_small {v : Int} (h0 : 0 ≤ v) (h1 : v < 9223372036854775808) : (u64 v : Int) = v := by rw [u64_cast]; omega

theorem down1 (v : Int) (hv : I64 v) : spec_l2Down k v 1 = some ((u64 v / 2 : Nat) : Int) := by
  unfold spec_l2Down
  rw [beqF (by decide), cond_false, decide_eq_true (by decide), cond_true, show IntKind.wrap .i64 (64 - 1) = 63 by decide, decide_eq_true (by decide), cond_true]
  have h1 : shrI .i64 v 1 = v / 2 := shrI_eq .i64 v 1 (by decide)
  have h2 : IntKind.wrap .i64 (shlI .i64 1 63 - 1) = 2 ^ 63 - 1 := by decide
  rw [h1, h2]
  -- the mask of 63 ones
  have h3 : ∀ x : Int, bits .and .i64 x (2 ^ 63 - 1) = x % 2 ^ 63 := by
    intro x
    have hb : (BitVec.ofInt 64 x &&& BitVec.ofInt 64 (2 ^ 63 - 1)).toNat = (x % 9223372036854775808).toNat := by
      have h4 : BitVec.ofInt 64 (2 ^ 63 - 1) = BitVec.ofNat 64 (2 ^ 63 - 1) := by decide
      rw [h4, BitVec.toNat_and, BitVec.toNat_ofNat, BitVec.toNat_ofInt]
      rw [show (2 ^ 63 - 1) % 2 ^ 64 = 2 ^ 63 - 1 by decide, Nat.and_two_pow_sub_one_eq_mod]
      omega
    show IntKind.wrap .i64 (((BitVec.ofInt 64 x &&& BitVec.ofInt 64 (2 ^ 63 - 1)).toNat : Nat) : Int) = _
    rw [hb, Int.toNat_of_nonneg (by omega), w64 (by omega) (by omega)]
    rfl
  rw [h3]
  congr 1
  have := u64_cast v
  omega

theorem l9Width_loop : ∀ (f n : Nat) (u t : Nat), u < 2 ^ f → f < n → f ≤ 63 → t + f < 1000 → spec_l9Width.l2 k n (u : Int) (t : Int) = some ((t + blenF f u : Nat) : Int) := by
  intro f
  induction f with
  | zero =>
    intro n u t hu hn _ ht
    obtain ⟨n, rfl⟩ : ∃ x, n = x + 1 := ⟨n - 1, by omega⟩
    have : u = 0 := by simpa using hu
    subst this
    simp only [spec_l9Width.l2]
    rw [bneF (show ((0 : Nat) : Int) = 0 from rfl), cond_false]
    rfl
  | succ f ih =>
    intro n u t hu hn hf ht
    obtain ⟨n, rfl⟩ : ∃ x, n = x + 1 := ⟨n - 1, by omega⟩
    rw [Nat.pow_succ] at hu
    have hf2 : 2 ^ f ≤ 2 ^ 62 := Nat.pow_le_pow_right (by decide) (by omega)
    simp only [spec_l9Width.l2, blenF]
    by_cases h0 : u = 0
    · subst h0
      rw [bneF (show ((0 : Nat) : Int) = 0 from rfl), cond_false]
      simp
    · have hI : I64 (u : Int) := ⟨by omega, by omega⟩
      have hu6 : u64 (u : Int) = u := by have := u64_small (v := (u : Int)) (by omega) (by omega); omega
      rw [bneT (show ¬ (u : Int) = 0 by omega), cond_true, down1 k _ hI, hu6]
      simp only [Option.bind_some]
      rw [w64 (by omega) (by omega), show ((t : Int) + 1) = ((t + 1 : Nat) : Int) by omega, ih n (u / 2) (t + 1) (by omega) (by omega) (by omega) (by omega)]
      simp only [h0, if_false]
      congr 2; omega

theorem l9Width_eq (hk : 100 ≤ k) (v : Int) (hv : I64 v) : spec_l9Width k v = some (blen (u64 v) : Int) := by
  unfold spec_l9Width
  obtain ⟨n, rfl⟩ : ∃ x, k = x + 1 := ⟨k - 1, by omega⟩
  have hlt := u64_lt v
  have hc := u64_cast v
  have hb : blen (u64 v) = if u64 v = 0 then 0 else blenF 63 (u64 v / 2) + 1 := rfl
  rw [hb]
  simp only [spec_l9Width.l2]
  by_cases h0 : v = 0
  · subst h0
    rw [bneF rfl, cond_false]
    rfl
  · have h1 : u64 v ≠ 0 := by
      obtain ⟨a, b⟩ := hv
      omega
    rw [bneT h0, cond_true, down1 _ v hv]
    simp only [Option.bind_some, h1, if_false]
    have := l9Width_loop (n + 1) 63 n (u64 v / 2) 1 (by simp; omega) (by omega) (by omega) (by omega)
    rw [show IntKind.wrap .i64 (0 + 1) = ((1 : Nat) : Int) by decide, this]
    congr 2; omega
end Go.Law
