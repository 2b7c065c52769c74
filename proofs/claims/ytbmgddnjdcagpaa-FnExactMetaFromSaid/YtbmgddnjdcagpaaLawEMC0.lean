import Derived.Test.YtbmgddnjdcagpaaAmStep
import Derived.Laws.BitsLemmas
import Derived.Laws.Strings
import Derived.Test.YtbmgddnjdcagpaaEMCF0
set_option linter.unnecessarySimpa false
set_option linter.unusedSimpArgs false
set_option linter.unusedVariables false
set_option linter.unusedSectionVars false
section
/- Plain laws of the words that clean functions use: whole numbers that wrap, bits, rows, strings. -/
set_option linter.unusedVariables false
set_option linter.unusedSimpArgs false
namespace Go.Law
open Go.Am

/-! ### numbers that wrap -/
theorem w64 {x : Int} (h0 : -9223372036854775808 ≤ x) (h1 : x < 9223372036854775808) : IntKind.wrap .i64 x = x := by
  rw [IntKind.wrap_i64]; omega
theorem w64_lo (x : Int) : -9223372036854775808 ≤ IntKind.wrap .i64 x := by rw [IntKind.wrap_i64]; omega
theorem w64_hi (x : Int) : IntKind.wrap .i64 x < 9223372036854775808 := by rw [IntKind.wrap_i64]; omega
theorem wu64_eq (x : Int) : IntKind.wrap .u64 x = x % 18446744073709551616 := by simp [IntKind.wrap, IntKind.bits, IntKind.signed]
theorem wu8_eq (x : Int) : IntKind.wrap .u8 x = x % 256 := IntKind.wrap_u8 x
theorem w8 {x : Int} (h0 : 0 ≤ x) (h1 : x < 256) : IntKind.wrap .u8 x = x := by rw [wu8_eq]; omega
theorem wraps_u64 (n : Int) (h₀ : 0 ≤ n) (h₁ : n < 2 ^ 64) : IntKind.u64.wrap n = n := by rw [wu64_eq]; omega
theorem wraps_i64 (n : Int) (h₀ : 0 ≤ n) (h₁ : n < 2 ^ 63) : IntKind.i64.wrap n = n := by rw [IntKind.wrap_i64]; omega

def I64 (x : Int) : Prop := -9223372036854775808 ≤ x ∧ x < 9223372036854775808

/-! ### bits -/
theorem and_mask_i64 (x : Int) (i : Nat) (hi : i ≤ 62) : bits .and .i64 x (2 ^ i - 1) = x % 2 ^ i := by
  have hpos : 0 < 2 ^ i := Nat.two_pow_pos i
  have hle : 2 ^ i ≤ 2 ^ 62 := Nat.pow_le_pow_right (by decide) hi
  have hc : ((2 : Int) ^ i - 1) = ((2 ^ i - 1 : Nat) : Int) := by
    rw [Int.natCast_sub hpos]; simp
  have hb : (2 ^ i - 1) % 2 ^ IntKind.i64.bits = 2 ^ i - 1 := Nat.mod_eq_of_lt (show 2 ^ i - 1 < 2 ^ 64 by omega)
  rw [hc]
  simp only [bits, BitVec.ofInt_natCast, BitVec.toNat_and, BitVec.toNat_ofNat, hb, Nat.and_two_pow_sub_one_eq_mod, BitVec.toNat_ofInt]
  show IntKind.wrap .i64 (((x % ((2 ^ 64 : Nat) : Int)).toNat % 2 ^ i : Nat) : Int) = _
  have h1 : (x % ((2 ^ 64 : Nat) : Int)).toNat % 2 ^ i < 2 ^ i := Nat.mod_lt _ hpos
  have h2 : (((x % ((2 ^ 64 : Nat) : Int)).toNat % 2 ^ i : Nat) : Int) = x % 2 ^ i := by
    have h3 : 0 ≤ x % ((2 ^ 64 : Nat) : Int) := Int.emod_nonneg _ (by decide)
    rw [Int.natCast_emod, Int.toNat_of_nonneg h3]
    have hd : ((2 ^ i : Nat) : Int) ∣ ((2 ^ 64 : Nat) : Int) := by
      have := Nat.pow_dvd_pow 2 (show i ≤ 64 by omega)
      exact_mod_cast this
    rw [Int.emod_emod_of_dvd x hd]
    simp
  rw [h2]
  have h4 : x % 2 ^ i < 2 ^ i := Int.emod_lt_of_pos _ (by exact_mod_cast hpos)
  have h5 : 0 ≤ x % 2 ^ i := Int.emod_nonneg _ (by have : (0 : Int) < 2 ^ i := by exact_mod_cast hpos
                                                   omega)
  have h6 : (2 : Int) ^ i ≤ 2 ^ 62 := by exact_mod_cast hle
  rw [w64 (by omega) (by omega)]

theorem and255 (x : Int) : bits .and .i64 x 255 = x % 256 := and_mask_i64 x 8 (by decide)
theorem and1 (x : Int) : bits .and .i64 x 1 = x % 2 := and_mask_i64 x 1 (by decide)
theorem and30 (x : Int) : bits .and .i64 x 1073741823 = x % 1073741824 := and_mask_i64 x 30 (by decide)

theorem u64_and127 {x : Int} (h0 : 0 ≤ x) (h1 : x < 18446744073709551616) : bits .and .u64 x 127 = x % 128 :=
  bits_mask .u64 64 (by decide) wraps_u64 7 (by decide) x h0 h1
theorem u8_and127 {x : Int} (h0 : 0 ≤ x) (h1 : x < 256) : bits .and .u8 x 127 = x % 128 :=
  bits_mask .u8 8 (by decide) wraps_u8 7 (by decide) x h0 h1

theorem bits_or_comm (k : IntKind) (a b : Int) : bits .or k a b = bits .or k b a := by
  simp only [bits, BitVec.toNat_or]
  rw [Nat.or_comm]

theorem u64_or128 {x : Int} (h0 : 0 ≤ x) (h1 : x < 128) : bits .or .u64 x 128 = x + 128 := by
  rw [bits_or_comm, bits_join .u64 64 (by decide) wraps_u64 7 128 x (by decide) (by decide) (by decide) h0 (by simpa using h1) (by omega)]
  omega

/-- a | (b << i), where a lies below -/
theorem u64_or_shl {a b : Int} {i : Nat} (ha0 : 0 ≤ a) (ha : a < 2 ^ i) (hb0 : 0 ≤ b) (hb : b * 2 ^ i < 2 ^ 64) (hi : i ≤ 64) : bits .or .u64 a (b * 2 ^ i) = a + b * 2 ^ i := by
  have hp : (2 : Int) ^ i ≤ 2 ^ 64 := by
    have := Nat.pow_le_pow_right (n := 2) (by decide) hi
    exact_mod_cast this
  have hp0 : (0 : Int) < 2 ^ i := by have := Nat.two_pow_pos i; exact_mod_cast this
  rw [bits_or_comm, bits_join .u64 64 (by decide) wraps_u64 i (b * 2 ^ i) a (Int.mul_nonneg hb0 (by omega)) (Int.mul_emod_left _ _) hb ha0 ha (by omega)]
  omega

theorem shrI_eq (k : IntKind) (a : Int) (n : Nat) (h : n ≤ k.bits) : shrI k a (n : Int) = a / 2 ^ n := by
  unfold shrI
  rw [Int.toNat_natCast, Nat.min_eq_left h, Int.fdiv_eq_ediv_of_nonneg]
  have := Nat.two_pow_pos n
  have : (0 : Int) < 2 ^ n := by exact_mod_cast this
  omega
theorem shr7 (a : Int) : shrI .u64 a 7 = a / 128 := shrI_eq .u64 a 7 (by decide)
theorem shr1u (a : Int) : shrI .u64 a 1 = a / 2 := shrI_eq .u64 a 1 (by decide)
theorem shr63 (a : Int) : shrI .i64 a 63 = a / 9223372036854775808 := shrI_eq .i64 a 63 (by decide)

/-! ### conditions -/
theorem lim_ok {n : Nat} (h : n ≤ 4294967296) : lim n = true := by unfold lim; exact Nat.ble_eq_true_of_le h
theorem okLen_ok {n : Int} (h0 : 0 ≤ n) (h : n ≤ 4294967296) : okLen n = true := by simp [okLen, h0, h]
theorem inSl_ok {l h : Int} {n : Nat} (h0 : 0 ≤ l) (h1 : l ≤ h) (h2 : h ≤ n) : inSl l h n = true := by simp [inSl, h0, h1, h2]

theorem beqF {a b : Int} (h : ¬ a = b) : (a == b) = false := by simpa using h

theorem bneT {a b : Int} (h : ¬ a = b) : (a != b) = true := by simpa using h
theorem beqT {a b : Int} (h : a = b) : (a == b) = true := by simpa using h
theorem bneF {a b : Int} (h : a = b) : (a != b) = false := by simpa using h

theorem csf (b c : Bool) : (cond b (some c) (some false) : Option Bool) = some (b && c) := by cases b <;> rfl
theorem cst (b c : Bool) : (cond b (some true) (some c) : Option Bool) = some (b || c) := by cases b <;> rfl
theorem csb (b c d : Bool) : (cond b (some c) (some d) : Option Bool) = some (cond b c d) := by cases b <;> rfl

/-! ### rows -/
theorem rdL_nat {α : Type} (xs : List α) (n : Nat) : rdL xs (n : Int) = xs[n]? := rfl
theorem rdL_some {α : Type} {xs : List α} {i : Int} (h0 : 0 ≤ i) (h1 : i < xs.length) : ∃ x, rdL xs i = some x ∧ xs[i.toNat]? = some x := by
  obtain ⟨n, rfl⟩ := Int.eq_ofNat_of_zero_le h0
  have h : n < xs.length := by omega
  exact ⟨xs[n], by rw [rdL_nat, List.getElem?_eq_getElem h], by simp [h]⟩
theorem rdL_of {α : Type} {xs : List α} {i : Int} {x : α} (h0 : 0 ≤ i) (h : xs[i.toNat]? = some x) : rdL xs i = some x := by
  obtain ⟨n, rfl⟩ := Int.eq_ofNat_of_zero_le h0
  exact h
theorem rdL_zero {α : Type} (xs : List α) : rdL xs 0 = xs[0]? := rfl

theorem drop_get {α : Type} {b : List α} {p : Nat} {y : α} {r : List α} (h : b.drop p = y :: r) : b[p]? = some y ∧ p < b.length ∧ b.drop (p + 1) = r := by
  have h1 := List.getElem?_drop (xs := b) (i := p) (j := 0)
  rw [h] at h1
  have hl := congrArg List.length h
  simp at hl
  refine ⟨by simpa using h1.symm, by omega, ?_⟩
  rw [← List.drop_drop, h]
  rfl

theorem drop_app {α : Type} {b x r : List α} {p : Nat} (h : b.drop p = x ++ r) : b.drop (p + x.length) = r ∧ p + x.length ≤ max p b.length := by
  rw [← List.drop_drop, h]
  have hl := congrArg List.length h
  simp at hl
  exact ⟨by simp, by omega⟩


/-! ### strings -/
theorem eqS_iff (a b : ByteArray) : eqS a b = decide (a = b) := by
  unfold eqS
  have h : a.toList = b.toList ↔ a = b := by
    constructor
    · intro h
      rw [ByteArray.toList_eq, ByteArray.toList_eq] at h
      cases a; cases b
      simp only [ByteArray.mk.injEq]
      exact Array.ext' h
    · rintro rfl; rfl
  by_cases e : a = b
  · simp [e]
  · simp only [e, decide_false]
    have : a.toList ≠ b.toList := fun h' => e (h.1 h')
    simp [this]

theorem intsStr_strInts (s : ByteArray) : intsStr (strInts s) = s := by
  unfold intsStr strInts strOfNums
  cases s with
  | mk d =>
    simp only [List.map_map]
    congr 1
    have : ((fun n : Int => UInt8.ofNat n.toNat) ∘ fun c : UInt8 => (c.toNat : Int)) = id := by
      funext c
      simp
    rw [this]
    simp

theorem strInts_length (s : ByteArray) : (strInts s).length = s.size := by
  unfold strInts
  rw [List.length_map, Array.length_toList]
  rfl

theorem strInts_byte (s : ByteArray) (x : Int) (h : x ∈ strInts s) : 0 ≤ x ∧ x < 256 := by
  unfold strInts at h
  obtain ⟨c, _, hc⟩ := List.mem_map.1 h
  have := c.toNat_lt
  omega

theorem intsStr_size (xs : List Int) : (intsStr xs).size = xs.length := strOfNums_size xs

theorem strInts_intsStr : ∀ (xs : List Int), (∀ x, x ∈ xs → 0 ≤ x ∧ x < 256) → strInts (intsStr xs) = xs
  | [], _ => rfl
  | x :: xs, h => by
    have ih := strInts_intsStr xs (fun y hy => h y (List.mem_cons_of_mem _ hy))
    obtain ⟨h0, h1⟩ := h x (List.mem_cons_self ..)
    obtain ⟨n, rfl⟩ := Int.eq_ofNat_of_zero_le h0
    have hn : n < 256 := by omega
    have e : strInts (intsStr ((n : Int) :: xs)) = (((UInt8.ofNat n).toNat : Nat) : Int) :: strInts (intsStr xs) := rfl
    rw [e, ih, UInt8.toNat_ofNat_of_lt' hn]

end Go.Law
end

section
/- The small tests that both make. -/
set_option linter.unusedVariables false
set_option linter.unusedSimpArgs false
namespace Go.Law
open Go.Am Go.Fn

theorem within_eq (k : Nat) (a b c : Int) : impl_within k a b c = some (decide (b ≤ a) && decide (a ≤ c)) := by
  unfold impl_within
  simp only [csf, Option.bind_some, ge_iff_le]
theorem l1In_eq (k : Nat) (a b c : Int) : spec_l1In k a b c = some (decide (b ≤ a) && decide (a ≤ c)) := by
  unfold spec_l1In
  simp only [csf, Option.bind_some, ge_iff_le]

theorem getMid {α : Type} (pre post : List α) (x : α) : rdL (pre ++ x :: post) (pre.length : Int) = some x := by
  rw [rdL_nat, List.getElem?_append_right (Nat.le_refl _)]; simp
theorem setMid {α : Type} (pre post : List α) (x y : α) : List.set (pre ++ x :: post) (Int.toNat (pre.length : Int)) y = pre ++ y :: post := by
  rw [Int.toNat_natCast, List.set_append_right _ _ (Nat.le_refl _)]; simp
theorem midSnoc {α : Type} (pre post : List α) (x : α) : pre ++ x :: post = (pre ++ [x]) ++ post := by simp

end Go.Law
end

section
/- The types of values. -/
set_option linter.unusedVariables false
set_option linter.unusedSimpArgs false
namespace Go.Law
open Go.Am Go.Fn
variable (k : Nat)

def tyOk (t : Int) : Bool := t == 0 || t == 1 || t == 2 || t == 5 || t == 6

theorem l5Type_eq (t : Int) : spec_l5Type k t = some (tyOk t) := by
  unfold spec_l5Type spec_l5Type.c7 tyOk
  by_cases h0 : t = 0
  · subst h0; simp
  by_cases h1 : t = 1
  · subst h1; simp
  by_cases h2 : t = 2
  · subst h2; simp
  by_cases h5 : t = 5
  · subst h5; simp
  by_cases h6 : t = 6
  · subst h6; simp
  simp [beqF h0, beqF h1, beqF h2, beqF h5, beqF h6, h0, h1, h2, h5, h6]

theorem typeOk_eq (t : Int) : impl_TypeOk k t = some (tyOk t) := by
  unfold impl_TypeOk tyOk
  simp only [within_eq, Option.bind_some, cst]
  congr 1
  by_cases h : 0 ≤ t ∧ t ≤ 2
  · rw [decide_eq_true h.1, decide_eq_true h.2]
    rcases (show t = 0 ∨ t = 1 ∨ t = 2 by omega) with rfl | rfl | rfl <;> rfl
  · have : (decide (0 ≤ t) && decide (t ≤ 2)) = false := by
      rw [Bool.eq_false_iff]; intro hh
      simp only [Bool.and_eq_true, decide_eq_true_eq] at hh
      exact h hh
    rw [this, beqF (show ¬ t = 0 by omega), beqF (show ¬ t = 1 by omega), beqF (show ¬ t = 2 by omega)]
    rfl

end Go.Law
end

section
/- Schemas: which are right, by both. -/

set_option linter.unusedVariables false
set_option linter.unusedSimpArgs false
namespace Go.Law
open Go.Am Go.Fn

/-! ### names -/
def azc (c : UInt8) : Bool := decide (97 ≤ c.toNat) && decide (c.toNat ≤ 122)
def az (s : ByteArray) : Bool := s.data.toList.all azc
def nameOk (s : ByteArray) : Bool := (decide (1 ≤ (s.size : Int)) && decide ((s.size : Int) ≤ 20)) && az s

theorem btS_nat {s : ByteArray} {i : Nat} {c : UInt8} (h : s.data.toList[i]? = some c) : btS s (i : Int) = some (c.toNat : Int) := by
  show (match s.data.toList[i]? with | some b => some (b.toNat : Int) | none => none) = _
  rw [h]

theorem size_len (s : ByteArray) : s.data.toList.length = s.size := by
  rw [Array.length_toList]
  rfl

variable (k : Nat)

theorem l5NameLoop (s : ByteArray) (hs : s.size < 1000000) : ∀ (m n i : Nat), s.size = i + m → m < n → spec_l5Name.l4 k n s (i : Int) = some ((s.data.toList.drop i).all azc) := by
  intro m
  induction m with
  | zero =>
    intro n i hi hn
    obtain ⟨n, rfl⟩ : ∃ j, n = j + 1 := ⟨n - 1, by omega⟩
    simp only [spec_l5Name.l4, decide_eq_false (show ¬ (i : Int) < (s.size : Int) by omega), cond_false]
    rw [List.drop_eq_nil_of_le (by rw [size_len]; omega)]
    rfl
  | succ m ih =>
    intro n i hi hn
    obtain ⟨n, rfl⟩ : ∃ j, n = j + 1 := ⟨n - 1, by omega⟩
    have hlt : i < s.data.toList.length := by rw [size_len]; omega
    have hb := btS_nat (s := s) (i := i) (List.getElem?_eq_getElem hlt)
    have hc := (s.data.toList[i]).toNat_lt
    simp only [spec_l5Name.l4, decide_eq_true (show (i : Int) < (s.size : Int) by omega), cond_true, hb, Option.bind_some, cst]
    rw [List.drop_eq_getElem_cons hlt, List.all_cons, w64 (by omega) (by omega), show ((i : Int) + 1) = ((i + 1 : Nat) : Int) by omega, ih n (i + 1) (by omega) (by omega)]
    unfold azc
    by_cases h : 97 ≤ (s.data.toList[i]).toNat ∧ (s.data.toList[i]).toNat ≤ 122
    · simp only [decide_eq_false (show ¬ (((s.data.toList[i]).toNat : Nat) : Int) < 97 by omega), decide_eq_false (show ¬ (((s.data.toList[i]).toNat : Nat) : Int) > 122 by omega), Bool.or_self, cond_false, decide_eq_true h.1, decide_eq_true h.2, Bool.and_self, Bool.true_and]
    · have h1 : (decide ((((s.data.toList[i]).toNat : Nat) : Int) < 97) || decide ((((s.data.toList[i]).toNat : Nat) : Int) > 122)) = true := by
        simp only [Bool.or_eq_true, decide_eq_true_eq]; omega
      have h2 : (decide (97 ≤ (s.data.toList[i]).toNat) && decide ((s.data.toList[i]).toNat ≤ 122)) = false := by
        rw [Bool.eq_false_iff]; intro hh
        simp only [Bool.and_eq_true, decide_eq_true_eq] at hh
        exact h hh
      simp only [h1, h2, cond_true, Bool.false_and]

theorem l5Name_eq (hk : 100 ≤ k) (s : ByteArray) : spec_l5Name k s = some (nameOk s) := by
  unfold spec_l5Name nameOk
  simp only [l1In_eq, Option.bind_some]
  by_cases h : 1 ≤ s.size ∧ s.size ≤ 20
  · rw [decide_eq_true (show (1 : Int) ≤ (s.size : Int) by omega), decide_eq_true (show (s.size : Int) ≤ 20 by omega)]
    simp only [Bool.and_self, Bool.not_true, cond_false, Bool.true_and]
    exact l5NameLoop k s (by omega) s.size k 0 (by omega) (by omega)
  · have : (decide ((1 : Int) ≤ (s.size : Int)) && decide ((s.size : Int) ≤ 20)) = false := by
      rw [Bool.eq_false_iff]; intro hh
      simp only [Bool.and_eq_true, decide_eq_true_eq] at hh
      omega
    simp only [this, Bool.not_false, cond_true, Bool.false_and]

theorem colNameLoop (s : ByteArray) (hs : s.size < 1000000000) : ∀ (m n i : Nat), s.size = i + m → m < n → impl_isColName.l2 k n s (s.size : Int) (i : Int) = some ((decide (1 ≤ (s.size : Int)) && decide ((s.size : Int) ≤ 20)) && (s.data.toList.drop i).all azc) := by
  intro m
  induction m with
  | zero =>
    intro n i hi hn
    obtain ⟨n, rfl⟩ : ∃ j, n = j + 1 := ⟨n - 1, by omega⟩
    simp only [impl_isColName.l2, decide_eq_false (show ¬ (i : Int) < (s.size : Int) by omega), cond_false, within_eq, Option.bind_some]
    rw [List.drop_eq_nil_of_le (by rw [size_len]; omega)]
    simp
  | succ m ih =>
    intro n i hi hn
    obtain ⟨n, rfl⟩ : ∃ j, n = j + 1 := ⟨n - 1, by omega⟩
    have hlt : i < s.data.toList.length := by rw [size_len]; omega
    have hb := btS_nat (s := s) (i := i) (List.getElem?_eq_getElem hlt)
    have hc := (s.data.toList[i]).toNat_lt
    simp only [impl_isColName.l2, decide_eq_true (show (i : Int) < (s.size : Int) by omega), cond_true, hb, Option.bind_some, within_eq]
    rw [w64 (show -9223372036854775808 ≤ (((s.data.toList[i]).toNat : Nat) : Int) by omega) (by omega)]
    rw [List.drop_eq_getElem_cons hlt, List.all_cons, w64 (by omega) (by omega), show ((i : Int) + 1) = ((i + 1 : Nat) : Int) by omega, ih n (i + 1) (by omega) (by omega)]
    unfold azc
    by_cases h : 97 ≤ (s.data.toList[i]).toNat ∧ (s.data.toList[i]).toNat ≤ 122
    · simp only [decide_eq_true (show (97 : Int) ≤ (((s.data.toList[i]).toNat : Nat) : Int) by omega), decide_eq_true (show (((s.data.toList[i]).toNat : Nat) : Int) ≤ 122 by omega), Bool.not_true, Bool.and_self, cond_false, decide_eq_true h.1, decide_eq_true h.2, Bool.true_and]
    · have h1 : (decide ((97 : Int) ≤ (((s.data.toList[i]).toNat : Nat) : Int)) && decide ((((s.data.toList[i]).toNat : Nat) : Int) ≤ 122)) = false := by
        rw [Bool.eq_false_iff]; intro hh
        simp only [Bool.and_eq_true, decide_eq_true_eq] at hh
        omega
      have h2 : (decide (97 ≤ (s.data.toList[i]).toNat) && decide ((s.data.toList[i]).toNat ≤ 122)) = false := by
        rw [Bool.eq_false_iff]; intro hh
        simp only [Bool.and_eq_true, decide_eq_true_eq] at hh
        exact h hh
      simp only [h1, h2, Bool.not_false, cond_true, Bool.false_and, Bool.and_false]

theorem isColName_eq (s : ByteArray) (hs : s.size < k) (hs2 : s.size < 1000000000) : impl_isColName k s = some (nameOk s) := by
  unfold impl_isColName nameOk
  exact colNameLoop k s hs2 s.size k 0 (by omega) (by omega)

/-! ### cols -/
def colOk (c : TCol) : Bool := ((c.2.1 == 7 && decide (c.2.2.2.1 > 0)) || (tyOk c.2.1 && c.2.2.2.1 == 0)) && (decide (0 ≤ c.2.2.1) && decide (c.2.2.1 ≤ 2))

theorem colOk_eq (c : TCol) : impl_colOk k c = some (colOk c) := by
  unfold impl_colOk colOk
  simp only [within_eq, typeOk_eq, Option.bind_some, csf, cst]

theorem tyOk_7 : tyOk 7 = false := rfl

/-! ### which lists of cols are schemas -/
def PartsC (S : Nat → Nat → Prop) (s : List TCol) : Nat → Nat → List ByteArray → Nat → Prop
  | 0, pos, _, nx => pos = nx
  | c + 1, pos, names, nx => ∃ p mid, s[pos]? = some p ∧ p.1 ∉ names ∧ S pos mid ∧ PartsC S s c mid (names ++ [p.1]) nx

def SubC (s : List TCol) : Nat → Nat → Nat → Prop
  | 0, _, _ => False
  | d + 1, at_, nx => ∃ c, s[at_]? = some c ∧ colOk c = true ∧ (0 < at_ → nameOk c.1 = true) ∧ PartsC (SubC s d) s c.2.2.2.1.toNat (at_ + 1) [] nx

theorem PartsC_le {S : Nat → Nat → Prop} {s : List TCol} (hS : ∀ a b, S a b → a < b) : ∀ (c pos : Nat) (names : List ByteArray) (nx : Nat), PartsC S s c pos names nx → pos + c ≤ nx
  | 0, pos, names, nx, e => by have e : pos = nx := e; omega
  | c + 1, pos, names, nx, ⟨p, mid, _, _, h3, h4⟩ => by
    have := hS _ _ h3
    have := PartsC_le hS c mid _ nx h4
    omega

theorem SubC_lt {s : List TCol} : ∀ (d a b : Nat), SubC s d a b → a < b
  | 0, _, _, h => h.elim
  | d + 1, a, b, ⟨c, _, _, _, h⟩ => by
    have := PartsC_le (SubC_lt d) _ _ _ _ h
    omega

/-- every col within is right -/
theorem SubC_all {s : List TCol} : ∀ (d a b : Nat), SubC s d a b → ∀ i, a ≤ i → i < b → ∃ c, s[i]? = some c ∧ colOk c = true ∧ (0 < i → nameOk c.1 = true)
  | 0, _, _, h => h.elim
  | d + 1, a, b, ⟨c, h1, h2, h3, h4⟩ => by
    have key : ∀ (n pos : Nat) (names : List ByteArray) (nx : Nat), PartsC (SubC s d) s n pos names nx → ∀ i, pos ≤ i → i < nx → ∃ c, s[i]? = some c ∧ colOk c = true ∧ (0 < i → nameOk c.1 = true) := by
      intro n
      induction n with
      | zero => intro pos names nx e i hi1 hi2; have e : pos = nx := e; omega
      | succ n ih =>
        intro pos names nx ⟨p, mid, _, _, hs, hp⟩ i hi1 hi2
        rcases Nat.lt_or_ge i mid with h | h
        · exact SubC_all d pos mid hs i hi1 h
        · exact ih mid _ nx hp i h hi2
    intro i hi1 hi2
    rcases Nat.lt_or_ge a i with h | h
    · exact key _ _ _ _ h4 i (by omega) hi2
    · obtain rfl : i = a := by omega
      exact ⟨c, h1, h2, h3⟩

open Classical in
theorem specNames (S : List TCol → Int → Int → Option Int) (L : List TCol → Int → Int → Int → TCol → List ByteArray → Option Int) (s : List TCol) (deep : Int) (pos : Nat) (i : Int) (c p : TCol) (hp : s[pos]? = some p) (names : List ByteArray) (hn : names.length ≤ 100) :
    ∀ (m n j : Nat), names.length = j + m → m < n → spec_l5Check.l20 k S L n s deep (pos : Int) i (j : Int) c names =
      if p.1 ∈ names.drop j then some (-1) else (S s (pos : Int) (IntKind.wrap .i64 (deep + 1))).bind fun r => cond (decide (r < 0)) (some (-1)) (L s deep r (IntKind.wrap .i64 (i + 1)) c (names ++ [p.1])) := by
  intro m
  induction m with
  | zero =>
    intro n j hj hn'
    obtain ⟨n, rfl⟩ : ∃ q, n = q + 1 := ⟨n - 1, by omega⟩
    simp only [spec_l5Check.l20, decide_eq_false (show ¬ (j : Int) < (names.length : Int) by omega), cond_false, rdL_nat, hp, Option.bind_some]
    rw [lim_ok (by simp; omega), cond_true, List.drop_eq_nil_of_le (by omega)]
    simp
  | succ m ih =>
    intro n j hj hn'
    obtain ⟨n, rfl⟩ : ∃ q, n = q + 1 := ⟨n - 1, by omega⟩
    have hlt : j < names.length := by omega
    simp only [spec_l5Check.l20, decide_eq_true (show (j : Int) < (names.length : Int) by omega), cond_true, rdL_nat, hp, List.getElem?_eq_getElem hlt, Option.bind_some, eqS_iff]
    rw [w64 (by omega) (by omega), show ((j : Int) + 1) = ((j + 1 : Nat) : Int) by omega, ih n (j + 1) (by omega) (by omega), List.drop_eq_getElem_cons hlt]
    by_cases h : names[j] = p.1
    · rw [decide_eq_true h, cond_true, if_pos (by rw [h]; exact List.mem_cons_self ..)]
    · rw [decide_eq_false h, cond_false]
      have : (p.1 ∈ names[j] :: names.drop (j + 1)) ↔ p.1 ∈ names.drop (j + 1) := by
        rw [List.mem_cons]
        exact ⟨fun hh => hh.elim (fun e => absurd e.symm h) id, .inr⟩
      simp only [this]

open Classical in
theorem implNames (S : List TCol → Int → Int → Option Int) (L : List TCol → Int → Int → Int → Int → List ByteArray → Option Int) (s : List TCol) (deep : Int) (pos : Nat) (M i : Int) (p : TCol) (hp : s[pos]? = some p) (names : List ByteArray) (hn : names.length ≤ 100) :
    ∀ (m n j : Nat), names.length = j + m → m < n → impl_colAfter.l10 k S L n s deep (pos : Int) M i (names.length : Int) (j : Int) names =
      if p.1 ∈ names.drop j then some (-1) else (S s (pos : Int) (IntKind.wrap .i64 (deep + 1))).bind fun r => cond (decide (r < 0)) (some (-1)) (L s deep r M (IntKind.wrap .i64 (i + 1)) (names ++ [p.1])) := by
  intro m
  induction m with
  | zero =>
    intro n j hj hn'
    obtain ⟨n, rfl⟩ : ∃ q, n = q + 1 := ⟨n - 1, by omega⟩
    simp only [impl_colAfter.l10, decide_eq_false (show ¬ (j : Int) < (names.length : Int) by omega), cond_false, rdL_nat, hp, Option.bind_some]
    rw [lim_ok (by simp; omega), cond_true, List.drop_eq_nil_of_le (by omega)]
    simp
  | succ m ih =>
    intro n j hj hn'
    obtain ⟨n, rfl⟩ : ∃ q, n = q + 1 := ⟨n - 1, by omega⟩
    have hlt : j < names.length := by omega
    simp only [impl_colAfter.l10, decide_eq_true (show (j : Int) < (names.length : Int) by omega), cond_true, rdL_nat, hp, List.getElem?_eq_getElem hlt, Option.bind_some, eqS_iff]
    rw [w64 (by omega) (by omega), show ((j : Int) + 1) = ((j + 1 : Nat) : Int) by omega, ih n (j + 1) (by omega) (by omega), List.drop_eq_getElem_cons hlt]
    by_cases h : names[j] = p.1
    · rw [decide_eq_true h, cond_true, if_pos (by rw [h]; exact List.mem_cons_self ..)]
    · rw [decide_eq_false h, cond_false]
      have : (p.1 ∈ names[j] :: names.drop (j + 1)) ↔ p.1 ∈ names.drop (j + 1) := by
        rw [List.mem_cons]
        exact ⟨fun hh => hh.elim (fun e => absurd e.symm h) id, .inr⟩
      simp only [this]

theorem schkLoop (hk : 100 ≤ k) (s : List TCol) (hs : s.length ≤ 20) (d D deep : Nat) (hdeep : deep ≤ 6)
    (ih : ∀ at_ : Nat, 0 < at_ → ∃ v, spec_l5Check.rec k D s (at_ : Int) ((deep + 1 : Nat) : Int) = some v ∧ impl_colAfter.rec k D s (at_ : Int) ((deep + 1 : Nat) : Int) = some v ∧ (v = -1 ∨ ∃ nx : Nat, v = nx ∧ SubC s d at_ nx ∧ nx ≤ s.length))
    (c : TCol) (M : Int) (hM : c.2.2.2.1 = M) (hM1 : M < 9223372036854775808) : ∀ (f pos : Nat) (i : Int) (names : List ByteArray), s.length - pos < f → 0 < pos → pos ≤ s.length → 0 ≤ i → i ≤ M → names.length ≤ pos →
      ∃ v, spec_l5Check.l15 k (spec_l5Check.rec k D) f s (deep : Int) (pos : Int) i c names = some v ∧ impl_colAfter.l6 k (impl_colAfter.rec k D) f s (deep : Int) (pos : Int) M i names = some v ∧
        (v = -1 ∨ ∃ nx : Nat, v = nx ∧ PartsC (SubC s d) s (M - i).toNat pos names nx ∧ nx ≤ s.length) := by
  intro f
  induction f with
  | zero => intro pos i names h; omega
  | succ f ihf =>
    intro pos i names hf hpos hpl hi0 hiM hnm
    simp only [spec_l5Check.l15, impl_colAfter.l6, hM]
    by_cases hlt : i < M
    · simp only [decide_eq_true hlt, cond_true]
      by_cases hpe : (pos : Int) ≥ (s.length : Int)
      · simp only [decide_eq_true hpe, cond_true]
        exact ⟨_, rfl, rfl, .inl rfl⟩
      · have hpl' : pos < s.length := by omega
        simp only [decide_eq_false hpe, cond_false]
        have hp := List.getElem?_eq_getElem hpl'
        rw [show (0 : Int) = ((0 : Nat) : Int) from rfl, specNames k _ _ s _ pos i c _ hp names (by omega) names.length k 0 (by omega) (by omega), implNames k _ _ s _ pos M i _ hp names (by omega) names.length k 0 (by omega) (by omega)]
        rw [List.drop_zero]
        by_cases hmem : (s[pos]'hpl').1 ∈ names
        · rw [if_pos hmem, if_pos hmem]
          exact ⟨_, rfl, rfl, .inl rfl⟩
        · rw [if_neg hmem, if_neg hmem]
          have hd1 : IntKind.wrap .i64 ((deep : Int) + 1) = ((deep + 1 : Nat) : Int) := by rw [w64 (by omega) (by omega)]; omega
          rw [hd1]
          obtain ⟨v, s1, s2, s4⟩ := ih pos hpos
          simp only [s1, s2, Option.bind_some]
          rcases s4 with rfl | ⟨mid, rfl, s5, s6⟩
          · simp only [show decide ((-1 : Int) < 0) = true from rfl, cond_true]
            exact ⟨_, rfl, rfl, .inl rfl⟩
          · have hml := SubC_lt _ _ _ s5
            have hm0 : decide ((mid : Int) < 0) = false := decide_eq_false (by omega)
            have hi1 : IntKind.wrap .i64 (i + 1) = i + 1 := w64 (by omega) (by omega)
            simp only [hm0, cond_false, hi1]
            obtain ⟨w, t1, t2, t4⟩ := ihf mid (i + 1) (names ++ [(s[pos]'hpl').1]) (by omega) (by omega) s6 (by omega) (by omega) (by simp; omega)
            refine ⟨w, t1, t2, ?_⟩
            rcases t4 with h | ⟨nx, h1, h2, h3⟩
            · exact .inl h
            · refine .inr ⟨nx, h1, ?_, h3⟩
              rw [show (M - i).toNat = (M - (i + 1)).toNat + 1 by omega]
              exact ⟨_, mid, hp, hmem, s5, h2⟩
    · simp only [decide_eq_false hlt, cond_false]
      refine ⟨_, rfl, rfl, .inr ⟨pos, rfl, ?_, hpl⟩⟩
      rw [show (M - i).toNat = 0 by omega]
      rfl

theorem schk (hk : 100 ≤ k) (s : List TCol) (hs : s.length ≤ 20) (hn : ∀ c, c ∈ s → c.1.size < k ∧ c.1.size < 1000000000 ∧ I64 c.2.2.2.1) (hroot : ∀ c, s[0]? = some c → c.1 = ⟨#[]⟩ ∧ c.2.2.1 = 0 ∧ c.2.1 = 7) :
    ∀ (d D deep at_ : Nat), d + deep = 7 → d < D → ∃ v, spec_l5Check.rec k D s (at_ : Int) (deep : Int) = some v ∧ impl_colAfter.rec k D s (at_ : Int) (deep : Int) = some v ∧ (v = -1 ∨ ∃ nx : Nat, v = nx ∧ SubC s d at_ nx ∧ nx ≤ s.length) := by
  intro d
  induction d with
  | zero =>
    intro D deep at_ hd hD
    obtain ⟨D, rfl⟩ : ∃ m, D = m + 1 := ⟨D - 1, by omega⟩
    obtain rfl : deep = 7 := by omega
    simp only [spec_l5Check.rec, impl_colAfter.rec, spec_l5Check.b, impl_colAfter.b, cst, Option.bind_some, show decide (((7 : Nat) : Int) > 6) = true from rfl, Bool.or_true, cond_true]
    exact ⟨_, rfl, rfl, .inl rfl⟩
  | succ d ih =>
    intro D deep at_ hd hD
    obtain ⟨D, rfl⟩ : ∃ m, D = m + 1 := ⟨D - 1, by omega⟩
    simp only [spec_l5Check.rec, impl_colAfter.rec, spec_l5Check.b, impl_colAfter.b, cst, Option.bind_some]
    by_cases hat : (at_ : Int) ≥ (s.length : Int)
    · simp only [decide_eq_true hat, Bool.true_or, cond_true, Option.bind_some]
      exact ⟨_, rfl, rfl, .inl rfl⟩
    · have hat' : at_ < s.length := by omega
      have hdd : decide ((deep : Int) > 6) = false := decide_eq_false (by omega)
      have hc := List.getElem?_eq_getElem hat'
      generalize hcd : s[at_]'hat' = c at hc
      have hcm : c ∈ s := List.mem_of_getElem? hc
      obtain ⟨n1, n2, n3⟩ := hn c hcm
      simp only [decide_eq_false hat, hdd, Bool.false_or, cond_false, rdL_nat, hc, Option.bind_some, colOk_eq, isColName_eq k c.1 n1 n2, l5Name_eq k hk, l1In_eq, l5Type_eq, csf, cst]
      -- the root, or a name
      have hr0 : (((at_ : Int) == 0) && ((!eqS c.1 ⟨#[]⟩ || c.2.2.1 != 0) || c.2.1 != 7)) = false := by
        by_cases h0 : at_ = 0
        · subst h0
          obtain ⟨r1, r2, r3⟩ := hroot c hc
          rw [r1, r2, r3, eqS_iff]; simp
        · rw [beqF (show ¬ (at_ : Int) = 0 by omega)]; rfl
      simp only [hr0, Bool.false_or]
      generalize hnm : (decide ((at_ : Int) > 0) && !nameOk c.1) = bn
      have hname : bn = false → 0 < at_ → nameOk c.1 = true := by
        intro hb h0
        rw [hb, decide_eq_true (show (at_ : Int) > 0 by omega)] at hnm
        simpa using hnm
      have ha1 : IntKind.wrap .i64 ((at_ : Int) + 1) = ((at_ + 1 : Nat) : Int) := by rw [w64 (by omega) (by omega)]; omega
      cases bn with
      | true =>
        simp only [Bool.true_or, Bool.or_true, cond_true]
        exact ⟨_, rfl, rfl, .inl rfl⟩
      | false =>
        simp only [Bool.false_or, Bool.or_false]
        by_cases hrep : (0 ≤ c.2.2.1 ∧ c.2.2.1 ≤ 2)
        · have er : (decide (0 ≤ c.2.2.1) && decide (c.2.2.1 ≤ 2)) = true := by rw [decide_eq_true hrep.1, decide_eq_true hrep.2]; rfl
          simp only [er, Bool.not_true, cond_false]
          have eco : colOk c = ((c.2.1 == 7 && decide (c.2.2.2.1 > 0)) || (tyOk c.2.1 && c.2.2.2.1 == 0)) := by
            unfold colOk; rw [er, Bool.and_true]
          by_cases h7 : c.2.1 = 7
          · have eco' : colOk c = decide (c.2.2.2.1 > 0) := by rw [eco, h7, tyOk_7]; simp
            simp only [bneF h7, cond_false]
            by_cases hM : c.2.2.2.1 < 1
            · simp only [decide_eq_true hM, cond_true, eco', decide_eq_false (show ¬ c.2.2.2.1 > 0 by omega), Bool.not_false]
              exact ⟨_, rfl, rfl, .inl rfl⟩
            · have hok : colOk c = true := by rw [eco']; exact decide_eq_true (by omega)
              simp only [decide_eq_false hM, cond_false, hok, Bool.not_true, ha1]
              obtain ⟨v, t1, t2, t3⟩ := schkLoop k hk s hs d D deep (by omega) (fun a h0 => ih D (deep + 1) a (by omega) (by omega)) c _ rfl n3.2 k (at_ + 1) 0 [] (by omega) (by omega) (by omega) (by omega) (by omega) (by simp)
              refine ⟨v, t1, t2, ?_⟩
              rcases t3 with h | ⟨nx, h1, h2, h3⟩
              · exact .inl h
              · exact .inr ⟨nx, h1, ⟨c, hc, hok, hname rfl, by simpa using h2⟩, h3⟩
          · have eco' : colOk c = (tyOk c.2.1 && c.2.2.2.1 == 0) := by rw [eco, beqF h7]; simp
            simp only [bneT h7, cond_true]
            by_cases hl : tyOk c.2.1 = true ∧ c.2.2.2.1 = 0
            · have hok : colOk c = true := by rw [eco', hl.1, beqT hl.2]; rfl
              simp only [hl.1, bneF hl.2, Bool.not_true, Bool.or_self, cond_false, hok, ha1]
              obtain ⟨K, hK⟩ : ∃ j, k = j + 1 := ⟨k - 1, by omega⟩
              refine ⟨_, rfl, ?_, .inr ⟨at_ + 1, rfl, ⟨c, hc, hok, hname rfl, ?_⟩, by omega⟩⟩
              · rw [hl.2]
                have : ∀ (j : Nat) (S : List TCol → Int → Int → Option Int), impl_colAfter.l6 k S (j + 1) s (deep : Int) ((at_ + 1 : Nat) : Int) 0 0 [] = some ((at_ + 1 : Nat) : Int) := fun j S => rfl
                have h2 := this K (impl_colAfter.rec k D)
                rw [← hK] at h2
                exact h2
              · rw [hl.2]; rfl
            · have e1 : (!tyOk c.2.1 || c.2.2.2.1 != 0) = true := by
                cases ht : tyOk c.2.1 with
                | false => rfl
                | true => simp only [Bool.not_true, Bool.false_or]; exact bneT fun h => hl ⟨ht, h⟩
              have hok : colOk c = false := by
                rw [eco']
                cases ht : tyOk c.2.1 with
                | false => rfl
                | true => simp only [Bool.true_and]; exact beqF fun h => hl ⟨ht, h⟩
              simp only [e1, hok, cond_true, Bool.not_false]
              exact ⟨_, rfl, rfl, .inl rfl⟩
        · have er : (decide (0 ≤ c.2.2.1) && decide (c.2.2.1 ≤ 2)) = false := by
            rw [Bool.eq_false_iff]; intro hh
            simp only [Bool.and_eq_true, decide_eq_true_eq] at hh
            exact hrep hh
          have hok : colOk c = false := by unfold colOk; rw [er, Bool.and_false]
          simp only [er, hok, Bool.not_false, cond_true]
          exact ⟨_, rfl, rfl, .inl rfl⟩

def WfC (c : TCol) : Prop := c.1.size ≤ 1073741824 ∧ I64 c.2.1 ∧ I64 c.2.2.1 ∧ I64 c.2.2.2.1

/-- a schema that is right -/
def IsSchema (s : List TCol) : Prop := 2 ≤ s.length ∧ s.length ≤ 20 ∧ SubC s 6 0 s.length ∧ ∃ c, s[0]? = some c ∧ c.1 = ⟨#[]⟩ ∧ c.2.2.1 = 0 ∧ c.2.1 = 7

theorem schemaOk_eq (hk : 100 ≤ k) (s : List TCol) (hn : ∀ c, c ∈ s → c.1.size < k ∧ c.1.size < 1000000000 ∧ I64 c.2.2.2.1) :
    ∃ b, spec_SchemaOk k s = some b ∧ impl_SchemaOk k s = some b ∧ (b = true → IsSchema s ∧ impl_colAfter k s 0 1 = some (s.length : Int)) := by
  unfold spec_SchemaOk impl_SchemaOk
  simp only [l1In_eq, within_eq, Option.bind_some]
  by_cases hin : 2 ≤ s.length ∧ s.length ≤ 20
  · have c1 : (decide ((2 : Int) ≤ (s.length : Int)) && decide ((s.length : Int) ≤ 20)) = true := by simp; omega
    obtain ⟨n, hn1, hn2⟩ := rdL_some (xs := s) (i := 0) (by omega) (by omega)
    have hn2 : s[0]? = some n := hn2
    simp only [c1, cond_true, Bool.not_true, cond_false, hn1, Option.bind_some, cst]
    by_cases hr : n.1 = ⟨#[]⟩ ∧ n.2.2.1 = 0 ∧ n.2.1 = 7
    · have e0 : eqS n.1 ⟨#[]⟩ = true := by rw [eqS_iff]; exact decide_eq_true hr.1
      simp only [bneF hr.2.2, bneF hr.2.1, e0, cond_false, Option.bind_some, Bool.or_self, Bool.not_true]
      obtain ⟨v, s1, s2, s4⟩ := schk k hk s hin.2 hn (fun c hc => by rw [hn2] at hc; cases hc; exact hr) 6 k 1 0 (by omega) (by omega)
      have s1 : spec_l5Check k s 0 1 = some v := s1
      have s2 : impl_colAfter k s 0 1 = some v := s2
      simp only [s1, s2, Option.bind_some]
      refine ⟨_, rfl, rfl, fun hb => ?_⟩
      have hv : v = (s.length : Int) := by simpa using hb
      refine ⟨⟨hin.1, hin.2, ?_, n, hn2, hr⟩, by rw [hv]⟩
      rcases s4 with h | ⟨nx, h1, h2, _⟩
      · omega
      · have : nx = s.length := by omega
        rw [← this]; exact h2
    · -- the root is wrong
      have hs : spec_l5Check k s 0 1 = some (-1) := by
        obtain ⟨K, rfl⟩ : ∃ j, k = j + 1 := ⟨k - 1, by omega⟩
        show spec_l5Check.b (K + 1) (spec_l5Check.rec (K + 1) K) s 0 1 = _
        unfold spec_l5Check.b
        have e1 : (cond ((0 : Int) == 0) (some ((!eqS n.1 ⟨#[]⟩ || n.2.2.1 != 0) || n.2.1 != 7)) (some false) : Option Bool) = some true := by
          show some _ = _
          congr 1
          cases he : eqS n.1 ⟨#[]⟩ with
          | false => rfl
          | true =>
            rw [eqS_iff] at he
            have he := of_decide_eq_true he
            simp only [Bool.not_true, Bool.false_or, Bool.or_eq_true, bne_iff_ne]
            exact Classical.byContradiction fun hh => hr ⟨he, Classical.byContradiction fun h => hh (.inl h), Classical.byContradiction fun h => hh (.inr h)⟩
        simp only [decide_eq_false (show ¬ (0 : Int) ≥ (s.length : Int) by omega), cst, Option.bind_some, show decide ((1 : Int) > 6) = false from rfl, Bool.or_self, cond_false, hn1, e1, Bool.true_or, cond_true]
      refine ⟨false, ?_, ?_, fun h => by cases h⟩
      · simp only [hs, Option.bind_some]
        rw [beqF (by omega)]
      · by_cases h7 : n.2.1 = 7
        · by_cases h0 : n.2.2.1 = 0
          · have he : eqS n.1 ⟨#[]⟩ = false := by
              rw [eqS_iff]; exact decide_eq_false fun h => hr ⟨h, h0, h7⟩
            simp only [bneF h7, bneF h0, he, Option.bind_some, cond_false, Bool.or_self, Bool.not_false, Bool.false_or, cond_true]
          · simp only [bneF h7, bneT h0, Option.bind_some, cond_false, Bool.false_or, cond_true, Bool.true_or]
        · simp only [bneT h7, Option.bind_some, cond_true, Bool.true_or]
  · have c1 : (decide ((2 : Int) ≤ (s.length : Int)) && decide ((s.length : Int) ≤ 20)) = false := by
      rw [Bool.eq_false_iff]; intro h
      simp only [Bool.and_eq_true, decide_eq_true_eq] at h
      omega
    simp only [c1, Bool.not_false, cond_true, cond_false, Option.bind_some]
    exact ⟨false, rfl, rfl, fun h => by cases h⟩
end Go.Law
end

section
/- Trees: which are right, by both; and a right one is read from its bytes as it was. -/
set_option linter.unusedVariables false
set_option linter.unusedSimpArgs false
namespace Go.Law
open Go.Am Go.Fn

def isItem (t : Int) : Bool := t == 5 || t == 6 || t == 8 || t == 9 || t == 12
def isKind (t : Int) : Bool := t == 1 || t == 2 || isItem t

theorem isType_eq (k : Nat) (t : Int) (b : Bool) : impl_isType k t b = some (isItem t || ((t == 1 || t == 2) && !b)) := by
  unfold impl_isType impl_isType.c4 impl_isType.c10 isItem
  by_cases h1 : t = 1
  · subst h1; simp
  by_cases h2 : t = 2
  · subst h2; simp
  by_cases h5 : t = 5
  · subst h5; simp
  by_cases h6 : t = 6
  · subst h6; simp
  by_cases h8 : t = 8
  · subst h8; simp
  by_cases h9 : t = 9
  · subst h9; simp
  by_cases h12 : t = 12
  · subst h12; simp
  simp [beqF h1, beqF h2, beqF h5, beqF h6, beqF h8, beqF h9, beqF h12, h1, h2, h5, h6, h8, h9, h12]

theorem l4Kind_eq (k : Nat) (t : Int) : spec_l4Kind k t = some (isKind t) := by
  unfold spec_l4Kind spec_l4Kind.c9 isKind isItem
  by_cases h1 : t = 1
  · subst h1; simp
  by_cases h2 : t = 2
  · subst h2; simp
  by_cases h5 : t = 5
  · subst h5; simp
  by_cases h6 : t = 6
  · subst h6; simp
  by_cases h8 : t = 8
  · subst h8; simp
  by_cases h9 : t = 9
  · subst h9; simp
  by_cases h12 : t = 12
  · subst h12; simp
  simp [beqF h1, beqF h2, beqF h5, beqF h6, beqF h8, beqF h9, beqF h12, h1, h2, h5, h6, h8, h9, h12]

theorem l4Item_eq (k : Nat) (t : Int) : spec_l4Item k t = some (isItem t) := by
  unfold spec_l4Item
  rw [l4Kind_eq]
  simp only [Option.bind_some, csf]
  congr 1
  unfold isKind
  by_cases h1 : t = 1
  · subst h1; rfl
  by_cases h2 : t = 2
  · subst h2; rfl
  simp [beqF h1, beqF h2, bneT h1, bneT h2]

/-- what a node has by its type is as told, but its parts -/
def nok (n : TNode) : Bool :=
  if n.1 = 5 then (decide (-2147483648 ≤ n.2.2.1) && decide (n.2.2.1 ≤ 2147483647)) && eqS n.2.2.2.1 ⟨#[]⟩ && n.2.2.2.2.1 == 0
  else if n.1 = 6 then eqS n.2.2.2.1 ⟨#[]⟩ && n.2.2.2.2.1 == 0
  else if n.1 = 8 then n.2.2.1 == 0 && decide ((n.2.2.2.1.size : Int) ≤ 300) && n.2.2.2.2.1 == 0
  else if n.1 = 9 then eqS n.2.2.2.1 ⟨#[]⟩ && decide (n.2.2.2.2.1 ≥ 0) && ((n.2.2.2.2.1 == 0 && n.2.2.1 == 0) || (decide (n.2.2.2.2.1 > 0) && isItem n.2.2.1))
  else if n.1 = 12 then n.2.2.1 == 0 && eqS n.2.2.2.1 ⟨#[]⟩ && decide (n.2.2.2.2.1 ≥ 0)
  else (n.1 == 1 || n.1 == 2) && n.2.2.1 == 0 && eqS n.2.2.2.1 ⟨#[]⟩ && n.2.2.2.2.1 == 0

theorem nodeOk_eq (k : Nat) (n : TNode) : impl_nodeOk k n = some (nok n) := by
  unfold impl_nodeOk impl_isInt32 nok
  simp only [within_eq, isType_eq, Option.bind_some, csf, cst]
  by_cases h5 : n.1 = 5
  · simp [h5]
  by_cases h6 : n.1 = 6
  · simp [h6]
  by_cases h8 : n.1 = 8
  · simp [h8]
  by_cases h9 : n.1 = 9
  · simp [h9]
  by_cases h12 : n.1 = 12
  · simp [h12]
  simp [beqF h5, beqF h6, beqF h8, beqF h9, beqF h12, h5, h6, h8, h9, h12, isItem]

theorem plain_eq (k : Nat) (n : TNode) : spec_l4Plain k n = some (nok n) := by
  unfold spec_l4Plain spec_l4Plain.c4 spec_l4Int nok
  simp only [l1In_eq, l4Item_eq, Option.bind_some, csf, cst]
  by_cases h1 : n.1 = 1
  · simp [h1]
  by_cases h2 : n.1 = 2
  · simp [h2]
  by_cases h5 : n.1 = 5
  · simp [h5]
  by_cases h6 : n.1 = 6
  · simp [h6]
  by_cases h8 : n.1 = 8
  · simp [h8]
  by_cases h9 : n.1 = 9
  · simp [h9]
  by_cases h12 : n.1 = 12
  · simp [h12]
  simp [beqF h1, beqF h2, beqF h5, beqF h6, beqF h8, beqF h9, beqF h12, h1, h2, h5, h6, h8, h9, h12]

/-! ### which lists are trees -/
/-- the parts of a node, where S tells the parts' own extent -/
def PartsR (S : Nat → Nat → Prop) (l : List TNode) (n : TNode) : Nat → Nat → Int → Nat → Prop
  | 0, pos, _, nx => pos = nx
  | c + 1, pos, last, nx => ∃ p mid, l[pos]? = some p ∧ (n.1 = 9 → p.1 = n.2.2.1 ∧ p.2.1 = 0) ∧ (n.1 = 12 → last + 1 ≤ p.2.1 ∧ p.2.1 ≤ 1000) ∧ S pos mid ∧ PartsR S l n c mid p.2.1 nx

/-- the node at a place, with its parts, ends at another; 'af' tells so for all of them -/
def Sub (l : List TNode) (af : List Int) : Nat → Nat → Nat → Prop
  | 0, _, _ => False
  | d + 1, at_, nx => ∃ n, l[at_]? = some n ∧ nok n = true ∧ PartsR (Sub l af d) l n n.2.2.2.2.1.toNat (at_ + 1) 0 nx ∧ af[at_]? = some (nx : Int)

theorem PartsR_mono {S S' : Nat → Nat → Prop} {l : List TNode} {n : TNode} (hS : ∀ a b, S a b → a < b) : ∀ (c pos : Nat) (last : Int) (nx : Nat), (∀ a b, pos ≤ a → b ≤ nx → S a b → S' a b) → PartsR S l n c pos last nx → PartsR S' l n c pos last nx ∧ pos ≤ nx
  | 0, pos, last, nx, h, e => ⟨e, by have e : pos = nx := e; omega⟩
  | c + 1, pos, last, nx, h, ⟨p, mid, h1, h2, h3, h4, h5⟩ => by
    have hlt := hS _ _ h4
    obtain ⟨k1, k2⟩ := PartsR_mono hS c mid p.2.1 nx (fun a b ha hb => h a b (by omega) hb) h5
    exact ⟨⟨p, mid, h1, h2, h3, h _ _ (Nat.le_refl _) k2 h4, k1⟩, by omega⟩

theorem Sub_lt {l : List TNode} {af : List Int} : ∀ (d a b : Nat), Sub l af d a b → a < b
  | 0, _, _, h => h.elim
  | d + 1, a, b, ⟨n, h1, h2, h3, h4⟩ => by
    have := (PartsR_mono (S' := fun _ _ => True) (Sub_lt d) _ _ _ _ (fun _ _ _ _ _ => trivial) h3).2
    omega

theorem Sub_frame {l : List TNode} {af af' : List Int} : ∀ (d a b : Nat), (∀ i, a ≤ i → i < b → af'[i]? = af[i]?) → Sub l af d a b → Sub l af' d a b
  | 0, _, _, _, h => h.elim
  | d + 1, a, b, hf, ⟨n, h1, h2, h3, h4⟩ => by
    have hlt := Sub_lt (d + 1) a b ⟨n, h1, h2, h3, h4⟩
    refine ⟨n, h1, h2, (PartsR_mono (Sub_lt d) _ _ _ _ (fun x y hx hy hs => ?_) h3).1, by rw [hf a (Nat.le_refl _) hlt]; exact h4⟩
    exact Sub_frame d x y (fun i hi1 hi2 => hf i (by omega) (by omega)) hs

def WfN (n : TNode) : Prop := I64 n.1 ∧ I64 n.2.1 ∧ I64 n.2.2.1 ∧ I64 n.2.2.2.2.1 ∧ n.2.2.2.1.size ≤ 1073741824

theorem checkLoop (k : Nat) (l : List TNode) (hl : l.length ≤ 1500) (d D deep : Nat) (hdeep : deep ≤ 12)
    (ih : ∀ (at_ : Nat) (af : List Int), af.length = l.length →
      ∃ v af', spec_l4Check.rec k D l (at_ : Int) ((deep + 1 : Nat) : Int) = some v ∧ impl_tree_measure.rec k D (at_ : Int) ((deep + 1 : Nat) : Int) (true, (l, (), ())) af = some (v, ((l, (), ()), af')) ∧ af'.length = l.length ∧
        (v = -1 ∨ ∃ nx : Nat, v = nx ∧ Sub l af' d at_ nx ∧ nx ≤ l.length ∧ ∀ i, (i < at_ ∨ nx ≤ i) → af'[i]? = af[i]?))
    (at_ : Nat) (hat : at_ < l.length) (n : TNode) (M : Int) (hM : n.2.2.2.2.1 = M) (hM1 : M < 9223372036854775808) : ∀ (f pos : Nat) (last i : Int) (af : List Int), l.length - pos < f → at_ < pos → 0 ≤ i → i ≤ M → pos ≤ l.length →
      (n.1 = 12 → 0 ≤ last ∧ last ≤ 1000) → af.length = l.length →
      ∃ v af', spec_l4Check.l7 k (spec_l4Check.rec k D) f l (deep : Int) (pos : Int) last i n = some v ∧ impl_tree_measure.l7 k (impl_tree_measure.rec k D) f (at_ : Int) (deep : Int) (pos : Int) last M i (l, (), ()) af n = some (v, ((l, (), ()), af')) ∧ af'.length = l.length ∧
        (v = -1 ∨ ∃ nx : Nat, v = nx ∧ PartsR (Sub l af' d) l n (M - i).toNat pos last nx ∧ nx ≤ l.length ∧ af'[at_]? = some (nx : Int) ∧ ∀ j, (j < pos ∨ nx ≤ j) → j ≠ at_ → af'[j]? = af[j]?) := by
  intro f
  induction f with
  | zero => intro pos last i af h; omega
  | succ f ihf =>
    intro pos last i af hf hpos hi0 hiM hpl hlast haf
    simp only [spec_l4Check.l7, impl_tree_measure.l7, hM]
    by_cases hlt : i < M
    · simp only [decide_eq_true hlt, cond_true]
      by_cases hpe : (pos : Int) ≥ (l.length : Int)
      · simp only [decide_eq_true hpe, cond_true]
        exact ⟨_, _, rfl, rfl, haf, .inl rfl⟩
      · simp only [decide_eq_false hpe, cond_false]
        obtain ⟨p, hp1, hp2⟩ := rdL_some (xs := l) (i := (pos : Int)) (by omega) (by omega)
        simp only [hp1, Option.bind_some, csf, cst, within_eq]
        have hp2 : l[pos]? = some p := by simpa using hp2
        -- the first condition
        by_cases hc1 : n.1 = 9 ∧ (p.1 ≠ n.2.2.1 ∨ p.2.1 ≠ 0)
        · have e1 : (n.1 == 9 && (p.1 != n.2.2.1 || p.2.1 != 0)) = true := by
            simp only [Bool.and_eq_true, Bool.or_eq_true, beq_iff_eq, bne_iff_ne]; exact hc1
          simp only [e1, Bool.true_or, cond_true]
          exact ⟨_, _, rfl, rfl, haf, .inl rfl⟩
        · have e1 : (n.1 == 9 && (p.1 != n.2.2.1 || p.2.1 != 0)) = false := by
            rw [Bool.eq_false_iff]
            intro h
            simp only [Bool.and_eq_true, Bool.or_eq_true, beq_iff_eq, bne_iff_ne] at h
            exact hc1 h
          simp only [e1, Bool.false_or, cond_false]
          by_cases hc2 : n.1 = 12 ∧ ¬ (last + 1 ≤ p.2.1 ∧ p.2.1 ≤ 1000)
          · have hw : IntKind.wrap .i64 (last + 1) = last + 1 := by
              have := hlast hc2.1
              exact w64 (by omega) (by omega)
            have e2 : (n.1 == 12 && (decide (p.2.1 ≤ last) || decide (p.2.1 > 1000))) = true := by
              simp only [Bool.and_eq_true, Bool.or_eq_true, beq_iff_eq, decide_eq_true_eq]
              exact ⟨hc2.1, by have := hc2.2; omega⟩
            have e3 : (cond (n.1 == 12) (some (!(decide (last + 1 ≤ p.2.1) && decide (p.2.1 ≤ 1000)))) (some false) : Option Bool) = some true := by
              rw [beqT hc2.1, cond_true]
              congr 1
              have := hc2.2
              simp only [Bool.not_eq_true', Bool.and_eq_false_iff, decide_eq_false_iff_not]
              omega
            rw [hw]
            simp only [e2, e3, Option.bind_some, cond_true]
            rw [csf] at e3
            simp only [Option.some.injEq] at e3
            simp only [e3, cond_true]
            exact ⟨_, _, rfl, rfl, haf, .inl rfl⟩
          · have e2 : (n.1 == 12 && (decide (p.2.1 ≤ last) || decide (p.2.1 > 1000))) = false := by
              rw [Bool.eq_false_iff]
              intro h
              simp only [Bool.and_eq_true, Bool.or_eq_true, beq_iff_eq, decide_eq_true_eq] at h
              exact hc2 ⟨h.1, by omega⟩
            have e3 : (n.1 == 12 && !(decide (IntKind.wrap .i64 (last + 1) ≤ p.2.1) && decide (p.2.1 ≤ 1000))) = false := by
              rw [Bool.eq_false_iff]
              intro h
              simp only [Bool.and_eq_true, beq_iff_eq, Bool.not_eq_true', Bool.and_eq_false_iff, decide_eq_false_iff_not] at h
              have hl := hlast h.1
              rw [w64 (by omega) (by omega)] at h
              exact hc2 ⟨h.1, by omega⟩
            simp only [e2, e3, cond_false]
            have hd1 : IntKind.wrap .i64 ((deep : Int) + 1) = ((deep + 1 : Nat) : Int) := by rw [w64 (by omega) (by omega)]; omega
            rw [hd1]
            obtain ⟨v, af1, s1, s2, s3, s4⟩ := ih pos af haf
            simp only [s1, s2, Option.bind_some]
            rcases s4 with rfl | ⟨mid, rfl, s5, s6, s7⟩
            · simp only [show decide ((-1 : Int) < 0) = true from rfl, cond_true]
              exact ⟨_, _, rfl, rfl, s3, .inl rfl⟩
            · have hml := Sub_lt _ _ _ s5
              have hm0 : decide ((mid : Int) < 0) = false := decide_eq_false (by omega)
              have hi1 : IntKind.wrap .i64 (i + 1) = i + 1 := w64 (by omega) (by omega)
              simp only [hm0, cond_false, hi1]
              obtain ⟨w, af2, t1, t2, t3, t4⟩ := ihf mid p.2.1 (i + 1) af1 (by omega) (by omega) (by omega) (by omega) s6 (fun h12 => by
                have h := fun hh => hc2 ⟨h12, hh⟩
                have hl := hlast h12
                omega) s3
              refine ⟨w, af2, t1, t2, t3, ?_⟩
              rcases t4 with h | ⟨nx, h1, h2, h3, h4, h5⟩
              · exact .inl h
              · have hmn := (PartsR_mono (S' := fun _ _ => True) (Sub_lt d) _ _ _ _ (fun _ _ _ _ _ => trivial) h2).2
                refine .inr ⟨nx, h1, ?_, h3, h4, fun j hj hja => ?_⟩
                · rw [show (M - i).toNat = (M - (i + 1)).toNat + 1 by omega]
                  refine ⟨p, mid, hp2, fun h9 => ?_, fun h12 => ?_, Sub_frame d pos mid (fun j hj1 hj2 => h5 j (.inl hj2) (by omega)) s5, h2⟩
                  · constructor
                    · exact Classical.byContradiction fun hh => hc1 ⟨h9, .inl hh⟩
                    · exact Classical.byContradiction fun hh => hc1 ⟨h9, .inr hh⟩
                  · exact Classical.byContradiction fun hh => hc2 ⟨h12, hh⟩
                · rw [h5 j (by omega) hja, s7 j (by omega)]
    · simp only [decide_eq_false hlt, cond_false]
      obtain ⟨y, hy1, hy2⟩ := rdL_some (xs := af) (i := (at_ : Int)) (by omega) (by omega)
      simp only [hy1, Option.bind_some]
      refine ⟨_, _, rfl, rfl, by simpa using haf, .inr ⟨pos, rfl, ?_, hpl, ?_, fun j _ hj => ?_⟩⟩
      · rw [show (M - i).toNat = 0 by omega]
        rfl
      · simp [List.getElem?_set, haf, hat]
      · simp [List.getElem?_set]
        intro h; omega

theorem check (k : Nat) (hk : 2000 ≤ k) (l : List TNode) (hl : l.length ≤ 1500) (hw : ∀ n, n ∈ l → WfN n) : ∀ (d D deep at_ : Nat) (af : List Int), d + deep = 13 → d < D → af.length = l.length →
      ∃ v af', spec_l4Check.rec k D l (at_ : Int) (deep : Int) = some v ∧ impl_tree_measure.rec k D (at_ : Int) (deep : Int) (true, (l, (), ())) af = some (v, ((l, (), ()), af')) ∧ af'.length = l.length ∧
        (v = -1 ∨ ∃ nx : Nat, v = nx ∧ Sub l af' d at_ nx ∧ nx ≤ l.length ∧ ∀ i, (i < at_ ∨ nx ≤ i) → af'[i]? = af[i]?) := by
  intro d
  induction d with
  | zero =>
    intro D deep at_ af hd hD haf
    obtain ⟨D, rfl⟩ : ∃ m, D = m + 1 := ⟨D - 1, by omega⟩
    obtain rfl : deep = 13 := by omega
    simp only [spec_l4Check.rec, impl_tree_measure.rec, spec_l4Check.b, impl_tree_measure.b, cst, Option.bind_some, show decide (((13 : Nat) : Int) > 12) = true from rfl, Bool.or_true, cond_true]
    exact ⟨_, _, rfl, rfl, haf, .inl rfl⟩
  | succ d ih =>
    intro D deep at_ af hd hD haf
    obtain ⟨D, rfl⟩ : ∃ m, D = m + 1 := ⟨D - 1, by omega⟩
    simp only [spec_l4Check.rec, impl_tree_measure.rec, spec_l4Check.b, impl_tree_measure.b, cst, Option.bind_some, cond_true]
    by_cases hat : (at_ : Int) ≥ (l.length : Int)
    · simp only [decide_eq_true hat, Bool.true_or, cond_true, Option.bind_some]
      exact ⟨_, _, rfl, rfl, haf, .inl rfl⟩
    · obtain ⟨n, hn1, hn2⟩ := rdL_some (xs := l) (i := (at_ : Int)) (by omega) (by omega)
      have hn2 : l[at_]? = some n := by simpa using hn2
      have hdd : decide ((deep : Int) > 12) = false := decide_eq_false (by omega)
      simp only [decide_eq_false hat, hdd, Bool.false_or, cond_false, hn1, Option.bind_some, plain_eq, nodeOk_eq]
      cases hok : nok n with
      | false =>
        simp only [Bool.not_false, cond_true]
        exact ⟨_, _, rfl, rfl, haf, .inl rfl⟩
      | true =>
        simp only [Bool.not_true, cond_false]
        have hwn := hw n (List.mem_of_getElem? hn2)
        have hM0 : 0 ≤ n.2.2.2.2.1 := by
          unfold nok at hok
          repeat' split at hok
          all_goals simp only [Bool.and_eq_true, beq_iff_eq, decide_eq_true_eq, Bool.or_eq_true] at hok
          all_goals omega
        have ha1 : IntKind.wrap .i64 ((at_ : Int) + 1) = ((at_ + 1 : Nat) : Int) := by rw [w64 (by omega) (by omega)]; omega
        rw [ha1]
        obtain ⟨v, af', t1, t2, t3, t4⟩ := checkLoop k l hl d D deep (by omega) (fun a af haf => ih D (deep + 1) a af (by omega) (by omega) haf) at_ (by omega) n n.2.2.2.2.1 rfl hwn.2.2.2.1.2 k (at_ + 1) 0 0 af (by omega) (by omega) (by omega) hM0 (by omega) (fun _ => by omega) haf
        refine ⟨v, af', t1, t2, t3, ?_⟩
        rcases t4 with h | ⟨nx, h1, h2, h3, h4, h5⟩
        · exact .inl h
        · refine .inr ⟨nx, h1, ⟨n, hn2, hok, by simpa using h2, h4⟩, h3, fun i hi => ?_⟩
          have := (PartsR_mono (S' := fun _ _ => True) (Sub_lt d) _ _ _ _ (fun _ _ _ _ _ => trivial) h2).2
          exact h5 i (by omega) (by omega)
end Go.Law
end

section
/- Which lists are trees: the program's treeOf and the reference's TreeOk. -/
set_option linter.unusedVariables false
set_option linter.unusedSimpArgs false
namespace Go.Law
open Go.Am Go.Fn
variable (k : Nat)

theorem treeOf_eq (hk : 2000 ≤ k) (l : List TNode) (hw : ∀ n, n ∈ l → WfN n) (hlen : l.length < 4294967296) :
    ∃ b : Bool, spec_TreeOk k l = some b ∧ ((b = false ∧ ∃ x, impl_treeOf k l = some (((), false), x)) ∨
      (b = true ∧ l.length ≤ 1500 ∧ 1 ≤ l.length ∧ ∃ af, impl_treeOf k l = some (((), true), ((true, (l, (), ())), af)) ∧ Sub l af 12 0 l.length ∧ ∃ n, l[0]? = some n ∧ n.1 = 12 ∧ n.2.1 = 0)) := by
  unfold spec_TreeOk impl_treeOf
  simp only [within_eq, l1In_eq, Option.bind_some]
  by_cases hin : 1 ≤ l.length ∧ l.length ≤ 1500
  · have c1 : (decide ((1 : Int) ≤ (l.length : Int)) && decide ((l.length : Int) ≤ 1500)) = true := by simp; omega
    obtain ⟨n, hn1, hn2⟩ := rdL_some (xs := l) (i := 0) (by omega) (by omega)
    have hn2 : l[0]? = some n := hn2
    simp only [c1, Bool.not_true, cond_false, hn1, Option.bind_some, okLen_ok (show (0 : Int) ≤ (l.length : Int) by omega) (by omega), cond_true, cst, Int.toNat_natCast]
    by_cases hr : n.1 = 12 ∧ n.2.1 = 0
    · have c2 : (n.1 != 12 || n.2.1 != 0) = false := by simp [hr.1, hr.2]
      simp only [bneF hr.1, bneF hr.2, cond_false, Option.bind_some, Bool.or_self]
      obtain ⟨v, af', s1, s2, s3, s4⟩ := check k hk l hin.2 hw 12 k 1 0 (List.replicate l.length 0) (by omega) (by omega) (by simp)
      have s1 : spec_l4Check k l 0 1 = some v := s1
      have s2 : impl_tree_measure k 0 1 (true, (l, (), ())) (List.replicate l.length 0) = some (v, ((l, (), ()), af')) := s2
      simp only [s1, s2, Option.bind_some]
      by_cases hv : v = (l.length : Int)
      · refine ⟨true, by rw [beqT hv], .inr ⟨rfl, hin.2, hin.1, af', by simp only [bneF hv, cond_false], ?_, n, hn2, hr⟩⟩
        rcases s4 with h | ⟨nx, h1, h2, _⟩
        · omega
        · have : nx = l.length := by omega
          rw [← this]; exact h2
      · exact ⟨false, by rw [beqF hv], .inl ⟨rfl, ((false, ([], (), ())), []), by simp only [bneT hv, cond_true]⟩⟩
    · have c2 : (n.1 != 12 || n.2.1 != 0) = true := by
        simp only [Bool.or_eq_true, bne_iff_ne]
        exact Classical.byContradiction fun hh => hr ⟨Classical.byContradiction fun h => hh (.inl h), Classical.byContradiction fun h => hh (.inr h)⟩
      refine ⟨false, ?_, .inl ⟨rfl, ((false, ([], (), ())), []), by simp only [c2, cond_true]⟩⟩
      by_cases h12 : n.1 = 12
      · have h0 : ¬ n.2.1 = 0 := fun h => hr ⟨h12, h⟩
        simp only [bneF h12, cond_false, bneT h0, Option.bind_some, cond_true, Bool.false_or]
      · simp only [bneT h12, Option.bind_some, cond_true, Bool.true_or]
  · have c1 : (decide ((1 : Int) ≤ (l.length : Int)) && decide ((l.length : Int) ≤ 1500)) = false := by
      rw [Bool.eq_false_iff]; intro h
      simp only [Bool.and_eq_true, decide_eq_true_eq] at h
      omega
    simp only [c1, Bool.not_false, cond_true, Option.bind_some]
    exact ⟨false, rfl, .inl ⟨rfl, _, rfl⟩⟩

end Go.Law
end

section
/- A schema out of a tree, by both. -/
set_option linter.unusedVariables false
set_option linter.unusedSimpArgs false
namespace Go.Law
open Go.Am Go.Fn
variable (k : Nat)

theorem PartsR_cnt {S : Nat → Nat → Prop} {l : List TNode} {n : TNode} (hS : ∀ a b, S a b → a < b) : ∀ (c pos : Nat) (last : Int) (nx : Nat), PartsR S l n c pos last nx → pos + c ≤ nx
  | 0, pos, last, nx, e => by have e : pos = nx := e; omega
  | c + 1, pos, last, nx, ⟨p, mid, _, _, _, h4, h5⟩ => by
    have := hS _ _ h4
    have := PartsR_cnt hS c mid p.2.1 nx h5
    omega

theorem Sub_all {l : List TNode} {af : List Int} : ∀ (d a b : Nat), Sub l af d a b → ∀ i, a ≤ i → i < b → ∃ d' nx, d' ≤ d ∧ Sub l af d' i nx ∧ nx ≤ b
  | 0, _, _, h => h.elim
  | d + 1, a, b, ⟨n, h1, h2, h3, h4⟩ => by
    have key : ∀ (c pos : Nat) (last : Int) (nx : Nat), PartsR (Sub l af d) l n c pos last nx → ∀ i, pos ≤ i → i < nx → ∃ d' x, d' ≤ d ∧ Sub l af d' i x ∧ x ≤ nx := by
      intro c
      induction c with
      | zero => intro pos last nx e i hi1 hi2; have e : pos = nx := e; omega
      | succ c ih =>
        intro pos last nx ⟨p, mid, _, _, _, hs, hp⟩ i hi1 hi2
        rcases Nat.lt_or_ge i mid with h | h
        · obtain ⟨d', x, q1, q2, q3⟩ := Sub_all d pos mid hs i hi1 h
          have := PartsR_cnt (Sub_lt d) _ _ _ _ hp
          exact ⟨d', x, q1, q2, by omega⟩
        · exact ih mid _ nx hp i h hi2
    intro i hi1 hi2
    rcases Nat.lt_or_ge a i with h | h
    · obtain ⟨d', x, q1, q2, q3⟩ := key _ _ _ _ h3 i (by omega) hi2
      exact ⟨d', x, by omega, q2, q3⟩
    · obtain rfl : i = a := by omega
      exact ⟨d + 1, b, Nat.le_refl _, ⟨n, h1, h2, h3, h4⟩, Nat.le_refl _⟩

theorem Sub_node {l : List TNode} {af : List Int} {d a b : Nat} (h : Sub l af d a b) : ∃ n, l[a]? = some n ∧ nok n = true ∧ af[a]? = some (b : Int) := by
  cases d with
  | zero => exact h.elim
  | succ d => obtain ⟨n, h1, h2, h3, h4⟩ := h; exact ⟨n, h1, h2, h4⟩

theorem nok_many {n : TNode} (h : nok n = true) : 0 ≤ n.2.2.2.2.1 := by
  unfold nok at h
  repeat' split at h
  all_goals simp only [Bool.and_eq_true, beq_iff_eq, decide_eq_true_eq, Bool.or_eq_true] at h
  all_goals omega

theorem after_eq (hk : 2000 ≤ k) {l : List TNode} {af : List Int} (hl : l.length ≤ 1500) : ∀ (d D at_ nx : Nat), d ≤ D → Sub l af d at_ nx → nx ≤ l.length → spec_l4After.rec k D l (at_ : Int) = some (nx : Int) := by
  intro d
  induction d with
  | zero => intro D at_ nx _ h; exact h.elim
  | succ d ih =>
    intro D at_ nx hD ⟨n, h1, h2, h3, h4⟩ hnx
    obtain ⟨D, rfl⟩ : ∃ j, D = j + 1 := ⟨D - 1, by omega⟩
    have hm0 := nok_many h2
    have hat : at_ < l.length := (List.getElem?_eq_some_iff.1 h1).1
    have loop : ∀ (c pos : Nat) (last : Int) (f : Nat) (i : Int), PartsR (Sub l af d) l n c pos last nx → c < f → n.2.2.2.2.1 - i = c → 0 ≤ i → n.2.2.2.2.1 ≤ 2000 → spec_l4After.l3 k (spec_l4After.rec k D) f l (at_ : Int) (pos : Int) i = some (nx : Int) := by
      intro c
      induction c with
      | zero =>
        intro pos last f i hp hf hi hi0 hi2
        obtain ⟨f, rfl⟩ : ∃ j, f = j + 1 := ⟨f - 1, by omega⟩
        obtain rfl : pos = nx := hp
        simp only [spec_l4After.l3, rdL_nat, h1, Option.bind_some, decide_eq_false (show ¬ i < n.2.2.2.2.1 by omega), cond_false]
      | succ c ihc =>
        intro pos last f i ⟨p, mid, _, _, _, hs, hp⟩ hf hi hi0 hi2
        obtain ⟨f, rfl⟩ : ∃ j, f = j + 1 := ⟨f - 1, by omega⟩
        have hc := PartsR_cnt (Sub_lt d) _ _ _ _ hp
        simp only [spec_l4After.l3, rdL_nat, h1, Option.bind_some, decide_eq_true (show i < n.2.2.2.2.1 by omega), cond_true, ih D pos mid (by omega) hs (by omega)]
        have hlt := Sub_lt _ _ _ hs
        rw [w64 (by omega) (by omega)]
        exact ihc mid _ f (i + 1) hp (by omega) (by omega) (by omega) (by omega)
    have hc := PartsR_cnt (Sub_lt d) _ _ _ _ h3
    simp only [spec_l4After.rec, spec_l4After.b]
    rw [w64 (by omega) (by omega), show ((at_ : Int) + 1) = ((at_ + 1 : Nat) : Int) by omega]
    exact loop _ _ 0 k 0 h3 (by omega) (by omega) (by omega) (by omega)

section
variable {l : List TNode} {af : List Int}

/-- the tree's facts -/
structure TreeFacts (l : List TNode) (af : List Int) : Prop where
  len : l.length ≤ 1500
  pos : 1 ≤ l.length
  sub : Sub l af 12 0 l.length
  wf : ∀ n, n ∈ l → WfN n

theorem TreeFacts.at (h : TreeFacts l af) {i : Nat} (hi : i < l.length) : ∃ d nx, d ≤ 12 ∧ Sub l af d i nx ∧ nx ≤ l.length :=
  Sub_all 12 0 l.length h.sub i (Nat.zero_le _) hi

theorem TreeFacts.after (hk : 2000 ≤ k) (h : TreeFacts l af) {d i nx : Nat} (hd : d ≤ 12) (hs : Sub l af d i nx) (hn : nx ≤ l.length) : spec_l4After k l (i : Int) = some (nx : Int) :=
  after_eq k hk h.len d k i nx (by omega) hs hn

abbrev tB (l : List TNode) : TTreeB := (l, (), ())

theorem findLoop (hk : 2000 ≤ k) (h : TreeFacts l af) (d : Nat) (hd : d ≤ 12) (n : TNode) (at_ : Nat) (hn : l[at_]? = some n) (id : Int) (nx : Nat) (hnx : nx ≤ l.length) : ∀ (c pos : Nat) (last : Int) (f : Nat) (i : Int), PartsR (Sub l af d) l n c pos last nx → c < f → n.2.2.2.2.1 - i = c → 0 ≤ i → n.2.2.2.2.1 ≤ 2000 →
    ∃ v, spec_l4Find.l5 k f l (at_ : Int) id (pos : Int) i = some v ∧ impl_tree_find.l5 k f id (pos : Int) n.2.2.2.2.1 i (tB l) af = some (v, (tB l, af)) ∧ (v = -1 ∨ ∃ q : Nat, v = q ∧ pos ≤ q ∧ q < nx ∧ ∃ mid, Sub l af d q mid ∧ mid ≤ nx) := by
  intro c
  induction c with
  | zero =>
    intro pos last f i hp hf hi hi0 hi2
    obtain ⟨f, rfl⟩ : ∃ j, f = j + 1 := ⟨f - 1, by omega⟩
    simp only [spec_l4Find.l5, impl_tree_find.l5, rdL_nat, hn, Option.bind_some, decide_eq_false (show ¬ i < n.2.2.2.2.1 by omega), cond_false]
    exact ⟨_, rfl, rfl, .inl rfl⟩
  | succ c ihc =>
    intro pos last f i ⟨p, mid, hp1, _, _, hs, hp⟩ hf hi hi0 hi2
    obtain ⟨f, rfl⟩ : ∃ j, f = j + 1 := ⟨f - 1, by omega⟩
    have hc := PartsR_cnt (Sub_lt d) _ _ _ _ hp
    have hlt := Sub_lt _ _ _ hs
    obtain ⟨_, _, _, haf⟩ := Sub_node hs
    simp only [spec_l4Find.l5, impl_tree_find.l5, rdL_nat, hn, hp1, haf, Option.bind_some, decide_eq_true (show i < n.2.2.2.2.1 by omega), cond_true]
    by_cases hid : p.2.1 = id
    · simp only [beqT hid, cond_true]
      exact ⟨_, rfl, rfl, .inr ⟨pos, rfl, Nat.le_refl _, by omega, mid, hs, by omega⟩⟩
    · simp only [beqF hid, cond_false, h.after k hk hd hs (by omega), Option.bind_some]
      rw [w64 (by omega) (by omega)]
      obtain ⟨v, g1, g2, g3⟩ := ihc mid _ f (i + 1) hp (by omega) (by omega) (by omega) (by omega)
      refine ⟨v, g1, g2, ?_⟩
      rcases g3 with g | ⟨q, q1, q2, q3, q4⟩
      · exact .inl g
      · exact .inr ⟨q, q1, by omega, q3, q4⟩

theorem find_eq (hk : 2000 ≤ k) (h : TreeFacts l af) (at_ : Nat) (hat : at_ < l.length) (id : Int) :
    ∃ v, spec_l4Find k l (at_ : Int) id = some v ∧ impl_tree_find k (at_ : Int) id (true, tB l) af = some (v, (tB l, af)) ∧ (v = -1 ∨ ∃ q : Nat, v = q ∧ at_ < q ∧ q < l.length) := by
  obtain ⟨d, nx, hd, hs, hnx⟩ := h.at hat
  have hlen := h.len
  cases d with
  | zero => exact hs.elim
  | succ d =>
    obtain ⟨n, h1, h2, h3, h4⟩ := hs
    have hm0 := nok_many h2
    have hc := PartsR_cnt (Sub_lt d) _ _ _ _ h3
    unfold spec_l4Find impl_tree_find
    have c1 : (decide ((0 : Int) ≤ (at_ : Int)) && decide ((at_ : Int) ≤ IntKind.wrap .i64 ((l.length : Int) - 1))) = true := by
      rw [w64 (by omega) (by omega)]; simp; omega
    simp only [cond_true, within_eq, c1, Option.bind_some, Bool.not_true, cond_false, rdL_nat, h1]
    by_cases h12 : n.1 = 12
    · simp only [bneF h12, cond_false]
      have ha1 : IntKind.wrap .i64 ((at_ : Int) + 1) = ((at_ + 1 : Nat) : Int) := by rw [w64 (by omega) (by omega)]; omega
      rw [ha1]
      obtain ⟨v, g1, g2, g3⟩ := findLoop k hk h d (by omega) n at_ h1 id nx hnx _ _ 0 k 0 h3 (by omega) (by omega) (by omega) (by omega)
      refine ⟨v, g1, g2, ?_⟩
      rcases g3 with g | ⟨q, q1, q2, q3, _⟩
      · exact .inl g
      · exact .inr ⟨q, q1, by omega, by omega⟩
    · simp only [bneT h12, cond_true]
      exact ⟨_, rfl, rfl, .inl rfl⟩

theorem text_eq (hk : 2000 ≤ k) (h : TreeFacts l af) (at_ : Nat) (hat : at_ < l.length) (id : Int) :
    ∃ s b n, spec_l4TextOf k l (at_ : Int) id = some (s, b) ∧ impl_tree_part k (at_ : Int) id 8 (true, tB l) af = some ((n, b), (tB l, af)) ∧ n.2.2.2.1 = s ∧ s.size ≤ 300 := by
  obtain ⟨v, g1, g2, g3⟩ := find_eq k hk h at_ hat id
  unfold spec_l4TextOf impl_tree_part
  simp only [g1, g2, Option.bind_some]
  rcases g3 with rfl | ⟨q, rfl, q1, q2⟩
  · simp only [show decide ((-1 : Int) < 0) = true from rfl, cond_true, Option.bind_some]
    exact ⟨_, _, _, rfl, rfl, rfl, by decide⟩
  · obtain ⟨d, nx, hd, hs, hnx⟩ := h.at q2
    obtain ⟨n, n1, n2, n3⟩ := Sub_node hs
    simp only [decide_eq_false (show ¬ (q : Int) < 0 by omega), cond_false, rdL_nat, n1, Option.bind_some]
    by_cases h8 : n.1 = 8
    · simp only [bneF h8, cond_false]
      refine ⟨_, _, _, rfl, rfl, rfl, ?_⟩
      unfold nok at n2
      rw [h8] at n2
      simp only [reduceIte, if_neg (show ¬ ((8 : Int) = 5) by decide), if_neg (show ¬ ((8 : Int) = 6) by decide), Bool.and_eq_true, beq_iff_eq, decide_eq_true_eq] at n2
      omega
    · simp only [bneT h8, cond_true]
      exact ⟨_, _, _, rfl, rfl, rfl, by decide⟩

theorem num_eq (hk : 2000 ≤ k) (h : TreeFacts l af) (at_ : Nat) (hat : at_ < l.length) (id : Int) :
    ∃ v b, spec_l4NumOf k l (at_ : Int) id = some (v, b) ∧ impl_tree_num k (at_ : Int) id (true, tB l) af = some ((v, b), (tB l, af)) ∧ I64 v ∧ (∃ w, spec_l4Find k l (at_ : Int) id = some w ∧ (b = true → 0 ≤ w)) := by
  obtain ⟨v, g1, g2, g3⟩ := find_eq k hk h at_ hat id
  unfold spec_l4NumOf impl_tree_num
  simp only [g1, g2, Option.bind_some]
  have z : I64 0 := ⟨by omega, by omega⟩
  rcases g3 with rfl | ⟨q, rfl, q1, q2⟩
  · simp only [show decide ((-1 : Int) < 0) = true from rfl, cond_true, Option.bind_some]
    exact ⟨_, _, rfl, rfl, z, -1, rfl, fun h => by cases h⟩
  · obtain ⟨d, nx, hd, hs, hnx⟩ := h.at q2
    obtain ⟨n, n1, n2, n3⟩ := Sub_node hs
    have hw := h.wf n (List.mem_of_getElem? n1)
    simp only [decide_eq_false (show ¬ (q : Int) < 0 by omega), cond_false, rdL_nat, n1, Option.bind_some, csf]
    by_cases hb : (n.1 != 5 && n.1 != 6) = true
    · simp only [hb, cond_true]
      exact ⟨_, _, rfl, rfl, z, q, rfl, fun h => by cases h⟩
    · simp only [Bool.eq_false_iff.2 hb, cond_false]
      exact ⟨_, _, rfl, rfl, hw.2.2.1, q, rfl, fun _ => by omega⟩

theorem col_eq (hk : 2000 ≤ k) (h : TreeFacts l af) (at_ : Nat) (hat : at_ < l.length) (root : Bool) :
    ∃ x x' b, spec_l5Col k l (at_ : Int) root = some (x', b) ∧ impl_tree_col k (at_ : Int) root (true, tB l) af = some ((x, b), (tB l, af)) ∧ (b = true → x = x') ∧ x'.1.size ≤ 300 ∧ I64 x'.2.2.2.1 := by
  obtain ⟨s4, b4, n4, t1, t2, t3, t4⟩ := text_eq k hk h at_ hat 4
  obtain ⟨v1, b1, u1, u2, u3, w1, u4, u5⟩ := num_eq k hk h at_ hat 1
  obtain ⟨v3, b3, y1, y2, y3, w3, y4, y5⟩ := num_eq k hk h at_ hat 3
  obtain ⟨v5, b5, z1, z2, z3, w5, z4, z5⟩ := num_eq k hk h at_ hat 5
  obtain ⟨f1, a1, a2, a3⟩ := find_eq k hk h at_ hat 1
  obtain ⟨f5, e1, e2, e3⟩ := find_eq k hk h at_ hat 5
  obtain rfl : f1 = w1 := by rw [a1] at u4; exact Option.some.inj u4
  obtain rfl : f5 = w5 := by rw [e1] at z4; exact Option.some.inj z4
  have z : I64 0 := ⟨by omega, by omega⟩
  -- behind the reading
  have fin : ∀ (o100 o100' : TCol) (rep : Int) (has : Bool), ∃ x x' b, spec_l5Col.c9 k l (at_ : Int) b4 b1 v5 b5 has o100 (s4, v1, rep, 0, ()) = some (x', b) ∧
      impl_tree_col.c8 k (at_ : Int) b4 has b1 v5 b5 (tB l) af o100' (s4, v1, rep, 0, ()) = some ((x, b), (tB l, af)) ∧ (b = true → x = x') ∧ x'.1.size ≤ 300 ∧ I64 x'.2.2.2.1 := by
    intro o100 o100' rep has
    unfold spec_l5Col.c9 spec_l5Col.c12 impl_tree_col.c8 impl_tree_col.c11
    simp only [a1, e1, e2, a2, Option.bind_some, csf, cst]
    by_cases h5 : f5 ≥ 0
    · have hf5 : decide (f5 < 0) = false := decide_eq_false (by omega)
      simp only [decide_eq_true h5, cond_true, hf5]
      cases b5 with
      | true =>
        cases b1 with
        | true =>
          have : ¬ f1 < 0 := by have := u5 rfl; omega
          simp only [cond_true, cond_false, Bool.not_true, Option.bind_some, decide_eq_false this]
          cases b4 <;> cases has <;> exact ⟨_, _, _, rfl, rfl, (fun h => by cases h), t4, z⟩
        | false =>
          simp only [cond_true, cond_false, Bool.not_false, Option.bind_some]
          cases b4 <;> cases has <;> cases (decide (f1 < 0)) <;> exact ⟨_, _, _, rfl, rfl, fun _ => rfl, t4, z3⟩
      | false =>
        cases b1 with
        | true =>
          simp only [cond_true, cond_false, Bool.not_true, Option.bind_some]
          cases b4 <;> cases has <;> exact ⟨_, _, _, rfl, rfl, (fun h => by cases h), t4, z⟩
        | false =>
          simp only [cond_true, cond_false, Bool.not_false, Option.bind_some]
          cases b4 <;> cases has <;> cases (decide (f1 < 0)) <;> exact ⟨_, _, _, rfl, rfl, (fun h => by cases h), t4, z3⟩
    · have hf5 : decide (f5 < 0) = true := decide_eq_true (by omega)
      have hb5 : b5 = false := by
        cases b5 with
        | false => rfl
        | true => have := z5 rfl; omega
      subst hb5
      simp only [decide_eq_false h5, cond_false, hf5]
      cases b1 with
      | true =>
        simp only [cond_true, cond_false, Bool.not_true, Option.bind_some]
        cases b4 <;> cases has <;> exact ⟨_, _, _, rfl, rfl, fun _ => rfl, t4, z⟩
      | false =>
        simp only [cond_true, cond_false, Bool.not_false, Option.bind_some]
        cases b4 <;> cases has <;> exact ⟨_, _, _, rfl, rfl, (fun h => by cases h), t4, z3⟩
  unfold spec_l5Col impl_tree_col
  simp only [t1, t2, u1, u2, y1, y2, z1, z2, Option.bind_some, t3]
  cases root with
  | true => simp only [cond_true]; exact fin _ _ 0 true
  | false => simp only [cond_false]; exact fin _ _ v3 b3

/-! ### all cols -/
def chainL (af : List Int) : Nat → Nat → List Int
  | 0, _ => []
  | c + 1, pos => (pos : Int) :: chainL af c ((af[pos]?).getD 0).toNat

theorem chainL_len : ∀ (c pos : Nat), (chainL af c pos).length = c
  | 0, _ => rfl
  | c + 1, pos => by simp [chainL, chainL_len c]

theorem partsLoop (hlen : l.length ≤ 1500) (d : Nat) (n : TNode) (nx : Nat) (hnx : nx ≤ l.length) : ∀ (c pos : Nat) (last : Int) (f : Nat) (M i : Int) (acc : List Int), PartsR (Sub l af d) l n c pos last nx → c < f → M - i = c → 0 ≤ i → M ≤ 2000 → acc.length + c ≤ 4000 →
    impl_tree_parts.l7 k f (pos : Int) M i (tB l) af acc = some (((), true), (tB l, af, acc ++ chainL af c pos)) := by
  intro c
  induction c with
  | zero =>
    intro pos last f M i acc hp hf hi hi0 hi2 ha
    obtain ⟨f, rfl⟩ : ∃ j, f = j + 1 := ⟨f - 1, by omega⟩
    simp only [impl_tree_parts.l7, decide_eq_false (show ¬ i < M by omega), cond_false, chainL, List.append_nil]
  | succ c ihc =>
    intro pos last f M i acc ⟨p, mid, hp1, _, _, hs, hp⟩ hf hi hi0 hi2 ha
    obtain ⟨f, rfl⟩ : ∃ j, f = j + 1 := ⟨f - 1, by omega⟩
    have hc := PartsR_cnt (Sub_lt d) _ _ _ _ hp
    have hlt := Sub_lt _ _ _ hs
    obtain ⟨_, _, _, haf⟩ := Sub_node hs
    simp only [impl_tree_parts.l7, decide_eq_true (show i < M by omega), cond_true, rdL_nat, haf, Option.bind_some]
    rw [lim_ok (by simp; omega), cond_true, w64 (by omega) (by omega)]
    rw [ihc mid _ f M (i + 1) _ hp (by omega) (by omega) (by omega) (by omega) (by simp; omega)]
    simp [chainL, haf]

def Small (k : Nat) (c : TCol) : Prop := c.1.size < k ∧ c.1.size < 1000000000 ∧ I64 c.2.2.2.1

theorem schema_all {s : List TCol} (h : IsSchema s) : ∀ c, c ∈ s → colOk c = true := by
  intro c hc
  obtain ⟨i, hi, rfl⟩ := List.mem_iff_getElem.1 hc
  obtain ⟨c', h1, h2, _⟩ := SubC_all 6 0 s.length h.2.2.1 i (Nat.zero_le _) hi
  rw [List.getElem?_eq_getElem hi] at h1
  rw [Option.some.inj h1]
  exact h2

theorem specBad (hk : 2000 ≤ k) (h : TreeFacts l af) (d : Nat) (hd : d ≤ 12) (n : TNode) (q : Nat) (hn : l[q]? = some n) (nx : Nat) (hnx : nx ≤ l.length) : ∀ (c pos : Nat) (last : Int) (f : Nat) (i : Int) (out : List TCol), PartsR (Sub l af d) l n c pos last nx → c < f → n.2.2.2.2.1 - i = c → 0 ≤ i → n.2.2.2.2.1 ≤ 2000 →
    (∀ x, x ∈ out → Small k x) → (∃ x, x ∈ out ∧ colOk x = false) → out.length + c ≤ 4000 → spec_l5Of.l8 k f l (q : Int) (pos : Int) i [] out = some (((), false), []) := by
  intro c
  induction c with
  | zero =>
    intro pos last f i out hp hf hi hi0 hi2 hsm ⟨x, hx1, hx2⟩ ho
    obtain ⟨f, rfl⟩ : ∃ j, f = j + 1 := ⟨f - 1, by omega⟩
    obtain ⟨b, g1, _, g3⟩ := schemaOk_eq k (by omega) out hsm
    have hb : b = false := by
      cases b with
      | false => rfl
      | true =>
        have := schema_all (g3 rfl).1 x hx1
        rw [hx2] at this; cases this
    subst hb
    simp only [spec_l5Of.l8, rdL_nat, hn, Option.bind_some, decide_eq_false (show ¬ i < n.2.2.2.2.1 by omega), cond_false, g1, Bool.not_false, cond_true]
  | succ c ihc =>
    intro pos last f i out ⟨p, mid, hp1, _, _, hs, hp⟩ hf hi hi0 hi2 hsm hbad ho
    obtain ⟨f, rfl⟩ : ∃ j, f = j + 1 := ⟨f - 1, by omega⟩
    have hc := PartsR_cnt (Sub_lt d) _ _ _ _ hp
    have hlt := Sub_lt _ _ _ hs
    obtain ⟨x, x', b, g1, g2, g3, g4, g5⟩ := col_eq k hk h pos (by omega) (i == 0)
    simp only [spec_l5Of.l8, rdL_nat, hn, Option.bind_some, decide_eq_true (show i < n.2.2.2.2.1 by omega), cond_true, g1]
    cases b with
    | false => simp only [Bool.not_false, cond_true]
    | true =>
      simp only [Bool.not_true, cond_false]
      rw [lim_ok (by simp; omega), cond_true]
      simp only [h.after k hk hd hs (by omega), Option.bind_some]
      rw [w64 (by omega) (by omega)]
      obtain ⟨y, hy1, hy2⟩ := hbad
      refine ihc mid _ f (i + 1) _ hp (by omega) (by omega) (by omega) (by omega) (fun z hz => ?_) ⟨y, List.mem_append.2 (.inl hy1), hy2⟩ (by simp; omega)
      rcases List.mem_append.1 hz with hz | hz
      · exact hsm z hz
      · simp at hz; subst hz; exact ⟨by omega, by omega, g5⟩

/-- a schema that is right, with names that are short -/
def OkSchema (k : Nat) (r : List TCol) : Prop := IsSchema r ∧ spec_SchemaOk k r = some true ∧ impl_SchemaOk k r = some true ∧ ∀ c, c ∈ r → Small k c

theorem schemaLoop (hk : 2000 ≤ k) (h : TreeFacts l af) (d : Nat) (hd : d ≤ 12) (n : TNode) (q : Nat) (hn : l[q]? = some n) (nx : Nat) (hnx : nx ≤ l.length) (places : List Int) : ∀ (c pos : Nat) (last : Int) (f f' j : Nat) (out : List TCol), PartsR (Sub l af d) l n c pos last nx → c < f → c < f' → n.2.2.2.2.1 - j = c → n.2.2.2.2.1 ≤ 2000 →
    places.drop j = chainL af c pos → (places.length : Int) = n.2.2.2.2.1 → (∀ x, x ∈ out → Small k x) → out.length + c ≤ 4000 →
    ∃ b r, spec_l5Of.l8 k f l (q : Int) (pos : Int) (j : Int) [] out = some (((), b), r) ∧ impl_tree_schema.l6 k f' (places.length : Int) (j : Int) (tB l) af out places = some (((), b), (tB l, af, r)) ∧ (b = true → OkSchema k r) ∧ (b = false → r = []) := by
  intro c
  induction c with
  | zero =>
    intro pos last f f' j out hp hf hf' hi hi2 hpl hplen hsm ho
    obtain ⟨f, rfl⟩ : ∃ j, f = j + 1 := ⟨f - 1, by omega⟩
    obtain ⟨f', rfl⟩ : ∃ j, f' = j + 1 := ⟨f' - 1, by omega⟩
    obtain ⟨b, g1, g2, g3⟩ := schemaOk_eq k (by omega) out hsm
    simp only [spec_l5Of.l8, impl_tree_schema.l6, rdL_nat, hn, Option.bind_some, hplen, decide_eq_false (show ¬ (j : Int) < n.2.2.2.2.1 by omega), cond_false, g1, g2]
    cases b with
    | false => exact ⟨_, _, rfl, rfl, fun h => (by cases h), fun _ => rfl⟩
    | true => exact ⟨_, _, rfl, rfl, fun _ => ⟨(g3 rfl).1, g1, g2, hsm⟩, fun h => (by cases h)⟩
  | succ c ihc =>
    intro pos last f f' j out ⟨p, mid, hp1, _, _, hs, hp⟩ hf hf' hi hi2 hpl hplen hsm ho
    obtain ⟨f, rfl⟩ : ∃ j, f = j + 1 := ⟨f - 1, by omega⟩
    obtain ⟨f', rfl⟩ : ∃ j, f' = j + 1 := ⟨f' - 1, by omega⟩
    have hc := PartsR_cnt (Sub_lt d) _ _ _ _ hp
    have hlt := Sub_lt _ _ _ hs
    obtain ⟨_, _, _, haf⟩ := Sub_node hs
    have hch : chainL af (c + 1) pos = (pos : Int) :: chainL af c mid := by simp [chainL, haf]
    rw [hch] at hpl
    obtain ⟨d1, d2, d3⟩ := drop_get hpl
    obtain ⟨x, x', b, g1, g2, g3, g4, g5⟩ := col_eq k hk h pos (by omega) ((j : Int) == 0)
    simp only [spec_l5Of.l8, impl_tree_schema.l6, rdL_nat, hn, d1, Option.bind_some, hplen, decide_eq_true (show (j : Int) < n.2.2.2.2.1 by omega), cond_true, g1, g2, csf, cst]
    cases b with
    | false =>
      simp only [Bool.not_false, cond_true, Bool.true_or]
      exact ⟨_, _, rfl, rfl, fun h => (by cases h), fun _ => rfl⟩
    | true =>
      obtain rfl := g3 rfl
      simp only [Bool.not_true, cond_false, Bool.false_or]
      rw [lim_ok (show out.length + [x].length ≤ 4294967296 by simp; omega), cond_true]
      simp only [h.after k hk hd hs (by omega), Option.bind_some]
      rw [w64 (by omega) (by omega), show ((j : Int) + 1) = ((j + 1 : Nat) : Int) by omega]
      have hsm' : ∀ z, z ∈ out ++ [x] → Small k z := fun z hz => by
        rcases List.mem_append.1 hz with hz | hz
        · exact hsm z hz
        · simp at hz; subst hz; exact ⟨by omega, by omega, g5⟩
      by_cases hbad : (decide ((j : Int) > 0) && x.2.2.2.1 == 0 && x.2.1 == 7) = true
      · simp only [hbad, cond_true]
        have hb : x.2.2.2.1 = 0 ∧ x.2.1 = 7 := by
          simp only [Bool.and_eq_true, beq_iff_eq] at hbad
          exact ⟨hbad.1.2, hbad.2⟩
        rw [specBad k hk h d hd n q hn nx hnx c mid _ f _ _ hp (by omega) (by omega) (by omega) (by omega) hsm' ⟨x, by simp, by unfold colOk; rw [hb.1, hb.2]; rfl⟩ (by simp; omega)]
        exact ⟨_, _, rfl, rfl, fun h => (by cases h), fun _ => rfl⟩
      · simp only [Bool.eq_false_iff.2 hbad, cond_false]
        have := ihc mid _ f f' (j + 1) (out ++ [x]) hp (by omega) (by omega) (by omega) (by omega) d3 hplen hsm' (by simp; omega)
        rw [hplen] at this
        exact this

theorem of_eq (hk : 2000 ≤ k) (h : TreeFacts l af) (at_ : Nat) (hat : at_ < l.length) :
    ∃ b r, spec_l5Of k l (at_ : Int) 2 = some (((), b), r) ∧ impl_tree_schema k (at_ : Int) (true, tB l) af = some (((), b), (tB l, af, r)) ∧ (b = true → OkSchema k r) ∧ (b = false → r = []) := by
  obtain ⟨v, g1, g2, g3⟩ := find_eq k hk h at_ hat 2
  unfold spec_l5Of impl_tree_schema impl_tree_parts
  simp only [g1, g2, Option.bind_some]
  rcases g3 with rfl | ⟨q, rfl, q1, q2⟩
  · simp only [show decide ((-1 : Int) < 0) = true from rfl, cond_true, Option.bind_some, Bool.not_false]
    exact ⟨_, _, rfl, rfl, fun h => (by cases h), fun _ => rfl⟩
  · obtain ⟨d, nx, hd, hs, hnx⟩ := h.at q2
    cases d with
    | zero => exact hs.elim
    | succ d =>
      obtain ⟨n, h1, h2, h3, h4⟩ := hs
      have hm0 := nok_many h2
      have hlen := h.len
      have hc := PartsR_cnt (Sub_lt d) _ _ _ _ h3
      simp only [decide_eq_false (show ¬ (q : Int) < 0 by omega), cond_false, rdL_nat, h1, Option.bind_some]
      by_cases h9 : n.1 = 9
      · simp only [bneF h9, cond_false, Option.bind_some, csf]
        have hnok : (n.2.2.2.2.1 = 0 ∧ n.2.2.1 = 0) ∨ 0 < n.2.2.2.2.1 := by
          unfold nok at h2
          rw [h9] at h2
          simp only [reduceIte, if_neg (show ¬ ((9 : Int) = 5) by decide), if_neg (show ¬ ((9 : Int) = 6) by decide), if_neg (show ¬ ((9 : Int) = 8) by decide), Bool.and_eq_true, Bool.or_eq_true, beq_iff_eq, decide_eq_true_eq] at h2
          exact h2.2.imp id fun h => h.1
        have ha1 : IntKind.wrap .i64 ((q : Int) + 1) = ((q + 1 : Nat) : Int) := by rw [w64 (by omega) (by omega)]; omega
        by_cases h12 : n.2.2.1 = 12
        · simp only [bneF h12, cond_false, Bool.and_false, ha1]
          rw [partsLoop k hlen d n nx hnx _ _ 0 k _ 0 [] h3 (by omega) (by omega) (by omega) (by omega) (by simp; omega)]
          simp only [Option.bind_some, Bool.not_true, cond_false, List.nil_append]
          exact schemaLoop k hk h d (by omega) n q h1 nx hnx (chainL af n.2.2.2.2.1.toNat (q + 1)) _ _ 0 k k 0 [] h3 (by omega) (by omega) (by omega) (by omega) rfl (by rw [chainL_len]; omega) (fun x hx => (List.not_mem_nil hx).elim) (by simp; omega)
        · simp only [bneT h12, cond_true, Bool.and_true]
          rcases hnok with ⟨hz, _⟩ | hpos
          · obtain ⟨K, rfl⟩ : ∃ j, k = j + 1 := ⟨k - 1, by omega⟩
            have hso : impl_SchemaOk (K + 1) [] = some false := rfl
            rw [hz]
            simp only [show decide ((0 : Int) > 0) = false from rfl, cond_false, impl_tree_parts.l7, show decide ((0 : Int) < 0) = false from rfl, Option.bind_some, Bool.not_true, List.length_nil, impl_tree_schema.l6, show decide ((((0 : Nat) : Int)) > (((0 : Nat) : Int))) = false from rfl]
            refine ⟨_, _, rfl, ?_, fun h => (by cases h), fun _ => rfl⟩
            simp only [show decide ((0 : Int) < ((0 : Nat) : Int)) = false from rfl, cond_false, hso, Option.bind_some, Bool.not_false, cond_true]
          · simp only [decide_eq_true (show n.2.2.2.2.1 > 0 from hpos), cond_true, Bool.not_false]
            exact ⟨_, _, rfl, rfl, fun h => (by cases h), fun _ => rfl⟩
      · simp only [bneT h9, cond_true, Option.bind_some, Bool.not_false]
        exact ⟨_, _, rfl, rfl, fun h => (by cases h), fun _ => rfl⟩
end
end Go.Law
end

section
/- Trees: what is looked up in them, by both. -/
set_option linter.unusedVariables false
set_option linter.unusedSimpArgs false
namespace Go.Law
open Go.Am Go.Fn

def fV (k : Nat) (l : List TNode) (a id : Int) : Int := (spec_l4Find k l a id).getD (-1)
def nV (k : Nat) (l : List TNode) (a id : Int) : Int × Bool := (spec_l4NumOf k l a id).getD (0, false)
def pV (k : Nat) (l : List TNode) (a id kind : Int) : Bool × List Int := ((spec_l18List k l a id kind).map fun r => (r.1.2, r.2)).getD (false, [])

section
variable (k : Nat) (hk : 2000 ≤ k) {l : List TNode} {af : List Int} (h : TreeFacts l af)
include hk h

theorem find_val (a : Nat) (ha : a < l.length) (id : Int) : spec_l4Find k l (a : Int) id = some (fV k l a id) ∧ impl_tree_find k (a : Int) id (true, tB l) af = some (fV k l a id, (tB l, af)) ∧ (fV k l a id = -1 ∨ ∃ q : Nat, fV k l a id = q ∧ a < q ∧ q < l.length) := by
  obtain ⟨v, h1, h2, h3⟩ := find_eq k hk h a ha id
  have : fV k l a id = v := by unfold fV; rw [h1]; rfl
  rw [this]
  exact ⟨h1, h2, h3⟩

theorem num_val (a : Nat) (ha : a < l.length) (id : Int) : spec_l4NumOf k l (a : Int) id = some (nV k l a id) ∧ impl_tree_num k (a : Int) id (true, tB l) af = some (nV k l a id, (tB l, af)) ∧ I64 (nV k l a id).1 ∧ ((nV k l a id).2 = true → 0 ≤ fV k l a id) := by
  obtain ⟨v, b, h1, h2, h3, w, h4, h5⟩ := num_eq k hk h a ha id
  have e : nV k l a id = (v, b) := by unfold nV; rw [h1]; rfl
  have e2 : fV k l a id = w := by unfold fV; rw [h4]; rfl
  rw [e, e2]
  exact ⟨h1, h2, h3, h5⟩

theorem chainL_mem (d : Nat) (n : TNode) : ∀ (c pos : Nat) (last : Int) (nx : Nat), PartsR (Sub l af d) l n c pos last nx → nx ≤ l.length → ∀ p, p ∈ chainL af c pos → 0 ≤ p ∧ p < (l.length : Int) := by
  intro c
  induction c with
  | zero => intro pos last nx _ _ p hp; cases hp
  | succ c ih =>
    intro pos last nx ⟨q, mid, hq, _, _, hs, hp⟩ hnx p hpm
    obtain ⟨_, _, _, haf⟩ := Sub_node hs
    have hlt := Sub_lt _ _ _ hs
    have hc := PartsR_cnt (Sub_lt d) _ _ _ _ hp
    simp only [chainL, haf, Option.getD_some, Int.toNat_natCast, List.mem_cons] at hpm
    rcases hpm with rfl | hpm
    · omega
    · exact ih mid _ nx hp hnx p hpm

theorem sparts18 (d : Nat) (hd : d ≤ 12) (n : TNode) (q : Nat) (hn : l[q]? = some n) (nx : Nat) (hnx : nx ≤ l.length) : ∀ (c pos : Nat) (last : Int) (f : Nat) (i : Int) (acc : List Int), PartsR (Sub l af d) l n c pos last nx → c < f → n.2.2.2.2.1 - i = c → 0 ≤ i → n.2.2.2.2.1 ≤ 2000 → acc.length + c ≤ 4000 →
    spec_l18List.l7 k f l (q : Int) (pos : Int) i acc = some (((), true), acc ++ chainL af c pos) := by
  intro c
  induction c with
  | zero =>
    intro pos last f i acc hp hf hi hi0 hi2 ha
    obtain ⟨f, rfl⟩ : ∃ j, f = j + 1 := ⟨f - 1, by omega⟩
    simp only [spec_l18List.l7, rdL_nat, hn, Option.bind_some, decide_eq_false (show ¬ i < n.2.2.2.2.1 by omega), cond_false, chainL, List.append_nil]
  | succ c ihc =>
    intro pos last f i acc ⟨p, mid, hp1, _, _, hs, hp⟩ hf hi hi0 hi2 ha
    obtain ⟨f, rfl⟩ : ∃ j, f = j + 1 := ⟨f - 1, by omega⟩
    have hc := PartsR_cnt (Sub_lt d) _ _ _ _ hp
    have hlt := Sub_lt _ _ _ hs
    obtain ⟨_, _, _, haf⟩ := Sub_node hs
    simp only [spec_l18List.l7, rdL_nat, hn, Option.bind_some, decide_eq_true (show i < n.2.2.2.2.1 by omega), cond_true]
    rw [lim_ok (by simp; omega), cond_true]
    simp only [h.after k hk hd hs (by omega), Option.bind_some]
    rw [w64 (by omega) (by omega), ihc mid _ f (i + 1) _ hp (by omega) (by omega) (by omega) (by omega) (by simp; omega)]
    simp [chainL, haf]

theorem parts_val (a : Nat) (ha : a < l.length) (id kind : Int) : spec_l18List k l (a : Int) id kind = some (((), (pV k l a id kind).1), (pV k l a id kind).2) ∧ impl_tree_parts k (a : Int) id kind (true, tB l) af = some (((), (pV k l a id kind).1), (tB l, af, (pV k l a id kind).2)) ∧ (pV k l a id kind).2.length ≤ 1500 ∧ (∀ p, p ∈ (pV k l a id kind).2 → 0 ≤ p ∧ p < (l.length : Int)) := by
  obtain ⟨g1, g2, g3⟩ := find_val k hk h a ha id
  have key : ∃ b ps, spec_l18List k l (a : Int) id kind = some (((), b), ps) ∧ impl_tree_parts k (a : Int) id kind (true, tB l) af = some (((), b), (tB l, af, ps)) ∧ ps.length ≤ 1500 ∧ (∀ p, p ∈ ps → 0 ≤ p ∧ p < (l.length : Int)) := by
    have none_ok : ∀ p : Int, p ∈ ([] : List Int) → 0 ≤ p ∧ p < (l.length : Int) := fun p hp => by cases hp
    unfold spec_l18List impl_tree_parts
    simp only [g1, g2, Option.bind_some]
    rcases g3 with g3 | ⟨q, g3, q1, q2⟩
    · simp only [g3, show decide ((-1 : Int) < 0) = true from rfl, cond_true, Option.bind_some]
      exact ⟨_, _, rfl, rfl, by simp, none_ok⟩
    · rw [g3]
      obtain ⟨d, nx, hd, hs, hnx⟩ := h.at q2
      have hlen := h.len
      cases d with
      | zero => exact hs.elim
      | succ d =>
        obtain ⟨n, h1, h2, h3, h4⟩ := hs
        have hm0 := nok_many h2
        have hc := PartsR_cnt (Sub_lt d) _ _ _ _ h3
        have ha1 : IntKind.wrap .i64 ((q : Int) + 1) = ((q + 1 : Nat) : Int) := by rw [w64 (by omega) (by omega)]; omega
        simp only [decide_eq_false (show ¬ (q : Int) < 0 by omega), cond_false, rdL_nat, h1, Option.bind_some, csf, cst, ha1]
        cases ((n.1 != 9) || (decide (n.2.2.2.2.1 > 0) && (n.2.2.1 != kind))) with
        | true =>
          simp only [cond_true]
          exact ⟨_, _, rfl, rfl, by simp, none_ok⟩
        | false =>
          simp only [cond_false]
          rw [partsLoop k hlen d n nx hnx _ _ 0 k _ 0 [] h3 (by omega) (by omega) (by omega) (by omega) (by simp; omega), sparts18 k hk h d (by omega) n q h1 nx hnx _ _ 0 k 0 [] h3 (by omega) (by omega) (by omega) (by omega) (by simp; omega)]
          refine ⟨_, _, rfl, rfl, ?_, ?_⟩
          · rw [List.nil_append, chainL_len]; omega
          · rw [List.nil_append]
            exact chainL_mem k hk h d n _ _ _ nx h3 hnx
  obtain ⟨b, ps, e1, e2, e3, e4⟩ := key
  have e : pV k l a id kind = (b, ps) := by unfold pV; rw [e1]; rfl
  rw [e]
  exact ⟨e1, e2, e3, e4⟩
end

/-- a reader of a foot -/
abbrev mR (b : Bool) : TMetaReader := ((), b, ())

section
variable (k : Nat) (hk : 2000 ≤ k) {l : List TNode} {af : List Int} (h : TreeFacts l af)
include hk h

theorem mnum (a : Nat) (ha : a < l.length) (id : Int) (b : Bool) : impl_metaReader_number k (a : Int) id (mR b) (tB l) af = some ((nV k l a id).1, (mR (b || !(nV k l a id).2), tB l, af)) := by
  obtain ⟨_, g, _⟩ := num_val k hk h a ha id
  unfold impl_metaReader_number impl_metaReader_number.c4
  simp only [g, Option.bind_some]
  cases (nV k l a id).2 <;> cases b <;> rfl

theorem mlist (a : Nat) (ha : a < l.length) (id kind : Int) (b : Bool) : impl_metaReader_list k (a : Int) id kind (mR b) (tB l) af = some ((), (mR (b || !(pV k l a id kind).1), tB l, af, (pV k l a id kind).2)) := by
  obtain ⟨_, g, _⟩ := parts_val k hk h a ha id kind
  unfold impl_metaReader_list impl_metaReader_list.c4
  simp only [g, Option.bind_some]
  cases (pV k l a id kind).1 <;> cases b <;> rfl
end
end Go.Law
end

section
/- Schemas: where a col ends; the leaves. -/
set_option linter.unusedVariables false
set_option linter.unusedSimpArgs false
set_option linter.unusedSectionVars false
namespace Go.Law
open Go.Am Go.Fn
variable (k : Nat)

theorem PartsC_nx {S : Nat → Nat → Prop} {s : List TCol} (hS : ∀ a b, S a b → a < b) : ∀ (c pos : Nat) (names : List ByteArray) (nx : Nat), PartsC S s c pos names nx → pos ≤ nx
  | c, pos, names, nx, h => by have := PartsC_le hS c pos names nx h; omega

section
variable (s : List TCol) (hs : s.length ≤ 20) (hn : ∀ c, c ∈ s → c.1.size < k ∧ c.1.size < 1000000000 ∧ I64 c.2.2.2.1)
include hs hn

theorem colAfter_loop (hk : 100 ≤ k) (d D deep : Nat) (hdeep : deep ≤ 6) (M : Int) (hM : M < 9223372036854775808)
    (ih : ∀ at_ nx : Nat, SubC s d at_ nx → nx ≤ s.length → impl_colAfter.rec k D s (at_ : Int) ((deep + 1 : Nat) : Int) = some (nx : Int)) :
    ∀ (c f pos : Nat) (i : Int) (names : List ByteArray) (nx : Nat), PartsC (SubC s d) s c pos names nx → c < f → M - i = c → 0 ≤ i → nx ≤ s.length → names.length ≤ pos →
      impl_colAfter.l6 k (impl_colAfter.rec k D) f s (deep : Int) (pos : Int) M i names = some (nx : Int) := by
  intro c
  induction c with
  | zero =>
    intro f pos i names nx hp hf hi h0 hnx hnm
    obtain ⟨f, rfl⟩ : ∃ m, f = m + 1 := ⟨f - 1, by omega⟩
    have hp : pos = nx := hp
    subst hp
    simp only [impl_colAfter.l6, decide_eq_false (show ¬ i < M by omega), cond_false]
  | succ c ihc =>
    intro f pos i names nx hp hf hi h0 hnx hnm
    obtain ⟨f, rfl⟩ : ∃ m, f = m + 1 := ⟨f - 1, by omega⟩
    obtain ⟨p, mid, p1, p2, p3, p4⟩ := hp
    have hlt := SubC_lt _ _ _ p3
    have hmn := PartsC_nx (SubC_lt d) _ _ _ _ p4
    have hd1 : IntKind.wrap .i64 ((deep : Int) + 1) = ((deep + 1 : Nat) : Int) := by rw [w64 (by omega) (by omega)]; omega
    have hi1 : IntKind.wrap .i64 (i + 1) = i + 1 := w64 (by omega) (by omega)
    simp only [impl_colAfter.l6, decide_eq_true (show i < M by omega), cond_true, decide_eq_false (show ¬ (pos : Int) ≥ (s.length : Int) by omega), cond_false]
    rw [show (0 : Int) = ((0 : Nat) : Int) from rfl, implNames k _ _ s _ pos M i _ p1 names (by omega) names.length k 0 (by omega) (by omega), List.drop_zero, if_neg p2, hd1, ih pos mid p3 (by omega)]
    simp only [Option.bind_some, decide_eq_false (show ¬ ((mid : Int) < 0) by omega), cond_false, hi1]
    exact ihc f mid (i + 1) (names ++ [p.1]) nx p4 (by omega) (by omega) (by omega) hnx (by simp; omega)

theorem colAfter_rec (hk : 100 ≤ k) : ∀ (d D deep at_ nx : Nat), SubC s d at_ nx → d + deep ≤ 7 → d < D → nx ≤ s.length → impl_colAfter.rec k D s (at_ : Int) (deep : Int) = some (nx : Int) := by
  intro d
  induction d with
  | zero => intro D deep at_ nx h; exact h.elim
  | succ d ih =>
    intro D deep at_ nx h hd hD hnx
    obtain ⟨D, rfl⟩ : ∃ m, D = m + 1 := ⟨D - 1, by omega⟩
    have hlt := SubC_lt _ _ _ h
    obtain ⟨c, h1, h2, h3, h4⟩ := h
    have hcm : c ∈ s := List.mem_of_getElem? h1
    obtain ⟨n1, n2, n3⟩ := hn c hcm
    have hle := PartsC_le (SubC_lt d) _ _ _ _ h4
    have ha1 : IntKind.wrap .i64 ((at_ : Int) + 1) = ((at_ + 1 : Nat) : Int) := by rw [w64 (by omega) (by omega)]; omega
    have hm0 : 0 ≤ c.2.2.2.1 := by
      unfold colOk at h2
      simp only [Bool.and_eq_true, Bool.or_eq_true, beq_iff_eq, decide_eq_true_eq] at h2
      omega
    have hname : (decide ((at_ : Int) > 0) && !nameOk c.1) = false := by
      by_cases h0 : 0 < at_
      · rw [h3 h0]; simp
      · rw [decide_eq_false (show ¬ (at_ : Int) > 0 by omega)]; rfl
    simp only [impl_colAfter.rec, impl_colAfter.b, cst, csf, decide_eq_false (show ¬ (at_ : Int) ≥ (s.length : Int) by omega), decide_eq_false (show ¬ (deep : Int) > 6 by omega), Bool.false_or, Option.bind_some, cond_false, rdL_nat, h1, colOk_eq, h2, Bool.not_true, isColName_eq k c.1 n1 n2, hname, ha1]
    have := colAfter_loop k s hs hn hk d D deep (by omega) c.2.2.2.1 n3.2 (fun a b hab hb => ih D (deep + 1) a b hab (by omega) (by omega) hb) c.2.2.2.1.toNat k (at_ + 1) 0 [] nx h4 (by omega) (by omega) (by omega) hnx (by simp)
    exact this

theorem colAfter_sub (hk : 100 ≤ k) {d at_ nx : Nat} (h : SubC s d at_ nx) (hd : d ≤ 6) (hnx : nx ≤ s.length) : impl_colAfter k s (at_ : Int) 1 = some (nx : Int) :=
  colAfter_rec k s hs hn hk d k 1 at_ nx h (by omega) (by omega) hnx

theorem l5After_rec (hk : 100 ≤ k) : ∀ (d D at_ nx : Nat), SubC s d at_ nx → d < D → nx ≤ s.length → spec_l5After.rec k D s (at_ : Int) = some (nx : Int) := by
  intro d
  induction d with
  | zero => intro D at_ nx h; exact h.elim
  | succ d ih =>
    intro D at_ nx h hD hnx
    obtain ⟨D, rfl⟩ : ∃ m, D = m + 1 := ⟨D - 1, by omega⟩
    have hlt := SubC_lt _ _ _ h
    obtain ⟨c, h1, h2, h3, h4⟩ := h
    obtain ⟨n1, n2, n3⟩ := hn c (List.mem_of_getElem? h1)
    have hle := PartsC_le (SubC_lt d) _ _ _ _ h4
    have ha1 : IntKind.wrap .i64 ((at_ : Int) + 1) = ((at_ + 1 : Nat) : Int) := by rw [w64 (by omega) (by omega)]; omega
    have hm0 : 0 ≤ c.2.2.2.1 := by
      unfold colOk at h2
      simp only [Bool.and_eq_true, Bool.or_eq_true, beq_iff_eq, decide_eq_true_eq] at h2
      omega
    have key : ∀ (m f pos : Nat) (i : Int) (names : List ByteArray), PartsC (SubC s d) s m pos names nx → m < f → c.2.2.2.1 - i = m → 0 ≤ i → spec_l5After.l3 k (spec_l5After.rec k D) f s (at_ : Int) (pos : Int) i = some (nx : Int) := by
      intro m
      induction m with
      | zero =>
        intro f pos i names hp hf hi h0
        obtain ⟨f, rfl⟩ : ∃ m, f = m + 1 := ⟨f - 1, by omega⟩
        have hp : pos = nx := hp
        subst hp
        simp only [spec_l5After.l3, rdL_nat, h1, Option.bind_some, decide_eq_false (show ¬ i < c.2.2.2.1 by omega), cond_false]
      | succ m ihm =>
        intro f pos i names hp hf hi h0
        obtain ⟨f, rfl⟩ : ∃ m, f = m + 1 := ⟨f - 1, by omega⟩
        obtain ⟨p, mid, p1, p2, p3, p4⟩ := hp
        have hmn := PartsC_nx (SubC_lt d) _ _ _ _ p4
        have hi1 : IntKind.wrap .i64 (i + 1) = i + 1 := w64 (by omega) (by obtain ⟨_, q⟩ := n3; omega)
        simp only [spec_l5After.l3, rdL_nat, h1, Option.bind_some, decide_eq_true (show i < c.2.2.2.1 by omega), cond_true, ih D pos mid p3 (by omega) (by omega), hi1]
        exact ihm f mid (i + 1) _ p4 (by omega) (by omega) (by omega)
    simp only [spec_l5After.rec, spec_l5After.b, ha1]
    exact key c.2.2.2.1.toNat k (at_ + 1) 0 [] h4 (by omega) (by omega) (by omega)

theorem l5After_sub (hk : 100 ≤ k) {d at_ nx : Nat} (h : SubC s d at_ nx) (hd : d ≤ 6) (hnx : nx ≤ s.length) : spec_l5After k s (at_ : Int) = some (nx : Int) :=
  l5After_rec k s hs hn hk d k at_ nx h (by omega) hnx
end

/-- the leaves' places -/
def leavesFrom : Nat → List TCol → List Int
  | _, [] => []
  | i, c :: r => if c.2.1 = 7 then leavesFrom (i + 1) r else (i : Int) :: leavesFrom (i + 1) r

theorem leavesFrom_len : ∀ (i : Nat) (s : List TCol), (leavesFrom i s).length ≤ s.length
  | _, [] => Nat.le_refl _
  | i, c :: r => by
    have := leavesFrom_len (i + 1) r
    simp only [leavesFrom]
    split <;> simp <;> omega

theorem leaves_loop (s : List TCol) (hs : s.length ≤ 1000) : ∀ (post pre : List TCol) (n : Nat) (o : List Int), s = pre ++ post → post.length < n → o.length ≤ pre.length →
    impl_leavesOf.l3 k n s (s.length : Int) (pre.length : Int) o = some ((), o ++ leavesFrom pre.length post) ∧ spec_l5Leaves.l3 k n s (pre.length : Int) o = some ((), o ++ leavesFrom pre.length post) := by
  intro post
  induction post with
  | nil =>
    intro pre n o hsp hn ho
    obtain ⟨n, rfl⟩ : ∃ j, n = j + 1 := ⟨n - 1, by omega⟩
    have : s = pre := by simpa using hsp
    subst this
    simp only [impl_leavesOf.l3, spec_l5Leaves.l3, decide_eq_false (show ¬ (s.length : Int) < (s.length : Int) by omega), cond_false]
    simp [leavesFrom]
  | cons x post ih =>
    intro pre n o hsp hn ho
    simp only [List.length_cons] at hn
    obtain ⟨n, rfl⟩ : ∃ j, n = j + 1 := ⟨n - 1, by omega⟩
    have hlen : s.length = pre.length + (post.length + 1) := by rw [hsp]; simp
    have hg : rdL s (pre.length : Int) = some x := by rw [hsp]; exact getMid _ _ _
    have hi1 : IntKind.wrap .i64 ((pre.length : Int) + 1) = ((pre.length + 1 : Nat) : Int) := by rw [w64 (by omega) (by omega)]; omega
    simp only [impl_leavesOf.l3, spec_l5Leaves.l3, decide_eq_true (show (pre.length : Int) < (s.length : Int) by omega), cond_true, hg, Option.bind_some, impl_leavesOf.c7, spec_l5Leaves.c4, hi1, leavesFrom]
    by_cases h7 : x.2.1 = 7
    · have hi := ih (pre ++ [x]) n o (by rw [hsp]; simp) (by omega) (by simp; omega)
      rw [List.length_append, List.length_singleton] at hi
      rw [bneF h7, cond_false, cond_false, if_pos h7]
      exact hi
    · have hi := ih (pre ++ [x]) n (o ++ [(pre.length : Int)]) (by rw [hsp]; simp) (by omega) (by simp; omega)
      rw [List.length_append, List.length_singleton, List.append_assoc, List.singleton_append] at hi
      rw [bneT h7, cond_true, cond_true, if_neg h7, lim_ok (by simp; omega), cond_true, cond_true]
      exact hi

theorem leaves_eq (hk : 2000 ≤ k) (s : List TCol) (hs : s.length ≤ 1000) : impl_leavesOf k s = some ((), leavesFrom 0 s) ∧ spec_l5Leaves k s = some ((), leavesFrom 0 s) := by
  have := leaves_loop k s hs s [] k [] rfl (by omega) (by simp)
  exact this
end Go.Law
end

section
/- Which values are right. -/
set_option linter.unusedVariables false
set_option linter.unusedSimpArgs false
namespace Go.Law
open Go.Am Go.Fn
variable (k : Nat)

def vok (t : Int) (v : TVal) : Bool :=
  if t = 0 then (decide (0 ≤ v.1) && decide (v.1 ≤ 1)) && eqS v.2.1 ⟨#[]⟩
  else if t = 1 then (decide (-2147483648 ≤ v.1) && decide (v.1 ≤ 2147483647)) && eqS v.2.1 ⟨#[]⟩
  else if t = 2 ∨ t = 5 then eqS v.2.1 ⟨#[]⟩
  else if t = 6 then v.1 == 0 && decide ((v.2.1.size : Int) ≤ 40)
  else false

theorem valOk_eq (t : Int) (v : TVal) : impl_ValOk k t v = some (vok t v) := by
  unfold impl_ValOk impl_ValOk.c8 impl_isInt32 vok
  by_cases h0 : t = 0
  · subst h0
    simp only [within_eq, beqT rfl, cond_true, Option.bind_some, csf, if_true]
  by_cases h1 : t = 1
  · subst h1
    simp only [within_eq, beqF h0, beqT rfl, cond_true, cond_false, Option.bind_some, csf, if_neg h0, if_true]
  by_cases h2 : t = 2
  · subst h2
    simp only [beqF h0, beqF h1, beqT rfl, cond_true, cond_false, if_neg h0, if_neg h1, true_or, if_true]
  by_cases h5 : t = 5
  · subst h5
    simp only [beqF h0, beqF h1, beqF h2, beqT rfl, cond_true, cond_false, if_neg h0, if_neg h1, or_true, if_true]
  by_cases h6 : t = 6
  · subst h6
    simp only [beqF h0, beqF h1, beqF h2, beqF h5, beqT rfl, cond_true, cond_false, if_neg h0, if_neg h1, Option.bind_some, csf, if_true]
    rw [if_neg (by decide)]
  · simp only [beqF h0, beqF h1, beqF h2, beqF h5, beqF h6, cond_true, cond_false, if_neg h0, if_neg h1, Option.bind_some, csf, if_neg h6]
    rw [if_neg (by omega)]
    rfl

theorem svalOk_eq (t : Int) (v : TVal) : spec_ValOk k t v = some (vok t v) := by
  unfold spec_ValOk spec_ValOk.c8 spec_l4Int vok
  by_cases h0 : t = 0
  · subst h0
    simp only [l1In_eq, beqT rfl, cond_true, Option.bind_some, csf, if_true]
  by_cases h1 : t = 1
  · subst h1
    simp only [l1In_eq, beqF h0, beqT rfl, cond_true, cond_false, Option.bind_some, csf, if_neg h0, if_true]
  by_cases h2 : t = 2
  · subst h2
    simp only [beqF h0, beqF h1, beqT rfl, cond_true, cond_false, if_neg h0, if_neg h1, true_or, if_true]
  by_cases h5 : t = 5
  · subst h5
    simp only [beqF h0, beqF h1, beqF h2, beqT rfl, cond_true, cond_false, if_neg h0, if_neg h1, or_true, if_true]
  by_cases h6 : t = 6
  · subst h6
    simp only [beqF h0, beqF h1, beqF h2, beqF h5, beqT rfl, cond_true, cond_false, if_neg h0, if_neg h1, Option.bind_some, csf, if_true]
    rw [if_neg (by decide)]
  · simp only [beqF h0, beqF h1, beqF h2, beqF h5, beqF h6, cond_true, cond_false, if_neg h0, if_neg h1, Option.bind_some, csf, if_neg h6]
    rw [if_neg (by omega)]

end Go.Law
end

section
/- Going through a record: what is come to, in plain Lean. -/
set_option linter.unusedVariables false
set_option linter.unusedSimpArgs false
set_option linter.unusedSectionVars false
namespace Go.Law
open Go.Am Go.Fn

/-- a leaf that is there, or one below what is missing -/
structure Ev where
  at_ : Nat
  leaf : Bool
  rep : Int
  def_ : Int
  v : TVal

def zv : TVal := (0, ⟨#[]⟩, ())

/-- a number of parts that is none -/
def cbad (v : TVal) (most : Int) : Bool := !eqS v.2.1 ⟨#[]⟩ || !(decide (0 ≤ v.1) && decide (v.1 ≤ most))
theorem cbad_false {v : TVal} {most : Int} (h : cbad v most = false) : 0 ≤ v.1 ∧ v.1 ≤ most := by
  unfold cbad at h
  simp only [Bool.or_eq_false_iff, Bool.not_eq_false', Bool.and_eq_true, decide_eq_true_eq] at h
  exact h.2
theorem cbad_text {v : TVal} {most : Int} (h : cbad v most = false) : v.2.1 = ⟨#[]⟩ := by
  unfold cbad at h
  simp only [Bool.or_eq_false_iff, Bool.not_eq_false', eqS_iff, decide_eq_true_eq] at h
  exact h.1

abbrev EvR := Option (List Ev × List TVal)

def evPair (a : EvR) (f : List TVal → EvR) : EvR :=
  match a with
  | none => none
  | some (x, V) => match f V with
    | none => none
    | some (y, W) => some (x ++ y, W)

def evParts (F : Nat → List TVal → EvR) (e : Nat → Nat) : Nat → Nat → List TVal → EvR
  | 0, _, V => some ([], V)
  | m + 1, a, V => evPair (F a V) (evParts F e m (e a))

def evItems (F : List TVal → EvR) : Nat → List TVal → EvR
  | 0, V => some ([], V)
  | m + 1, V => evPair (F V) (evItems F m)

def iter (f : Nat → Nat) : Nat → Nat → Nat
  | 0, a => a
  | n + 1, a => iter f n (f a)

/-- the place behind a col -/
def endC (s : List TCol) : Nat → Nat → Nat
  | 0, a => a
  | d + 1, a => match s[a]? with
    | none => a + 1
    | some c => iter (endC s d) c.2.2.2.1.toNat (a + 1)

theorem endC_parts {s : List TCol} {S : Nat → Nat → Prop} {e : Nat → Nat} (h : ∀ a b, S a b → e a = b) : ∀ (m a : Nat) (names : List ByteArray) (nx : Nat), PartsC S s m a names nx → iter e m a = nx
  | 0, a, _, nx, hp => hp
  | m + 1, a, names, nx, ⟨p, mid, _, _, h3, h4⟩ => by
    show iter e m (e a) = nx
    rw [h a mid h3]
    exact endC_parts h m mid _ nx h4

theorem endC_eq {s : List TCol} : ∀ (d : Nat) {a b : Nat}, SubC s d a b → ∀ d', d ≤ d' → endC s d' a = b
  | 0, _, _, h, _, _ => h.elim
  | d + 1, a, b, ⟨c, h1, _, _, h2⟩, d', hd => by
    obtain ⟨d', rfl⟩ : ∃ q, d' = q + 1 := ⟨d' - 1, by omega⟩
    simp only [endC, h1]
    exact endC_parts (S := SubC s d) (fun x y hxy => endC_eq d hxy d' (by omega)) _ _ _ _ h2

/-- what is missing below a col -/
def miss (s : List TCol) (rep def_ : Int) : Nat → Nat → List Ev
  | 0, _ => []
  | n + 1, i => (match s[i]? with
    | none => []
    | some c => if c.2.1 = 7 then [] else [⟨i, false, rep, def_, zv⟩]) ++ miss s rep def_ n (i + 1)

/-- a part, by what its content is -/
def evPart (s : List TCol) (C : Int → Int → Int → List TVal → EvR) (e a : Nat) (rep def_ deep : Int) (V : List TVal) : EvR :=
  match s[a]? with
  | none => none
  | some c =>
    if c.2.2.1 = 0 then C rep def_ deep V
    else match V with
      | [] => none
      | v :: V =>
        if c.2.2.1 = 2 then
          if cbad v 20 = true then none
          else if v.1 = 0 then some (miss s rep def_ (e - a) a, V)
          else evPair (C rep (def_ + 1) (deep + 1) V) (evItems (C (deep + 1) (def_ + 1) (deep + 1)) (v.1.toNat - 1))
        else
          if cbad v 1 = true then none
          else if v.1 = 0 then some (miss s rep def_ (e - a) a, V)
          else C rep (def_ + 1) deep V

/-- a col as if it were Required -/
def evC (s : List TCol) : Nat → Nat → Int → Int → Int → List TVal → EvR
  | 0, _, _, _, _, _ => none
  | d + 1, a, rep, def_, deep, V => match s[a]? with
    | none => none
    | some c =>
      if c.2.1 = 7 then evParts (fun a V => evPart s (evC s d a) (endC s d a) a rep def_ deep V) (endC s d) c.2.2.2.1.toNat (a + 1) V
      else match V with
        | [] => none
        | v :: V => if vok c.2.1 v = true then some ([⟨a, true, rep, def_, v⟩], V) else none

/-! ### how much is told -/
def EvG (V : List TVal) (r : EvR) : Prop := ∀ X W, r = some (X, W) → W.length ≤ V.length ∧ X.length + 20 * W.length ≤ 20 * V.length ∧ W = V.drop (V.length - W.length)

theorem evPair_some {a : EvR} {f : List TVal → EvR} {X : List Ev} {W : List TVal} (h : evPair a f = some (X, W)) : ∃ x y V, a = some (x, V) ∧ f V = some (y, W) ∧ X = x ++ y := by
  unfold evPair at h
  split at h
  · cases h
  · rename_i x V
    split at h
    · cases h
    · rename_i y W' hf
      simp only [Option.some.injEq, Prod.mk.injEq] at h
      obtain ⟨rfl, rfl⟩ := h
      exact ⟨x, y, V, rfl, hf, rfl⟩

theorem EvG.pair {V : List TVal} {a : EvR} {f : List TVal → EvR} (h : EvG V a) (k : ∀ W, EvG W (f W)) : EvG V (evPair a f) := by
  intro X W hr
  obtain ⟨x, y, U, h1, h2, rfl⟩ := evPair_some hr
  obtain ⟨a1, a2, a3⟩ := h _ _ h1
  obtain ⟨b1, b2, b3⟩ := k U _ _ h2
  refine ⟨by omega, by simp; omega, ?_⟩
  rw [b3, a3, List.drop_drop]
  congr 1
  simp only [List.length_drop]
  omega

theorem EvG.nil (V : List TVal) : EvG V (some ([], V)) := by
  intro X W h
  simp only [Option.some.injEq, Prod.mk.injEq] at h
  obtain ⟨rfl, rfl⟩ := h
  exact ⟨Nat.le_refl _, by simp, by simp⟩

theorem EvG.parts {F : Nat → List TVal → EvR} {e : Nat → Nat} (h : ∀ a V, EvG V (F a V)) : ∀ (m a : Nat) (V : List TVal), EvG V (evParts F e m a V)
  | 0, _, V => EvG.nil V
  | m + 1, a, V => (h a V).pair (EvG.parts h m (e a))

theorem EvG.items {F : List TVal → EvR} (h : ∀ V, EvG V (F V)) : ∀ (m : Nat) (V : List TVal), EvG V (evItems F m V)
  | 0, V => EvG.nil V
  | m + 1, V => (h V).pair (EvG.items h m)

theorem miss_len (s : List TCol) (rep def_ : Int) : ∀ (n i : Nat), i + (miss s rep def_ n i).length ≤ max i s.length
  | 0, i => by simp only [miss, List.length_nil]; omega
  | n + 1, i => by
    have := miss_len s rep def_ n (i + 1)
    simp only [miss, List.length_append]
    cases h : s[i]? with
    | none =>
      have hl : s.length ≤ i := List.getElem?_eq_none_iff.1 h
      simp only [List.length_nil]
      omega
    | some c =>
      have hl : i < s.length := (List.getElem?_eq_some_iff.1 h).1
      simp only
      split <;> simp <;> omega

theorem EvG.part {s : List TCol} (hs : s.length ≤ 20) {C : Int → Int → Int → List TVal → EvR} (h : ∀ r d p V, EvG V (C r d p V)) (e a : Nat) (rep def_ deep : Int) (V : List TVal) : EvG V (evPart s C e a rep def_ deep V) := by
  intro X W hr
  unfold evPart at hr
  have hm : ∀ n, (miss s rep def_ n a).length ≤ 20 := fun n => by
    have := miss_len s rep def_ n a
    rcases Nat.lt_or_ge a s.length with h1 | h1
    · omega
    · have : (miss s rep def_ n a).length = 0 := by omega
      omega
  split at hr
  · cases hr
  · rename_i c hc
    split at hr
    · exact h _ _ _ _ _ _ hr
    · split at hr
      · cases hr
      · rename_i v V
        have lift : ∀ r : EvR, EvG V r → r = some (X, W) → W.length ≤ (v :: V).length ∧ X.length + 20 * W.length ≤ 20 * (v :: V).length ∧ W = (v :: V).drop ((v :: V).length - W.length) := by
          intro r hg hr
          obtain ⟨g1, g2, g3⟩ := hg _ _ hr
          refine ⟨by simp; omega, by simp; omega, ?_⟩
          rw [List.length_cons, show V.length + 1 - W.length = (V.length - W.length) + 1 by omega, List.drop_succ_cons]
          exact g3
        have ms : some (miss s rep def_ (e - a) a, V) = some (X, W) → W.length ≤ (v :: V).length ∧ X.length + 20 * W.length ≤ 20 * (v :: V).length ∧ W = (v :: V).drop ((v :: V).length - W.length) := by
          intro hr
          simp only [Option.some.injEq, Prod.mk.injEq] at hr
          obtain ⟨rfl, rfl⟩ := hr
          have := hm (e - a)
          refine ⟨by simp, by simp; omega, by simp⟩
        split at hr
        · split at hr
          · cases hr
          · split at hr
            · exact ms hr
            · exact lift _ ((h _ _ _ _).pair (EvG.items (h _ _ _) _)) hr
        · split at hr
          · cases hr
          · split at hr
            · exact ms hr
            · exact lift _ (h _ _ _ _) hr

theorem evC_G {s : List TCol} (hs : s.length ≤ 20) : ∀ (d a : Nat) (rep def_ deep : Int) (V : List TVal), EvG V (evC s d a rep def_ deep V)
  | 0, _, _, _, _, _ => fun X W h => by cases h
  | d + 1, a, rep, def_, deep, V => by
    intro X W h
    simp only [evC] at h
    split at h
    · cases h
    · split at h
      · exact EvG.parts (fun a V => EvG.part hs (fun r d p V => evC_G hs _ a r d p V) _ a rep def_ deep V) _ _ _ _ _ h
      · split at h
        · cases h
        · split at h
          · simp only [Option.some.injEq, Prod.mk.injEq] at h
            obtain ⟨rfl, rfl⟩ := h
            refine ⟨by simp, by simp; omega, by simp⟩
          · cases h

end Go.Law
end

section
/- The reference goes through a record: whether it is one. -/
set_option linter.unusedVariables false
set_option linter.unusedSimpArgs false
set_option linter.unusedSectionVars false
namespace Go.Law
open Go.Am Go.Fn

/-! ### what is left does not hang on the levels -/
def rst (r : EvR) : Option (List TVal) := match r with
  | none => none
  | some (_, W) => some W

theorem rst_pair (a : EvR) (f : List TVal → EvR) : rst (evPair a f) = (rst a).bind fun V => rst (f V) := by
  unfold evPair rst
  cases a with
  | none => rfl
  | some q =>
    obtain ⟨x, V⟩ := q
    simp only [Option.bind_some]
    cases f V with
    | none => rfl
    | some q2 => rfl

def rIt (C : List TVal → Option (List TVal)) : Nat → List TVal → Option (List TVal)
  | 0, V => some V
  | m + 1, V => (C V).bind (rIt C m)

theorem rst_items (F : List TVal → EvR) (C : List TVal → Option (List TVal)) (h : ∀ V, rst (F V) = C V) : ∀ (m : Nat) (V : List TVal), rst (evItems F m V) = rIt C m V
  | 0, V => rfl
  | m + 1, V => by
    show rst (evPair (F V) (evItems F m)) = _
    rw [rst_pair, h V]
    show _ = (C V).bind (rIt C m)
    congr 1
    funext W
    exact rst_items F C h m W

def rPart (s : List TCol) (C : List TVal → Option (List TVal)) (a : Nat) (V : List TVal) : Option (List TVal) :=
  match s[a]? with
  | none => none
  | some c =>
    if c.2.2.1 = 0 then C V
    else match V with
      | [] => none
      | v :: V => if cbad v (if c.2.2.1 = 2 then 20 else 1) = true then none else rIt C v.1.toNat V

theorem rst_part (s : List TCol) (F : Int → Int → Int → List TVal → EvR) (C : List TVal → Option (List TVal)) (h : ∀ r q p V, rst (F r q p V) = C V) (e a : Nat) (rep def_ deep : Int) (V : List TVal) : rst (evPart s F e a rep def_ deep V) = rPart s C a V := by
  unfold evPart rPart
  cases s[a]? with
  | none => rfl
  | some c =>
    simp only
    split
    · exact h _ _ _ _
    · cases V with
      | nil => rfl
      | cons v V =>
        simp only
        split
        · rename_i h2
          split
          · rename_i hb; rfl
          · rename_i hb
            have hb := cbad_false (by simpa using hb)
            split
            · rename_i h0; rw [h0]; rfl
            · rename_i h0
              obtain ⟨n, hn⟩ : ∃ n : Nat, v.1 = ((n + 1 : Nat) : Int) := ⟨v.1.toNat - 1, by omega⟩
              rw [hn, rst_pair, h]
              show _ = rIt C (n + 1) V
              simp only [rIt]
              congr 1
              funext W
              exact rst_items _ C (h _ _ _) _ W
        · rename_i h2
          split
          · rename_i hb; rfl
          · rename_i hb
            have hb := cbad_false (by simpa using hb)
            split
            · rename_i h0; rw [h0]; rfl
            · rename_i h0
              have h1 : v.1 = 1 := by omega
              rw [h1, h]
              show C V = rIt C 1 V
              simp only [rIt]
              cases C V <;> rfl

def rParts (F : Nat → List TVal → Option (List TVal)) (e : Nat → Nat) : Nat → Nat → List TVal → Option (List TVal)
  | 0, _, V => some V
  | m + 1, a, V => (F a V).bind (rParts F e m (e a))

theorem rst_parts (F : Nat → List TVal → EvR) (C : Nat → List TVal → Option (List TVal)) (h : ∀ a V, rst (F a V) = C a V) (e : Nat → Nat) : ∀ (m a : Nat) (V : List TVal), rst (evParts F e m a V) = rParts C e m a V
  | 0, _, V => rfl
  | m + 1, a, V => by
    show rst (evPair (F a V) (evParts F e m (e a))) = _
    rw [rst_pair, h a V]
    show _ = (C a V).bind (rParts C e m (e a))
    congr 1
    funext W
    exact rst_parts F C h e m (e a) W

def rC (s : List TCol) : Nat → Nat → List TVal → Option (List TVal)
  | 0, _, _ => none
  | d + 1, a, V => match s[a]? with
    | none => none
    | some c =>
      if c.2.1 = 7 then rParts (fun a V => rPart s (rC s d a) a V) (endC s d) c.2.2.2.1.toNat (a + 1) V
      else match V with
        | [] => none
        | v :: V => if vok c.2.1 v = true then some V else none

theorem rst_C (s : List TCol) : ∀ (d a : Nat) (rep def_ deep : Int) (V : List TVal), rst (evC s d a rep def_ deep V) = rC s d a V
  | 0, _, _, _, _, _ => rfl
  | d + 1, a, rep, def_, deep, V => by
    simp only [evC, rC]
    cases s[a]? with
    | none => rfl
    | some c =>
      simp only
      split
      · exact rst_parts _ _ (fun a V => rst_part s _ (rC s d a) (fun r q p V => rst_C s d a r q p V) _ a rep def_ deep V) _ _ _ _
      · cases V with
        | nil => rfl
        | cons v V =>
          simp only
          split <;> rfl

theorem rC_some {s : List TCol} {d a : Nat} {V W : List TVal} (h : rC s d a V = some W) (rep def_ deep : Int) : ∃ X, evC s d a rep def_ deep V = some (X, W) := by
  rw [← rst_C s d a rep def_ deep V] at h
  cases he : evC s d a rep def_ deep V with
  | none => rw [he] at h; cases h
  | some q =>
    obtain ⟨X, U⟩ := q
    rw [he] at h
    cases h
    exact ⟨X, rfl⟩
theorem rC_none {s : List TCol} {d a : Nat} {V : List TVal} (h : rC s d a V = none) (rep def_ deep : Int) : evC s d a rep def_ deep V = none := by
  rw [← rst_C s d a rep def_ deep V] at h
  cases he : evC s d a rep def_ deep V with
  | none => rfl
  | some q => obtain ⟨X, U⟩ := q; rw [he] at h; cases h

/-- what is left stands behind -/
def RG (C : List TVal → Option (List TVal)) : Prop := ∀ V W, C V = some W → W.length ≤ V.length ∧ W = V.drop (V.length - W.length)

theorem RG.of {F : List TVal → EvR} {C : List TVal → Option (List TVal)} (h : ∀ V, rst (F V) = C V) (g : ∀ V, EvG V (F V)) : RG C := by
  intro V W hc
  rw [← h V] at hc
  unfold rst at hc
  split at hc
  · cases hc
  · rename_i X U hf
    simp only [Option.some.injEq] at hc
    subst hc
    obtain ⟨g1, _, g3⟩ := g V X U hf
    exact ⟨g1, g3⟩

theorem RG.c {s : List TCol} (hs : s.length ≤ 20) (d a : Nat) : RG (rC s d a) := RG.of (F := evC s d a 0 0 0) (rst_C s d a 0 0 0) (evC_G hs d a 0 0 0)

def posOf (V : List TVal) (r : Option (List TVal)) : Int := match r with
  | none => -1
  | some W => ((V.length - W.length : Nat) : Int)

theorem RG.pos {C : List TVal → Option (List TVal)} (g : RG C) {V W : List TVal} {pos : Nat} (hp : pos ≤ V.length) (h : C (V.drop pos) = some W) : V.length - W.length ≤ V.length ∧ V.drop (V.length - W.length) = W ∧ pos ≤ V.length - W.length := by
  obtain ⟨g1, g2⟩ := g _ _ h
  simp only [List.length_drop] at g1 g2
  refine ⟨by omega, ?_, by omega⟩
  rw [List.drop_drop] at g2
  rw [show V.length - W.length = pos + (V.length - pos - W.length) by omega]
  exact g2.symm

section
variable (k : Nat) (s : List TCol) (hs : s.length ≤ 20) (hn : ∀ c, c ∈ s → c.1.size < k ∧ c.1.size < 1000000000 ∧ I64 c.2.2.2.1) (hk : 2000000 ≤ k)
variable (V : List TVal) (hV : V.length ≤ 1048576)
include hs hn hk hV

theorem scount_eq (v : TVal) (most : Int) : spec_l13Count k v most = some (if cbad v most then -1 else v.1) := by
  unfold spec_l13Count cbad
  simp only [l1In_eq, Option.bind_some, cst]
  generalize (!eqS v.2.1 ⟨#[]⟩ || !(decide (0 ≤ v.1) && decide (v.1 ≤ most))) = b
  cases b <;> rfl

theorem sitems_ok (S : (List TCol) → Int → (List TVal) → Int → Option Int) (a : Nat) (C : List TVal → Option (List TVal)) (g : RG C) (n : Nat) (hn : n ≤ 100)
    (h : ∀ pos, pos ≤ V.length → S s (a : Int) V (pos : Int) = some (posOf V (C (V.drop pos)))) : ∀ (m j f pos : Nat), n = j + m → m < f → pos ≤ V.length →
      spec_l13Part.l13 k S f s (a : Int) V (pos : Int) (n : Int) (j : Int) = some (posOf V (rIt C m (V.drop pos))) := by
  intro m
  induction m with
  | zero =>
    intro j f pos hj hf hp
    obtain ⟨f, rfl⟩ : ∃ q, f = q + 1 := ⟨f - 1, by omega⟩
    simp only [spec_l13Part.l13, decide_eq_false (show ¬ (j : Int) < (n : Int) by omega), cond_false, rIt, posOf, List.length_drop]
    congr 1; omega
  | succ m ih =>
    intro j f pos hj hf hp
    obtain ⟨f, rfl⟩ : ∃ q, f = q + 1 := ⟨f - 1, by omega⟩
    have hj1 : IntKind.wrap .i64 ((j : Int) + 1) = ((j + 1 : Nat) : Int) := by rw [w64 (by omega) (by omega)]; omega
    have e := h pos hp
    cases hr : C (V.drop pos) with
    | none =>
      rw [hr] at e
      have e : S s (a : Int) V (pos : Int) = some (-1) := e
      simp only [spec_l13Part.l13, decide_eq_true (show (j : Int) < (n : Int) by omega), cond_true, e, Option.bind_some, rIt, hr, decide_eq_true (show (-1 : Int) < 0 by omega)]
      rfl
    | some W =>
      rw [hr] at e
      have e : S s (a : Int) V (pos : Int) = some ((V.length - W.length : Nat) : Int) := e
      obtain ⟨p1, p2, p3⟩ := g.pos hp hr
      simp only [spec_l13Part.l13, decide_eq_true (show (j : Int) < (n : Int) by omega), cond_true, e, Option.bind_some, rIt, hj1, hr, decide_eq_false (show ¬ ((V.length - W.length : Nat) : Int) < 0 by omega), cond_false]
      rw [ih (j + 1) f _ (by omega) (by omega) p1, p2]

theorem spart_ok (d D a nx : Nat) (h : SubC s d a nx) (hnx : nx ≤ s.length)
    (P : ∀ pos, pos ≤ V.length → (spec_l13Content.rec k D).1 s (a : Int) V (pos : Int) = some (posOf V (rC s d a (V.drop pos)))) (pos : Nat) (hpos : pos ≤ V.length) :
    (spec_l13Content.rec k (D + 1)).2 s (a : Int) V (pos : Int) = some (posOf V (rPart s (rC s d a) a (V.drop pos))) := by
  have g := RG.c hs d a
  have hlt := SubC_lt _ _ _ h
  obtain ⟨d', rfl⟩ : ∃ q, d = q + 1 := ⟨d - 1, by cases d with
    | zero => exact h.elim
    | succ d => omega⟩
  obtain ⟨c, hc, hco, _, _⟩ := h
  have hrep : c.2.2.1 = 0 ∨ c.2.2.1 = 1 ∨ c.2.2.1 = 2 := by
    unfold colOk at hco
    simp only [Bool.and_eq_true, decide_eq_true_eq] at hco
    omega
  have hp1 : IntKind.wrap .i64 ((pos : Int) + 1) = ((pos + 1 : Nat) : Int) := by rw [w64 (by omega) (by omega)]; omega
  generalize hgC : rC s (d' + 1) a = C at *
  simp only [spec_l13Content.rec, spec_l13Part.b, rdL_nat, hc, Option.bind_some, rPart, spec_l13Part.c12, spec_l13Part.c6]
  have some_ : ∀ most : Int, most = 1 ∨ most = 20 →
      cond (decide ((pos : Int) ≥ (V.length : Int))) (some (-1)) ((V[pos]?).bind fun y2 => (spec_l13Count k y2 most).bind fun r3 => cond (decide (r3 < 0)) (some (-1)) (spec_l13Part.l13 k (spec_l13Content.rec k D).1 k s (a : Int) V (IntKind.wrap .i64 ((pos : Int) + 1)) r3 0)) =
        some (posOf V (match V.drop pos with
          | [] => none
          | v :: V => if cbad v most = true then none else rIt C v.1.toNat V)) := by
    intro most hm
    by_cases hlt' : pos < V.length
    · have hd : V.drop pos = V[pos] :: V.drop (pos + 1) := List.drop_eq_getElem_cons hlt'
      rw [decide_eq_false (by omega), cond_false, List.getElem?_eq_getElem hlt', hd]
      simp only [Option.bind_some, scount_eq k s hs hn hk V hV]
      cases hb : cbad V[pos] most with
      | true => rfl
      | false =>
        have hcb := cbad_false hb
        simp only [Bool.false_eq_true, if_false]
        obtain ⟨n, hn'⟩ : ∃ n : Nat, (V[pos]).1 = (n : Int) := ⟨(V[pos]).1.toNat, by omega⟩
        rw [decide_eq_false (by omega), cond_false, hp1, hn', Int.toNat_natCast]
        exact sitems_ok k s hs hn hk V hV (spec_l13Content.rec k D).1 a C g n (by omega) P n 0 k (pos + 1) (by omega) (by omega) (by omega)
    · have hd : V.drop pos = [] := List.drop_of_length_le (by omega)
      rw [decide_eq_true (by omega), cond_true, hd]; rfl
  rcases hrep with hr | hr | hr
  · rw [bneF hr, cond_false, if_pos hr]
    have := sitems_ok k s hs hn hk V hV (spec_l13Content.rec k D).1 a C g 1 (by omega) P 1 0 k pos (by omega) (by omega) hpos
    have e : rIt C 1 (V.drop pos) = C (V.drop pos) := by simp only [rIt]; cases C (V.drop pos) <;> rfl
    rw [e] at this
    exact this
  · rw [bneT (by omega), cond_true, beqF (by omega), cond_false, if_neg (by omega)]
    rw [some_ 1 (.inl rfl), if_neg (show ¬ c.2.2.1 = 2 by omega)]
  · rw [bneT (by omega), cond_true, beqT hr, cond_true, if_neg (by omega)]
    rw [some_ 20 (.inr rfl), if_pos hr]

theorem sparts_ok (d D : Nat) (hd : d ≤ 6) (a : Nat) (c : TCol) (hc : s[a]? = some c) (hcm : c.2.2.2.1 ≤ 1000000) (nx : Nat) (hnx : nx ≤ s.length)
    (Q : ∀ pl mid, SubC s d pl mid → mid ≤ s.length → ∀ pos, pos ≤ V.length → (spec_l13Content.rec k D).2 s (pl : Int) V (pos : Int) = some (posOf V (rPart s (rC s d pl) pl (V.drop pos)))) :
    ∀ (m pl : Nat) (i : Int) (names : List ByteArray) (f pos : Nat), PartsC (SubC s d) s m pl names nx → c.2.2.2.1 - i = m → 0 ≤ i → m < f → pos ≤ V.length →
      spec_l13Content.l7 k (spec_l13Content.rec k D).2 f s (a : Int) V (pos : Int) (pl : Int) i = some (posOf V (rParts (fun a V => rPart s (rC s d a) a V) (endC s d) m pl (V.drop pos))) := by
  intro m
  induction m with
  | zero =>
    intro pl i names f pos hp hi h0 hf hpos
    obtain ⟨f, rfl⟩ : ∃ q, f = q + 1 := ⟨f - 1, by omega⟩
    simp only [spec_l13Content.l7, rdL_nat, hc, Option.bind_some, decide_eq_false (show ¬ (i < c.2.2.2.1) by omega), cond_false, rParts, posOf, List.length_drop]
    congr 1; omega
  | succ m ih =>
    intro pl i names f pos hp hi h0 hf hpos
    obtain ⟨q, mid, q1, q2, q3, q4⟩ := hp
    have hmn := PartsC_nx (SubC_lt d) _ _ _ _ q4
    obtain ⟨f, rfl⟩ : ∃ q, f = q + 1 := ⟨f - 1, by omega⟩
    have hi1 : IntKind.wrap .i64 (i + 1) = i + 1 := w64 (by omega) (by omega)
    have hend : endC s d pl = mid := endC_eq d q3 d (Nat.le_refl _)
    have haf := l5After_sub k s hs hn (by omega) q3 hd (by omega)
    have g : RG (fun V => rPart s (rC s d pl) pl V) := RG.of (F := evPart s (evC s d pl) mid pl 0 0 0) (fun V => rst_part s _ (rC s d pl) (fun r q p V => rst_C s d pl r q p V) mid pl 0 0 0 V)
      (fun V => EvG.part hs (fun r q p V => evC_G hs d pl r q p V) mid pl 0 0 0 V)
    have e := Q pl mid q3 (by omega) pos hpos
    cases hr : rPart s (rC s d pl) pl (V.drop pos) with
    | none =>
      rw [hr] at e
      have e : (spec_l13Content.rec k D).2 s (pl : Int) V (pos : Int) = some (-1) := e
      simp only [spec_l13Content.l7, rdL_nat, hc, Option.bind_some, decide_eq_true (show i < c.2.2.2.1 by omega), cond_true, e, rParts, hr, decide_eq_true (show (-1 : Int) < 0 by omega), Option.bind_none]
      rfl
    | some W =>
      rw [hr] at e
      have e : (spec_l13Content.rec k D).2 s (pl : Int) V (pos : Int) = some ((V.length - W.length : Nat) : Int) := e
      obtain ⟨p1, p2, p3⟩ := g.pos (C := fun V => rPart s (rC s d pl) pl V) hpos hr
      simp only [spec_l13Content.l7, rdL_nat, hc, Option.bind_some, decide_eq_true (show i < c.2.2.2.1 by omega), cond_true, e, rParts, hr, hend, haf, hi1, decide_eq_false (show ¬ ((V.length - W.length : Nat) : Int) < 0 by omega), cond_false]
      rw [ih mid (i + 1) _ f _ q4 (by omega) (by omega) (by omega) p1, p2]

theorem sbody_ok : ∀ (d D a nx : Nat), SubC s d a nx → nx ≤ s.length → d ≤ 6 → 2 * d ≤ D → ∀ pos, pos ≤ V.length →
    (spec_l13Content.rec k D).1 s (a : Int) V (pos : Int) = some (posOf V (rC s d a (V.drop pos))) := by
  intro d
  induction d with
  | zero => intro D a nx h; exact h.elim
  | succ d ih =>
    intro D a nx h hnx hd hD pos hpos
    obtain ⟨D, rfl⟩ : ∃ q, D = q + 2 := ⟨D - 2, by omega⟩
    have hlt := SubC_lt _ _ _ h
    obtain ⟨c, hc, hco, _, hp⟩ := h
    have ha1 : IntKind.wrap .i64 ((a : Int) + 1) = ((a + 1 : Nat) : Int) := by rw [w64 (by omega) (by omega)]; omega
    have hp1 : IntKind.wrap .i64 ((pos : Int) + 1) = ((pos + 1 : Nat) : Int) := by rw [w64 (by omega) (by omega)]; omega
    have hmp := PartsC_le (SubC_lt d) _ _ _ _ hp
    rw [show D + 2 = (D + 1) + 1 from rfl]
    by_cases h7 : c.2.1 = 7
    · have hmn : 0 ≤ c.2.2.2.1 := by
        unfold colOk at hco
        rw [h7, tyOk_7] at hco
        simp at hco
        omega
      have key := sparts_ok k s hs hn hk V hV d (D + 1) (by omega) a c hc (by omega) nx hnx
        (fun pl mid hs1 hm1 pos hpos => spart_ok k s hs hn hk V hV d D pl mid hs1 hm1 (fun pos hpos => ih D pl mid hs1 hm1 (by omega) (by omega) pos hpos) pos hpos) c.2.2.2.1.toNat (a + 1) 0 [] k pos hp (by omega) (by omega) (by omega) hpos
      simp only [spec_l13Content.rec, spec_l13Content.b, rdL_nat, hc, Option.bind_some, bneF h7, cond_false, ha1, rC]
      rw [if_pos h7]
      exact key
    · simp only [spec_l13Content.rec, spec_l13Content.b, rdL_nat, hc, Option.bind_some, bneT h7, cond_true, rC]
      rw [if_neg h7]
      by_cases hlt' : pos < V.length
      · have hd' : V.drop pos = V[pos] :: V.drop (pos + 1) := List.drop_eq_getElem_cons hlt'
        rw [decide_eq_false (by omega), cond_false, List.getElem?_eq_getElem hlt', hd']
        simp only [Option.bind_some, svalOk_eq, hp1]
        cases hv : vok c.2.1 V[pos] with
        | true => simp only [Bool.not_true, cond_false, if_true, posOf, List.length_drop]; congr 1; omega
        | false => simp only [Bool.not_false, cond_true, Bool.false_eq_true, if_false]; rfl
      · have hd' : V.drop pos = [] := List.drop_of_length_le (by omega)
        rw [decide_eq_true (by omega), cond_true, hd']; rfl
end

theorem ev_pos {V : List TVal} {F : List TVal → EvR} (g : ∀ V, EvG V (F V)) {pos : Nat} {X : List Ev} {W : List TVal} (hp : pos ≤ V.length) (h : F (V.drop pos) = some (X, W)) :
    V.length - W.length ≤ V.length ∧ V.drop (V.length - W.length) = W ∧ pos ≤ V.length - W.length ∧ X.length + 20 * pos ≤ 20 * (V.length - W.length) := by
  obtain ⟨g1, g2, g3⟩ := g _ _ _ h
  simp only [List.length_drop] at g1 g2 g3
  refine ⟨by omega, ?_, by omega, by omega⟩
  rw [List.drop_drop] at g3
  rw [show V.length - W.length = pos + (V.length - pos - W.length) by omega]
  exact g3.symm


end Go.Law
end

section
/- The walker's instance of RecOk: it folds what is come to. Printed by program. -/
set_option linter.unusedVariables false
set_option linter.unusedSimpArgs false
set_option linter.unusedSectionVars false
namespace Go.Law
open Go.Am Go.Fn

def WO.P (_ : Nat) (_ : Nat) : Prop := True
def WO.stp (n : Nat) (_ : Ev) : Nat := n + 1
theorem WO.P_stp (acc : Nat) (e : Ev) (m : Nat) (h : WO.P (m + 1) acc) : WO.P m (WO.stp acc e) := trivial
theorem WO.P_le (acc : Nat) (m n : Nat) (h : WO.P m acc) (hn : n ≤ m) : WO.P n acc := trivial

section
variable (k : Nat) (s : List TCol)  
theorem WO.leaf_ok (a : Nat) (rep def_ : Int) (v : TVal) (acc : Nat) (m : Nat) (hP : WO.P (m + 1) acc) (ha : a < s.length) (hc : ∀ c, s[a]? = some c → c.2.1 ≠ 7) : impl_RecOk_1 k (a : Int) rep def_ v = some () := rfl
theorem WO.none_ok (a : Nat) (rep def_ : Int) (acc : Nat) (m : Nat) (hP : WO.P (m + 1) acc) (ha : a < s.length) (hc : ∀ c, s[a]? = some c → c.2.1 ≠ 7) : impl_RecOk_2 k (a : Int) rep def_ = some () := rfl
end

section
variable (k : Nat) (s : List TCol) (hs : s.length ≤ 20) (hn : ∀ c, c ∈ s → c.1.size < k ∧ c.1.size < 1000000000 ∧ I64 c.2.2.2.1) (hk : 2000000 ≤ k)  
include hs hn hk 

theorem WO.P_fold : ∀ (X : List Ev) (acc : Nat) (m : Nat), WO.P  (m + X.length) (acc) → WO.P  (m) (X.foldl WO.stp acc)
  | [], acc, m, h => h
  | e :: X, acc, m, h => by
    rw [List.foldl_cons]
    refine WO.P_fold X (WO.stp acc e) m (WO.P_stp  acc e (m + X.length) ?_)
    have e1 : m + X.length + 1 = m + (e :: X).length := by simp; omega
    rw [e1]; exact h

theorem WO.next_cons (v : TVal) (V : List TVal) (hV : V.length ≤ 1048576) (acc : Nat) :
    impl_walker_next_of_RecOk_1_RecOk_2 k (s, v :: V, false, (), (), ())  = some (v, (s, V, false, (), (), ())) := by
  unfold impl_walker_next_of_RecOk_1_RecOk_2
  have hz : (((v :: V).length : Int) == 0) = false := beqF (by simp; omega)
  have hcut : cutL (v :: V) 1 ((v :: V).length : Int) = V := by
    unfold cutL
    rw [Int.toNat_natCast, List.take_length]; rfl
  have hr : rdL (v :: V) 0 = some v := rfl
  simp only [cond_false, hz, Option.bind_some, hr, hcut]
  rw [inSl_ok (by omega) (by simp; omega) (by omega), cond_true]

theorem WO.next_nil (acc : Nat) : impl_walker_next_of_RecOk_1_RecOk_2 k (s, [], false, (), (), ())  = some (zv, (s, [], true, (), (), ())) := by
  unfold impl_walker_next_of_RecOk_1_RecOk_2
  simp only [cond_false, List.length_nil, Option.bind_some]
  rfl

theorem WO.count_cons (v : TVal) (V : List TVal) (hV : V.length ≤ 1048576) (most : Int) (acc : Nat) :
    impl_walker_count_of_RecOk_1_RecOk_2 k most (s, v :: V, false, (), (), ())  = some (if cbad v most then 0 else v.1, (s, V, cbad v most, (), (), ())) := by
  unfold impl_walker_count_of_RecOk_1_RecOk_2 cbad
  simp only [WO.next_cons k s hs hn hk  v V hV acc, Option.bind_some, within_eq, cst]
  generalize (!eqS v.2.1 ⟨#[]⟩ || !(decide (0 ≤ v.1) && decide (v.1 ≤ most))) = b
  cases b <;> rfl

theorem WO.count_nil (most : Int) (hm : 0 ≤ most) (acc : Nat) : impl_walker_count_of_RecOk_1_RecOk_2 k most (s, [], false, (), (), ())  = some (0, (s, [], true, (), (), ())) := by
  unfold impl_walker_count_of_RecOk_1_RecOk_2
  have hz : eqS (⟨#[]⟩ : ByteArray) ⟨#[]⟩ = true := by rw [eqS_iff]; simp
  have hw : (decide ((0 : Int) ≤ 0) && decide ((0 : Int) ≤ most)) = true := by simp; omega
  simp only [WO.next_nil k s hs hn hk  acc, Option.bind_some, zv, within_eq, hz, hw, Bool.not_true, cond_false]

theorem WO.miss_ok (d a nx : Nat) (h : SubC s d a nx) (hd : d ≤ 6) (hnx : nx ≤ s.length) (rep def_ : Int) (V : List TVal) (bad : Bool) (acc : Nat) (hP : WO.P  (20) (acc)) :
    impl_walker_missing_of_RecOk_1_RecOk_2 k (a : Int) rep def_ (s, V, bad, (), (), ())  = some ((nx : Int), (s, V, bad, (), (), ())) := by
  have key : ∀ (m n i : Nat) (acc : Nat), i + m = nx → m < n → WO.P  (m) (acc) → impl_walker_missing_of_RecOk_1_RecOk_2.l3 k n rep def_ (nx : Int) (i : Int) (s, V, bad, (), (), ())  = some ((nx : Int), (s, V, bad, (), (), ())) := by
    intro m
    induction m with
    | zero =>
      intro n i acc hi hn _
      obtain ⟨n, rfl⟩ : ∃ j, n = j + 1 := ⟨n - 1, by omega⟩
      simp only [impl_walker_missing_of_RecOk_1_RecOk_2.l3, decide_eq_false (show ¬ (i : Int) < (nx : Int) by omega), cond_false, miss, List.foldl_nil]
    | succ m ih =>
      intro n i acc hi hn hP
      obtain ⟨n, rfl⟩ : ∃ j, n = j + 1 := ⟨n - 1, by omega⟩
      obtain ⟨c, hc, hc'⟩ := rdL_some (xs := s) (i := (i : Int)) (by omega) (by omega)
      have hc' : s[i]? = some c := by simpa using hc'
      have hi1 : IntKind.wrap .i64 ((i : Int) + 1) = ((i + 1 : Nat) : Int) := by rw [w64 (by omega) (by omega)]; omega
      simp only [impl_walker_missing_of_RecOk_1_RecOk_2.l3, decide_eq_true (show (i : Int) < (nx : Int) by omega), cond_true, hc, Option.bind_some, impl_walker_missing_of_RecOk_1_RecOk_2.c4, hi1, miss, hc', List.foldl_append]
      by_cases h7 : c.2.1 = 7
      · rw [bneF h7, cond_false]
        exact ih n (i + 1) acc (by omega) (by omega) (WO.P_le  acc (m + 1) m hP (by omega))
      · have hno := WO.none_ok k s  i rep def_ acc m hP (by omega) (fun c' h' => by rw [hc'] at h'; cases h'; exact h7)
        rw [bneT h7, cond_true]
        simp only [hno, Option.bind_some, Option.bind_some]
        exact ih n (i + 1) (acc + 1) (by omega) (by omega) trivial
  unfold impl_walker_missing_of_RecOk_1_RecOk_2
  have hlt := SubC_lt _ _ _ h
  have hca := colAfter_sub k s hs hn (by omega) h hd hnx
  simp only [hca, Option.bind_some]
  exact key (nx - a) k a acc (by omega) (by omega) (WO.P_le  acc 20 (nx - a) hP (by omega))

/-- how a run stands to what is come to -/
def WO.Good (s : List TCol)  (r : EvR) (o : Option (Int × TWalker)) (nx : Nat) (acc : Nat) : Prop :=
  match r with
  | some (X, W) => o = some ((nx : Int), (s, W, false, (), (), ()))
  | none => ∃ (nx' : Int) (V' : List TVal) (acc' : Nat), o = some (nx', (s, V', true, (), (), ()))

theorem WO.items_ok (S : Int → Int → Int → Int → TWalker → Option (Int × TWalker)) (a nx : Nat) (hca : impl_colAfter k s (a : Int) 1 = some (nx : Int)) (C : List TVal → EvR) (hC : ∀ V, EvG V (C V)) (rep def_ deep : Int) (n : Nat) (hn100 : n ≤ 100) (hdef : IntKind.wrap .i64 (def_ + 1) = def_ + 1)
    (h : ∀ V acc, V.length ≤ 1048576 → WO.P  (20 * V.length + 20) (acc) → WO.Good s  (C V) (S (a : Int) deep (def_ + 1) deep (s, V, false, (), (), ()) ) nx acc) :
    ∀ (m j f : Nat) (V : List TVal) (acc : Nat), n = j + m → 1 ≤ j → m < f → V.length ≤ 1048576 → WO.P  (20 * V.length + 20) (acc) →
      WO.Good s  (evItems C m V) (impl_walker_col_of_RecOk_1_RecOk_2.l14 k S f (a : Int) def_ deep (n : Int) (j : Int) (s, V, false, (), (), ()) ) nx acc := by
  intro m
  induction m with
  | zero =>
    intro j f V acc hj h1 hf hV hP
    obtain ⟨f, rfl⟩ : ∃ q, f = q + 1 := ⟨f - 1, by omega⟩
    simp only [evItems, WO.Good, impl_walker_col_of_RecOk_1_RecOk_2.l14, decide_eq_false (show ¬ (j : Int) < (n : Int) by omega), cond_false, Option.bind_some, hca, List.foldl_nil]
  | succ m ih =>
    intro j f V acc hj h1 hf hV hP
    obtain ⟨f, rfl⟩ : ∃ q, f = q + 1 := ⟨f - 1, by omega⟩
    have hj1 : IntKind.wrap .i64 ((j : Int) + 1) = ((j + 1 : Nat) : Int) := by rw [w64 (by omega) (by omega)]; omega
    have g := h V acc hV hP
    simp only [evItems, evPair, impl_walker_col_of_RecOk_1_RecOk_2.l14, decide_eq_true (show (j : Int) < (n : Int) by omega), cond_true, Bool.not_false, Option.bind_some, hdef, hj1]
    cases hr : C V with
    | none =>
      rw [hr] at g
      obtain ⟨nx', V', acc', e⟩ := g
      simp only [WO.Good]
      simp only [e, Option.bind_some]
      obtain ⟨f, rfl⟩ : ∃ q, f = q + 1 := ⟨f - 1, by omega⟩
      simp only [impl_walker_col_of_RecOk_1_RecOk_2.l14, csf, Bool.not_true, Bool.and_false, Option.bind_some, cond_false, hca]
      exact ⟨_, _, 0, rfl⟩
    | some q =>
      obtain ⟨X, W⟩ := q
      rw [hr] at g
      simp only [WO.Good] at g
      obtain ⟨g1, g2, _⟩ := hC V X W hr
      have i := ih (j + 1) f W (X.foldl WO.stp acc) (by omega) (by omega) (by omega) (by omega) (WO.P_fold k s hs hn hk  X acc (20 * W.length + 20) (WO.P_le  acc _ _ hP (by omega)))
      simp only [g, Option.bind_some]
      cases hr2 : evItems C m W with
      | none => rw [hr2] at i; exact i
      | some q2 =>
        obtain ⟨Y, U⟩ := q2
        rw [hr2] at i
        simp only [WO.Good] at i ⊢
        exact i

theorem WO.part_ok (d D a nx : Nat) (h : SubC s d a nx) (hd : d ≤ 6) (hnx : nx ≤ s.length) (rep def_ deep : Int) (h0 : 0 ≤ def_) (h1 : def_ ≤ 1000) (h2 : 0 ≤ deep) (h3 : deep ≤ 1000)
    (P : ∀ (r q p : Int) (V : List TVal) (acc : Nat), 0 ≤ q → q ≤ def_ + 1 → 0 ≤ p → p ≤ deep + 1 → V.length ≤ 1048576 → WO.P  (20 * V.length + 20) (acc) → WO.Good s  (evC s d a r q p V) ((impl_walker_body_of_RecOk_1_RecOk_2.rec k D).1 (a : Int) r q p (s, V, false, (), (), ()) ) nx acc)
    (V : List TVal) (acc : Nat) (hV : V.length ≤ 1048576) (hP : WO.P  (20 * V.length + 20) (acc)) :
    WO.Good s  (evPart s (evC s d a) nx a rep def_ deep V) ((impl_walker_body_of_RecOk_1_RecOk_2.rec k (D + 1)).2 (a : Int) rep def_ deep (s, V, false, (), (), ()) ) nx acc := by
  have hlt := SubC_lt _ _ _ h
  have hmiss := WO.miss_ok k s hs hn hk  d a nx h hd hnx
  have hca := colAfter_sub k s hs hn (by omega) h hd hnx
  have hG := fun r p q V => evC_G hs d a r p q V
  obtain ⟨d', rfl⟩ : ∃ q, d = q + 1 := ⟨d - 1, by cases d with
    | zero => exact h.elim
    | succ d => omega⟩
  obtain ⟨c, hc, hco, _, _⟩ := h
  have hrep : c.2.2.1 = 0 ∨ c.2.2.1 = 1 ∨ c.2.2.1 = 2 := by
    unfold colOk at hco
    simp only [Bool.and_eq_true, decide_eq_true_eq] at hco
    omega
  have hd1 : IntKind.wrap .i64 (def_ + 1) = def_ + 1 := w64 (by omega) (by omega)
  have hp1 : IntKind.wrap .i64 (deep + 1) = deep + 1 := w64 (by omega) (by omega)
  simp only [impl_walker_body_of_RecOk_1_RecOk_2.rec, impl_walker_col_of_RecOk_1_RecOk_2.b, rdL_nat, hc, Option.bind_some, evPart]
  generalize hgC : evC s (d' + 1) a = C at *
  rcases hrep with hr | hr | hr
  · -- Required
    rw [if_pos hr]
    simp only [beqF (show ¬ c.2.2.1 = 1 by omega), beqF (show ¬ c.2.2.1 = 2 by omega), cond_false, impl_walker_col_of_RecOk_1_RecOk_2.c18]
    have g := P rep def_ deep V acc h0 (by omega) h2 (by omega) hV hP
    cases hr2 : C rep def_ deep V with
    | none =>
      rw [hr2] at g
      obtain ⟨nx', V', acc', e⟩ := g
      simp only [WO.Good, e, Option.bind_some]
      exact ⟨_, _, 0, rfl⟩
    | some q =>
      obtain ⟨X, W⟩ := q
      rw [hr2] at g
      simp only [WO.Good] at g ⊢
      rw [g]; rfl
  · -- Optional
    rw [if_neg (by omega)]
    simp only [beqT hr, cond_true, impl_walker_col_of_RecOk_1_RecOk_2.c18]
    cases V with
    | nil =>
      simp only [WO.count_nil k s hs hn hk  1 (by omega) acc, Option.bind_some, beqT (show (0 : Int) = 0 from rfl), cond_true, hmiss rep def_ [] true acc (WO.P_le  acc _ _ hP (by simp))]
      exact ⟨_, _, 0, rfl⟩
    | cons v V =>
      have hV' : V.length ≤ 1048576 := by simp at hV; omega
      have hl20 : 20 * (v :: V).length + 20 = 20 * V.length + 40 := by simp; omega
      rw [hl20] at hP
      simp only [WO.count_cons k s hs hn hk  v V hV' 1 acc, Option.bind_some]
      rw [if_neg (by omega)]
      cases hb : cbad v 1 with
      | true =>
        simp only [if_true, beqT (show (0 : Int) = 0 from rfl), cond_true, hmiss rep def_ V true acc (WO.P_le  acc _ _ hP (by omega)), Option.bind_some]
        exact ⟨_, _, 0, rfl⟩
      | false =>
        simp only [Bool.false_eq_true, if_false]
        by_cases hv0 : v.1 = 0
        · rw [if_pos hv0, beqT hv0, cond_true]
          simp only [hmiss rep def_ V false acc (WO.P_le  acc _ _ hP (by omega)), Option.bind_some]
          rfl
        · rw [if_neg hv0, beqF hv0, cond_false]
          simp only [hd1]
          have g := P rep (def_ + 1) deep V acc (by omega) (by omega) h2 (by omega) hV' (WO.P_le  acc _ _ hP (by omega))
          cases hr2 : C rep (def_ + 1) deep V with
          | none =>
            rw [hr2] at g
            obtain ⟨nx', V', acc', e⟩ := g
            simp only [WO.Good, e, Option.bind_some]
            exact ⟨_, _, 0, rfl⟩
          | some q =>
            obtain ⟨X, W⟩ := q
            rw [hr2] at g
            simp only [WO.Good] at g ⊢
            rw [g]; rfl
  · -- Repeated
    rw [if_neg (by omega)]
    simp only [beqF (show ¬ c.2.2.1 = 1 by omega), beqT hr, cond_true, cond_false]
    cases V with
    | nil =>
      simp only [WO.count_nil k s hs hn hk  20 (by omega) acc, Option.bind_some, beqT (show (0 : Int) = 0 from rfl), cond_true, hmiss rep def_ [] true acc (WO.P_le  acc _ _ hP (by simp))]
      exact ⟨_, _, 0, rfl⟩
    | cons v V =>
      have hV' : V.length ≤ 1048576 := by simp at hV; omega
      have hl20 : 20 * (v :: V).length + 20 = 20 * V.length + 40 := by simp; omega
      rw [hl20] at hP
      simp only [WO.count_cons k s hs hn hk  v V hV' 20 acc, Option.bind_some]
      rw [if_pos hr]
      cases hb : cbad v 20 with
      | true =>
        simp only [if_true, beqT (show (0 : Int) = 0 from rfl), cond_true, hmiss rep def_ V true acc (WO.P_le  acc _ _ hP (by omega)), Option.bind_some]
        exact ⟨_, _, 0, rfl⟩
      | false =>
        simp only [Bool.false_eq_true, if_false]
        have hcb := cbad_false hb
        by_cases hv0 : v.1 = 0
        · rw [if_pos hv0, beqT hv0, cond_true]
          simp only [hmiss rep def_ V false acc (WO.P_le  acc _ _ hP (by omega)), Option.bind_some]
          rfl
        · rw [if_neg hv0, beqF hv0, cond_false]
          simp only [hd1, hp1]
          obtain ⟨n, hn'⟩ : ∃ n : Nat, v.1 = (n : Int) := ⟨v.1.toNat, by omega⟩
          rw [hn', Int.toNat_natCast]
          have g := P rep (def_ + 1) (deep + 1) V acc (by omega) (by omega) (by omega) (by omega) hV' (WO.P_le  acc _ _ hP (by omega))
          simp only [evPair]
          cases hr2 : C rep (def_ + 1) (deep + 1) V with
          | none =>
            rw [hr2] at g
            obtain ⟨nx', V', acc', e⟩ := g
            simp only [WO.Good, e, Option.bind_some]
            obtain ⟨k', hk'⟩ : ∃ q, k = q + 1 := ⟨k - 1, by omega⟩
            have hbad : impl_walker_col_of_RecOk_1_RecOk_2.l14 k (impl_walker_body_of_RecOk_1_RecOk_2.rec k D).1 k (a : Int) def_ (deep + 1) (n : Int) 1 (s, V', true, (), (), ())  = some ((nx : Int), (s, V', true, (), (), ())) := by
              conv => lhs; arg 3; rw [hk']
              simp only [impl_walker_col_of_RecOk_1_RecOk_2.l14, csf, Bool.not_true, Bool.and_false, Option.bind_some, cond_false, hca]
            rw [hbad]
            exact ⟨_, _, 0, rfl⟩
          | some q =>
            obtain ⟨X, W⟩ := q
            rw [hr2] at g
            simp only [WO.Good] at g
            obtain ⟨g1, g2, _⟩ := hG rep (def_ + 1) (deep + 1) V X W hr2
            have i := WO.items_ok k s hs hn hk  (impl_walker_body_of_RecOk_1_RecOk_2.rec k D).1 a nx hca (C (deep + 1) (def_ + 1) (deep + 1)) (hG _ _ _) rep def_ (deep + 1) n (by omega) hd1
              (fun V acc hV hP => P (deep + 1) (def_ + 1) (deep + 1) V acc (by omega) (by omega) (by omega) (by omega) hV hP) (n - 1) 1 k W (X.foldl WO.stp acc) (by omega) (by omega) (by omega) (by omega)
              (WO.P_fold k s hs hn hk  X acc (20 * W.length + 20) (WO.P_le  acc _ _ hP (by omega)))
            simp only [g, Option.bind_some]
            cases hr3 : evItems (C (deep + 1) (def_ + 1) (deep + 1)) (n - 1) W with
            | none => rw [hr3] at i; exact i
            | some q2 =>
              obtain ⟨Y, U⟩ := q2
              rw [hr3] at i
              simp only [WO.Good] at i ⊢
              try rw [List.foldl_append]
              exact i

theorem WO.parts_ok (d D : Nat) (hd : d ≤ 6) (many : Int) (hm : many ≤ 1000000) (nx : Nat) (hnx : nx ≤ s.length) (rep def_ deep : Int)
    (Q : ∀ pl mid, SubC s d pl mid → mid ≤ s.length → ∀ (V : List TVal) (acc : Nat), V.length ≤ 1048576 → WO.P  (20 * V.length + 20) (acc) →
      WO.Good s  (evPart s (evC s d pl) mid pl rep def_ deep V) ((impl_walker_body_of_RecOk_1_RecOk_2.rec k D).2 (pl : Int) rep def_ deep (s, V, false, (), (), ()) ) mid acc) :
    ∀ (m pl : Nat) (i : Int) (names : List ByteArray) (f : Nat) (V : List TVal) (acc : Nat), PartsC (SubC s d) s m pl names nx → many - i = m → 0 ≤ i → m < f → V.length ≤ 1048576 → WO.P  (20 * V.length + 20) (acc) →
      WO.Good s  (evParts (fun a V => evPart s (evC s d a) (endC s d a) a rep def_ deep V) (endC s d) m pl V) (impl_walker_body_of_RecOk_1_RecOk_2.l10 k (impl_walker_body_of_RecOk_1_RecOk_2.rec k D).2 f rep def_ deep (pl : Int) many i (s, V, false, (), (), ()) ) nx acc := by
  intro m
  induction m with
  | zero =>
    intro pl i names f V acc hp hi h0 hf hV hP
    have hp : pl = nx := hp
    subst hp
    obtain ⟨f, rfl⟩ : ∃ q, f = q + 1 := ⟨f - 1, by omega⟩
    simp only [evParts, WO.Good, impl_walker_body_of_RecOk_1_RecOk_2.l10, decide_eq_false (show ¬ (i < many) by omega), cond_false, impl_walker_body_of_RecOk_1_RecOk_2.c14, List.foldl_nil]
  | succ m ih =>
    intro pl i names f V acc hp hi h0 hf hV hP
    obtain ⟨q, mid, q1, q2, q3, q4⟩ := hp
    have hmn := PartsC_nx (SubC_lt d) _ _ _ _ q4
    obtain ⟨f, rfl⟩ : ∃ q, f = q + 2 := ⟨f - 2, by omega⟩
    have hi1 : IntKind.wrap .i64 (i + 1) = i + 1 := w64 (by omega) (by omega)
    have hend : endC s d pl = mid := endC_eq d q3 d (Nat.le_refl _)
    have g := Q pl mid q3 (by omega) V acc hV hP
    have hG : EvG V (evPart s (evC s d pl) mid pl rep def_ deep V) := EvG.part hs (fun r p q V => evC_G hs d pl r p q V) mid pl rep def_ deep V
    rw [show f + 2 = (f + 1) + 1 by rfl]
    simp only [evParts, evPair, hend, impl_walker_body_of_RecOk_1_RecOk_2.l10, decide_eq_true (show i < many by omega), cond_true, cond_false, hi1]
    cases hr : evPart s (evC s d pl) mid pl rep def_ deep V with
    | none =>
      rw [hr] at g
      obtain ⟨nx', V', acc', e⟩ := g
      simp only [WO.Good, e, Option.bind_some, impl_walker_body_of_RecOk_1_RecOk_2.c14, cond_true]
      by_cases h2 : i + 1 < many
      · rw [decide_eq_true h2, cond_true]; exact ⟨_, _, 0, rfl⟩
      · rw [decide_eq_false h2, cond_false]; exact ⟨_, _, 0, rfl⟩
    | some q =>
      obtain ⟨X, W⟩ := q
      rw [hr] at g
      simp only [WO.Good] at g
      obtain ⟨g1, g2, _⟩ := hG X W hr
      have i2 := ih mid (i + 1) _ (f + 1) W (X.foldl WO.stp acc) q4 (by omega) (by omega) (by omega) (by omega) (WO.P_fold k s hs hn hk  X acc (20 * W.length + 20) (WO.P_le  acc _ _ hP (by omega)))
      simp only [g, Option.bind_some]
      cases hr2 : evParts (fun a V => evPart s (evC s d a) (endC s d a) a rep def_ deep V) (endC s d) m mid W with
      | none => rw [hr2] at i2; exact i2
      | some q2 =>
        obtain ⟨Y, U⟩ := q2
        rw [hr2] at i2
        simp only [WO.Good] at i2 ⊢
        try rw [List.foldl_append]
        exact i2

theorem WO.body_ok : ∀ (d D a nx : Nat), SubC s d a nx → nx ≤ s.length → d ≤ 6 → 2 * d ≤ D → ∀ (rep def_ deep : Int) (V : List TVal) (acc : Nat), 0 ≤ def_ → def_ + d ≤ 1001 → 0 ≤ deep → deep + d ≤ 1001 → V.length ≤ 1048576 → WO.P  (20 * V.length + 20) (acc) →
    WO.Good s  (evC s d a rep def_ deep V) ((impl_walker_body_of_RecOk_1_RecOk_2.rec k D).1 (a : Int) rep def_ deep (s, V, false, (), (), ()) ) nx acc := by
  intro d
  induction d with
  | zero => intro D a nx h; exact h.elim
  | succ d ih =>
    intro D a nx h hnx hd hD rep def_ deep V acc h0 h1 h2 h3 hV hP
    obtain ⟨D, rfl⟩ : ∃ q, D = q + 2 := ⟨D - 2, by omega⟩
    have hlt := SubC_lt _ _ _ h
    obtain ⟨c, hc, hco, _, hp⟩ := h
    have hcm := (hn c (List.mem_of_getElem? hc)).2.2
    have ha1 : IntKind.wrap .i64 ((a : Int) + 1) = ((a + 1 : Nat) : Int) := by rw [w64 (by omega) (by omega)]; omega
    have hmp := PartsC_le (SubC_lt d) _ _ _ _ hp
    by_cases h7 : c.2.1 = 7
    · have hmn : 0 ≤ c.2.2.2.1 := by
        unfold colOk at hco
        rw [h7, tyOk_7] at hco
        simp at hco
        omega
      have key := WO.parts_ok k s hs hn hk  d (D + 1) (by omega) c.2.2.2.1 (by omega) nx hnx rep def_ deep
        (fun pl mid hs1 hm1 V acc hV hP => WO.part_ok k s hs hn hk  d D pl mid hs1 (by omega) hm1 rep def_ deep h0 (by omega) h2 (by omega)
          (fun r q p V acc q0 q1 q2 q3 hV hP => ih D pl mid hs1 hm1 (by omega) (by omega) r q p V acc q0 (by omega) q2 (by omega) hV hP) V acc hV hP) c.2.2.2.1.toNat (a + 1) 0 [] k V acc hp (by omega) (by omega) (by omega) hV hP
      have e : (impl_walker_body_of_RecOk_1_RecOk_2.rec k (D + 2)).1 (a : Int) rep def_ deep (s, V, false, (), (), ())  = impl_walker_body_of_RecOk_1_RecOk_2.l10 k (impl_walker_body_of_RecOk_1_RecOk_2.rec k (D + 1)).2 k rep def_ deep ((a + 1 : Nat) : Int) c.2.2.2.1 0 (s, V, false, (), (), ())  := by
        rw [show D + 2 = (D + 1) + 1 from rfl]
        simp only [impl_walker_body_of_RecOk_1_RecOk_2.rec, impl_walker_body_of_RecOk_1_RecOk_2.b, rdL_nat, hc, Option.bind_some, bneF h7, cond_false, ha1]
      rw [e]
      simp only [evC, hc]
      rw [if_pos h7]
      exact key
    · have hm0 : c.2.2.2.1.toNat = 0 := by
        unfold colOk at hco
        rw [beqF h7] at hco
        simp at hco
        omega
      rw [hm0] at hp
      have hp : a + 1 = nx := hp
      subst hp
      rw [show D + 2 = (D + 1) + 1 from rfl]
      simp only [evC, impl_walker_body_of_RecOk_1_RecOk_2.rec, impl_walker_body_of_RecOk_1_RecOk_2.b, rdL_nat, hc, Option.bind_some, bneT h7, cond_true]
      rw [if_neg h7]
      cases V with
      | nil =>
        simp only [WO.next_nil k s hs hn hk  acc, Option.bind_some, impl_walker_body_of_RecOk_1_RecOk_2.d3, Bool.not_true, cond_false, impl_walker_body_of_RecOk_1_RecOk_2.c5, impl_walker_body_of_RecOk_1_RecOk_2.c7]
        exact ⟨_, _, 0, rfl⟩
      | cons v V =>
        have hV' : V.length ≤ 1048576 := by simp at hV; omega
        have hle := WO.leaf_ok k s  a rep def_ v acc (20 * V.length + 39) (WO.P_le  acc _ _ hP (by simp; omega)) (by omega) (fun c' h' => by rw [hc] at h'; cases h'; exact h7)
        simp only [WO.next_cons k s hs hn hk  v V hV' acc, Option.bind_some, impl_walker_body_of_RecOk_1_RecOk_2.d3, Bool.not_false, cond_true, rdL_nat, hc, valOk_eq]
        cases hvo : vok c.2.1 v with
        | false =>
          simp only [Bool.not_false, cond_true, impl_walker_body_of_RecOk_1_RecOk_2.c5, Bool.not_true, cond_false, impl_walker_body_of_RecOk_1_RecOk_2.c7, Bool.false_eq_true, if_false]
          exact ⟨_, _, 0, rfl⟩
        | true =>
          simp only [Bool.not_true, cond_false, impl_walker_body_of_RecOk_1_RecOk_2.c5, Bool.not_false, cond_true, hle, Option.bind_some, impl_walker_body_of_RecOk_1_RecOk_2.c7, ha1, if_true]
          rfl

/-- the whole record -/
theorem WO.walk_ok (hS : SubC s 6 0 s.length) (c0 : TCol) (hc0 : s[0]? = some c0) (h7 : c0.2.1 = 7) (hm0 : 0 < c0.2.2.2.1) (V : List TVal) (acc : Nat) (hP : WO.P  (6020) (acc)) :
    (∀ X, V.length ≤ 300 → evC s 6 0 0 0 0 V = some (X, []) → impl_walk_of_RecOk_1_RecOk_2 k s (V, ()) () () = some (true)) ∧
    ((V.length ≤ 300 → ∀ X, evC s 6 0 0 0 0 V ≠ some (X, [])) → ∃ acc' : Nat, impl_walk_of_RecOk_1_RecOk_2 k s (V, ()) () () = some (false)) := by
  obtain ⟨k', hk'⟩ : ∃ q, k = q + 2 := ⟨k - 2, by omega⟩
  have hb : V.length ≤ 300 → WO.Good s  (evC s 6 0 0 0 0 V) (impl_walker_body_of_RecOk_1_RecOk_2 k 0 0 0 0 (s, V, false, (), (), ()) ) s.length acc := fun h300 =>
    WO.body_ok k s hs hn hk  6 k 0 s.length hS (Nat.le_refl _) (by omega) (by omega) 0 0 0 V acc (by omega) (by omega) (by omega) (by omega) (by omega) (WO.P_le  acc _ _ hP (by omega))
  refine ⟨fun X h300 he => ?_, fun hno => ?_⟩
  · have g := hb h300
    rw [he] at g
    have g : impl_walker_body_of_RecOk_1_RecOk_2 k 0 0 0 0 (s, V, false, (), (), ())  = some ((s.length : Int), (s, [], false, (), (), ())) := g
    unfold impl_walk_of_RecOk_1_RecOk_2
    simp only [decide_eq_false (show ¬ (V.length : Int) > 300 by omega), g, Option.bind_some, Bool.not_false, cond_true, List.length_nil]
    rfl
  · by_cases h300 : V.length ≤ 300
    · have g := hb h300
      unfold impl_walk_of_RecOk_1_RecOk_2
      simp only [decide_eq_false (show ¬ (V.length : Int) > 300 by omega)]
      cases he : evC s 6 0 0 0 0 V with
      | none =>
        rw [he] at g
        obtain ⟨nx', V', acc', g⟩ := g
        simp only [g, Option.bind_some, Bool.not_true, cond_false]
        first | exact ⟨0, rfl⟩ | exact ⟨0, trivial⟩
      | some q =>
        obtain ⟨X, W⟩ := q
        rw [he] at g
        have g : impl_walker_body_of_RecOk_1_RecOk_2 k 0 0 0 0 (s, V, false, (), (), ())  = some ((s.length : Int), (s, W, false, (), (), ())) := g
        have hW : ((W.length : Int) == 0) = false := beqF (fun h0 => hno h300 X (by
          have : W = [] := List.eq_nil_of_length_eq_zero (by omega)
          rw [he, this]))
        simp only [g, Option.bind_some, Bool.not_false, cond_true, hW]
        first | exact ⟨0, rfl⟩ | exact ⟨0, trivial⟩
    · have hr0 : rdL s 0 = some c0 := hc0
      have e : impl_walker_body_of_RecOk_1_RecOk_2 k 0 0 0 0 (s, V, true, (), (), ())  = some (1, (s, V, true, (), (), ())) := by
        show impl_walker_body_of_RecOk_1_RecOk_2.d k k 0 0 0 0 (s, V, true, (), (), ())  = _
        unfold impl_walker_body_of_RecOk_1_RecOk_2.d
        conv => lhs; arg 1; arg 2; rw [hk']
        conv => lhs; rw [show impl_walker_body_of_RecOk_1_RecOk_2.rec k (k' + 2) = (_, _) from rfl]
        obtain ⟨k2, hk2⟩ : ∃ q, k = q + 1 := ⟨k - 1, by omega⟩
        simp only [impl_walker_body_of_RecOk_1_RecOk_2.b, hr0, Option.bind_some, bneF h7, cond_false]
        conv => lhs; arg 3; rw [hk2]
        simp only [impl_walker_body_of_RecOk_1_RecOk_2.l10, decide_eq_true hm0, cond_true, impl_walker_body_of_RecOk_1_RecOk_2.c14]
        rfl
      unfold impl_walk_of_RecOk_1_RecOk_2
      simp only [decide_eq_true (show (V.length : Int) > 300 by omega), e, Option.bind_some, Bool.not_true, cond_false]
      first | exact ⟨0, rfl⟩ | exact ⟨0, trivial⟩
end

end Go.Law
end

section
/- Whether a record is one: both say so where it can be gone through. -/
set_option linter.unusedVariables false
set_option linter.unusedSimpArgs false
set_option linter.unusedSectionVars false
namespace Go.Law
open Go.Am Go.Fn

/-- what is come to in a record -/
def recEv (s : List TCol) (V : List TVal) : Option (List Ev) :=
  if V.length ≤ 300 then match evC s 6 0 0 0 0 V with
    | some (X, []) => some X
    | _ => none
  else none

theorem recEv_some {s : List TCol} {V : List TVal} {X : List Ev} (h : recEv s V = some X) : V.length ≤ 300 ∧ evC s 6 0 0 0 0 V = some (X, []) := by
  unfold recEv at h
  split at h
  · rename_i h1
    split at h
    · rename_i Y he
      cases h
      exact ⟨h1, he⟩
    · cases h
  · cases h
theorem recEv_none {s : List TCol} {V : List TVal} (h : recEv s V = none) : V.length ≤ 300 → ∀ X, evC s 6 0 0 0 0 V ≠ some (X, []) := by
  intro h1 X he
  unfold recEv at h
  rw [if_pos h1, he] at h
  cases h
theorem recEv_len {s : List TCol} (hs : s.length ≤ 20) {V : List TVal} {X : List Ev} (h : recEv s V = some X) : X.length ≤ 20 * V.length := by
  obtain ⟨h1, h2⟩ := recEv_some h
  have := (evC_G hs 6 0 0 0 0 V _ _ h2).2.1
  simp only [List.length_nil] at this
  omega

theorem schema_top {s : List TCol} (hS : IsSchema s) : ∃ c0, s[0]? = some c0 ∧ c0.2.1 = 7 ∧ 0 < c0.2.2.2.1 := by
  obtain ⟨_, _, ⟨c, e1, e2, _, _⟩, c0, hc0, _, _, h7⟩ := hS
  rw [hc0] at e1
  obtain rfl := Option.some.inj e1
  refine ⟨c0, hc0, h7, ?_⟩
  unfold colOk at e2
  rw [h7, tyOk_7] at e2
  simp at e2
  exact e2.1

theorem srecOk_eq (k : Nat) (s : List TCol) (hs : s.length ≤ 20) (hn : ∀ c, c ∈ s → c.1.size < k ∧ c.1.size < 1000000000 ∧ I64 c.2.2.2.1) (hk : 2000000 ≤ k) (hS : SubC s 6 0 s.length)
    (V : List TVal) (hV : V.length ≤ 300) : (spec_l13Content k s 0 V 0).bind (fun r3 => some (r3 == (V.length : Int))) = some (recEv s V).isSome := by
  have := sbody_ok k s hs hn hk V (by omega) 6 k 0 s.length hS (Nat.le_refl _) (by omega) (by omega) 0 (Nat.zero_le _)
  have this : spec_l13Content k s 0 V 0 = some (posOf V (rC s 6 0 (V.drop 0))) := this
  rw [this, List.drop_zero]
  simp only [Option.bind_some]
  unfold recEv
  rw [if_pos hV]
  cases hr : rC s 6 0 V with
  | none =>
    rw [rC_none hr 0 0 0]
    simp only [posOf]
    rw [beqF (show ¬ ((-1 : Int) = (V.length : Int)) by omega)]; rfl
  | some W =>
    obtain ⟨X, hX⟩ := rC_some hr 0 0 0
    rw [hX]
    simp only [posOf]
    have hle := (evC_G hs 6 0 0 0 0 V _ _ hX).1
    cases W with
    | nil => rw [beqT (by simp)]; rfl
    | cons w W => 
      rw [beqF (by simp only [List.length_cons] at hle ⊢; omega)]; rfl

theorem recOk_eq (k : Nat) (hk : 2000000 ≤ k) (s : List TCol) (hn : ∀ c, c ∈ s → c.1.size < k ∧ c.1.size < 1000000000 ∧ I64 c.2.2.2.1) (V : List TVal) :
    ∃ b, spec_SchemaOk k s = some b ∧ impl_SchemaOk k s = some b ∧ (b = true → IsSchema s) ∧ spec_RecOk k s (V, ()) = some (b && (recEv s V).isSome) ∧ impl_RecOk k s (V, ()) = some (b && (recEv s V).isSome) := by
  obtain ⟨b, h1, h2, h3⟩ := schemaOk_eq k (by omega) s hn
  refine ⟨b, h1, h2, fun h => (h3 h).1, ?_⟩
  unfold spec_RecOk spec_RecOk.d1 impl_RecOk
  rw [h1, h2]
  simp only [Option.bind_some]
  cases b with
  | false => exact ⟨rfl, rfl⟩
  | true =>
    obtain ⟨hS, _⟩ := h3 rfl
    obtain ⟨c0, hc0, h7, hm0⟩ := schema_top hS
    have hw := WO.walk_ok k s hS.2.1 hn hk hS.2.2.1 c0 hc0 h7 hm0 V 0 (by trivial)
    simp only [cond_true, cond_false, Bool.true_and]
    constructor
    · by_cases h300 : V.length ≤ 300
      · rw [decide_eq_true (show (V.length : Int) ≤ 300 by omega), cond_true]
        exact srecOk_eq k s hS.2.1 hn hk hS.2.2.1 V h300
      · rw [decide_eq_false (show ¬ (V.length : Int) ≤ 300 by omega), cond_false]
        unfold recEv
        rw [if_neg h300]; rfl
    · cases hr : recEv s V with
      | some X =>
        obtain ⟨r1, r2⟩ := recEv_some hr
        rw [hw.1 X r1 r2]; rfl
      | none =>
        obtain ⟨_, r1⟩ := hw.2 (recEv_none hr)
        rw [r1]; rfl

/-! ### what is come to is a leaf -/
def evLeaf (s : List TCol) (X : List Ev) : Prop := ∀ e, e ∈ X → ∃ c, s[e.at_]? = some c ∧ c.2.1 ≠ 7
theorem evLeaf_append {s : List TCol} {X Y : List Ev} (h1 : evLeaf s X) (h2 : evLeaf s Y) : evLeaf s (X ++ Y) := fun e he => (List.mem_append.1 he).elim (h1 e) (h2 e)
def EvL (s : List TCol) (r : EvR) : Prop := ∀ X W, r = some (X, W) → evLeaf s X
theorem EvL.pair {s : List TCol} {a : EvR} {f : List TVal → EvR} (h : EvL s a) (g : ∀ V, EvL s (f V)) : EvL s (evPair a f) := by
  intro X W he
  obtain ⟨x, y, V, h1, h2, rfl⟩ := evPair_some he
  exact evLeaf_append (h _ _ h1) (g _ _ _ h2)
theorem EvL.nil (s : List TCol) (V : List TVal) : EvL s (some ([], V)) := by
  intro X W h
  simp only [Option.some.injEq, Prod.mk.injEq] at h
  obtain ⟨rfl, rfl⟩ := h
  exact fun e he => by cases he
theorem EvL.parts {s : List TCol} {F : Nat → List TVal → EvR} {e : Nat → Nat} (h : ∀ a V, EvL s (F a V)) : ∀ (m a : Nat) (V : List TVal), EvL s (evParts F e m a V)
  | 0, _, V => EvL.nil s V
  | m + 1, a, V => (h a V).pair (EvL.parts h m (e a))
theorem EvL.items {s : List TCol} {F : List TVal → EvR} (h : ∀ V, EvL s (F V)) : ∀ (m : Nat) (V : List TVal), EvL s (evItems F m V)
  | 0, V => EvL.nil s V
  | m + 1, V => (h V).pair (EvL.items h m)
theorem miss_leaf (s : List TCol) (rep def_ : Int) : ∀ (n i : Nat), evLeaf s (miss s rep def_ n i)
  | 0, i => fun e he => by cases he
  | n + 1, i => by
    simp only [miss]
    refine evLeaf_append ?_ (miss_leaf s rep def_ n (i + 1))
    cases h : s[i]? with
    | none => exact fun e he => by cases he
    | some c =>
      simp only
      split
      · exact fun e he => by cases he
      · rename_i h7
        intro e he
        rw [List.mem_singleton] at he
        subst he
        exact ⟨c, h, h7⟩
theorem EvL.part {s : List TCol} {C : Int → Int → Int → List TVal → EvR} (h : ∀ r d p V, EvL s (C r d p V)) (e a : Nat) (rep def_ deep : Int) (V : List TVal) : EvL s (evPart s C e a rep def_ deep V) := by
  intro X W hr
  unfold evPart at hr
  have ms : ∀ U, some (miss s rep def_ (e - a) a, U) = some (X, W) → evLeaf s X := by
    intro U hr
    simp only [Option.some.injEq, Prod.mk.injEq] at hr
    obtain ⟨rfl, rfl⟩ := hr
    exact miss_leaf _ _ _ _ _
  split at hr
  · cases hr
  · split at hr
    · exact h _ _ _ _ _ _ hr
    · split at hr
      · cases hr
      · split at hr
        · split at hr
          · cases hr
          · split at hr
            · exact ms _ hr
            · exact (EvL.pair (h _ _ _ _) (fun V => EvL.items (h _ _ _) _ V)) _ _ hr
        · split at hr
          · cases hr
          · split at hr
            · exact ms _ hr
            · exact h _ _ _ _ _ _ hr
theorem evC_L {s : List TCol} : ∀ (d a : Nat) (rep def_ deep : Int) (V : List TVal), EvL s (evC s d a rep def_ deep V)
  | 0, _, _, _, _, _ => fun X W h => by cases h
  | d + 1, a, rep, def_, deep, V => by
    intro X W h
    simp only [evC] at h
    split at h
    · cases h
    · rename_i c hc
      split at h
      · exact EvL.parts (fun a V => EvL.part (fun r d p V => evC_L _ a r d p V) _ a rep def_ deep V) _ _ _ _ _ h
      · rename_i h7
        split at h
        · cases h
        · split at h
          · simp only [Option.some.injEq, Prod.mk.injEq] at h
            obtain ⟨rfl, rfl⟩ := h
            intro e he
            rw [List.mem_singleton] at he
            subst he
            exact ⟨c, hc, h7⟩
          · cases h
theorem recEv_leaf {s : List TCol} {V : List TVal} {X : List Ev} (h : recEv s V = some X) : evLeaf s X := evC_L 6 0 0 0 0 V _ _ (recEv_some h).2

end Go.Law
end

section
/- Levels: where a col ends, and how deep a leaf may be. -/
set_option linter.unusedVariables false
set_option linter.unusedSimpArgs false
set_option linter.unusedSectionVars false
namespace Go.Law
open Go.Am Go.Fn

/-- within a col each place is a col, and ends there -/
theorem sub_at {s : List TCol} : ∀ (d : Nat) (a nx : Nat), SubC s d a nx → ∀ t, a ≤ t → t < nx → ∃ nx', SubC s d t nx' ∧ nx' ≤ nx
  | 0, _, _, h, _, _, _ => h.elim
  | d + 1, a, nx, h, t, h1, h2 => by
    rcases Nat.eq_or_lt_of_le h1 with rfl | h1
    · exact ⟨nx, h, Nat.le_refl _⟩
    · obtain ⟨c, _, _, _, hp⟩ := h
      have key : ∀ (m pl : Nat) (names : List ByteArray), PartsC (SubC s d) s m pl names nx → pl ≤ t → ∃ nx', SubC s d t nx' ∧ nx' ≤ nx := by
        intro m
        induction m with
        | zero =>
          intro pl names hp ht
          have hp : pl = nx := hp
          omega
        | succ m ih =>
          intro pl names hp ht
          obtain ⟨q, mid, q1, q2, q3, q4⟩ := hp
          have hmn := PartsC_nx (SubC_lt d) _ _ _ _ q4
          rcases Nat.lt_or_ge t mid with h | h
          · obtain ⟨nx', e1, e2⟩ := sub_at d pl mid q3 t ht h
            exact ⟨nx', e1, by omega⟩
          · exact ih mid _ q4 h
      obtain ⟨nx', e1, e2⟩ := key _ _ _ hp (by omega)
      exact ⟨nx', SubC_up d e1, e2⟩
where
  SubC_up : ∀ {s : List TCol} (d : Nat) {a b : Nat}, SubC s d a b → SubC s (d + 1) a b
  | _, 0, _, _, h => h.elim
  | s, d + 1, a, b, ⟨c, h1, h2, h3, h4⟩ => ⟨c, h1, h2, h3, PartsC_mono (fun x y h => SubC_up d h) _ _ _ _ h4⟩
  PartsC_mono {S T : Nat → Nat → Prop} {s : List TCol} (h : ∀ a b, S a b → T a b) : ∀ (m pos : Nat) (names : List ByteArray) (nx : Nat), PartsC S s m pos names nx → PartsC T s m pos names nx
  | 0, _, _, _, hp => hp
  | m + 1, _, _, _, ⟨q, mid, q1, q2, q3, q4⟩ => ⟨q, mid, q1, q2, h _ _ q3, PartsC_mono h m _ _ _ q4⟩

/-- where a col ends -/
def colEnd (s : List TCol) (t : Nat) : Nat := endC s 6 t
theorem colEnd_eq {s : List TCol} {d a b : Nat} (hd : d ≤ 6) (h : SubC s d a b) : colEnd s a = b := endC_eq d h 6 hd
theorem colEnd_in {s : List TCol} {d a nx : Nat} (hd : d ≤ 6) (h : SubC s d a nx) {t : Nat} (h1 : a ≤ t) (h2 : t < nx) : t < colEnd s t ∧ colEnd s t ≤ nx := by
  obtain ⟨nx', e1, e2⟩ := sub_at d a nx h t h1 h2
  rw [colEnd_eq hd e1]
  exact ⟨SubC_lt _ _ _ e1, e2⟩

/-- the cols of a row of places that are not there for sure, on the way to a place -/
def dlv (s : List TCol) (f : TCol → Bool) (L : Nat) : Nat → Nat → Nat
  | 0, _ => 0
  | n + 1, t => (match s[t]? with
    | none => 0
    | some c => if L < colEnd s t ∧ f c = true then 1 else 0) + dlv s f L n (t + 1)
theorem dlv_le (s : List TCol) (f : TCol → Bool) (L : Nat) : ∀ n t, dlv s f L n t ≤ n
  | 0, _ => Nat.le_refl _
  | n + 1, t => by
    have := dlv_le s f L n (t + 1)
    simp only [dlv]
    split
    · omega
    · split <;> omega
theorem dlv_skip (s : List TCol) (f : TCol → Bool) (L : Nat) : ∀ (m n t : Nat), (∀ u, t ≤ u → u < t + m → colEnd s u ≤ L) → dlv s f L (m + n) t = dlv s f L n (t + m)
  | 0, n, t, _ => by simp
  | m + 1, n, t, h => by
    have h1 := h t (Nat.le_refl _) (by omega)
    have := dlv_skip s f L m n (t + 1) (fun u h2 h3 => h u (by omega) (by omega))
    rw [show m + 1 + n = (m + n) + 1 by omega]
    simp only [dlv]
    rw [this, show t + 1 + m = t + (m + 1) by omega]
    cases s[t]? with
    | none => simp
    | some c => simp only; rw [if_neg (by omega), Nat.zero_add]

/-- how many cols from a place on, on the way to a leaf, may be missing -/
def lvD (s : List TCol) (f : TCol → Bool) (a L : Nat) : Nat := dlv s f L (L + 1 - a) a
def isOpt (c : TCol) : Bool := c.2.2.1 != 0
def isRep (c : TCol) : Bool := c.2.2.1 == 2

theorem lvD_self (s : List TCol) (f : TCol → Bool) (a : Nat) : lvD s f (a + 1) a = 0 := by
  unfold lvD
  rw [show a + 1 - (a + 1) = 0 by omega]; rfl
theorem lvD_cons {s : List TCol} {f : TCol → Bool} {a L : Nat} {c : TCol} (hc : s[a]? = some c) (h1 : a ≤ L) (h2 : L < colEnd s a) : lvD s f a L = (if f c = true then 1 else 0) + lvD s f (a + 1) L := by
  unfold lvD
  rw [show L + 1 - a = (L + 1 - (a + 1)) + 1 by omega]
  simp only [dlv, hc]
  by_cases h : f c = true
  · rw [if_pos ⟨h2, h⟩, if_pos h]
  · rw [if_neg (fun q => h q.2), if_neg h]
theorem lvD_skip {s : List TCol} {f : TCol → Bool} {a b L : Nat} (hab : a ≤ b) (h1 : b ≤ L) (h : ∀ u, a ≤ u → u < b → colEnd s u ≤ L) : lvD s f a L = lvD s f b L := by
  unfold lvD
  rw [show L + 1 - a = (b - a) + (L + 1 - b) by omega, dlv_skip s f L (b - a) _ a (fun u h2 h3 => h u h2 (by omega)), show a + (b - a) = b by omega]

/-- what is come to stands where it should, as deep as it should -/
structure EvOk (s : List TCol) (a nx : Nat) (def_ : Int) (e : Ev) : Prop where
  lo : a ≤ e.at_
  hi : e.at_ < nx
  ge : def_ ≤ e.def_
  yes : e.leaf = true → e.def_ = def_ + (lvD s isOpt (a + 1) e.at_ : Nat)
  no : e.leaf = false → e.def_ < def_ + (lvD s isOpt (a + 1) e.at_ : Nat)

def EvOks (s : List TCol) (a nx : Nat) (def_ : Int) (r : EvR) : Prop := ∀ X W, r = some (X, W) → ∀ e, e ∈ X → EvOk s a nx def_ e

theorem miss_mem {s : List TCol} {rep def_ : Int} : ∀ (n i : Nat) (e : Ev), e ∈ miss s rep def_ n i → i ≤ e.at_ ∧ e.at_ < i + n ∧ e.leaf = false ∧ e.rep = rep ∧ e.def_ = def_ ∧ e.v = zv
  | 0, i, e, h => by cases h
  | n + 1, i, e, h => by
    simp only [miss, List.mem_append] at h
    rcases h with h | h
    · cases hc : s[i]? with
      | none => rw [hc] at h; cases h
      | some c =>
        rw [hc] at h
        simp only at h
        split at h
        · cases h
        · rw [List.mem_singleton] at h
          subst h
          exact ⟨Nat.le_refl _, by simp, rfl, rfl, rfl, rfl⟩
    · obtain ⟨h1, h2, h3⟩ := miss_mem n (i + 1) e h
      exact ⟨by omega, by omega, h3⟩

theorem evItems_mem {F : List TVal → EvR} {P : Ev → Prop} (h : ∀ V X W, F V = some (X, W) → ∀ e, e ∈ X → P e) : ∀ (m : Nat) (V : List TVal) (X : List Ev) (W : List TVal), evItems F m V = some (X, W) → ∀ e, e ∈ X → P e
  | 0, V, X, W, he, e, hm => by
    simp only [evItems, Option.some.injEq, Prod.mk.injEq] at he
    obtain ⟨rfl, rfl⟩ := he
    cases hm
  | m + 1, V, X, W, he, e, hm => by
    simp only [evItems] at he
    obtain ⟨x, y, U, h1, h2, rfl⟩ := evPair_some he
    rcases List.mem_append.1 hm with hm | hm
    · exact h _ _ _ h1 e hm
    · exact evItems_mem h m U y W h2 e hm

theorem evPart_ok {s : List TCol} {d pl mid : Nat} (hd : d ≤ 6) (hs : SubC s d pl mid) {C : Int → Int → Int → List TVal → EvR} (hC : ∀ rep def_ deep V, EvOks s pl mid def_ (C rep def_ deep V)) (rep def_ deep : Int) (V : List TVal) (X : List Ev) (W : List TVal)
    (he : evPart s C mid pl rep def_ deep V = some (X, W)) (e : Ev) (hm : e ∈ X) : pl ≤ e.at_ ∧ e.at_ < mid ∧ def_ ≤ e.def_ ∧ (e.leaf = true → e.def_ = def_ + (lvD s isOpt pl e.at_ : Nat)) ∧ (e.leaf = false → e.def_ < def_ + (lvD s isOpt pl e.at_ : Nat)) := by
  have hend := colEnd_eq hd hs
  have hlt := SubC_lt _ _ _ hs
  unfold evPart at he
  have fin : ∀ (c : TCol) (dd : Int), s[pl]? = some c → dd = def_ + (if isOpt c = true then 1 else 0 : Nat) → EvOk s pl mid dd e → pl ≤ e.at_ ∧ e.at_ < mid ∧ def_ ≤ e.def_ ∧ (e.leaf = true → e.def_ = def_ + (lvD s isOpt pl e.at_ : Nat)) ∧ (e.leaf = false → e.def_ < def_ + (lvD s isOpt pl e.at_ : Nat)) := by
    intro c dd hc hdd h
    have hcons := lvD_cons (f := isOpt) hc h.lo (by rw [hend]; exact h.hi)
    refine ⟨h.lo, h.hi, ?_, fun hl => ?_, fun hl => ?_⟩
    · have := h.ge; omega
    · rw [h.yes hl, hcons, hdd]; omega
    · have := h.no hl; rw [hcons]; omega
  split at he
  · cases he
  · rename_i c hc
    have miss_ : isOpt c = true → ∀ U, some (miss s rep def_ (mid - pl) pl, U) = some (X, W) → pl ≤ e.at_ ∧ e.at_ < mid ∧ def_ ≤ e.def_ ∧ (e.leaf = true → e.def_ = def_ + (lvD s isOpt pl e.at_ : Nat)) ∧ (e.leaf = false → e.def_ < def_ + (lvD s isOpt pl e.at_ : Nat)) := by
      intro ho U he
      simp only [Option.some.injEq, Prod.mk.injEq] at he
      obtain ⟨rfl, rfl⟩ := he
      obtain ⟨m1, m2, m3, _, m5, _⟩ := miss_mem _ _ _ hm
      have hcons := lvD_cons (f := isOpt) hc m1 (by rw [hend]; omega)
      rw [if_pos ho] at hcons
      exact ⟨m1, by omega, by omega, fun hl => (by rw [m3] at hl; cases hl), fun _ => by omega⟩
    split at he
    · rename_i h0
      refine fin c def_ hc ?_ (hC _ _ _ _ X W he e hm)
      have : isOpt c = false := by simp [isOpt, h0]
      rw [this]; simp
    · rename_i h0
      have ho : isOpt c = true := by simp [isOpt, h0]
      split at he
      · cases he
      · split at he
        · split at he
          · cases he
          · split at he
            · exact miss_ ho _ he
            · obtain ⟨x, y, U, h1, h2, rfl⟩ := evPair_some he
              refine fin c (def_ + 1) hc (by rw [if_pos ho]; rfl) ?_
              rcases List.mem_append.1 hm with hm | hm
              · exact hC _ _ _ _ x U h1 e hm
              · exact evItems_mem (fun V X W => hC _ _ _ V X W) _ _ _ _ h2 e hm
        · split at he
          · cases he
          · split at he
            · exact miss_ ho _ he
            · exact fin c (def_ + 1) hc (by rw [if_pos ho]; rfl) (hC _ _ _ _ X W he e hm)

theorem evC_ok {s : List TCol} : ∀ (d a nx : Nat), d ≤ 6 → SubC s d a nx → ∀ (rep def_ deep : Int) (V : List TVal), EvOks s a nx def_ (evC s d a rep def_ deep V)
  | 0, _, _, _, h, _, _, _, _ => h.elim
  | d + 1, a, nx, hd, h, rep, def_, deep, V => by
    intro X W he e hm
    have hlt := SubC_lt _ _ _ h
    have hsub := h
    obtain ⟨c, hc, hco, _, hp⟩ := h
    simp only [evC, hc] at he
    split at he
    · rename_i h7
      have key : ∀ (m pl : Nat) (names : List ByteArray) (V : List TVal) (X : List Ev) (W : List TVal), PartsC (SubC s d) s m pl names nx → a + 1 ≤ pl → (∀ u, a + 1 ≤ u → u < pl → colEnd s u ≤ pl) → evParts (fun a V => evPart s (evC s d a) (endC s d a) a rep def_ deep V) (endC s d) m pl V = some (X, W) →
          ∀ e, e ∈ X → pl ≤ e.at_ ∧ e.at_ < nx ∧ def_ ≤ e.def_ ∧ (e.leaf = true → e.def_ = def_ + (lvD s isOpt (a + 1) e.at_ : Nat)) ∧ (e.leaf = false → e.def_ < def_ + (lvD s isOpt (a + 1) e.at_ : Nat)) := by
        intro m
        induction m with
        | zero =>
          intro pl names V X W hp h1 h2 he e hm
          simp only [evParts, Option.some.injEq, Prod.mk.injEq] at he
          obtain ⟨rfl, rfl⟩ := he
          cases hm
        | succ m ih =>
          intro pl names V X W hp h1 h2 he e hm
          obtain ⟨q, mid, q1, q2, q3, q4⟩ := hp
          have hmn := PartsC_nx (SubC_lt d) _ _ _ _ q4
          have hlt' := SubC_lt _ _ _ q3
          have hend : endC s d pl = mid := endC_eq d q3 d (Nat.le_refl _)
          simp only [evParts] at he
          obtain ⟨x, y, U, g1, g2, rfl⟩ := evPair_some he
          rw [hend] at g1 g2
          have h3 : ∀ u, a + 1 ≤ u → u < mid → colEnd s u ≤ mid := fun u u1 u2 => by
            rcases Nat.lt_or_ge u pl with u3 | u3
            · have := h2 u u1 u3; omega
            · exact (colEnd_in (by omega) q3 u3 u2).2
          rcases List.mem_append.1 hm with hm | hm
          · obtain ⟨r1, r2, r3, r4, r5⟩ := evPart_ok (by omega) q3 (fun rep def_ deep V => evC_ok d pl mid (by omega) q3 rep def_ deep V) rep def_ deep V x U g1 e hm
            have hsk := lvD_skip (s := s) (f := isOpt) h1 r1 (fun u u1 u2 => by have := h2 u u1 u2; omega)
            exact ⟨r1, by omega, r3, fun hl => by rw [r4 hl, hsk], fun hl => by rw [hsk]; exact r5 hl⟩
          · obtain ⟨r1, r2, r3⟩ := ih mid _ U y W q4 (by omega) h3 g2 e hm
            exact ⟨by omega, r2, r3⟩
      obtain ⟨r1, r2, r3, r4, r5⟩ := key _ _ _ _ _ _ hp (Nat.le_refl _) (fun u u1 u2 => by omega) he e hm
      exact ⟨by omega, r2, r3, r4, r5⟩
    · split at he
      · cases he
      · split at he
        · simp only [Option.some.injEq, Prod.mk.injEq] at he
          obtain ⟨rfl, rfl⟩ := he
          rw [List.mem_singleton] at hm
          subst hm
          refine ⟨Nat.le_refl _, hlt, Int.le_refl _, fun _ => ?_, fun hl => by cases hl⟩
          rw [lvD_self]; simp
        · cases he

theorem recEv_ok {s : List TCol} (hS : IsSchema s) {V : List TVal} {X : List Ev} (h : recEv s V = some X) : ∀ e, e ∈ X → EvOk s 0 s.length 0 e :=
  evC_ok 6 0 s.length (by omega) hS.2.2.1 0 0 0 V X [] (recEv_some h).2

end Go.Law
end

section
/- Leaves and their numbers. -/
set_option linter.unusedVariables false
set_option linter.unusedSimpArgs false
namespace Go.Law
open Go.Am Go.Fn

/-- how many leaves stand before a place -/
def lnum (s : List TCol) : Nat → Nat
  | 0 => 0
  | a + 1 => lnum s a + (match s[a]? with
    | none => 0
    | some c => if c.2.1 = 7 then 0 else 1)
theorem lnum_mono (s : List TCol) {a b : Nat} (h : a ≤ b) : lnum s a ≤ lnum s b := by
  induction h with
  | refl => exact Nat.le_refl _
  | step _ ih => simp only [lnum]; omega
theorem lnum_le (s : List TCol) : ∀ a, lnum s a ≤ a
  | 0 => Nat.le_refl _
  | a + 1 => by
    have := lnum_le s a
    simp only [lnum]
    split
    · omega
    · split <;> omega
theorem lnum_leaf {s : List TCol} {a : Nat} {c : TCol} (hc : s[a]? = some c) (h7 : c.2.1 ≠ 7) : lnum s (a + 1) = lnum s a + 1 := by
  simp only [lnum, hc]; rw [if_neg h7]
theorem lnum_group {s : List TCol} {a : Nat} {c : TCol} (hc : s[a]? = some c) (h7 : c.2.1 = 7) : lnum s (a + 1) = lnum s a := by
  simp only [lnum, hc]; rw [if_pos h7]; rfl
theorem lnum_lt {s : List TCol} {a : Nat} {c : TCol} (hc : s[a]? = some c) (h7 : c.2.1 ≠ 7) : lnum s a < lnum s s.length := by
  have h1 := lnum_leaf hc h7
  have h2 : a < s.length := (List.getElem?_eq_some_iff.1 hc).1
  have := lnum_mono s (show a + 1 ≤ s.length by omega)
  omega

theorem leavesFrom_lnum : ∀ (post pre : List TCol) (s : List TCol), s = pre ++ post → (leavesFrom pre.length post).length + lnum s pre.length = lnum s s.length
  | [], pre, s, h => by
    rw [List.append_nil] at h
    subst h
    simp [leavesFrom]
  | c :: post, pre, s, h => by
    have hc : s[pre.length]? = some c := by rw [h]; simp
    have hi := leavesFrom_lnum post (pre ++ [c]) s (by rw [h]; simp)
    rw [List.length_append, List.length_singleton] at hi
    by_cases h7 : c.2.1 = 7
    · rw [lnum_group hc h7] at hi
      simp only [leavesFrom]
      rw [if_pos h7]; exact hi
    · rw [lnum_leaf hc h7] at hi
      simp only [leavesFrom]
      rw [if_neg h7, List.length_cons]; omega

theorem leavesFrom_get : ∀ (post pre : List TCol) (s : List TCol), s = pre ++ post → ∀ (j : Nat) (x : Int), (leavesFrom pre.length post)[j]? = some x → ∃ a : Nat, x = (a : Int) ∧ pre.length ≤ a ∧ lnum s a = lnum s pre.length + j ∧ ∃ c, s[a]? = some c ∧ c.2.1 ≠ 7
  | [], pre, s, h, j, x, hx => by simp [leavesFrom] at hx
  | c :: post, pre, s, h, j, x, hx => by
    have hc : s[pre.length]? = some c := by rw [h]; simp
    have ih := leavesFrom_get post (pre ++ [c]) s (by rw [h]; simp)
    rw [List.length_append, List.length_singleton] at ih
    simp only [leavesFrom] at hx
    by_cases h7 : c.2.1 = 7
    · rw [if_pos h7] at hx
      obtain ⟨a, h1, h2, h3, h4⟩ := ih j x hx
      rw [lnum_group hc h7] at h3
      exact ⟨a, h1, by omega, h3, h4⟩
    · rw [if_neg h7] at hx
      cases j with
      | zero =>
        simp only [List.getElem?_cons_zero, Option.some.injEq] at hx
        exact ⟨pre.length, hx.symm, Nat.le_refl _, rfl, c, hc, h7⟩
      | succ j =>
        simp only [List.getElem?_cons_succ] at hx
        obtain ⟨a, h1, h2, h3, h4⟩ := ih j x hx
        rw [lnum_leaf hc h7] at h3
        exact ⟨a, h1, by omega, by omega, h4⟩

theorem lnum_inj {s : List TCol} {a b : Nat} {c d : TCol} (ha : s[a]? = some c) (hb : s[b]? = some d) (h7 : c.2.1 ≠ 7) (h7' : d.2.1 ≠ 7) (h : lnum s a = lnum s b) : a = b := by
  rcases Nat.lt_trichotomy a b with q | q | q
  · have := lnum_mono s (show a + 1 ≤ b by omega)
    rw [lnum_leaf ha h7] at this; omega
  · exact q
  · have := lnum_mono s (show b + 1 ≤ a by omega)
    rw [lnum_leaf hb h7'] at this; omega

/-- the leaf with a number -/
theorem leaves_at {s : List TCol} {a : Nat} {c : TCol} (hc : s[a]? = some c) (h7 : c.2.1 ≠ 7) : (leavesFrom 0 s)[lnum s a]? = some (a : Int) := by
  have hl := leavesFrom_lnum s [] s rfl
  have h1 := lnum_lt hc h7
  have hl' : lnum s a < (leavesFrom 0 s).length := by
    have : (leavesFrom 0 s).length + 0 = lnum s s.length := hl
    omega
  obtain ⟨b, e1, _, e3, d, e4, e5⟩ := leavesFrom_get s [] s rfl _ _ (List.getElem?_eq_getElem hl')
  have e3 : lnum s b = 0 + lnum s a := e3
  rw [List.getElem?_eq_getElem hl', e1, lnum_inj hc e4 h7 e5 (by omega)]

end Go.Law
end

section
/- How deep a leaf may be: both tell it. -/
set_option linter.unusedVariables false
set_option linter.unusedSimpArgs false
set_option linter.unusedSectionVars false
namespace Go.Law
open Go.Am Go.Fn

/-- the way to a place -/
def wayL (s : List TCol) (L : Nat) : Nat → Nat → List Int
  | 0, _ => []
  | n + 1, t => (if L < colEnd s t then [(t : Int)] else []) ++ wayL s L n (t + 1)
theorem wayL_len (s : List TCol) (L : Nat) : ∀ n t, (wayL s L n t).length ≤ n
  | 0, _ => Nat.le_refl _
  | n + 1, t => by
    have := wayL_len s L n (t + 1)
    simp only [wayL, List.length_append]
    split <;> simp <;> omega
theorem wayL_skip (s : List TCol) (L : Nat) : ∀ (m n t : Nat), (∀ u, t ≤ u → u < t + m → colEnd s u ≤ L) → wayL s L (m + n) t = wayL s L n (t + m)
  | 0, n, t, _ => by simp
  | m + 1, n, t, h => by
    have h1 := h t (Nat.le_refl _) (by omega)
    have := wayL_skip s L m n (t + 1) (fun u h2 h3 => h u (by omega) (by omega))
    rw [show m + 1 + n = (m + n) + 1 by omega]
    simp only [wayL]
    rw [this, show t + 1 + m = t + (m + 1) by omega, if_neg (by omega), List.nil_append]

section
variable (k : Nat) (s : List TCol) (hS : IsSchema s) (hn : ∀ c, c ∈ s → c.1.size < k ∧ c.1.size < 1000000000 ∧ I64 c.2.2.2.1) (hk : 2000000 ≤ k)
include hS hn hk

theorem colEnd_after (t : Nat) (ht : t < s.length) : t < colEnd s t ∧ colEnd s t ≤ s.length ∧ spec_l5After k s (t : Int) = some (colEnd s t : Int) ∧ impl_colAfter k s (t : Int) 1 = some (colEnd s t : Int) := by
  obtain ⟨nx', e1, e2⟩ := sub_at 6 0 s.length hS.2.2.1 t (Nat.zero_le _) ht
  have e3 := colEnd_eq (Nat.le_refl _) e1
  rw [e3]
  exact ⟨SubC_lt _ _ _ e1, e2, l5After_sub k s hS.2.1 hn (by omega) e1 (Nat.le_refl _) e2, colAfter_sub k s hS.2.1 hn (by omega) e1 (Nat.le_refl _) e2⟩

theorem sway_eq (L : Nat) (hL : L < s.length) : spec_l5Way k s (L : Int) = some ((), wayL s L (L + 1) 0) := by
  have hs20 := hS.2.1
  have key : ∀ (n t f : Nat) (o : List Int), t + n = L + 1 → n < f → o.length ≤ t → spec_l5Way.l3 k f s (L : Int) (t : Int) o = some ((), o ++ wayL s L n t) := by
    intro n
    induction n with
    | zero =>
      intro t f o h hf ho
      obtain ⟨f, rfl⟩ : ∃ q, f = q + 1 := ⟨f - 1, by omega⟩
      simp only [spec_l5Way.l3, decide_eq_false (show ¬ ((t : Int) ≤ (L : Int)) by omega), cond_false, wayL, List.append_nil]
    | succ n ih =>
      intro t f o h hf ho
      obtain ⟨f, rfl⟩ : ∃ q, f = q + 1 := ⟨f - 1, by omega⟩
      obtain ⟨a1, a2, a3, _⟩ := colEnd_after k s hS hn hk t (by omega)
      have ht1 : IntKind.wrap .i64 ((t : Int) + 1) = ((t + 1 : Nat) : Int) := by rw [w64 (by omega) (by omega)]; omega
      simp only [spec_l5Way.l3, decide_eq_true (show (t : Int) ≤ (L : Int) by omega), cond_true, a3, Option.bind_some, spec_l5Way.c4, ht1, wayL]
      by_cases h1 : L < colEnd s t
      · rw [decide_eq_true (show (colEnd s t : Int) > (L : Int) by omega), cond_true, lim_ok (by simp; omega), cond_true, if_pos h1, ih (t + 1) f _ (by omega) (by omega) (by simp; omega)]
        simp
      · rw [decide_eq_false (show ¬ (colEnd s t : Int) > (L : Int) by omega), cond_false, if_neg h1, ih (t + 1) f _ (by omega) (by omega) (by omega)]
        simp
  have := key (L + 1) 0 k [] (by omega) (by omega) (by simp)
  exact this

/-- levels by the way -/
theorem smax_eq (f1 f2 : Int) (L : Nat) (hL : L < s.length) : ∀ (n t f : Nat) (pre : List Int) (x y : Nat), t + n = L + 1 → n < f → x ≤ t → y ≤ t → pre.length ≤ t →
    spec_l5Max.l4 k f s (x : Int) (y : Int) (pre.length : Int) (pre ++ wayL s L n t) = some (((x + dlv s isOpt L n t : Nat) : Int), ((y + dlv s isRep L n t : Nat) : Int)) ∧
    impl_LeafMax.l6 k f s (x : Int) (y : Int) ((pre ++ wayL s L n t).length : Int) (pre.length : Int) (pre ++ wayL s L n t) = some (((x + dlv s isOpt L n t : Nat) : Int), ((y + dlv s isRep L n t : Nat) : Int)) := by
  have hs20 := hS.2.1
  intro n
  induction n with
  | zero =>
    intro t f pre x y h hf hx hy hp
    obtain ⟨f, rfl⟩ : ∃ q, f = q + 1 := ⟨f - 1, by omega⟩
    simp only [spec_l5Max.l4, impl_LeafMax.l6, wayL, List.append_nil, decide_eq_false (show ¬ ((pre.length : Int) < (pre.length : Int)) by omega), cond_false, dlv, Nat.add_zero]
    exact ⟨trivial, trivial⟩
  | succ n ih =>
    intro t f pre x y h hf hx hy hp
    have hc := List.getElem?_eq_getElem (show t < s.length by omega)
    generalize s[t] = c at hc
    by_cases h1 : L < colEnd s t
    · obtain ⟨f, rfl⟩ : ∃ q, f = q + 1 := ⟨f - 1, by omega⟩
      have hi1 : IntKind.wrap .i64 ((pre.length : Int) + 1) = ((pre.length + 1 : Nat) : Int) := by rw [w64 (by omega) (by omega)]; omega
      have hx1 : IntKind.wrap .i64 ((x : Int) + 1) = ((x + 1 : Nat) : Int) := by rw [w64 (by omega) (by omega)]; omega
      have hy1 : IntKind.wrap .i64 ((y : Int) + 1) = ((y + 1 : Nat) : Int) := by rw [w64 (by omega) (by omega)]; omega
      simp only [wayL]
      rw [if_pos h1, List.singleton_append]
      have dT : ∀ g : TCol → Bool, g c = true → dlv s g L (n + 1) t = 1 + dlv s g L n (t + 1) := fun g hg => by simp only [dlv, hc]; rw [if_pos ⟨h1, hg⟩]
      have dF : ∀ g : TCol → Bool, g c = false → dlv s g L (n + 1) t = dlv s g L n (t + 1) := fun g hg => by simp only [dlv, hc]; rw [if_neg (fun q => by rw [hg] at q; cases q.2), Nat.zero_add]
      have hg := getMid pre (wayL s L n (t + 1)) (t : Int)
      have hlt : (pre.length : Int) < ((pre ++ (t : Int) :: wayL s L n (t + 1)).length : Int) := by simp; omega
      simp only [spec_l5Max.l4, impl_LeafMax.l6, decide_eq_true hlt, cond_true, hg, Option.bind_some, rdL_nat, hc, spec_l5Max.c8, impl_LeafMax.c10, spec_l5Max.c5, impl_LeafMax.c12, hi1, hx1, hy1]
      have ih' := fun x y hx hy => ih (t + 1) f (pre ++ [(t : Int)]) x y (by omega) (by omega) hx hy (by simp; omega)
      simp only [List.append_assoc, List.singleton_append, List.length_append, List.length_singleton] at ih'
      simp only [List.length_append]
      by_cases ho : c.2.2.1 = 0
      · have hr : ¬ c.2.2.1 = 2 := by omega
        have i1 : isOpt c = false := by simp [isOpt, ho]
        have i2 : isRep c = false := by simp [isRep, ho]
        rw [bneF ho, cond_false, cond_false, beqF hr, cond_false, cond_false, dF _ i1, dF _ i2]
        exact ih' x y (by omega) (by omega)
      · have i1 : isOpt c = true := by simp [isOpt, ho]
        by_cases hr : c.2.2.1 = 2
        · have i2 : isRep c = true := by simp [isRep, hr]
          rw [bneT ho, cond_true, cond_true, beqT hr, cond_true, cond_true, dT _ i1, dT _ i2]
          have := ih' (x + 1) (y + 1) (by omega) (by omega)
          rw [show x + (1 + dlv s isOpt L n (t + 1)) = x + 1 + dlv s isOpt L n (t + 1) by omega, show y + (1 + dlv s isRep L n (t + 1)) = y + 1 + dlv s isRep L n (t + 1) by omega]
          exact this
        · have i2 : isRep c = false := by simp [isRep, hr]
          rw [bneT ho, cond_true, cond_true, beqF hr, cond_false, cond_false, dT _ i1, dF _ i2]
          have := ih' (x + 1) y (by omega) (by omega)
          rw [show x + (1 + dlv s isOpt L n (t + 1)) = x + 1 + dlv s isOpt L n (t + 1) by omega]
          exact this
    · have e1 : wayL s L (n + 1) t = wayL s L n (t + 1) := by simp only [wayL]; rw [if_neg h1, List.nil_append]
      have e2 : ∀ g, dlv s g L (n + 1) t = dlv s g L n (t + 1) := fun g => by simp only [dlv, hc]; rw [if_neg (fun q => h1 q.1), Nat.zero_add]
      rw [e1, e2, e2]
      exact ih (t + 1) f pre x y (by omega) (by omega) (by omega) (by omega) (by omega)

theorem iway_loop (lv : List Int) (j : Int) (L : Nat) (hj : rdL lv j = some (L : Int)) (hL : L < s.length) : ∀ (N n t f : Nat) (o : List Int), n ≤ N → t + n = L + 1 → n < f → o.length ≤ t →
    impl_wayTo.l6 k f s j (t : Int) lv o = some ((), o ++ wayL s L n t) := by
  have hs20 := hS.2.1
  intro N
  induction N with
  | zero =>
    intro n t f o hN h hf ho
    obtain ⟨f, rfl⟩ : ∃ q, f = q + 1 := ⟨f - 1, by omega⟩
    have hn0 : n = 0 := by omega
    subst hn0
    simp only [impl_wayTo.l6, hj, Option.bind_some, decide_eq_false (show ¬ ((t : Int) ≤ (L : Int)) by omega), cond_false, wayL, List.append_nil]
  | succ N ih =>
    intro n t f o hN h hf ho
    obtain ⟨f, rfl⟩ : ∃ q, f = q + 1 := ⟨f - 1, by omega⟩
    cases n with
    | zero => simp only [impl_wayTo.l6, hj, Option.bind_some, decide_eq_false (show ¬ ((t : Int) ≤ (L : Int)) by omega), cond_false, wayL, List.append_nil]
    | succ n =>
      obtain ⟨a1, a2, _, a4⟩ := colEnd_after k s hS hn hk t (by omega)
      have ht1 : IntKind.wrap .i64 ((t : Int) + 1) = ((t + 1 : Nat) : Int) := by rw [w64 (by omega) (by omega)]; omega
      simp only [impl_wayTo.l6, hj, Option.bind_some, decide_eq_true (show (t : Int) ≤ (L : Int) by omega), cond_true, a4, ht1]
      by_cases h1 : L < colEnd s t
      · rw [decide_eq_true (show (colEnd s t : Int) > (L : Int) by omega), cond_true, lim_ok (by simp; omega), cond_true, ih n (t + 1) f _ (by omega) (by omega) (by omega) (by simp; omega)]
        simp only [wayL]
        rw [if_pos h1]
        simp
      · rw [decide_eq_false (show ¬ (colEnd s t : Int) > (L : Int) by omega), cond_false]
        obtain ⟨nx', e1, e2⟩ := sub_at 6 0 s.length hS.2.2.1 t (Nat.zero_le _) (by omega)
        have e3 := colEnd_eq (Nat.le_refl _) e1
        have hsk := wayL_skip s L (colEnd s t - t) (n + 1 - (colEnd s t - t)) t (fun u u1 u2 => by
          have := (colEnd_in (Nat.le_refl _) e1 u1 (by omega)).2; omega)
        rw [show colEnd s t - t + (n + 1 - (colEnd s t - t)) = n + 1 by omega, show t + (colEnd s t - t) = colEnd s t by omega] at hsk
        rw [hsk]
        exact ih _ _ f o (by omega) (by omega) (by omega) (by omega)

/-- levels of a leaf, told by both -/
theorem leafMax_eq (hok : spec_SchemaOk k s = some true) (hok2 : impl_SchemaOk k s = some true) (j : Int) :
    (∃ L c, rdL (leavesFrom 0 s) j = some ((L : Nat) : Int) ∧ 0 ≤ j ∧ j < ((leavesFrom 0 s).length : Int) ∧ 1 ≤ L ∧ s[L]? = some c ∧ c.2.1 ≠ 7 ∧ j = (lnum s L : Int) ∧
      impl_LeafMax k s j = some ((lvD s isOpt 1 L : Int), (lvD s isRep 1 L : Int)) ∧ spec_l5Max k s (L : Int) = some ((lvD s isOpt 1 L : Int), (lvD s isRep 1 L : Int))) ∨
    (¬ (0 ≤ j ∧ j < ((leavesFrom 0 s).length : Int)) ∧ impl_LeafMax k s j = some (-1, -1)) := by
  obtain ⟨v1, v2⟩ := leaves_eq k (by omega) s (by have := hS.2.1; omega)
  have hs20 := hS.2.1
  have hll := leavesFrom_len 0 s
  obtain ⟨c0, hc0, h70, _⟩ := schema_top hS
  have hrep0 : c0.2.2.1 = 0 := by
    obtain ⟨_, _, _, c, e1, _, e2, _⟩ := hS
    rw [hc0] at e1
    cases e1
    exact e2
  unfold impl_LeafMax impl_wayTo impl_SchemaLeaves
  rw [hok2]
  simp only [Option.bind_some, cond_true, cond_false, Bool.not_true, v1, v2, l1In_eq, within_eq]
  generalize hlv : leavesFrom 0 s = lv at hll
  rw [w64 (show -9223372036854775808 ≤ (lv.length : Int) - 1 by omega) (by omega)]
  by_cases hin : 0 ≤ j ∧ j < (lv.length : Int)
  · left
    have hw : (decide (0 ≤ j) && decide (j ≤ (lv.length : Int) - 1)) = true := by simp; omega
    obtain ⟨n, rfl⟩ := Int.eq_ofNat_of_zero_le hin.1
    have hnl : n < lv.length := by omega
    obtain ⟨L, e1, e2, e3, c, e4, e5⟩ := leavesFrom_get s [] s rfl n _ (by rw [show ([] : List TCol).length = 0 from rfl, hlv]; exact List.getElem?_eq_getElem hnl)
    have hg : rdL lv (n : Int) = some (L : Int) := by rw [rdL_nat, List.getElem?_eq_getElem hnl, e1]
    have e3 : lnum s L = 0 + n := e3
    have hL : L < s.length := (List.getElem?_eq_some_iff.1 e4).1
    have hL1 : 1 ≤ L := by
      rcases Nat.eq_zero_or_pos L with h | h
      · subst h
        rw [hc0] at e4
        cases e4
        exact absurd h70 e5
      · exact h
    have hend0 : L < colEnd s 0 := by rw [colEnd_eq (Nat.le_refl _) hS.2.2.1]; exact hL
    have hz : ∀ g : TCol → Bool, g c0 = false → dlv s g L (L + 1) 0 = lvD s g 1 L := fun g hg => by
      simp only [dlv, hc0]
      rw [if_neg (fun q => by rw [hg] at q; cases q.2), Nat.zero_add]
      unfold lvD
      rw [show L + 1 - 1 = L by omega]
    have z1 := hz isOpt (by simp [isOpt, hrep0])
    have z2 := hz isRep (by simp [isRep, hrep0])
    have hmx : spec_l5Max k s (L : Int) = some ((lvD s isOpt 1 L : Int), (lvD s isRep 1 L : Int)) := by
      have h1 := (smax_eq k s hS hn hk 0 0 L hL (L + 1) 0 k [] 0 0 (by omega) (by omega) (by omega) (by omega) (by simp)).1
      rw [z1, z2, Nat.zero_add, Nat.zero_add] at h1
      unfold spec_l5Max
      rw [sway_eq k s hS hn hk L hL]
      exact h1
    refine ⟨L, c, hg, hin.1, hin.2, hL1, e4, e5, by omega, ?_, hmx⟩
    · rw [hw]
      simp only [Bool.not_true, cond_false]
      have h1 := iway_loop k s hS hn hk lv (n : Int) L hg hL L L 1 k [] (Nat.le_refl _) (by omega) (by omega) (by simp)
      have h1 : impl_wayTo.l6 k k s (n : Int) 1 lv [] = some ((), wayL s L L 1) := h1
      rw [h1]
      simp only [Option.bind_some]
      have h2 := (smax_eq k s hS hn hk 0 0 L hL L 1 k [] 0 0 (by omega) (by omega) (by omega) (by omega) (by simp)).2
      have hne : ((wayL s L L 1).length : Int) ≠ 0 := by
        have : ∀ n t, t + n = L + 1 → 0 < n → 0 < (wayL s L n t).length := by
          intro n
          induction n with
          | zero => intro t _ h; omega
          | succ n ih =>
            intro t h _
            simp only [wayL, List.length_append]
            rcases Nat.eq_zero_or_pos n with h0 | h0
            · subst h0
              have : t = L := by omega
              subst this
              rw [if_pos (colEnd_after k s hS hn hk t hL).1, List.length_singleton]
              omega
            · have := ih (t + 1) (by omega) h0; omega
        have := this L 1 (by omega) (by omega)
        omega
      rw [beqF hne, cond_false]
      have h2 : impl_LeafMax.l6 k k s 0 0 ((wayL s L L 1).length : Int) 0 (wayL s L L 1) = some (((0 + dlv s isOpt L L 1 : Nat) : Int), ((0 + dlv s isRep L L 1 : Nat) : Int)) := h2
      rw [h2, Nat.zero_add, Nat.zero_add]
      unfold lvD
      rw [show L + 1 - 1 = L by omega]
  · right
    have hw : (decide (0 ≤ j) && decide (j ≤ (lv.length : Int) - 1)) = false := by
      rw [Bool.eq_false_iff]
      intro h
      simp only [Bool.and_eq_true, decide_eq_true_eq] at h
      omega
    rw [hw]
    exact ⟨hin, rfl⟩
end
end Go.Law
end

section
/- Which leaf: both tell it. -/
set_option linter.unusedVariables false
set_option linter.unusedSimpArgs false
set_option linter.unusedSectionVars false
namespace Go.Law
open Go.Am Go.Fn

/-! ### which leaf -/
section
variable (k : Nat) (s : List TCol) (hn : ∀ c, c ∈ s → c.1.size < k ∧ c.1.size < 1000000000 ∧ I64 c.2.2.2.1) (hk : 2000000 ≤ k)
variable (hS : IsSchema s) (hok : spec_SchemaOk k s = some true) (hok2 : impl_SchemaOk k s = some true)
include hn hk hS hok hok2

theorem leafOf_eq (j : Int) : ∃ l b, spec_LeafOf k s j = some (l, b) ∧ impl_LeafOf k s j = some (l, b) ∧
    (b = true → ∃ L c, rdL (leavesFrom 0 s) j = some ((L : Nat) : Int) ∧ s[L]? = some c ∧ c.2.1 ≠ 7 ∧ j = (lnum s L : Int) ∧ l = (c.2.1, (lvD s isRep 1 L : Int), (lvD s isOpt 1 L : Int), ())) := by
  obtain ⟨v1, v2⟩ := leaves_eq k (by omega) s (by have := hS.2.1; omega)
  have hll := leavesFrom_len 0 s
  have hs20 := hS.2.1
  have hlm := leafMax_eq k s hS hn hk hok hok2 j
  unfold spec_LeafOf impl_LeafOf spec_SchemaLeaves impl_SchemaLeaves
  rw [hok, hok2]
  simp only [Option.bind_some, Bool.not_true, cond_false, v1, v2, l1In_eq, within_eq]
  generalize hlv : leavesFrom 0 s = lv at hll hlm
  rw [w64 (show -9223372036854775808 ≤ (lv.length : Int) - 1 by omega) (by omega)]
  rcases hlm with ⟨L, c, hg, h0, h1, _, hc, h7, hj, m2, m3⟩ | ⟨hin, _⟩
  · have hw : (decide (0 ≤ j) && decide (j ≤ (lv.length : Int) - 1)) = true := by simp; omega
    rw [hw]
    simp only [Bool.not_true, cond_false, hg, Option.bind_some, m2, m3, rdL_nat, hc]
    exact ⟨_, _, rfl, rfl, fun _ => ⟨L, c, rfl, hc, h7, hj, rfl⟩⟩
  · have hw : (decide (0 ≤ j) && decide (j ≤ (lv.length : Int) - 1)) = false := by
      rw [Bool.eq_false_iff]
      intro h
      simp only [Bool.and_eq_true, decide_eq_true_eq] at h
      omega
    rw [hw]
    exact ⟨_, _, rfl, rfl, fun h => by cases h⟩

end
end Go.Law
end

section
/- The names on the way to a leaf, by both. -/
set_option linter.unusedVariables false
set_option linter.unusedSimpArgs false
set_option linter.unusedSectionVars false
namespace Go.Law
open Go.Am Go.Fn

theorem wayL_mem (s : List TCol) (L : Nat) : ∀ (n t : Nat) (x : Int), x ∈ wayL s L n t → ∃ a : Nat, x = a ∧ t ≤ a ∧ a < t + n := by
  intro n
  induction n with
  | zero => intro t x hx; cases hx
  | succ n ih =>
    intro t x hx
    simp only [wayL] at hx
    rcases List.mem_append.1 hx with hx | hx
    · split at hx
      · rw [List.mem_singleton] at hx
        exact ⟨t, hx, by omega, by omega⟩
      · cases hx
    · obtain ⟨a, e, h1, h2⟩ := ih (t + 1) x hx
      exact ⟨a, e, by omega, by omega⟩

def nmAt (s : List TCol) (x : Int) : ByteArray := ((rdL s x).map (·.1)).getD ⟨#[]⟩

section
variable (k : Nat) (s : List TCol)

theorem spath_loop (w : List Int) (hw : w.length ≤ 100) (hm : ∀ x, x ∈ w → ∃ c, rdL s x = some c) : ∀ (post pre : List Int) (f : Nat) (o : List ByteArray), w = pre ++ post → post.length < f → o.length ≤ pre.length →
    spec_LeafPath.l7 k f s (pre.length : Int) o w = some ((), o ++ post.map (nmAt s)) := by
  intro post
  induction post with
  | nil =>
    intro pre f o h hf ho
    obtain ⟨f, rfl⟩ : ∃ q, f = q + 1 := ⟨f - 1, by omega⟩
    have hlen : w.length = pre.length := by rw [h]; simp
    simp only [spec_LeafPath.l7, decide_eq_false (show ¬ ((pre.length : Int) < (w.length : Int)) by omega), cond_false, List.map_nil, List.append_nil]
  | cons x post ih =>
    intro pre f o h hf ho
    simp only [List.length_cons] at hf
    obtain ⟨f, rfl⟩ : ∃ q, f = q + 1 := ⟨f - 1, by omega⟩
    have hlen : w.length = pre.length + (post.length + 1) := by rw [h]; simp
    have hg : rdL w (pre.length : Int) = some x := by rw [h]; exact getMid _ _ _
    have hi1 : IntKind.wrap .i64 ((pre.length : Int) + 1) = ((pre.length + 1 : Nat) : Int) := by rw [w64 (by omega) (by omega)]; omega
    obtain ⟨c, hc⟩ := hm x (by rw [h]; simp)
    have hi := ih (pre ++ [x]) f (o ++ [c.1]) (by rw [h]; simp) (by omega) (by simp; omega)
    rw [List.length_append, List.length_singleton] at hi
    simp only [spec_LeafPath.l7, decide_eq_true (show (pre.length : Int) < (w.length : Int) by omega), cond_true, hg, hc, Option.bind_some, hi1]
    rw [lim_ok (by simp; omega), cond_true, hi]
    simp [nmAt, hc]

theorem ipath_loop (w : List Int) (hw : w.length ≤ 100) (hm : ∀ x, x ∈ w → ∃ c, rdL s x = some c) : ∀ (post pre : List Int) (f : Nat) (o : List ByteArray), w = pre ++ post → post.length < f → o.length ≤ pre.length →
    impl_LeafPath.l3 k f s (w.length : Int) (pre.length : Int) o w = some ((), o ++ post.map (nmAt s)) := by
  intro post
  induction post with
  | nil =>
    intro pre f o h hf ho
    obtain ⟨f, rfl⟩ : ∃ q, f = q + 1 := ⟨f - 1, by omega⟩
    have hlen : w.length = pre.length := by rw [h]; simp
    simp only [impl_LeafPath.l3, decide_eq_false (show ¬ ((pre.length : Int) < (w.length : Int)) by omega), cond_false, List.map_nil, List.append_nil]
  | cons x post ih =>
    intro pre f o h hf ho
    simp only [List.length_cons] at hf
    obtain ⟨f, rfl⟩ : ∃ q, f = q + 1 := ⟨f - 1, by omega⟩
    have hlen : w.length = pre.length + (post.length + 1) := by rw [h]; simp
    have hg : rdL w (pre.length : Int) = some x := by rw [h]; exact getMid _ _ _
    have hi1 : IntKind.wrap .i64 ((pre.length : Int) + 1) = ((pre.length + 1 : Nat) : Int) := by rw [w64 (by omega) (by omega)]; omega
    obtain ⟨c, hc⟩ := hm x (by rw [h]; simp)
    have hi := ih (pre ++ [x]) f (o ++ [c.1]) (by rw [h]; simp) (by omega) (by simp; omega)
    rw [List.length_append, List.length_singleton] at hi
    simp only [impl_LeafPath.l3, decide_eq_true (show (pre.length : Int) < (w.length : Int) by omega), cond_true, hg, hc, Option.bind_some, hi1]
    rw [lim_ok (by simp; omega), cond_true, hi]
    simp [nmAt, hc]

/-- two rows of texts -/
theorem sEq_loop (a b : List ByteArray) (hab : a.length = b.length) (hl : a.length < 4611686018427387904) : ∀ (m f i : Nat), i + m = a.length → m < f → slices_Equal_string_string.l4 k f a b (a.length : Int) (i : Int) = some (decide (a.drop i = b.drop i)) := by
  intro m
  induction m with
  | zero =>
    intro f i hi hf
    obtain ⟨f, rfl⟩ : ∃ q, f = q + 1 := ⟨f - 1, by omega⟩
    simp only [slices_Equal_string_string.l4, decide_eq_false (show ¬ ((i : Int) < (a.length : Int)) by omega), cond_false]
    rw [List.drop_eq_nil_of_le (by omega), List.drop_eq_nil_of_le (by omega)]
    rfl
  | succ m ih =>
    intro f i hi hf
    obtain ⟨f, rfl⟩ : ∃ q, f = q + 1 := ⟨f - 1, by omega⟩
    have ha := List.getElem?_eq_getElem (show i < a.length by omega)
    have hb := List.getElem?_eq_getElem (show i < b.length by omega)
    have hi1 : IntKind.wrap .i64 ((i : Int) + 1) = ((i + 1 : Nat) : Int) := by rw [w64 (by omega) (by omega)]; omega
    have da := List.drop_eq_getElem_cons (show i < a.length by omega)
    have db := List.drop_eq_getElem_cons (show i < b.length by omega)
    rw [da, db]
    generalize a[i]'_ = x at ha
    generalize b[i]'_ = y at hb
    simp only [slices_Equal_string_string.l4, decide_eq_true (show (i : Int) < (a.length : Int) by omega), cond_true, rdL_nat, ha, hb, Option.bind_some, eqS_iff, hi1]
    by_cases hxy : x = y
    · subst hxy
      simp only [decide_true, Bool.not_true, cond_false, bne]
      rw [ih f (i + 1) (by omega) (by omega)]
      simp
    · simp only [decide_eq_false hxy, Bool.not_false, cond_true, bne]
      simp [hxy]

theorem sEq_val (a b : List ByteArray) (hl : a.length < k) (hl2 : a.length < 4611686018427387904) (hl3 : b.length < 4611686018427387904) : slices_Equal_string_string k a b = some (decide (a = b)) := by
  unfold slices_Equal_string_string
  by_cases h : a.length = b.length
  · rw [bneF (by omega), cond_false]
    have := sEq_loop k a b h hl2 a.length k 0 (by omega) hl
    simpa using this
  · rw [bneT (by omega), cond_true]
    rw [decide_eq_false (fun e => h (by rw [e]))]
end

section
variable (k : Nat) (s : List TCol) (hn : ∀ c, c ∈ s → c.1.size < k ∧ c.1.size < 1000000000 ∧ I64 c.2.2.2.1) (hk : 2000000 ≤ k)
variable (hS : IsSchema s) (hok : spec_SchemaOk k s = some true) (hok2 : impl_SchemaOk k s = some true)
include hn hk hS hok hok2

/-- both tell the same names -/
theorem path_eq (j : Int) : ∃ N, spec_LeafPath k s j = some ((), N) ∧ impl_LeafPath k s j = some ((), N) ∧ N.length ≤ 20 := by
  obtain ⟨v1, v2⟩ := leaves_eq k (by omega) s (by have := hS.2.1; omega)
  have hs20 := hS.2.1
  have hll := leavesFrom_len 0 s
  unfold spec_LeafPath impl_LeafPath impl_wayTo spec_SchemaLeaves impl_SchemaLeaves
  rw [hok, hok2]
  simp only [Option.bind_some, Bool.not_true, cond_false, v1, v2, l1In_eq, within_eq]
  generalize hlv : leavesFrom 0 s = lv at hll
  rw [w64 (show -9223372036854775808 ≤ (lv.length : Int) - 1 by omega) (by omega)]
  by_cases hin : 0 ≤ j ∧ j < (lv.length : Int)
  · have hw : (decide (0 ≤ j) && decide (j ≤ (lv.length : Int) - 1)) = true := by simp; omega
    obtain ⟨n, rfl⟩ := Int.eq_ofNat_of_zero_le hin.1
    have hnl : n < lv.length := by omega
    obtain ⟨L, e1, e2, e3, c, e4, e5⟩ := leavesFrom_get s [] s rfl n _ (by rw [show ([] : List TCol).length = 0 from rfl, hlv]; exact List.getElem?_eq_getElem hnl)
    have hg : rdL lv (n : Int) = some (L : Int) := by rw [rdL_nat, List.getElem?_eq_getElem hnl, e1]
    have hL : L < s.length := (List.getElem?_eq_some_iff.1 e4).1
    have hend0 : L < colEnd s 0 := by rw [colEnd_eq (Nat.le_refl _) hS.2.2.1]; exact hL
    have hway : wayL s L (L + 1) 0 = 0 :: wayL s L L 1 := by
      simp only [wayL]
      rw [if_pos hend0]
      rfl
    have hmem : ∀ x, x ∈ wayL s L L 1 → ∃ c, rdL s x = some c := fun x hx => by
      obtain ⟨a, rfl, h1, h2⟩ := wayL_mem s L L 1 x hx
      exact ⟨_, List.getElem?_eq_getElem (show a < s.length by omega)⟩
    have hlen := wayL_len s L L 1
    have h1 := iway_loop k s hS hn hk lv (n : Int) L hg hL L L 1 k [] (Nat.le_refl _) (by omega) (by omega) (by simp)
    have h1 : impl_wayTo.l6 k k s (n : Int) 1 lv [] = some ((), wayL s L L 1) := h1
    have hI := ipath_loop k s (wayL s L L 1) (by omega) hmem (wayL s L L 1) [] k [] rfl (by omega) (by simp)
    have hI : impl_LeafPath.l3 k k s ((wayL s L L 1).length : Int) 0 [] (wayL s L L 1) = _ := hI
    have hmem0 : ∀ x, x ∈ (0 : Int) :: wayL s L L 1 → ∃ c, rdL s x = some c := fun x hx => by
      rcases List.mem_cons.1 hx with rfl | hx
      · exact ⟨_, List.getElem?_eq_getElem (show 0 < s.length by omega)⟩
      · exact hmem x hx
    have hP := spath_loop k s (0 :: wayL s L L 1) (by simp; omega) hmem0 (wayL s L L 1) [0] k [] rfl (by omega) (by simp)
    have hP : spec_LeafPath.l7 k k s 1 [] (0 :: wayL s L L 1) = _ := hP
    rw [hw]
    simp only [Bool.not_true, cond_false, hg, Option.bind_some, sway_eq k s hS hn hk L hL, hway, h1, hI, hP]
    exact ⟨_, rfl, rfl, by simp; omega⟩
  · have hw : (decide (0 ≤ j) && decide (j ≤ (lv.length : Int) - 1)) = false := by
      rw [Bool.eq_false_iff]
      intro h
      simp only [Bool.and_eq_true, decide_eq_true_eq] at h
      omega
    obtain ⟨K, rfl⟩ : ∃ K, k = K + 1 := ⟨k - 1, by omega⟩
    rw [hw]
    exact ⟨[], rfl, rfl, by simp⟩
end
end Go.Law
end

section
/- The chunk of a struct, by both. -/
set_option linter.unusedVariables false
set_option linter.unusedSimpArgs false
set_option linter.unusedSectionVars false
namespace Go.Law
open Go.Am Go.Fn

def numAt (l : List TNode) (p : Int) : Int := ((rdL l p).map (·.2.2.1)).getD 0
def txtAt (l : List TNode) (p : Int) : ByteArray := ((rdL l p).map (·.2.2.2.1)).getD ⟨#[]⟩
def nmsV (k : Nat) (s : List TCol) (j : Int) : List ByteArray := ((spec_LeafPath k s j).map (·.2)).getD []
def lfT (k : Nat) (s : List TCol) (j : Int) : Int := ((spec_LeafOf k s j).map (·.1.1)).getD 0

/-- the place of a chunk's own struct: -1 where there is none -/
def ownV (k : Nat) (l : List TNode) (a : Int) : Int := if fV k l a 3 < 0 then -1 else if ((rdL l (fV k l a 3)).map (·.1)).getD 0 = 12 then fV k l a 3 else -1

/-- is a chunk's struct as told (strictly: as the reference asks) -/
def chI (k : Nat) (l : List TNode) (s : List TCol) (strict : Bool) (a j : Int) : Bool :=
  if ownV k l a < 0 then false else
    (pV k l (ownV k l a) 2 5).1 && (pV k l (ownV k l a) 3 8).1 && ((nV k l (ownV k l a) 1).2 && ((nV k l (ownV k l a) 1).1 == lfT k s j)) && ((nV k l (ownV k l a) 4).2 && ((nV k l (ownV k l a) 4).1 == 0)) &&
      decide ((pV k l (ownV k l a) 3 8).2.map (txtAt l) = nmsV k s j) && (nV k l (ownV k l a) 5).2 && (nV k l (ownV k l a) 6).2 && ((nV k l (ownV k l a) 7).2 && ((nV k l (ownV k l a) 7).1 == (nV k l (ownV k l a) 6).1)) && (nV k l (ownV k l a) 9).2 &&
      (if fV k l (ownV k l a) 11 < 0 then true else (nV k l (ownV k l a) 11).2 && (if strict then decide (0 ≤ (nV k l (ownV k l a) 11).1) else (nV k l (ownV k l a) 11).1 != -1))

/-- the chunk of a struct -/
def chV (k : Nat) (l : List TNode) (a j : Int) : TChunk :=
  if ownV k l a < 0 then (j, 0, -1, 0, 0, [], ()) else
    (j, (nV k l (ownV k l a) 9).1, (if fV k l (ownV k l a) 11 < 0 then -1 else (nV k l (ownV k l a) 11).1), (nV k l (ownV k l a) 5).1, (nV k l (ownV k l a) 6).1, (pV k l (ownV k l a) 2 5).2.map (numAt l), ())

section
variable (k : Nat) (hk : 2000000 ≤ k) {l : List TNode} {af : List Int} (h : TreeFacts l af)
include hk h

theorem iencs_loop (t3 t10 : Int) (b : Bool) (s : List TCol) (o100 o101 : Int × Int × Int × Int × Int × Unit × Unit) (lf : TLeaf) (E : List Int) (hE : E.length ≤ 1500) (hm : ∀ p, p ∈ E → 0 ≤ p ∧ p < (l.length : Int)) (o104 : List Int) : ∀ (post pre : List Int) (f : Nat) (o : List Int), E = pre ++ post → post.length < f → o.length ≤ pre.length →
    impl_metaReader_chunk.l8 k f t3 t10 (E.length : Int) (pre.length : Int) (mR b) (tB l) af s o100 o101 lf E o104 o = (impl_metaReader_list k t10 3 8 (mR b) (tB l) af).bind fun r33 => impl_metaReader_chunk.l14 k k t3 t10 (List.length r33.2.2.2.2 : Int) 0 r33.2.1 r33.2.2.1 r33.2.2.2.1 s o100 o101 lf [] r33.2.2.2.2 o104 (o ++ post.map (numAt l)) := by
  intro post
  induction post with
  | nil =>
    intro pre f o h hf ho
    obtain ⟨f, rfl⟩ : ∃ q, f = q + 1 := ⟨f - 1, by omega⟩
    have hlen : E.length = pre.length := by rw [h]; simp
    simp only [impl_metaReader_chunk.l8, decide_eq_false (show ¬ ((pre.length : Int) < (E.length : Int)) by omega), cond_false, List.map_nil, List.append_nil]
  | cons x post ih =>
    intro pre f o h hf ho
    simp only [List.length_cons] at hf
    obtain ⟨f, rfl⟩ : ∃ q, f = q + 1 := ⟨f - 1, by omega⟩
    have hlen : E.length = pre.length + (post.length + 1) := by rw [h]; simp
    have hg : rdL E (pre.length : Int) = some x := by rw [h]; exact getMid _ _ _
    have hi1 : IntKind.wrap .i64 ((pre.length : Int) + 1) = ((pre.length + 1 : Nat) : Int) := by rw [w64 (by omega) (by omega)]; omega
    obtain ⟨x0, x1⟩ := hm x (by rw [h]; simp)
    obtain ⟨c, hc, _⟩ := rdL_some x0 x1
    have hi := ih (pre ++ [x]) f (o ++ [c.2.2.1]) (by rw [h]; simp) (by omega) (by simp; omega)
    rw [List.length_append, List.length_singleton] at hi
    have hc' : rdL (tB l).1 x = some c := hc
    simp only [impl_metaReader_chunk.l8, decide_eq_true (show (pre.length : Int) < (E.length : Int) by omega), cond_true, hg, Option.bind_some, impl_metaReader_chunk.d10, hc', hi1]
    rw [lim_ok (by simp; omega), cond_true, hi]
    simp [numAt, hc]

theorem ipaths_loop (t3 t10 : Int) (b : Bool) (s : List TCol) (o100 o101 : Int × Int × Int × Int × Int × Unit × Unit) (lf : TLeaf) (E : List Int) (hE : E.length ≤ 1500) (hm : ∀ p, p ∈ E → 0 ≤ p ∧ p < (l.length : Int)) (o105 o106 : List Int) : ∀ (post pre : List Int) (f : Nat) (o : List ByteArray), E = pre ++ post → post.length < f → o.length ≤ pre.length →
    impl_metaReader_chunk.l14 k f t3 t10 (E.length : Int) (pre.length : Int) (mR b) (tB l) af s o100 o101 lf o E o105 o106 = impl_metaReader_chunk.d18 k t3 t10 (mR b) (tB l) af s o100 o101 lf (o ++ post.map (txtAt l)) o105 o106 := by
  intro post
  induction post with
  | nil =>
    intro pre f o h hf ho
    obtain ⟨f, rfl⟩ : ∃ q, f = q + 1 := ⟨f - 1, by omega⟩
    have hlen : E.length = pre.length := by rw [h]; simp
    simp only [impl_metaReader_chunk.l14, decide_eq_false (show ¬ ((pre.length : Int) < (E.length : Int)) by omega), cond_false, List.map_nil, List.append_nil]
  | cons x post ih =>
    intro pre f o h hf ho
    simp only [List.length_cons] at hf
    obtain ⟨f, rfl⟩ : ∃ q, f = q + 1 := ⟨f - 1, by omega⟩
    have hlen : E.length = pre.length + (post.length + 1) := by rw [h]; simp
    have hg : rdL E (pre.length : Int) = some x := by rw [h]; exact getMid _ _ _
    have hi1 : IntKind.wrap .i64 ((pre.length : Int) + 1) = ((pre.length + 1 : Nat) : Int) := by rw [w64 (by omega) (by omega)]; omega
    obtain ⟨x0, x1⟩ := hm x (by rw [h]; simp)
    obtain ⟨c, hc, _⟩ := rdL_some x0 x1
    have hi := ih (pre ++ [x]) f (o ++ [c.2.2.2.1]) (by rw [h]; simp) (by omega) (by simp; omega)
    rw [List.length_append, List.length_singleton] at hi
    have hc' : rdL (tB l).1 x = some c := hc
    simp only [impl_metaReader_chunk.l14, decide_eq_true (show (pre.length : Int) < (E.length : Int) by omega), cond_true, hg, Option.bind_some, hc', hi1]
    rw [lim_ok (by simp; omega), cond_true, hi]
    simp [txtAt, hc]

theorem own_eq (a : Nat) (ha : a < l.length) : (ownV k l a = -1 ∧ ∀ (D : Option Unit), True) ∨ (∃ q : Nat, ownV k l a = q ∧ a < q ∧ q < l.length ∧ fV k l a 3 = q ∧ ∃ n, l[q]? = some n ∧ n.1 = 12) := by
  obtain ⟨_, _, g3⟩ := find_val k (by omega) h a ha 3
  unfold ownV
  rcases g3 with g3 | ⟨q, g3, q1, q2⟩
  · left; rw [g3, if_pos (by omega)]; exact ⟨rfl, fun _ => trivial⟩
  · rw [g3, if_neg (by omega), rdL_nat, List.getElem?_eq_getElem q2]
    simp only [Option.map_some, Option.getD_some]
    split
    · rename_i h12
      exact .inr ⟨q, rfl, q1, q2, rfl, _, List.getElem?_eq_getElem q2, h12⟩
    · exact .inl ⟨rfl, fun _ => trivial⟩

variable (s : List TCol) (hn : ∀ c, c ∈ s → c.1.size < k ∧ c.1.size < 1000000000 ∧ I64 c.2.2.2.1) (hS : IsSchema s) (hok : spec_SchemaOk k s = some true) (hok2 : impl_SchemaOk k s = some true)
include hn hS hok hok2

theorem names_val (j : Int) : spec_LeafPath k s j = some ((), nmsV k s j) ∧ impl_LeafPath k s j = some ((), nmsV k s j) ∧ (nmsV k s j).length ≤ 20 := by
  obtain ⟨N, e1, e2, e3⟩ := path_eq k s hn hk hS hok hok2 j
  have : nmsV k s j = N := by unfold nmsV; rw [e1]; rfl
  rw [this]
  exact ⟨e1, e2, e3⟩

/-- the program's chunk -/
theorem ichunk (a : Nat) (ha : a < l.length) (j : Int) (b : Bool) :
    impl_metaReader_chunk k (a : Int) j (mR b) (tB l) af s = some (((chV k l a j).1, (chV k l a j).2.1, (chV k l a j).2.2.1, (chV k l a j).2.2.2.1, (chV k l a j).2.2.2.2.1, (), ()), (mR (b || !chI k l s false a j), tB l, af, s, (chV k l a j).2.2.2.2.2.1)) := by
  have hk2 : 2000 ≤ k := by omega
  obtain ⟨_, g2, g3⟩ := find_val k hk2 h a ha 3
  unfold impl_metaReader_chunk
  simp only [g2, Option.bind_some]
  rcases own_eq k hk h a ha with ⟨ho, _⟩ | ⟨q, ho, q1, q2, q3, n, hnq, h12⟩
  · have hbad : (cond (decide (fV k l a 3 < 0)) (some true) ((rdL (tB l).1 (fV k l a 3)).bind fun y35 => some (y35.1 != 12))) = some true := by
      rcases g3 with g3 | ⟨q, g3, q1, q2⟩
      · rw [g3]; rfl
      · rw [g3, decide_eq_false (by omega), cond_false, rdL_nat, show (tB l).1 = l from rfl, List.getElem?_eq_getElem q2]
        unfold ownV at ho
        rw [g3, if_neg (by omega), rdL_nat, List.getElem?_eq_getElem q2] at ho
        simp only [Option.map_some, Option.getD_some] at ho
        split at ho
        · omega
        · rename_i h12
          simp only [Option.bind_some, bneT h12]
    rw [hbad]
    unfold chV chI
    simp only [ho, show ((-1 : Int) < 0) from by omega, if_true, Option.bind_some, cond_true, Bool.not_false, Bool.or_true]
  · have hgood : (cond (decide (fV k l a 3 < 0)) (some true) ((rdL (tB l).1 (fV k l a 3)).bind fun y35 => some (y35.1 != 12))) = some false := by
      rw [q3, decide_eq_false (by omega), cond_false, rdL_nat, show (tB l).1 = l from rfl, hnq]
      simp only [Option.bind_some, bneF h12]
    obtain ⟨lf, lb, e1, e2, _⟩ := leafOf_eq k s hn hk hS hok hok2 j
    have hlf : lfT k s j = lf.1 := by unfold lfT; rw [e1]; rfl
    obtain ⟨_, p2, p3⟩ := names_val k hk h s hn hS hok hok2 j
    obtain ⟨_, _, m1, m2⟩ := parts_val k hk2 h q q2 2 5
    obtain ⟨_, _, m3, m4⟩ := parts_val k hk2 h q q2 3 8
    obtain ⟨_, f2, f3⟩ := find_val k hk2 h q q2 11
    rw [hgood]
    simp only [Option.bind_some, cond_false, e2, q3, mlist k hk2 h q q2]
    have le := iencs_loop k hk h j (q : Int) (b || !(pV k l q 2 5).1) s (0, 0, 0, 0, 0, (), ()) (j, 0, (-1), 0, 0, (), ()) lf (pV k l q 2 5).2 m1 m2 [] (pV k l q 2 5).2 [] k [] rfl (by omega) (by simp)
    rw [List.length_nil, show ((0 : Nat) : Int) = 0 from rfl] at le
    rw [le]
    simp only [mlist k hk2 h q q2, Option.bind_some, List.nil_append]
    have lp := ipaths_loop k hk h j (q : Int) (b || !(pV k l q 2 5).1 || !(pV k l q 3 8).1) s (0, 0, 0, 0, 0, (), ()) (j, 0, (-1), 0, 0, (), ()) lf (pV k l q 3 8).2 m3 m4 [] ((pV k l q 2 5).2.map (numAt l)) (pV k l q 3 8).2 [] k [] rfl (by omega) (by simp)
    rw [List.length_nil, show ((0 : Nat) : Int) = 0 from rfl] at lp
    rw [lp, List.nil_append]
    have hsE := sEq_val k ((pV k l q 3 8).2.map (txtAt l)) (nmsV k s j) (by rw [List.length_map]; omega) (by rw [List.length_map]; omega) (by omega)
    -- behind the three looks
    have tail : ∀ b' : Bool, impl_metaReader_chunk.c20 k (q : Int) (mR b') (tB l) af s (0, 0, 0, 0, 0, (), ()) (j, 0, (-1), 0, 0, (), ()) [] ((pV k l q 2 5).2.map (numAt l)) =
        some (((chV k l a j).1, (chV k l a j).2.1, (chV k l a j).2.2.1, (chV k l a j).2.2.2.1, (chV k l a j).2.2.2.2.1, (), ()), (mR (b' || !((nV k l q 5).2 && (nV k l q 6).2 && ((nV k l q 7).2 && ((nV k l q 7).1 == (nV k l q 6).1)) && (nV k l q 9).2 && (if fV k l q 11 < 0 then true else (nV k l q 11).2 && ((nV k l q 11).1 != -1)))), tB l, af, s, (chV k l a j).2.2.2.2.2.1)) := by
      intro b'
      unfold impl_metaReader_chunk.c20 impl_metaReader_chunk.d22 impl_metaReader_chunk.c24 impl_metaReader_chunk.c28 chV
      rw [ho, if_neg (by omega)]
      have hm7 : (((nV k l q 7).1 != (nV k l q 6).1)) = !((nV k l q 7).1 == (nV k l q 6).1) := rfl
      simp only [mnum k hk2 h q q2, Option.bind_some, hm7]
      have hbne : ((nV k l q 11).1 != -1) = !((nV k l q 11).1 == -1) := rfl
      cases h7 : ((nV k l q 7).1 == (nV k l q 6).1)
      all_goals
        simp only [Bool.not_true, Bool.not_false, cond_true, cond_false, mnum k hk2 h q q2, Option.bind_some, f2]
        by_cases hf : fV k l q 11 < 0
        · rw [decide_eq_false (show ¬ fV k l q 11 ≥ 0 by omega), if_pos hf, if_pos hf]
          cases b' <;> cases (nV k l q 5).2 <;> cases (nV k l q 6).2 <;> cases (nV k l q 7).2 <;> cases (nV k l q 9).2 <;> rfl
        · rw [decide_eq_true (show fV k l q 11 ≥ 0 by omega), if_neg hf, if_neg hf, hbne]
          simp only [cond_true, mnum k hk2 h q q2, Option.bind_some, cst]
          cases b' <;> cases (nV k l q 5).2 <;> cases (nV k l q 6).2 <;> cases (nV k l q 7).2 <;> cases (nV k l q 9).2 <;> cases (nV k l q 11).2 <;> cases ((nV k l q 11).1 == -1) <;> rfl
    unfold impl_metaReader_chunk.d18
    have hm1 : (((nV k l q 1).1 != lf.1)) = !((nV k l q 1).1 == lf.1) := rfl
    have hm4 : (((nV k l q 4).1 != 0)) = !((nV k l q 4).1 == 0) := rfl
    simp only [mnum k hk2 h q q2, Option.bind_some, hm1, hm4, cond_true, p2, hsE]
    have hfin : chI k l s false a j = ((pV k l q 2 5).1 && (pV k l q 3 8).1 && ((nV k l q 1).2 && ((nV k l q 1).1 == lf.1)) && ((nV k l q 4).2 && ((nV k l q 4).1 == 0)) && decide ((pV k l q 3 8).2.map (txtAt l) = nmsV k s j) &&
        ((nV k l q 5).2 && (nV k l q 6).2 && ((nV k l q 7).2 && ((nV k l q 7).1 == (nV k l q 6).1)) && (nV k l q 9).2 && (if fV k l q 11 < 0 then true else (nV k l q 11).2 && ((nV k l q 11).1 != -1)))) := by
      unfold chI
      rw [ho, if_neg (by omega), hlf]
      simp only [Bool.and_assoc, Bool.false_eq_true, if_false]
    generalize hC : ((nV k l q 5).2 && (nV k l q 6).2 && ((nV k l q 7).2 && ((nV k l q 7).1 == (nV k l q 6).1)) && (nV k l q 9).2 && (if fV k l q 11 < 0 then true else (nV k l q 11).2 && ((nV k l q 11).1 != -1))) = C at tail hfin
    rw [hfin]
    generalize (pV k l q 2 5).1 = x1
    generalize (pV k l q 3 8).1 = x2
    generalize (nV k l q 1).2 = x3
    generalize (nV k l q 4).2 = x4
    generalize decide ((pV k l q 3 8).2.map (txtAt l) = nmsV k s j) = x5
    generalize ((nV k l q 4).1 == 0) = x7
    cases ((nV k l q 1).1 == lf.1) with
    | false =>
      simp only [Bool.not_false, cond_true]
      refine (tail true).trans ?_
      cases b <;> cases x1 <;> cases x2 <;> cases x3 <;> cases x4 <;> cases x5 <;> cases x7 <;> cases C <;> rfl
    | true =>
      simp only [Bool.not_true, cond_false]
      cases x7 with
      | false =>
        simp only [Bool.not_false, cond_true]
        refine (tail true).trans ?_
        cases b <;> cases x1 <;> cases x2 <;> cases x3 <;> cases x4 <;> cases x5 <;> cases C <;> rfl
      | true =>
        simp only [Bool.not_true, cond_false]
        cases x5 with
        | false =>
          simp only [Bool.not_false, cond_true]
          refine (tail true).trans ?_
          cases b <;> cases x1 <;> cases x2 <;> cases x3 <;> cases x4 <;> cases C <;> rfl
        | true =>
          simp only [Bool.not_true, cond_false]
          refine (tail _).trans ?_
          cases b <;> cases x1 <;> cases x2 <;> cases x3 <;> cases x4 <;> cases C <;> rfl
end
end Go.Law
end

section
/- The chunk of a struct, the reference's. -/
set_option linter.unusedVariables false
set_option linter.unusedSimpArgs false
set_option linter.unusedSectionVars false
namespace Go.Law
open Go.Am Go.Fn

section
variable (k : Nat) (hk : 2000000 ≤ k) {l : List TNode} {af : List Int} (h : TreeFacts l af)
include hk h

theorem ids6 (q : Nat) (hq : q < l.length) : ∃ O, spec_l16Ids k l (q : Int) [1, 4, 5, 6, 7, 9] = some (((), (nV k l q 1).2 && ((nV k l q 4).2 && ((nV k l q 5).2 && ((nV k l q 6).2 && ((nV k l q 7).2 && (nV k l q 9).2))))), O) ∧
    (((nV k l q 1).2 && ((nV k l q 4).2 && ((nV k l q 5).2 && ((nV k l q 6).2 && ((nV k l q 7).2 && (nV k l q 9).2))))) = true → O = [(nV k l q 1).1, (nV k l q 4).1, (nV k l q 5).1, (nV k l q 6).1, (nV k l q 7).1, (nV k l q 9).1]) := by
  have n1 := fun id => (num_val k (by omega) h q hq id).1
  have key : ∀ f, 7 ≤ f → ∃ O, spec_l16Ids.l3 k f l (q : Int) [1, 4, 5, 6, 7, 9] 0 [] = some (((), (nV k l q 1).2 && ((nV k l q 4).2 && ((nV k l q 5).2 && ((nV k l q 6).2 && ((nV k l q 7).2 && (nV k l q 9).2))))), O) ∧
    (((nV k l q 1).2 && ((nV k l q 4).2 && ((nV k l q 5).2 && ((nV k l q 6).2 && ((nV k l q 7).2 && (nV k l q 9).2))))) = true → O = [(nV k l q 1).1, (nV k l q 4).1, (nV k l q 5).1, (nV k l q 6).1, (nV k l q 7).1, (nV k l q 9).1]) := by
    intro f hf
    obtain ⟨f, rfl⟩ : ∃ g, f = g + 7 := ⟨f - 7, by omega⟩
    have r0 : rdL [(1 : Int), 4, 5, 6, 7, 9] 0 = some 1 := rfl
    have r1 : rdL [(1 : Int), 4, 5, 6, 7, 9] 1 = some 4 := rfl
    have r2 : rdL [(1 : Int), 4, 5, 6, 7, 9] 2 = some 5 := rfl
    have r3 : rdL [(1 : Int), 4, 5, 6, 7, 9] 3 = some 6 := rfl
    have r4 : rdL [(1 : Int), 4, 5, 6, 7, 9] 4 = some 7 := rfl
    have r5 : rdL [(1 : Int), 4, 5, 6, 7, 9] 5 = some 9 := rfl
    have w0 : IntKind.wrap .i64 (0 + 1) = 1 := by decide
    have w1 : IntKind.wrap .i64 (1 + 1) = 2 := by decide
    have w2 : IntKind.wrap .i64 (2 + 1) = 3 := by decide
    have w3 : IntKind.wrap .i64 (3 + 1) = 4 := by decide
    have w4 : IntKind.wrap .i64 (4 + 1) = 5 := by decide
    have w5 : IntKind.wrap .i64 (5 + 1) = 6 := by decide
    have L6 : (([(1 : Int), 4, 5, 6, 7, 9].length : Nat) : Int) = 6 := rfl
    simp only [spec_l16Ids.l3, L6, show decide ((0 : Int) < 6) = true by decide, show decide ((1 : Int) < 6) = true by decide, show decide ((2 : Int) < 6) = true by decide, show decide ((3 : Int) < 6) = true by decide, show decide ((4 : Int) < 6) = true by decide, show decide ((5 : Int) < 6) = true by decide, show decide ((6 : Int) < 6) = false by decide, cond_true, cond_false, r0, r1, r2, r3, r4, r5, w0, w1, w2, w3, w4, w5, Option.bind_some, n1]
    cases (nV k l q 1).2 with
    | false => exact ⟨_, rfl, fun h => by cases h⟩
    | true =>
      simp only [Bool.not_true, cond_false, Bool.true_and]
      rw [lim_ok (by simp), cond_true]
      cases (nV k l q 4).2 with
      | false => exact ⟨_, rfl, fun h => by cases h⟩
      | true =>
        simp only [Bool.not_true, cond_false, Bool.true_and]
        rw [lim_ok (by simp), cond_true]
        cases (nV k l q 5).2 with
        | false => exact ⟨_, rfl, fun h => by cases h⟩
        | true =>
          simp only [Bool.not_true, cond_false, Bool.true_and]
          rw [lim_ok (by simp), cond_true]
          cases (nV k l q 6).2 with
          | false => exact ⟨_, rfl, fun h => by cases h⟩
          | true =>
            simp only [Bool.not_true, cond_false, Bool.true_and]
            rw [lim_ok (by simp), cond_true]
            cases (nV k l q 7).2 with
            | false => exact ⟨_, rfl, fun h => by cases h⟩
            | true =>
              simp only [Bool.not_true, cond_false, Bool.true_and]
              rw [lim_ok (by simp), cond_true]
              cases (nV k l q 9).2 with
              | false => exact ⟨_, rfl, fun h => by cases h⟩
              | true =>
                simp only [Bool.not_true, cond_false]
                rw [lim_ok (by simp), cond_true]
                exact ⟨_, rfl, fun _ => rfl⟩
  exact key k (by omega)

theorem sencs_loop (q : Nat) (hq : q < l.length) (o100 o101 c : Int × Int × Int × Int × Int × Unit × Unit) (E : List Int) (hE : E.length ≤ 1500) (hm : ∀ p, p ∈ E → 0 ≤ p ∧ p < (l.length : Int)) (o104 o105 : List Int) : ∀ (post pre : List Int) (f : Nat) (o : List Int), E = pre ++ post → post.length < f → o.length ≤ pre.length →
    spec_l18From.l18 k f l (q : Int) (pre.length : Int) o100 o101 E c o104 o105 o = if fV k l q 11 < 0 then some ((c, true), o ++ post.map (numAt l)) else if ((nV k l q 11).2 && decide (0 ≤ (nV k l q 11).1)) = true then some (((c.1, c.2.1, (nV k l q 11).1, c.2.2.2.1, c.2.2.2.2.1, (), ()), true), o ++ post.map (numAt l)) else some ((o101, false), o105) := by
  intro post
  induction post with
  | nil =>
    intro pre f o h' hf ho
    obtain ⟨f, rfl⟩ : ∃ q, f = q + 1 := ⟨f - 1, by omega⟩
    have hlen : E.length = pre.length := by rw [h']; simp
    obtain ⟨f1, _, _⟩ := find_val k (by omega) h q hq 11
    obtain ⟨n1, _, _⟩ := num_val k (by omega) h q hq 11
    simp only [spec_l18From.l18, decide_eq_false (show ¬ ((pre.length : Int) < (E.length : Int)) by omega), cond_false, List.map_nil, List.append_nil, f1, n1, Option.bind_some, spec_l18From.c26, cst]
    by_cases hf : fV k l q 11 < 0
    · rw [decide_eq_false (show ¬ fV k l q 11 ≥ 0 by omega), if_pos hf]; rfl
    · rw [decide_eq_true (show fV k l q 11 ≥ 0 by omega), if_neg hf]
      simp only [cond_true]
      by_cases hx : 0 ≤ (nV k l q 11).1
      · rw [decide_eq_true hx, decide_eq_false (show ¬ (nV k l q 11).1 < 0 by omega)]
        cases (nV k l q 11).2 <;> rfl
      · rw [decide_eq_false hx, decide_eq_true (show (nV k l q 11).1 < 0 by omega)]
        cases (nV k l q 11).2 <;> rfl
  | cons x post ih =>
    intro pre f o h' hf ho
    simp only [List.length_cons] at hf
    obtain ⟨f, rfl⟩ : ∃ q, f = q + 1 := ⟨f - 1, by omega⟩
    have hlen : E.length = pre.length + (post.length + 1) := by rw [h']; simp
    have hg : rdL E (pre.length : Int) = some x := by rw [h']; exact getMid _ _ _
    have hi1 : IntKind.wrap .i64 ((pre.length : Int) + 1) = ((pre.length + 1 : Nat) : Int) := by rw [w64 (by omega) (by omega)]; omega
    obtain ⟨x0, x1⟩ := hm x (by rw [h']; simp)
    obtain ⟨d, hd, _⟩ := rdL_some x0 x1
    have hi := ih (pre ++ [x]) f (o ++ [d.2.2.1]) (by rw [h']; simp) (by omega) (by simp; omega)
    rw [List.length_append, List.length_singleton] at hi
    simp only [spec_l18From.l18, decide_eq_true (show (pre.length : Int) < (E.length : Int) by omega), cond_true, hg, hd, Option.bind_some, hi1]
    rw [lim_ok (by simp; omega), cond_true, hi]
    simp [numAt, hd]

theorem spaths_loop (q : Nat) (j : Int) (o100 o101 : Int × Int × Int × Int × Int × Unit × Unit) (O EP E : List Int) (hE : E.length ≤ 1500) (hm : ∀ p, p ∈ E → 0 ≤ p ∧ p < (l.length : Int)) (N : List ByteArray) (hN : N.length = E.length) (o106 o107 : List Int) : ∀ (m f i : Nat), i + m = E.length → m < f →
    spec_l18From.l12 k f l j (q : Int) (i : Int) o100 o101 O EP E N o106 o107 = if (E.drop i).map (txtAt l) = N.drop i then ((rdL O 5).bind fun y9 => (rdL O 2).bind fun y10 => (rdL O 3).bind fun y11 => spec_l18From.l18 k k l (q : Int) 0 o100 o101 EP (j, y9, (-1), y10, y11, (), ()) o106 o107 []) else some ((o101, false), o107) := by
  intro m
  induction m with
  | zero =>
    intro f i hi hf
    obtain ⟨f, rfl⟩ : ∃ q, f = q + 1 := ⟨f - 1, by omega⟩
    simp only [spec_l18From.l12, decide_eq_false (show ¬ ((i : Int) < (E.length : Int)) by omega), cond_false]
    rw [List.drop_eq_nil_of_le (by omega), List.drop_eq_nil_of_le (by omega), List.map_nil, if_pos rfl]
  | succ m ih =>
    intro f i hi hf
    obtain ⟨f, rfl⟩ : ∃ q, f = q + 1 := ⟨f - 1, by omega⟩
    have ha := List.getElem?_eq_getElem (show i < E.length by omega)
    have hb := List.getElem?_eq_getElem (show i < N.length by omega)
    have hi1 : IntKind.wrap .i64 ((i : Int) + 1) = ((i + 1 : Nat) : Int) := by rw [w64 (by omega) (by omega)]; omega
    have da := List.drop_eq_getElem_cons (show i < E.length by omega)
    have db := List.drop_eq_getElem_cons (show i < N.length by omega)
    rw [da, db]
    obtain ⟨x0, x1⟩ := hm _ (List.mem_of_getElem? ha)
    generalize E[i]'_ = x at ha x0 x1
    generalize N[i]'_ = y at hb
    obtain ⟨d, hd, _⟩ := rdL_some x0 x1
    simp only [spec_l18From.l12, decide_eq_true (show (i : Int) < (E.length : Int) by omega), cond_true, rdL_nat, ha, hb, hd, Option.bind_some, eqS_iff, hi1, List.map_cons]
    have ht : txtAt l x = d.2.2.2.1 := by unfold txtAt; rw [hd]; rfl
    rw [ht]
    by_cases hxy : d.2.2.2.1 = y
    · rw [hxy, decide_eq_true rfl]
      simp only [Bool.not_true, cond_false, List.cons.injEq, true_and]
      rw [ih f (i + 1) (by omega) (by omega)]
    · rw [decide_eq_false hxy, if_neg (fun e => hxy (List.cons.inj e).1)]
      rfl

variable (s : List TCol) (hn : ∀ c, c ∈ s → c.1.size < k ∧ c.1.size < 1000000000 ∧ I64 c.2.2.2.1) (hS : IsSchema s) (hok : spec_SchemaOk k s = some true) (hok2 : impl_SchemaOk k s = some true)
include hn hS hok hok2

/-- the reference's chunk -/
theorem schunk (a : Nat) (ha : a < l.length) (j : Nat) (hj : j < (leavesFrom 0 s).length) :
    ∃ hd E, spec_l18From k l (a : Int) s (j : Int) = some ((hd, chI k l s true a j), E) ∧
      (chI k l s true a j = true → hd = ((chV k l a j).1, (chV k l a j).2.1, (chV k l a j).2.2.1, (chV k l a j).2.2.2.1, (chV k l a j).2.2.2.2.1, (), ()) ∧ E = (chV k l a j).2.2.2.2.2.1) := by
  have hk2 : 2000 ≤ k := by omega
  obtain ⟨g1, _, g3⟩ := find_val k hk2 h a ha 3
  unfold spec_l18From
  simp only [g1, Option.bind_some]
  rcases own_eq k hk h a ha with ⟨ho, _⟩ | ⟨q, ho, q1, q2, q3, n, hnq, h12⟩
  · have hbad : (cond (decide (fV k l a 3 < 0)) (some true) ((rdL l (fV k l a 3)).bind fun y349 => some (y349.1 != 12))) = some true := by
      rcases g3 with g3 | ⟨q, g3, q1, q2⟩
      · rw [g3]; rfl
      · rw [g3, decide_eq_false (by omega), cond_false, rdL_nat, List.getElem?_eq_getElem q2]
        unfold ownV at ho
        rw [g3, if_neg (by omega), rdL_nat, List.getElem?_eq_getElem q2] at ho
        simp only [Option.map_some, Option.getD_some] at ho
        split at ho
        · omega
        · rename_i h12
          simp only [Option.bind_some, bneT h12]
    rw [hbad]
    have hI : chI k l s true a j = false := by
      unfold chI
      rw [ho, if_pos (by omega)]
    rw [hI]
    simp only [Option.bind_some, cond_true]
    exact ⟨_, _, rfl, fun h => by cases h⟩
  · have hgood : (cond (decide (fV k l a 3 < 0)) (some true) ((rdL l (fV k l a 3)).bind fun y349 => some (y349.1 != 12))) = some false := by
      rw [q3, decide_eq_false (by omega), cond_false, rdL_nat, hnq]
      simp only [Option.bind_some, bneF h12]
    obtain ⟨O, i1, i2⟩ := ids6 k hk h q q2
    obtain ⟨p1, _, p3⟩ := names_val k hk h s hn hS hok hok2 j
    obtain ⟨b1, _, m1, m2⟩ := parts_val k hk2 h q q2 2 5
    obtain ⟨b2, _, m3, m4⟩ := parts_val k hk2 h q q2 3 8
    obtain ⟨_, v2⟩ := leaves_eq k (by omega) s (by have := hS.2.1; omega)
    -- the leaf's type
    obtain ⟨lf, lb, e1, _, e3⟩ := leafOf_eq k s hn hk hS hok hok2 (j : Int)
    have hlb : lb = true := by
      unfold spec_LeafOf spec_SchemaLeaves at e1
      rw [hok] at e1
      have hll := leavesFrom_len 0 s
      have hs20 := hS.2.1
      simp only [Option.bind_some, Bool.not_true, cond_false, v2, l1In_eq] at e1
      rw [w64 (by omega) (by omega), show (decide ((0 : Int) ≤ (j : Int)) && decide ((j : Int) ≤ ((leavesFrom 0 s).length : Int) - 1)) = true by simp; omega] at e1
      simp only [Bool.not_true, cond_false] at e1
      cases h1 : rdL (leavesFrom 0 s) (j : Int) with
      | none => rw [h1] at e1; cases e1
      | some x =>
        rw [h1] at e1
        simp only [Option.bind_some] at e1
        cases h2 : spec_l5Max k s x with
        | none => rw [h2] at e1; cases e1
        | some y =>
          rw [h2] at e1
          simp only [Option.bind_some] at e1
          cases h3 : rdL s x with
          | none => rw [h3] at e1; cases e1
          | some z =>
            rw [h3] at e1
            simp only [Option.bind_some, Option.some.injEq, Prod.mk.injEq] at e1
            exact e1.2.symm
    obtain ⟨L, c, hL, hc, _, _, hlf⟩ := e3 hlb
    have hlfT : lfT k s j = c.2.1 := by unfold lfT; rw [e1, hlf]; rfl
    have hcr : rdL s ((L : Nat) : Int) = some c := hc
    rw [hgood, q3]
    simp only [Option.bind_some, cond_false, i1, b1, b2, p1, spec_l18From.d9, cond_true, v2, hL, hcr]
    have hI : chI k l s true a j = ((((nV k l q 1).2 && ((nV k l q 4).2 && ((nV k l q 5).2 && ((nV k l q 6).2 && ((nV k l q 7).2 && (nV k l q 9).2))))) && (pV k l q 2 5).1 && (pV k l q 3 8).1 && ((nV k l q 1).1 == c.2.1) && ((nV k l q 4).1 == 0) && ((nV k l q 6).1 == (nV k l q 7).1)) &&
        decide ((pV k l q 3 8).2.map (txtAt l) = nmsV k s j) && (if fV k l q 11 < 0 then true else (nV k l q 11).2 && decide (0 ≤ (nV k l q 11).1))) := by
      unfold chI
      rw [ho, if_neg (by omega), hlfT, show ((nV k l q 7).1 == (nV k l q 6).1) = ((nV k l q 6).1 == (nV k l q 7).1) from by rw [Bool.eq_iff_iff]; simp; omega]
      simp only [if_true]
      generalize (nV k l q 1).2 = x1
      generalize (nV k l q 4).2 = x2
      generalize (nV k l q 5).2 = x3
      generalize (nV k l q 6).2 = x4
      generalize (nV k l q 7).2 = x5
      generalize (nV k l q 9).2 = x6
      generalize (pV k l q 2 5).1 = x7
      generalize (pV k l q 3 8).1 = x8
      cases x1 <;> cases x2 <;> cases x3 <;> cases x4 <;> cases x5 <;> cases x6 <;> cases x7 <;> cases x8 <;> simp [Bool.and_assoc, Bool.and_comm, Bool.and_left_comm]
    rw [hI]
    clear hI
    generalize hA : ((nV k l q 1).2 && ((nV k l q 4).2 && ((nV k l q 5).2 && ((nV k l q 6).2 && ((nV k l q 7).2 && (nV k l q 9).2))))) = A at i2
    cases A with
    | false =>
      simp only [Bool.not_false, cond_true, Bool.false_and]
      exact ⟨_, _, rfl, fun h => by cases h⟩
    | true =>
      obtain rfl := i2 rfl
      simp only [Bool.not_true, cond_false, Bool.true_and]
      cases (pV k l q 2 5).1 with
      | false =>
        simp only [Bool.not_false, cond_true, Bool.false_and]
        exact ⟨_, _, rfl, fun h => by cases h⟩
      | true =>
        simp only [Bool.not_true, cond_false, Bool.true_and]
        cases (pV k l q 3 8).1 with
        | false =>
          simp only [Bool.not_false, cond_true, Bool.false_and]
          exact ⟨_, _, rfl, fun h => by cases h⟩
        | true =>
          simp only [Bool.not_true, cond_false, Bool.true_and]
          by_cases hlen : (pV k l q 3 8).2.length = (nmsV k s j).length
          · have r0 : rdL [(nV k l q 1).1, (nV k l q 4).1, (nV k l q 5).1, (nV k l q 6).1, (nV k l q 7).1, (nV k l q 9).1] 0 = some (nV k l q 1).1 := rfl
            have r1 : rdL [(nV k l q 1).1, (nV k l q 4).1, (nV k l q 5).1, (nV k l q 6).1, (nV k l q 7).1, (nV k l q 9).1] 1 = some (nV k l q 4).1 := rfl
            have r2 : rdL [(nV k l q 1).1, (nV k l q 4).1, (nV k l q 5).1, (nV k l q 6).1, (nV k l q 7).1, (nV k l q 9).1] 2 = some (nV k l q 5).1 := rfl
            have r3 : rdL [(nV k l q 1).1, (nV k l q 4).1, (nV k l q 5).1, (nV k l q 6).1, (nV k l q 7).1, (nV k l q 9).1] 3 = some (nV k l q 6).1 := rfl
            have r4 : rdL [(nV k l q 1).1, (nV k l q 4).1, (nV k l q 5).1, (nV k l q 6).1, (nV k l q 7).1, (nV k l q 9).1] 4 = some (nV k l q 7).1 := rfl
            have r5 : rdL [(nV k l q 1).1, (nV k l q 4).1, (nV k l q 5).1, (nV k l q 6).1, (nV k l q 7).1, (nV k l q 9).1] 5 = some (nV k l q 9).1 := rfl
            rw [bneF (show ((pV k l q 3 8).2.length : Int) = ((nmsV k s j).length : Int) by omega)]
            simp only [cond_false, r0, r1, r3, r4, Option.bind_some, bne]
            cases ((nV k l q 1).1 == c.2.1) with
            | false =>
              simp only [Bool.not_false, cond_true, Bool.false_and]
              exact ⟨_, _, rfl, fun h => by cases h⟩
            | true =>
              simp only [Bool.not_true, cond_false, Bool.true_and]
              cases ((nV k l q 4).1 == 0) with
              | false =>
                simp only [Bool.not_false, cond_true, Bool.false_and]
                exact ⟨_, _, rfl, fun h => by cases h⟩
              | true =>
                simp only [Bool.not_true, cond_false, Bool.true_and]
                cases ((nV k l q 6).1 == (nV k l q 7).1) with
                | false =>
                  simp only [Bool.not_false, cond_true, Bool.false_and]
                  exact ⟨_, _, rfl, fun h => by cases h⟩
                | true =>
                  simp only [Bool.not_true, cond_false, Bool.true_and]
                  have lp := spaths_loop k hk h q (j : Int) (0, 0, 0, 0, 0, (), ()) (0, 0, 0, 0, 0, (), ()) [(nV k l q 1).1, (nV k l q 4).1, (nV k l q 5).1, (nV k l q 6).1, (nV k l q 7).1, (nV k l q 9).1] (pV k l q 2 5).2 (pV k l q 3 8).2 m3 m4 (nmsV k s j) hlen.symm [] [] (pV k l q 3 8).2.length k 0 (by omega) (by omega)
                  rw [show ((0 : Nat) : Int) = 0 from rfl] at lp
                  rw [lp, List.drop_zero, List.drop_zero]
                  by_cases hp : (pV k l q 3 8).2.map (txtAt l) = nmsV k s j
                  · rw [if_pos hp, decide_eq_true hp]
                    simp only [r5, r2, r3, Option.bind_some, Bool.true_and]
                    have le := sencs_loop k hk h q q2 (0, 0, 0, 0, 0, (), ()) (0, 0, 0, 0, 0, (), ()) ((j : Int), (nV k l q 9).1, (-1), (nV k l q 5).1, (nV k l q 6).1, (), ()) (pV k l q 2 5).2 m1 m2 [] [] (pV k l q 2 5).2 [] k [] rfl (by omega) (by simp)
                    rw [List.length_nil, show ((0 : Nat) : Int) = 0 from rfl] at le
                    rw [le]
                    have hch : chV k l a j = ((j : Int), (nV k l q 9).1, (if fV k l q 11 < 0 then -1 else (nV k l q 11).1), (nV k l q 5).1, (nV k l q 6).1, (pV k l q 2 5).2.map (numAt l), ()) := by
                      unfold chV
                      rw [ho, if_neg (by omega)]
                    rw [hch]
                    by_cases hf : fV k l q 11 < 0
                    · simp only [if_pos hf, List.nil_append]
                      exact ⟨_, _, rfl, fun _ => ⟨rfl, rfl⟩⟩
                    · simp only [if_neg hf, List.nil_append]
                      cases hd : ((nV k l q 11).2 && decide (0 ≤ (nV k l q 11).1)) with
                      | false =>
                        rw [if_neg (by decide)]
                        exact ⟨_, _, rfl, fun h => by cases h⟩
                      | true =>
                        rw [if_pos rfl]
                        exact ⟨_, _, rfl, fun _ => ⟨rfl, rfl⟩⟩
                  · rw [if_neg hp, decide_eq_false hp]
                    simp only [Bool.false_and]
                    exact ⟨_, _, rfl, fun h => by cases h⟩
          · rw [bneT (show ¬ ((pV k l q 3 8).2.length : Int) = ((nmsV k s j).length : Int) by omega)]
            have hp : ¬ (pV k l q 3 8).2.map (txtAt l) = nmsV k s j := fun e => hlen (by rw [← e, List.length_map])
            rw [decide_eq_false hp]
            simp only [cond_true, Bool.and_false, Bool.false_and]
            exact ⟨_, _, rfl, fun h => by cases h⟩
end
end Go.Law
end
