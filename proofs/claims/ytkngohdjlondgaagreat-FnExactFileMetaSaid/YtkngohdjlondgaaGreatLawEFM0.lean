import Derived.Test.YtkngohdjlondgaaGreatAmStep
import Derived.Laws.BitsLemmas
import Derived.Laws.Strings
import Derived.Test.YtkngohdjlondgaaGreatEFMF0
set_option linter.unnecessarySimpa false
set_option linter.unusedSimpArgs false
set_option linter.unusedVariables false
set_option linter.unusedSectionVars false
section
/- Plain laws of the words that clean functions use: whole numbers that wrap, bits, rows, strings. -/
set_option linter.unusedVariables false
namespace Go.Fn
open Go Go.Am
def spec_l5Max.c5 (k : Nat) (L4 : (List TCol) → Int → Int → Int → (List Int) → Option (Int × Int)) (t0 : List TCol) (t6 : Int) (t7 : Int) (t9 : Int) (o100 : List Int) : Option (Int × Int) :=
  L4 t0 t6 t7 (IntKind.wrap .i64 (t9 + 1)) o100
def spec_l5Max.c8 (k : Nat) (L4 : (List TCol) → Int → Int → Int → (List Int) → Option (Int × Int)) (t0 : List TCol) (t6 : Int) (t7 : Int) (t9 : Int) (o100 : List Int) : Option (Int × Int) :=
  (rdL o100 t9).bind fun y1 =>
  (rdL t0 y1).bind fun y2 =>
  cond (y2.2.2.1 == 2) (spec_l5Max.c5 k L4 t0 t6 (IntKind.wrap .i64 (t7 + 1)) t9 o100) (spec_l5Max.c5 k L4 t0 t6 t7 t9 o100)
def spec_l5Max.l4 (k : Nat) : Nat → (List TCol) → Int → Int → Int → (List Int) → Option (Int × Int)
  | 0, _, _, _, _, _ => none
  | n + 1, t0, t6, t7, t9, o100 =>
    cond (decide (t9 < (List.length o100 : Int)))
      ((rdL o100 t9).bind fun y3 =>
       (rdL t0 y3).bind fun y4 =>
       cond (y4.2.2.1 != 0)
         (spec_l5Max.c8 k (spec_l5Max.l4 k n) t0 (IntKind.wrap .i64 (t6 + 1)) t7 t9 o100)
         (spec_l5Max.c8 k (spec_l5Max.l4 k n) t0 t6 t7 t9 o100))
      (some (t6, t7))
def spec_l5Max (k : Nat) (t0 : List TCol) (t1 : Int) : Option (Int × Int) :=
  (spec_l5Way k t0 t1).bind fun r5 => spec_l5Max.l4 k k t0 0 0 0 r5.2
def spec_LeafOf (k : Nat) (t0 : List TCol) (t1 : Int) : Option (TLeaf × Bool) :=
  (spec_SchemaLeaves k t0).bind fun r1 =>
  (spec_l1In k t1 0 (IntKind.wrap .i64 ((List.length r1.2 : Int) - 1))).bind fun r2 =>
  cond (!r2)
    (some ((0, 0, 0, ()), false))
    ((rdL r1.2 t1).bind fun y3 =>
     (spec_l5Max k t0 y3).bind fun r4 => (rdL r1.2 t1).bind fun y5 => (rdL t0 y5).bind fun y6 => some ((y6.2.1, r4.2, r4.1, ()), true))
def impl_RecOk_2 (k : Nat) (t0 : Int) (t1 : Int) (t2 : Int) : Option Unit :=
  some ()
end Go.Fn
set_option linter.unusedVariables false
set_option linter.unusedSimpArgs false
namespace Go.Law
open Go.Am

/-! ### numbers that wrap -/
theorem w64 {x : Int} (h0 : -9223372036854775808 ≤ x) (h1 : x < 9223372036854775808) : IntKind.wrap .i64 x = x := by
  rw [IntKind.wrap_i64]; omega
theorem w64_lo (x : Int) : -9223372036854775808 ≤ IntKind.wrap .i64 x := by rw [IntKind.wrap_i64]; omega
theorem w64_hi (x : Int) : IntKind.wrap .i64 x < 9223372036854775808 := by rw [IntKind.wrap_i64]; omega
theorem wu64_eq (x : Int) : IntKind.wrap .u64 x = x % 18446744073709551616 := by simp [IntKind.wrap, IntKind.bits, IntKind.signed]
theorem wraps_u64 (n : Int) (h₀ : 0 ≤ n) (h₁ : n < 2 ^ 64) : IntKind.u64.wrap n = n := by rw [wu64_eq]; omega
def I64 (x : Int) : Prop := -9223372036854775808 ≤ x ∧ x < 9223372036854775808

/-! ### bits -/
theorem and_mask_i64 (x : Int) (i : Nat) (hi : i ≤ 62) : bits .and .i64 x (2 ^ i - 1) = x % 2 ^ i := by
  have hpos : 0 < 2 ^ i := Nat.two_pow_pos i
  have hle : 2 ^ i ≤ 2 ^ 62 := Nat.pow_le_pow_right (by decide) hi
  have hc : ((2 : Int) ^ i - 1) = ((2 ^ i - 1 : Nat) : Int) := by
    rw [Int.natCast_sub hpos]; simp
  have hb : (2 ^ i - 1) % 2 ^ IntKind.i64.bits = 2 ^ i - 1 := Nat.mod_eq_of_lt (show 2 ^ i - 1 < 2 ^ 64 by omega)
  rw [hc]
  simp only [bits, BitVec.ofInt_natCast, BitVec.toNat_and, BitVec.toNat_ofNat, hb, Nat.and_two_pow_sub_one_eq_mod, BitVec.toNat_ofInt]
  show IntKind.wrap .i64 (((x % ((2 ^ 64 : Nat) : Int)).toNat % 2 ^ i : Nat) : Int) = _
  have h1 : (x % ((2 ^ 64 : Nat) : Int)).toNat % 2 ^ i < 2 ^ i := Nat.mod_lt _ hpos
  have h2 : (((x % ((2 ^ 64 : Nat) : Int)).toNat % 2 ^ i : Nat) : Int) = x % 2 ^ i := by
    have h3 : 0 ≤ x % ((2 ^ 64 : Nat) : Int) := Int.emod_nonneg _ (by decide)
    rw [Int.natCast_emod, Int.toNat_of_nonneg h3]
    have hd : ((2 ^ i : Nat) : Int) ∣ ((2 ^ 64 : Nat) : Int) := by
      have := Nat.pow_dvd_pow 2 (show i ≤ 64 by omega)
      exact_mod_cast this
    rw [Int.emod_emod_of_dvd x hd]
    simp
  rw [h2]
  have h4 : x % 2 ^ i < 2 ^ i := Int.emod_lt_of_pos _ (by exact_mod_cast hpos)
  have h5 : 0 ≤ x % 2 ^ i := Int.emod_nonneg _ (by have : (0 : Int) < 2 ^ i := by exact_mod_cast hpos
                                                   omega)
  have h6 : (2 : Int) ^ i ≤ 2 ^ 62 := by exact_mod_cast hle
  rw [w64 (by omega) (by omega)]

theorem and1 (x : Int) : bits .and .i64 x 1 = x % 2 := and_mask_i64 x 1 (by decide)
theorem u8_and127 {x : Int} (h0 : 0 ≤ x) (h1 : x < 256) : bits .and .u8 x 127 = x % 128 :=
  bits_mask .u8 8 (by decide) wraps_u8 7 (by decide) x h0 h1

theorem bits_or_comm (k : IntKind) (a b : Int) : bits .or k a b = bits .or k b a := by
  simp only [bits, BitVec.toNat_or]
  rw [Nat.or_comm]

theorem u64_or_shl {a b : Int} {i : Nat} (ha0 : 0 ≤ a) (ha : a < 2 ^ i) (hb0 : 0 ≤ b) (hb : b * 2 ^ i < 2 ^ 64) (hi : i ≤ 64) : bits .or .u64 a (b * 2 ^ i) = a + b * 2 ^ i := by
  have hp : (2 : Int) ^ i ≤ 2 ^ 64 := by
    have := Nat.pow_le_pow_right (n := 2) (by decide) hi
    exact_mod_cast this
  have hp0 : (0 : Int) < 2 ^ i := by have := Nat.two_pow_pos i; exact_mod_cast this
  rw [bits_or_comm, bits_join .u64 64 (by decide) wraps_u64 i (b * 2 ^ i) a (Int.mul_nonneg hb0 (by omega)) (Int.mul_emod_left _ _) hb ha0 ha (by omega)]
  omega

theorem shrI_eq (k : IntKind) (a : Int) (n : Nat) (h : n ≤ k.bits) : shrI k a (n : Int) = a / 2 ^ n := by
  unfold shrI
  rw [Int.toNat_natCast, Nat.min_eq_left h, Int.fdiv_eq_ediv_of_nonneg]
  have := Nat.two_pow_pos n
  have : (0 : Int) < 2 ^ n := by exact_mod_cast this
  omega
theorem shr1u (a : Int) : shrI .u64 a 1 = a / 2 := shrI_eq .u64 a 1 (by decide)
/-! ### conditions -/
theorem lim_ok {n : Nat} (h : n ≤ 4294967296) : lim n = true := by unfold lim; exact Nat.ble_eq_true_of_le h
theorem okLen_ok {n : Int} (h0 : 0 ≤ n) (h : n ≤ 4294967296) : okLen n = true := by simp [okLen, h0, h]
theorem inSl_ok {l h : Int} {n : Nat} (h0 : 0 ≤ l) (h1 : l ≤ h) (h2 : h ≤ n) : inSl l h n = true := by simp [inSl, h0, h1, h2]

theorem beqF {a b : Int} (h : ¬ a = b) : (a == b) = false := by simpa using h

theorem bneT {a b : Int} (h : ¬ a = b) : (a != b) = true := by simpa using h
theorem beqT {a b : Int} (h : a = b) : (a == b) = true := by simpa using h
theorem bneF {a b : Int} (h : a = b) : (a != b) = false := by simpa using h

theorem csf (b c : Bool) : (cond b (some c) (some false) : Option Bool) = some (b && c) := by cases b <;> rfl
theorem cst (b c : Bool) : (cond b (some true) (some c) : Option Bool) = some (b || c) := by cases b <;> rfl
/-! ### rows -/
theorem rdL_nat {α : Type} (xs : List α) (n : Nat) : rdL xs (n : Int) = xs[n]? := rfl
theorem rdL_some {α : Type} {xs : List α} {i : Int} (h0 : 0 ≤ i) (h1 : i < xs.length) : ∃ x, rdL xs i = some x ∧ xs[i.toNat]? = some x := by
  obtain ⟨n, rfl⟩ := Int.eq_ofNat_of_zero_le h0
  have h : n < xs.length := by omega
  exact ⟨xs[n], by rw [rdL_nat, List.getElem?_eq_getElem h], by simp [h]⟩
theorem drop_get {α : Type} {b : List α} {p : Nat} {y : α} {r : List α} (h : b.drop p = y :: r) : b[p]? = some y ∧ p < b.length ∧ b.drop (p + 1) = r := by
  have h1 := List.getElem?_drop (xs := b) (i := p) (j := 0)
  rw [h] at h1
  have hl := congrArg List.length h
  simp at hl
  refine ⟨by simpa using h1.symm, by omega, ?_⟩
  rw [← List.drop_drop, h]
  rfl

/-! ### strings -/
theorem eqS_iff (a b : ByteArray) : eqS a b = decide (a = b) := by
  unfold eqS
  have h : a.toList = b.toList ↔ a = b := by
    constructor
    · intro h
      rw [ByteArray.toList_eq, ByteArray.toList_eq] at h
      cases a; cases b
      simp only [ByteArray.mk.injEq]
      exact Array.ext' h
    · rintro rfl; rfl
  by_cases e : a = b
  · simp [e]
  · simp only [e, decide_false]
    have : a.toList ≠ b.toList := fun h' => e (h.1 h')
    simp [this]

theorem intsStr_size (xs : List Int) : (intsStr xs).size = xs.length := strOfNums_size xs

end Go.Law
end

section
/- The small tests that both make. -/
set_option linter.unusedVariables false
set_option linter.unusedSimpArgs false
namespace Go.Law
open Go.Am Go.Fn

theorem within_eq (k : Nat) (a b c : Int) : impl_within k a b c = some (decide (b ≤ a) && decide (a ≤ c)) := by
  unfold impl_within
  simp only [csf, Option.bind_some, ge_iff_le]
theorem l1In_eq (k : Nat) (a b c : Int) : spec_l1In k a b c = some (decide (b ≤ a) && decide (a ≤ c)) := by
  unfold spec_l1In
  simp only [csf, Option.bind_some, ge_iff_le]

theorem getMid {α : Type} (pre post : List α) (x : α) : rdL (pre ++ x :: post) (pre.length : Int) = some x := by
  rw [rdL_nat, List.getElem?_append_right (Nat.le_refl _)]; simp
theorem setMid {α : Type} (pre post : List α) (x y : α) : List.set (pre ++ x :: post) (Int.toNat (pre.length : Int)) y = pre ++ y :: post := by
  rw [Int.toNat_natCast, List.set_append_right _ _ (Nat.le_refl _)]; simp
end Go.Law
end

section
/- The types of values. -/
set_option linter.unusedVariables false
set_option linter.unusedSimpArgs false
namespace Go.Law
open Go.Am Go.Fn
variable (k : Nat)

def tyOk (t : Int) : Bool := t == 0 || t == 1 || t == 2 || t == 5 || t == 6

theorem l5Type_eq (t : Int) : spec_l5Type k t = some (tyOk t) := by
  unfold spec_l5Type spec_l5Type.c7 tyOk
  by_cases h0 : t = 0
  · subst h0; simp
  by_cases h1 : t = 1
  · subst h1; simp
  by_cases h2 : t = 2
  · subst h2; simp
  by_cases h5 : t = 5
  · subst h5; simp
  by_cases h6 : t = 6
  · subst h6; simp
  simp [beqF h0, beqF h1, beqF h2, beqF h5, beqF h6, h0, h1, h2, h5, h6]

theorem typeOk_eq (t : Int) : impl_TypeOk k t = some (tyOk t) := by
  unfold impl_TypeOk tyOk
  simp only [within_eq, Option.bind_some, cst]
  congr 1
  by_cases h : 0 ≤ t ∧ t ≤ 2
  · rw [decide_eq_true h.1, decide_eq_true h.2]
    rcases (show t = 0 ∨ t = 1 ∨ t = 2 by omega) with rfl | rfl | rfl <;> rfl
  · have : (decide (0 ≤ t) && decide (t ≤ 2)) = false := by
      rw [Bool.eq_false_iff]; intro hh
      simp only [Bool.and_eq_true, decide_eq_true_eq] at hh
      exact h hh
    rw [this, beqF (show ¬ t = 0 by omega), beqF (show ¬ t = 1 by omega), beqF (show ¬ t = 2 by omega)]
    rfl

end Go.Law
end

section
/- Schemas: which are right, by both. -/

set_option linter.unusedVariables false
set_option linter.unusedSimpArgs false
namespace Go.Law
open Go.Am Go.Fn

/-! ### names -/
def azc (c : UInt8) : Bool := decide (97 ≤ c.toNat) && decide (c.toNat ≤ 122)
def az (s : ByteArray) : Bool := s.data.toList.all azc
def nameOk (s : ByteArray) : Bool := (decide (1 ≤ (s.size : Int)) && decide ((s.size : Int) ≤ 20)) && az s

theorem btS_nat {s : ByteArray} {i : Nat} {c : UInt8} (h : s.data.toList[i]? = some c) : btS s (i : Int) = some (c.toNat : Int) := by
  show (match s.data.toList[i]? with | some b => some (b.toNat : Int) | none => none) = _
  rw [h]

theorem size_len (s : ByteArray) : s.data.toList.length = s.size := by
  rw [Array.length_toList]
  rfl

variable (k : Nat)

theorem l5NameLoop (s : ByteArray) (hs : s.size < 1000000) : ∀ (m n i : Nat), s.size = i + m → m < n → spec_l5Name.l4 k n s (i : Int) = some ((s.data.toList.drop i).all azc) := by
  intro m
  induction m with
  | zero =>
    intro n i hi hn
    obtain ⟨n, rfl⟩ : ∃ j, n = j + 1 := ⟨n - 1, by omega⟩
    simp only [spec_l5Name.l4, decide_eq_false (show ¬ (i : Int) < (s.size : Int) by omega), cond_false]
    rw [List.drop_eq_nil_of_le (by rw [size_len]; omega)]
    rfl
  | succ m ih =>
    intro n i hi hn
    obtain ⟨n, rfl⟩ : ∃ j, n = j + 1 := ⟨n - 1, by omega⟩
    have hlt : i < s.data.toList.length := by rw [size_len]; omega
    have hb := btS_nat (s := s) (i := i) (List.getElem?_eq_getElem hlt)
    have hc := (s.data.toList[i]).toNat_lt
    simp only [spec_l5Name.l4, decide_eq_true (show (i : Int) < (s.size : Int) by omega), cond_true, hb, Option.bind_some, cst]
    rw [List.drop_eq_getElem_cons hlt, List.all_cons, w64 (by omega) (by omega), show ((i : Int) + 1) = ((i + 1 : Nat) : Int) by omega, ih n (i + 1) (by omega) (by omega)]
    unfold azc
    by_cases h : 97 ≤ (s.data.toList[i]).toNat ∧ (s.data.toList[i]).toNat ≤ 122
    · simp only [decide_eq_false (show ¬ (((s.data.toList[i]).toNat : Nat) : Int) < 97 by omega), decide_eq_false (show ¬ (((s.data.toList[i]).toNat : Nat) : Int) > 122 by omega), Bool.or_self, cond_false, decide_eq_true h.1, decide_eq_true h.2, Bool.and_self, Bool.true_and]
    · have h1 : (decide ((((s.data.toList[i]).toNat : Nat) : Int) < 97) || decide ((((s.data.toList[i]).toNat : Nat) : Int) > 122)) = true := by
        simp only [Bool.or_eq_true, decide_eq_true_eq]; omega
      have h2 : (decide (97 ≤ (s.data.toList[i]).toNat) && decide ((s.data.toList[i]).toNat ≤ 122)) = false := by
        rw [Bool.eq_false_iff]; intro hh
        simp only [Bool.and_eq_true, decide_eq_true_eq] at hh
        exact h hh
      simp only [h1, h2, cond_true, Bool.false_and]

theorem l5Name_eq (hk : 100 ≤ k) (s : ByteArray) : spec_l5Name k s = some (nameOk s) := by
  unfold spec_l5Name nameOk
  simp only [l1In_eq, Option.bind_some]
  by_cases h : 1 ≤ s.size ∧ s.size ≤ 20
  · rw [decide_eq_true (show (1 : Int) ≤ (s.size : Int) by omega), decide_eq_true (show (s.size : Int) ≤ 20 by omega)]
    simp only [Bool.and_self, Bool.not_true, cond_false, Bool.true_and]
    exact l5NameLoop k s (by omega) s.size k 0 (by omega) (by omega)
  · have : (decide ((1 : Int) ≤ (s.size : Int)) && decide ((s.size : Int) ≤ 20)) = false := by
      rw [Bool.eq_false_iff]; intro hh
      simp only [Bool.and_eq_true, decide_eq_true_eq] at hh
      omega
    simp only [this, Bool.not_false, cond_true, Bool.false_and]

theorem colNameLoop (s : ByteArray) (hs : s.size < 1000000000) : ∀ (m n i : Nat), s.size = i + m → m < n → impl_isColName.l2 k n s (s.size : Int) (i : Int) = some ((decide (1 ≤ (s.size : Int)) && decide ((s.size : Int) ≤ 20)) && (s.data.toList.drop i).all azc) := by
  intro m
  induction m with
  | zero =>
    intro n i hi hn
    obtain ⟨n, rfl⟩ : ∃ j, n = j + 1 := ⟨n - 1, by omega⟩
    simp only [impl_isColName.l2, decide_eq_false (show ¬ (i : Int) < (s.size : Int) by omega), cond_false, within_eq, Option.bind_some]
    rw [List.drop_eq_nil_of_le (by rw [size_len]; omega)]
    simp
  | succ m ih =>
    intro n i hi hn
    obtain ⟨n, rfl⟩ : ∃ j, n = j + 1 := ⟨n - 1, by omega⟩
    have hlt : i < s.data.toList.length := by rw [size_len]; omega
    have hb := btS_nat (s := s) (i := i) (List.getElem?_eq_getElem hlt)
    have hc := (s.data.toList[i]).toNat_lt
    simp only [impl_isColName.l2, decide_eq_true (show (i : Int) < (s.size : Int) by omega), cond_true, hb, Option.bind_some, within_eq]
    rw [w64 (show -9223372036854775808 ≤ (((s.data.toList[i]).toNat : Nat) : Int) by omega) (by omega)]
    rw [List.drop_eq_getElem_cons hlt, List.all_cons, w64 (by omega) (by omega), show ((i : Int) + 1) = ((i + 1 : Nat) : Int) by omega, ih n (i + 1) (by omega) (by omega)]
    unfold azc
    by_cases h : 97 ≤ (s.data.toList[i]).toNat ∧ (s.data.toList[i]).toNat ≤ 122
    · simp only [decide_eq_true (show (97 : Int) ≤ (((s.data.toList[i]).toNat : Nat) : Int) by omega), decide_eq_true (show (((s.data.toList[i]).toNat : Nat) : Int) ≤ 122 by omega), Bool.not_true, Bool.and_self, cond_false, decide_eq_true h.1, decide_eq_true h.2, Bool.true_and]
    · have h1 : (decide ((97 : Int) ≤ (((s.data.toList[i]).toNat : Nat) : Int)) && decide ((((s.data.toList[i]).toNat : Nat) : Int) ≤ 122)) = false := by
        rw [Bool.eq_false_iff]; intro hh
        simp only [Bool.and_eq_true, decide_eq_true_eq] at hh
        omega
      have h2 : (decide (97 ≤ (s.data.toList[i]).toNat) && decide ((s.data.toList[i]).toNat ≤ 122)) = false := by
        rw [Bool.eq_false_iff]; intro hh
        simp only [Bool.and_eq_true, decide_eq_true_eq] at hh
        exact h hh
      simp only [h1, h2, Bool.not_false, cond_true, Bool.false_and, Bool.and_false]

theorem isColName_eq (s : ByteArray) (hs : s.size < k) (hs2 : s.size < 1000000000) : impl_isColName k s = some (nameOk s) := by
  unfold impl_isColName nameOk
  exact colNameLoop k s hs2 s.size k 0 (by omega) (by omega)

/-! ### cols -/
def colOk (c : TCol) : Bool := ((c.2.1 == 7 && decide (c.2.2.2.1 > 0)) || (tyOk c.2.1 && c.2.2.2.1 == 0)) && (decide (0 ≤ c.2.2.1) && decide (c.2.2.1 ≤ 2))

theorem colOk_eq (c : TCol) : impl_colOk k c = some (colOk c) := by
  unfold impl_colOk colOk
  simp only [within_eq, typeOk_eq, Option.bind_some, csf, cst]

theorem tyOk_7 : tyOk 7 = false := rfl

/-! ### which lists of cols are schemas -/
def PartsC (S : Nat → Nat → Prop) (s : List TCol) : Nat → Nat → List ByteArray → Nat → Prop
  | 0, pos, _, nx => pos = nx
  | c + 1, pos, names, nx => ∃ p mid, s[pos]? = some p ∧ p.1 ∉ names ∧ S pos mid ∧ PartsC S s c mid (names ++ [p.1]) nx

def SubC (s : List TCol) : Nat → Nat → Nat → Prop
  | 0, _, _ => False
  | d + 1, at_, nx => ∃ c, s[at_]? = some c ∧ colOk c = true ∧ (0 < at_ → nameOk c.1 = true) ∧ PartsC (SubC s d) s c.2.2.2.1.toNat (at_ + 1) [] nx

theorem PartsC_le {S : Nat → Nat → Prop} {s : List TCol} (hS : ∀ a b, S a b → a < b) : ∀ (c pos : Nat) (names : List ByteArray) (nx : Nat), PartsC S s c pos names nx → pos + c ≤ nx
  | 0, pos, names, nx, e => by have e : pos = nx := e; omega
  | c + 1, pos, names, nx, ⟨p, mid, _, _, h3, h4⟩ => by
    have := hS _ _ h3
    have := PartsC_le hS c mid _ nx h4
    omega

theorem SubC_lt {s : List TCol} : ∀ (d a b : Nat), SubC s d a b → a < b
  | 0, _, _, h => h.elim
  | d + 1, a, b, ⟨c, _, _, _, h⟩ => by
    have := PartsC_le (SubC_lt d) _ _ _ _ h
    omega

theorem SubC_all {s : List TCol} : ∀ (d a b : Nat), SubC s d a b → ∀ i, a ≤ i → i < b → ∃ c, s[i]? = some c ∧ colOk c = true ∧ (0 < i → nameOk c.1 = true)
  | 0, _, _, h => h.elim
  | d + 1, a, b, ⟨c, h1, h2, h3, h4⟩ => by
    have key : ∀ (n pos : Nat) (names : List ByteArray) (nx : Nat), PartsC (SubC s d) s n pos names nx → ∀ i, pos ≤ i → i < nx → ∃ c, s[i]? = some c ∧ colOk c = true ∧ (0 < i → nameOk c.1 = true) := by
      intro n
      induction n with
      | zero => intro pos names nx e i hi1 hi2; have e : pos = nx := e; omega
      | succ n ih =>
        intro pos names nx ⟨p, mid, _, _, hs, hp⟩ i hi1 hi2
        rcases Nat.lt_or_ge i mid with h | h
        · exact SubC_all d pos mid hs i hi1 h
        · exact ih mid _ nx hp i h hi2
    intro i hi1 hi2
    rcases Nat.lt_or_ge a i with h | h
    · exact key _ _ _ _ h4 i (by omega) hi2
    · obtain rfl : i = a := by omega
      exact ⟨c, h1, h2, h3⟩

open Classical in
theorem specNames (S : List TCol → Int → Int → Option Int) (L : List TCol → Int → Int → Int → TCol → List ByteArray → Option Int) (s : List TCol) (deep : Int) (pos : Nat) (i : Int) (c p : TCol) (hp : s[pos]? = some p) (names : List ByteArray) (hn : names.length ≤ 100) :
    ∀ (m n j : Nat), names.length = j + m → m < n → spec_l5Check.l20 k S L n s deep (pos : Int) i (j : Int) c names =
      if p.1 ∈ names.drop j then some (-1) else (S s (pos : Int) (IntKind.wrap .i64 (deep + 1))).bind fun r => cond (decide (r < 0)) (some (-1)) (L s deep r (IntKind.wrap .i64 (i + 1)) c (names ++ [p.1])) := by
  intro m
  induction m with
  | zero =>
    intro n j hj hn'
    obtain ⟨n, rfl⟩ : ∃ q, n = q + 1 := ⟨n - 1, by omega⟩
    simp only [spec_l5Check.l20, decide_eq_false (show ¬ (j : Int) < (names.length : Int) by omega), cond_false, rdL_nat, hp, Option.bind_some]
    rw [lim_ok (by simp; omega), cond_true, List.drop_eq_nil_of_le (by omega)]
    simp
  | succ m ih =>
    intro n j hj hn'
    obtain ⟨n, rfl⟩ : ∃ q, n = q + 1 := ⟨n - 1, by omega⟩
    have hlt : j < names.length := by omega
    simp only [spec_l5Check.l20, decide_eq_true (show (j : Int) < (names.length : Int) by omega), cond_true, rdL_nat, hp, List.getElem?_eq_getElem hlt, Option.bind_some, eqS_iff]
    rw [w64 (by omega) (by omega), show ((j : Int) + 1) = ((j + 1 : Nat) : Int) by omega, ih n (j + 1) (by omega) (by omega), List.drop_eq_getElem_cons hlt]
    by_cases h : names[j] = p.1
    · rw [decide_eq_true h, cond_true, if_pos (by rw [h]; exact List.mem_cons_self ..)]
    · rw [decide_eq_false h, cond_false]
      have : (p.1 ∈ names[j] :: names.drop (j + 1)) ↔ p.1 ∈ names.drop (j + 1) := by
        rw [List.mem_cons]
        exact ⟨fun hh => hh.elim (fun e => absurd e.symm h) id, .inr⟩
      simp only [this]

open Classical in
theorem implNames (S : List TCol → Int → Int → Option Int) (L : List TCol → Int → Int → Int → Int → List ByteArray → Option Int) (s : List TCol) (deep : Int) (pos : Nat) (M i : Int) (p : TCol) (hp : s[pos]? = some p) (names : List ByteArray) (hn : names.length ≤ 100) :
    ∀ (m n j : Nat), names.length = j + m → m < n → impl_colAfter.l10 k S L n s deep (pos : Int) M i (names.length : Int) (j : Int) names =
      if p.1 ∈ names.drop j then some (-1) else (S s (pos : Int) (IntKind.wrap .i64 (deep + 1))).bind fun r => cond (decide (r < 0)) (some (-1)) (L s deep r M (IntKind.wrap .i64 (i + 1)) (names ++ [p.1])) := by
  intro m
  induction m with
  | zero =>
    intro n j hj hn'
    obtain ⟨n, rfl⟩ : ∃ q, n = q + 1 := ⟨n - 1, by omega⟩
    simp only [impl_colAfter.l10, decide_eq_false (show ¬ (j : Int) < (names.length : Int) by omega), cond_false, rdL_nat, hp, Option.bind_some]
    rw [lim_ok (by simp; omega), cond_true, List.drop_eq_nil_of_le (by omega)]
    simp
  | succ m ih =>
    intro n j hj hn'
    obtain ⟨n, rfl⟩ : ∃ q, n = q + 1 := ⟨n - 1, by omega⟩
    have hlt : j < names.length := by omega
    simp only [impl_colAfter.l10, decide_eq_true (show (j : Int) < (names.length : Int) by omega), cond_true, rdL_nat, hp, List.getElem?_eq_getElem hlt, Option.bind_some, eqS_iff]
    rw [w64 (by omega) (by omega), show ((j : Int) + 1) = ((j + 1 : Nat) : Int) by omega, ih n (j + 1) (by omega) (by omega), List.drop_eq_getElem_cons hlt]
    by_cases h : names[j] = p.1
    · rw [decide_eq_true h, cond_true, if_pos (by rw [h]; exact List.mem_cons_self ..)]
    · rw [decide_eq_false h, cond_false]
      have : (p.1 ∈ names[j] :: names.drop (j + 1)) ↔ p.1 ∈ names.drop (j + 1) := by
        rw [List.mem_cons]
        exact ⟨fun hh => hh.elim (fun e => absurd e.symm h) id, .inr⟩
      simp only [this]

theorem schkLoop (hk : 100 ≤ k) (s : List TCol) (hs : s.length ≤ 20) (d D deep : Nat) (hdeep : deep ≤ 6)
    (ih : ∀ at_ : Nat, 0 < at_ → ∃ v, spec_l5Check.rec k D s (at_ : Int) ((deep + 1 : Nat) : Int) = some v ∧ impl_colAfter.rec k D s (at_ : Int) ((deep + 1 : Nat) : Int) = some v ∧ (v = -1 ∨ ∃ nx : Nat, v = nx ∧ SubC s d at_ nx ∧ nx ≤ s.length))
    (c : TCol) (M : Int) (hM : c.2.2.2.1 = M) (hM1 : M < 9223372036854775808) : ∀ (f pos : Nat) (i : Int) (names : List ByteArray), s.length - pos < f → 0 < pos → pos ≤ s.length → 0 ≤ i → i ≤ M → names.length ≤ pos →
      ∃ v, spec_l5Check.l15 k (spec_l5Check.rec k D) f s (deep : Int) (pos : Int) i c names = some v ∧ impl_colAfter.l6 k (impl_colAfter.rec k D) f s (deep : Int) (pos : Int) M i names = some v ∧
        (v = -1 ∨ ∃ nx : Nat, v = nx ∧ PartsC (SubC s d) s (M - i).toNat pos names nx ∧ nx ≤ s.length) := by
  intro f
  induction f with
  | zero => intro pos i names h; omega
  | succ f ihf =>
    intro pos i names hf hpos hpl hi0 hiM hnm
    simp only [spec_l5Check.l15, impl_colAfter.l6, hM]
    by_cases hlt : i < M
    · simp only [decide_eq_true hlt, cond_true]
      by_cases hpe : (pos : Int) ≥ (s.length : Int)
      · simp only [decide_eq_true hpe, cond_true]
        exact ⟨_, rfl, rfl, .inl rfl⟩
      · have hpl' : pos < s.length := by omega
        simp only [decide_eq_false hpe, cond_false]
        have hp := List.getElem?_eq_getElem hpl'
        rw [show (0 : Int) = ((0 : Nat) : Int) from rfl, specNames k _ _ s _ pos i c _ hp names (by omega) names.length k 0 (by omega) (by omega), implNames k _ _ s _ pos M i _ hp names (by omega) names.length k 0 (by omega) (by omega)]
        rw [List.drop_zero]
        by_cases hmem : (s[pos]'hpl').1 ∈ names
        · rw [if_pos hmem, if_pos hmem]
          exact ⟨_, rfl, rfl, .inl rfl⟩
        · rw [if_neg hmem, if_neg hmem]
          have hd1 : IntKind.wrap .i64 ((deep : Int) + 1) = ((deep + 1 : Nat) : Int) := by rw [w64 (by omega) (by omega)]; omega
          rw [hd1]
          obtain ⟨v, s1, s2, s4⟩ := ih pos hpos
          simp only [s1, s2, Option.bind_some]
          rcases s4 with rfl | ⟨mid, rfl, s5, s6⟩
          · simp only [show decide ((-1 : Int) < 0) = true from rfl, cond_true]
            exact ⟨_, rfl, rfl, .inl rfl⟩
          · have hml := SubC_lt _ _ _ s5
            have hm0 : decide ((mid : Int) < 0) = false := decide_eq_false (by omega)
            have hi1 : IntKind.wrap .i64 (i + 1) = i + 1 := w64 (by omega) (by omega)
            simp only [hm0, cond_false, hi1]
            obtain ⟨w, t1, t2, t4⟩ := ihf mid (i + 1) (names ++ [(s[pos]'hpl').1]) (by omega) (by omega) s6 (by omega) (by omega) (by simp; omega)
            refine ⟨w, t1, t2, ?_⟩
            rcases t4 with h | ⟨nx, h1, h2, h3⟩
            · exact .inl h
            · refine .inr ⟨nx, h1, ?_, h3⟩
              rw [show (M - i).toNat = (M - (i + 1)).toNat + 1 by omega]
              exact ⟨_, mid, hp, hmem, s5, h2⟩
    · simp only [decide_eq_false hlt, cond_false]
      refine ⟨_, rfl, rfl, .inr ⟨pos, rfl, ?_, hpl⟩⟩
      rw [show (M - i).toNat = 0 by omega]
      rfl

theorem schk (hk : 100 ≤ k) (s : List TCol) (hs : s.length ≤ 20) (hn : ∀ c, c ∈ s → c.1.size < k ∧ c.1.size < 1000000000 ∧ I64 c.2.2.2.1) (hroot : ∀ c, s[0]? = some c → c.1 = ⟨#[]⟩ ∧ c.2.2.1 = 0 ∧ c.2.1 = 7) :
    ∀ (d D deep at_ : Nat), d + deep = 7 → d < D → ∃ v, spec_l5Check.rec k D s (at_ : Int) (deep : Int) = some v ∧ impl_colAfter.rec k D s (at_ : Int) (deep : Int) = some v ∧ (v = -1 ∨ ∃ nx : Nat, v = nx ∧ SubC s d at_ nx ∧ nx ≤ s.length) := by
  intro d
  induction d with
  | zero =>
    intro D deep at_ hd hD
    obtain ⟨D, rfl⟩ : ∃ m, D = m + 1 := ⟨D - 1, by omega⟩
    obtain rfl : deep = 7 := by omega
    simp only [spec_l5Check.rec, impl_colAfter.rec, spec_l5Check.b, impl_colAfter.b, cst, Option.bind_some, show decide (((7 : Nat) : Int) > 6) = true from rfl, Bool.or_true, cond_true]
    exact ⟨_, rfl, rfl, .inl rfl⟩
  | succ d ih =>
    intro D deep at_ hd hD
    obtain ⟨D, rfl⟩ : ∃ m, D = m + 1 := ⟨D - 1, by omega⟩
    simp only [spec_l5Check.rec, impl_colAfter.rec, spec_l5Check.b, impl_colAfter.b, cst, Option.bind_some]
    by_cases hat : (at_ : Int) ≥ (s.length : Int)
    · simp only [decide_eq_true hat, Bool.true_or, cond_true, Option.bind_some]
      exact ⟨_, rfl, rfl, .inl rfl⟩
    · have hat' : at_ < s.length := by omega
      have hdd : decide ((deep : Int) > 6) = false := decide_eq_false (by omega)
      have hc := List.getElem?_eq_getElem hat'
      generalize hcd : s[at_]'hat' = c at hc
      have hcm : c ∈ s := List.mem_of_getElem? hc
      obtain ⟨n1, n2, n3⟩ := hn c hcm
      simp only [decide_eq_false hat, hdd, Bool.false_or, cond_false, rdL_nat, hc, Option.bind_some, colOk_eq, isColName_eq k c.1 n1 n2, l5Name_eq k hk, l1In_eq, l5Type_eq, csf, cst]
      -- the root, or a name
      have hr0 : (((at_ : Int) == 0) && ((!eqS c.1 ⟨#[]⟩ || c.2.2.1 != 0) || c.2.1 != 7)) = false := by
        by_cases h0 : at_ = 0
        · subst h0
          obtain ⟨r1, r2, r3⟩ := hroot c hc
          rw [r1, r2, r3, eqS_iff]; simp
        · rw [beqF (show ¬ (at_ : Int) = 0 by omega)]; rfl
      simp only [hr0, Bool.false_or]
      generalize hnm : (decide ((at_ : Int) > 0) && !nameOk c.1) = bn
      have hname : bn = false → 0 < at_ → nameOk c.1 = true := by
        intro hb h0
        rw [hb, decide_eq_true (show (at_ : Int) > 0 by omega)] at hnm
        simpa using hnm
      have ha1 : IntKind.wrap .i64 ((at_ : Int) + 1) = ((at_ + 1 : Nat) : Int) := by rw [w64 (by omega) (by omega)]; omega
      cases bn with
      | true =>
        simp only [Bool.true_or, Bool.or_true, cond_true]
        exact ⟨_, rfl, rfl, .inl rfl⟩
      | false =>
        simp only [Bool.false_or, Bool.or_false]
        by_cases hrep : (0 ≤ c.2.2.1 ∧ c.2.2.1 ≤ 2)
        · have er : (decide (0 ≤ c.2.2.1) && decide (c.2.2.1 ≤ 2)) = true := by rw [decide_eq_true hrep.1, decide_eq_true hrep.2]; rfl
          simp only [er, Bool.not_true, cond_false]
          have eco : colOk c = ((c.2.1 == 7 && decide (c.2.2.2.1 > 0)) || (tyOk c.2.1 && c.2.2.2.1 == 0)) := by
            unfold colOk; rw [er, Bool.and_true]
          by_cases h7 : c.2.1 = 7
          · have eco' : colOk c = decide (c.2.2.2.1 > 0) := by rw [eco, h7, tyOk_7]; simp
            simp only [bneF h7, cond_false]
            by_cases hM : c.2.2.2.1 < 1
            · simp only [decide_eq_true hM, cond_true, eco', decide_eq_false (show ¬ c.2.2.2.1 > 0 by omega), Bool.not_false]
              exact ⟨_, rfl, rfl, .inl rfl⟩
            · have hok : colOk c = true := by rw [eco']; exact decide_eq_true (by omega)
              simp only [decide_eq_false hM, cond_false, hok, Bool.not_true, ha1]
              obtain ⟨v, t1, t2, t3⟩ := schkLoop k hk s hs d D deep (by omega) (fun a h0 => ih D (deep + 1) a (by omega) (by omega)) c _ rfl n3.2 k (at_ + 1) 0 [] (by omega) (by omega) (by omega) (by omega) (by omega) (by simp)
              refine ⟨v, t1, t2, ?_⟩
              rcases t3 with h | ⟨nx, h1, h2, h3⟩
              · exact .inl h
              · exact .inr ⟨nx, h1, ⟨c, hc, hok, hname rfl, by simpa using h2⟩, h3⟩
          · have eco' : colOk c = (tyOk c.2.1 && c.2.2.2.1 == 0) := by rw [eco, beqF h7]; simp
            simp only [bneT h7, cond_true]
            by_cases hl : tyOk c.2.1 = true ∧ c.2.2.2.1 = 0
            · have hok : colOk c = true := by rw [eco', hl.1, beqT hl.2]; rfl
              simp only [hl.1, bneF hl.2, Bool.not_true, Bool.or_self, cond_false, hok, ha1]
              obtain ⟨K, hK⟩ : ∃ j, k = j + 1 := ⟨k - 1, by omega⟩
              refine ⟨_, rfl, ?_, .inr ⟨at_ + 1, rfl, ⟨c, hc, hok, hname rfl, ?_⟩, by omega⟩⟩
              · rw [hl.2]
                have : ∀ (j : Nat) (S : List TCol → Int → Int → Option Int), impl_colAfter.l6 k S (j + 1) s (deep : Int) ((at_ + 1 : Nat) : Int) 0 0 [] = some ((at_ + 1 : Nat) : Int) := fun j S => rfl
                have h2 := this K (impl_colAfter.rec k D)
                rw [← hK] at h2
                exact h2
              · rw [hl.2]; rfl
            · have e1 : (!tyOk c.2.1 || c.2.2.2.1 != 0) = true := by
                cases ht : tyOk c.2.1 with
                | false => rfl
                | true => simp only [Bool.not_true, Bool.false_or]; exact bneT fun h => hl ⟨ht, h⟩
              have hok : colOk c = false := by
                rw [eco']
                cases ht : tyOk c.2.1 with
                | false => rfl
                | true => simp only [Bool.true_and]; exact beqF fun h => hl ⟨ht, h⟩
              simp only [e1, hok, cond_true, Bool.not_false]
              exact ⟨_, rfl, rfl, .inl rfl⟩
        · have er : (decide (0 ≤ c.2.2.1) && decide (c.2.2.1 ≤ 2)) = false := by
            rw [Bool.eq_false_iff]; intro hh
            simp only [Bool.and_eq_true, decide_eq_true_eq] at hh
            exact hrep hh
          have hok : colOk c = false := by unfold colOk; rw [er, Bool.and_false]
          simp only [er, hok, Bool.not_false, cond_true]
          exact ⟨_, rfl, rfl, .inl rfl⟩

def IsSchema (s : List TCol) : Prop := 2 ≤ s.length ∧ s.length ≤ 20 ∧ SubC s 6 0 s.length ∧ ∃ c, s[0]? = some c ∧ c.1 = ⟨#[]⟩ ∧ c.2.2.1 = 0 ∧ c.2.1 = 7

theorem schemaOk_eq (hk : 100 ≤ k) (s : List TCol) (hn : ∀ c, c ∈ s → c.1.size < k ∧ c.1.size < 1000000000 ∧ I64 c.2.2.2.1) :
    ∃ b, spec_SchemaOk k s = some b ∧ impl_SchemaOk k s = some b ∧ (b = true → IsSchema s ∧ impl_colAfter k s 0 1 = some (s.length : Int)) := by
  unfold spec_SchemaOk impl_SchemaOk
  simp only [l1In_eq, within_eq, Option.bind_some]
  by_cases hin : 2 ≤ s.length ∧ s.length ≤ 20
  · have c1 : (decide ((2 : Int) ≤ (s.length : Int)) && decide ((s.length : Int) ≤ 20)) = true := by simp; omega
    obtain ⟨n, hn1, hn2⟩ := rdL_some (xs := s) (i := 0) (by omega) (by omega)
    have hn2 : s[0]? = some n := hn2
    simp only [c1, cond_true, Bool.not_true, cond_false, hn1, Option.bind_some, cst]
    by_cases hr : n.1 = ⟨#[]⟩ ∧ n.2.2.1 = 0 ∧ n.2.1 = 7
    · have e0 : eqS n.1 ⟨#[]⟩ = true := by rw [eqS_iff]; exact decide_eq_true hr.1
      simp only [bneF hr.2.2, bneF hr.2.1, e0, cond_false, Option.bind_some, Bool.or_self, Bool.not_true]
      obtain ⟨v, s1, s2, s4⟩ := schk k hk s hin.2 hn (fun c hc => by rw [hn2] at hc; cases hc; exact hr) 6 k 1 0 (by omega) (by omega)
      have s1 : spec_l5Check k s 0 1 = some v := s1
      have s2 : impl_colAfter k s 0 1 = some v := s2
      simp only [s1, s2, Option.bind_some]
      refine ⟨_, rfl, rfl, fun hb => ?_⟩
      have hv : v = (s.length : Int) := by simpa using hb
      refine ⟨⟨hin.1, hin.2, ?_, n, hn2, hr⟩, by rw [hv]⟩
      rcases s4 with h | ⟨nx, h1, h2, _⟩
      · omega
      · have : nx = s.length := by omega
        rw [← this]; exact h2
    · -- the root is wrong
      have hs : spec_l5Check k s 0 1 = some (-1) := by
        obtain ⟨K, rfl⟩ : ∃ j, k = j + 1 := ⟨k - 1, by omega⟩
        show spec_l5Check.b (K + 1) (spec_l5Check.rec (K + 1) K) s 0 1 = _
        unfold spec_l5Check.b
        have e1 : (cond ((0 : Int) == 0) (some ((!eqS n.1 ⟨#[]⟩ || n.2.2.1 != 0) || n.2.1 != 7)) (some false) : Option Bool) = some true := by
          show some _ = _
          congr 1
          cases he : eqS n.1 ⟨#[]⟩ with
          | false => rfl
          | true =>
            rw [eqS_iff] at he
            have he := of_decide_eq_true he
            simp only [Bool.not_true, Bool.false_or, Bool.or_eq_true, bne_iff_ne]
            exact Classical.byContradiction fun hh => hr ⟨he, Classical.byContradiction fun h => hh (.inl h), Classical.byContradiction fun h => hh (.inr h)⟩
        simp only [decide_eq_false (show ¬ (0 : Int) ≥ (s.length : Int) by omega), cst, Option.bind_some, show decide ((1 : Int) > 6) = false from rfl, Bool.or_self, cond_false, hn1, e1, Bool.true_or, cond_true]
      refine ⟨false, ?_, ?_, fun h => by cases h⟩
      · simp only [hs, Option.bind_some]
        rw [beqF (by omega)]
      · by_cases h7 : n.2.1 = 7
        · by_cases h0 : n.2.2.1 = 0
          · have he : eqS n.1 ⟨#[]⟩ = false := by
              rw [eqS_iff]; exact decide_eq_false fun h => hr ⟨h, h0, h7⟩
            simp only [bneF h7, bneF h0, he, Option.bind_some, cond_false, Bool.or_self, Bool.not_false, Bool.false_or, cond_true]
          · simp only [bneF h7, bneT h0, Option.bind_some, cond_false, Bool.false_or, cond_true, Bool.true_or]
        · simp only [bneT h7, Option.bind_some, cond_true, Bool.true_or]
  · have c1 : (decide ((2 : Int) ≤ (s.length : Int)) && decide ((s.length : Int) ≤ 20)) = false := by
      rw [Bool.eq_false_iff]; intro h
      simp only [Bool.and_eq_true, decide_eq_true_eq] at h
      omega
    simp only [c1, Bool.not_false, cond_true, cond_false, Option.bind_some]
    exact ⟨false, rfl, rfl, fun h => by cases h⟩
end Go.Law
end

section
/- Trees: which are right, by both; and a right one is read from its bytes as it was. -/
set_option linter.unusedVariables false
set_option linter.unusedSimpArgs false
namespace Go.Law
open Go.Am Go.Fn

def isItem (t : Int) : Bool := t == 5 || t == 6 || t == 8 || t == 9 || t == 12
def isKind (t : Int) : Bool := t == 1 || t == 2 || isItem t

theorem isType_eq (k : Nat) (t : Int) (b : Bool) : impl_isType k t b = some (isItem t || ((t == 1 || t == 2) && !b)) := by
  unfold impl_isType impl_isType.c4 impl_isType.c10 isItem
  by_cases h1 : t = 1
  · subst h1; simp
  by_cases h2 : t = 2
  · subst h2; simp
  by_cases h5 : t = 5
  · subst h5; simp
  by_cases h6 : t = 6
  · subst h6; simp
  by_cases h8 : t = 8
  · subst h8; simp
  by_cases h9 : t = 9
  · subst h9; simp
  by_cases h12 : t = 12
  · subst h12; simp
  simp [beqF h1, beqF h2, beqF h5, beqF h6, beqF h8, beqF h9, beqF h12, h1, h2, h5, h6, h8, h9, h12]

theorem l4Kind_eq (k : Nat) (t : Int) : spec_l4Kind k t = some (isKind t) := by
  unfold spec_l4Kind spec_l4Kind.c9 isKind isItem
  by_cases h1 : t = 1
  · subst h1; simp
  by_cases h2 : t = 2
  · subst h2; simp
  by_cases h5 : t = 5
  · subst h5; simp
  by_cases h6 : t = 6
  · subst h6; simp
  by_cases h8 : t = 8
  · subst h8; simp
  by_cases h9 : t = 9
  · subst h9; simp
  by_cases h12 : t = 12
  · subst h12; simp
  simp [beqF h1, beqF h2, beqF h5, beqF h6, beqF h8, beqF h9, beqF h12, h1, h2, h5, h6, h8, h9, h12]

theorem l4Item_eq (k : Nat) (t : Int) : spec_l4Item k t = some (isItem t) := by
  unfold spec_l4Item
  rw [l4Kind_eq]
  simp only [Option.bind_some, csf]
  congr 1
  unfold isKind
  by_cases h1 : t = 1
  · subst h1; rfl
  by_cases h2 : t = 2
  · subst h2; rfl
  simp [beqF h1, beqF h2, bneT h1, bneT h2]

def nok (n : TNode) : Bool :=
  if n.1 = 5 then (decide (-2147483648 ≤ n.2.2.1) && decide (n.2.2.1 ≤ 2147483647)) && eqS n.2.2.2.1 ⟨#[]⟩ && n.2.2.2.2.1 == 0
  else if n.1 = 6 then eqS n.2.2.2.1 ⟨#[]⟩ && n.2.2.2.2.1 == 0
  else if n.1 = 8 then n.2.2.1 == 0 && decide ((n.2.2.2.1.size : Int) ≤ 300) && n.2.2.2.2.1 == 0
  else if n.1 = 9 then eqS n.2.2.2.1 ⟨#[]⟩ && decide (n.2.2.2.2.1 ≥ 0) && ((n.2.2.2.2.1 == 0 && n.2.2.1 == 0) || (decide (n.2.2.2.2.1 > 0) && isItem n.2.2.1))
  else if n.1 = 12 then n.2.2.1 == 0 && eqS n.2.2.2.1 ⟨#[]⟩ && decide (n.2.2.2.2.1 ≥ 0)
  else (n.1 == 1 || n.1 == 2) && n.2.2.1 == 0 && eqS n.2.2.2.1 ⟨#[]⟩ && n.2.2.2.2.1 == 0

theorem nodeOk_eq (k : Nat) (n : TNode) : impl_nodeOk k n = some (nok n) := by
  unfold impl_nodeOk impl_isInt32 nok
  simp only [within_eq, isType_eq, Option.bind_some, csf, cst]
  by_cases h5 : n.1 = 5
  · simp [h5]
  by_cases h6 : n.1 = 6
  · simp [h6]
  by_cases h8 : n.1 = 8
  · simp [h8]
  by_cases h9 : n.1 = 9
  · simp [h9]
  by_cases h12 : n.1 = 12
  · simp [h12]
  simp [beqF h5, beqF h6, beqF h8, beqF h9, beqF h12, h5, h6, h8, h9, h12, isItem]

theorem plain_eq (k : Nat) (n : TNode) : spec_l4Plain k n = some (nok n) := by
  unfold spec_l4Plain spec_l4Plain.c4 spec_l4Int nok
  simp only [l1In_eq, l4Item_eq, Option.bind_some, csf, cst]
  by_cases h1 : n.1 = 1
  · simp [h1]
  by_cases h2 : n.1 = 2
  · simp [h2]
  by_cases h5 : n.1 = 5
  · simp [h5]
  by_cases h6 : n.1 = 6
  · simp [h6]
  by_cases h8 : n.1 = 8
  · simp [h8]
  by_cases h9 : n.1 = 9
  · simp [h9]
  by_cases h12 : n.1 = 12
  · simp [h12]
  simp [beqF h1, beqF h2, beqF h5, beqF h6, beqF h8, beqF h9, beqF h12, h1, h2, h5, h6, h8, h9, h12]

/-! ### which lists are trees -/
/-- the parts of a node, where S tells the parts' own extent -/
def PartsR (S : Nat → Nat → Prop) (l : List TNode) (n : TNode) : Nat → Nat → Int → Nat → Prop
  | 0, pos, _, nx => pos = nx
  | c + 1, pos, last, nx => ∃ p mid, l[pos]? = some p ∧ (n.1 = 9 → p.1 = n.2.2.1 ∧ p.2.1 = 0) ∧ (n.1 = 12 → last + 1 ≤ p.2.1 ∧ p.2.1 ≤ 1000) ∧ S pos mid ∧ PartsR S l n c mid p.2.1 nx

def Sub (l : List TNode) (af : List Int) : Nat → Nat → Nat → Prop
  | 0, _, _ => False
  | d + 1, at_, nx => ∃ n, l[at_]? = some n ∧ nok n = true ∧ PartsR (Sub l af d) l n n.2.2.2.2.1.toNat (at_ + 1) 0 nx ∧ af[at_]? = some (nx : Int)

theorem PartsR_mono {S S' : Nat → Nat → Prop} {l : List TNode} {n : TNode} (hS : ∀ a b, S a b → a < b) : ∀ (c pos : Nat) (last : Int) (nx : Nat), (∀ a b, pos ≤ a → b ≤ nx → S a b → S' a b) → PartsR S l n c pos last nx → PartsR S' l n c pos last nx ∧ pos ≤ nx
  | 0, pos, last, nx, h, e => ⟨e, by have e : pos = nx := e; omega⟩
  | c + 1, pos, last, nx, h, ⟨p, mid, h1, h2, h3, h4, h5⟩ => by
    have hlt := hS _ _ h4
    obtain ⟨k1, k2⟩ := PartsR_mono hS c mid p.2.1 nx (fun a b ha hb => h a b (by omega) hb) h5
    exact ⟨⟨p, mid, h1, h2, h3, h _ _ (Nat.le_refl _) k2 h4, k1⟩, by omega⟩

theorem Sub_lt {l : List TNode} {af : List Int} : ∀ (d a b : Nat), Sub l af d a b → a < b
  | 0, _, _, h => h.elim
  | d + 1, a, b, ⟨n, h1, h2, h3, h4⟩ => by
    have := (PartsR_mono (S' := fun _ _ => True) (Sub_lt d) _ _ _ _ (fun _ _ _ _ _ => trivial) h3).2
    omega

theorem Sub_frame {l : List TNode} {af af' : List Int} : ∀ (d a b : Nat), (∀ i, a ≤ i → i < b → af'[i]? = af[i]?) → Sub l af d a b → Sub l af' d a b
  | 0, _, _, _, h => h.elim
  | d + 1, a, b, hf, ⟨n, h1, h2, h3, h4⟩ => by
    have hlt := Sub_lt (d + 1) a b ⟨n, h1, h2, h3, h4⟩
    refine ⟨n, h1, h2, (PartsR_mono (Sub_lt d) _ _ _ _ (fun x y hx hy hs => ?_) h3).1, by rw [hf a (Nat.le_refl _) hlt]; exact h4⟩
    exact Sub_frame d x y (fun i hi1 hi2 => hf i (by omega) (by omega)) hs

def WfN (n : TNode) : Prop := I64 n.1 ∧ I64 n.2.1 ∧ I64 n.2.2.1 ∧ I64 n.2.2.2.2.1 ∧ n.2.2.2.1.size ≤ 1073741824

theorem checkLoop (k : Nat) (l : List TNode) (hl : l.length ≤ 1500) (d D deep : Nat) (hdeep : deep ≤ 12)
    (ih : ∀ (at_ : Nat) (af : List Int), af.length = l.length →
      ∃ v af', spec_l4Check.rec k D l (at_ : Int) ((deep + 1 : Nat) : Int) = some v ∧ impl_tree_measure.rec k D (at_ : Int) ((deep + 1 : Nat) : Int) (true, (l, (), ())) af = some (v, ((l, (), ()), af')) ∧ af'.length = l.length ∧
        (v = -1 ∨ ∃ nx : Nat, v = nx ∧ Sub l af' d at_ nx ∧ nx ≤ l.length ∧ ∀ i, (i < at_ ∨ nx ≤ i) → af'[i]? = af[i]?))
    (at_ : Nat) (hat : at_ < l.length) (n : TNode) (M : Int) (hM : n.2.2.2.2.1 = M) (hM1 : M < 9223372036854775808) : ∀ (f pos : Nat) (last i : Int) (af : List Int), l.length - pos < f → at_ < pos → 0 ≤ i → i ≤ M → pos ≤ l.length →
      (n.1 = 12 → 0 ≤ last ∧ last ≤ 1000) → af.length = l.length →
      ∃ v af', spec_l4Check.l7 k (spec_l4Check.rec k D) f l (deep : Int) (pos : Int) last i n = some v ∧ impl_tree_measure.l7 k (impl_tree_measure.rec k D) f (at_ : Int) (deep : Int) (pos : Int) last M i (l, (), ()) af n = some (v, ((l, (), ()), af')) ∧ af'.length = l.length ∧
        (v = -1 ∨ ∃ nx : Nat, v = nx ∧ PartsR (Sub l af' d) l n (M - i).toNat pos last nx ∧ nx ≤ l.length ∧ af'[at_]? = some (nx : Int) ∧ ∀ j, (j < pos ∨ nx ≤ j) → j ≠ at_ → af'[j]? = af[j]?) := by
  intro f
  induction f with
  | zero => intro pos last i af h; omega
  | succ f ihf =>
    intro pos last i af hf hpos hi0 hiM hpl hlast haf
    simp only [spec_l4Check.l7, impl_tree_measure.l7, hM]
    by_cases hlt : i < M
    · simp only [decide_eq_true hlt, cond_true]
      by_cases hpe : (pos : Int) ≥ (l.length : Int)
      · simp only [decide_eq_true hpe, cond_true]
        exact ⟨_, _, rfl, rfl, haf, .inl rfl⟩
      · simp only [decide_eq_false hpe, cond_false]
        obtain ⟨p, hp1, hp2⟩ := rdL_some (xs := l) (i := (pos : Int)) (by omega) (by omega)
        simp only [hp1, Option.bind_some, csf, cst, within_eq]
        have hp2 : l[pos]? = some p := by simpa using hp2
        -- the first condition
        by_cases hc1 : n.1 = 9 ∧ (p.1 ≠ n.2.2.1 ∨ p.2.1 ≠ 0)
        · have e1 : (n.1 == 9 && (p.1 != n.2.2.1 || p.2.1 != 0)) = true := by
            simp only [Bool.and_eq_true, Bool.or_eq_true, beq_iff_eq, bne_iff_ne]; exact hc1
          simp only [e1, Bool.true_or, cond_true]
          exact ⟨_, _, rfl, rfl, haf, .inl rfl⟩
        · have e1 : (n.1 == 9 && (p.1 != n.2.2.1 || p.2.1 != 0)) = false := by
            rw [Bool.eq_false_iff]
            intro h
            simp only [Bool.and_eq_true, Bool.or_eq_true, beq_iff_eq, bne_iff_ne] at h
            exact hc1 h
          simp only [e1, Bool.false_or, cond_false]
          by_cases hc2 : n.1 = 12 ∧ ¬ (last + 1 ≤ p.2.1 ∧ p.2.1 ≤ 1000)
          · have hw : IntKind.wrap .i64 (last + 1) = last + 1 := by
              have := hlast hc2.1
              exact w64 (by omega) (by omega)
            have e2 : (n.1 == 12 && (decide (p.2.1 ≤ last) || decide (p.2.1 > 1000))) = true := by
              simp only [Bool.and_eq_true, Bool.or_eq_true, beq_iff_eq, decide_eq_true_eq]
              exact ⟨hc2.1, by have := hc2.2; omega⟩
            have e3 : (cond (n.1 == 12) (some (!(decide (last + 1 ≤ p.2.1) && decide (p.2.1 ≤ 1000)))) (some false) : Option Bool) = some true := by
              rw [beqT hc2.1, cond_true]
              congr 1
              have := hc2.2
              simp only [Bool.not_eq_true', Bool.and_eq_false_iff, decide_eq_false_iff_not]
              omega
            rw [hw]
            simp only [e2, e3, Option.bind_some, cond_true]
            rw [csf] at e3
            simp only [Option.some.injEq] at e3
            simp only [e3, cond_true]
            exact ⟨_, _, rfl, rfl, haf, .inl rfl⟩
          · have e2 : (n.1 == 12 && (decide (p.2.1 ≤ last) || decide (p.2.1 > 1000))) = false := by
              rw [Bool.eq_false_iff]
              intro h
              simp only [Bool.and_eq_true, Bool.or_eq_true, beq_iff_eq, decide_eq_true_eq] at h
              exact hc2 ⟨h.1, by omega⟩
            have e3 : (n.1 == 12 && !(decide (IntKind.wrap .i64 (last + 1) ≤ p.2.1) && decide (p.2.1 ≤ 1000))) = false := by
              rw [Bool.eq_false_iff]
              intro h
              simp only [Bool.and_eq_true, beq_iff_eq, Bool.not_eq_true', Bool.and_eq_false_iff, decide_eq_false_iff_not] at h
              have hl := hlast h.1
              rw [w64 (by omega) (by omega)] at h
              exact hc2 ⟨h.1, by omega⟩
            simp only [e2, e3, cond_false]
            have hd1 : IntKind.wrap .i64 ((deep : Int) + 1) = ((deep + 1 : Nat) : Int) := by rw [w64 (by omega) (by omega)]; omega
            rw [hd1]
            obtain ⟨v, af1, s1, s2, s3, s4⟩ := ih pos af haf
            simp only [s1, s2, Option.bind_some]
            rcases s4 with rfl | ⟨mid, rfl, s5, s6, s7⟩
            · simp only [show decide ((-1 : Int) < 0) = true from rfl, cond_true]
              exact ⟨_, _, rfl, rfl, s3, .inl rfl⟩
            · have hml := Sub_lt _ _ _ s5
              have hm0 : decide ((mid : Int) < 0) = false := decide_eq_false (by omega)
              have hi1 : IntKind.wrap .i64 (i + 1) = i + 1 := w64 (by omega) (by omega)
              simp only [hm0, cond_false, hi1]
              obtain ⟨w, af2, t1, t2, t3, t4⟩ := ihf mid p.2.1 (i + 1) af1 (by omega) (by omega) (by omega) (by omega) s6 (fun h12 => by
                have h := fun hh => hc2 ⟨h12, hh⟩
                have hl := hlast h12
                omega) s3
              refine ⟨w, af2, t1, t2, t3, ?_⟩
              rcases t4 with h | ⟨nx, h1, h2, h3, h4, h5⟩
              · exact .inl h
              · have hmn := (PartsR_mono (S' := fun _ _ => True) (Sub_lt d) _ _ _ _ (fun _ _ _ _ _ => trivial) h2).2
                refine .inr ⟨nx, h1, ?_, h3, h4, fun j hj hja => ?_⟩
                · rw [show (M - i).toNat = (M - (i + 1)).toNat + 1 by omega]
                  refine ⟨p, mid, hp2, fun h9 => ?_, fun h12 => ?_, Sub_frame d pos mid (fun j hj1 hj2 => h5 j (.inl hj2) (by omega)) s5, h2⟩
                  · constructor
                    · exact Classical.byContradiction fun hh => hc1 ⟨h9, .inl hh⟩
                    · exact Classical.byContradiction fun hh => hc1 ⟨h9, .inr hh⟩
                  · exact Classical.byContradiction fun hh => hc2 ⟨h12, hh⟩
                · rw [h5 j (by omega) hja, s7 j (by omega)]
    · simp only [decide_eq_false hlt, cond_false]
      obtain ⟨y, hy1, hy2⟩ := rdL_some (xs := af) (i := (at_ : Int)) (by omega) (by omega)
      simp only [hy1, Option.bind_some]
      refine ⟨_, _, rfl, rfl, by simpa using haf, .inr ⟨pos, rfl, ?_, hpl, ?_, fun j _ hj => ?_⟩⟩
      · rw [show (M - i).toNat = 0 by omega]
        rfl
      · simp [List.getElem?_set, haf, hat]
      · simp [List.getElem?_set]
        intro h; omega

theorem check (k : Nat) (hk : 2000 ≤ k) (l : List TNode) (hl : l.length ≤ 1500) (hw : ∀ n, n ∈ l → WfN n) : ∀ (d D deep at_ : Nat) (af : List Int), d + deep = 13 → d < D → af.length = l.length →
      ∃ v af', spec_l4Check.rec k D l (at_ : Int) (deep : Int) = some v ∧ impl_tree_measure.rec k D (at_ : Int) (deep : Int) (true, (l, (), ())) af = some (v, ((l, (), ()), af')) ∧ af'.length = l.length ∧
        (v = -1 ∨ ∃ nx : Nat, v = nx ∧ Sub l af' d at_ nx ∧ nx ≤ l.length ∧ ∀ i, (i < at_ ∨ nx ≤ i) → af'[i]? = af[i]?) := by
  intro d
  induction d with
  | zero =>
    intro D deep at_ af hd hD haf
    obtain ⟨D, rfl⟩ : ∃ m, D = m + 1 := ⟨D - 1, by omega⟩
    obtain rfl : deep = 13 := by omega
    simp only [spec_l4Check.rec, impl_tree_measure.rec, spec_l4Check.b, impl_tree_measure.b, cst, Option.bind_some, show decide (((13 : Nat) : Int) > 12) = true from rfl, Bool.or_true, cond_true]
    exact ⟨_, _, rfl, rfl, haf, .inl rfl⟩
  | succ d ih =>
    intro D deep at_ af hd hD haf
    obtain ⟨D, rfl⟩ : ∃ m, D = m + 1 := ⟨D - 1, by omega⟩
    simp only [spec_l4Check.rec, impl_tree_measure.rec, spec_l4Check.b, impl_tree_measure.b, cst, Option.bind_some, cond_true]
    by_cases hat : (at_ : Int) ≥ (l.length : Int)
    · simp only [decide_eq_true hat, Bool.true_or, cond_true, Option.bind_some]
      exact ⟨_, _, rfl, rfl, haf, .inl rfl⟩
    · obtain ⟨n, hn1, hn2⟩ := rdL_some (xs := l) (i := (at_ : Int)) (by omega) (by omega)
      have hn2 : l[at_]? = some n := by simpa using hn2
      have hdd : decide ((deep : Int) > 12) = false := decide_eq_false (by omega)
      simp only [decide_eq_false hat, hdd, Bool.false_or, cond_false, hn1, Option.bind_some, plain_eq, nodeOk_eq]
      cases hok : nok n with
      | false =>
        simp only [Bool.not_false, cond_true]
        exact ⟨_, _, rfl, rfl, haf, .inl rfl⟩
      | true =>
        simp only [Bool.not_true, cond_false]
        have hwn := hw n (List.mem_of_getElem? hn2)
        have hM0 : 0 ≤ n.2.2.2.2.1 := by
          unfold nok at hok
          repeat' split at hok
          all_goals simp only [Bool.and_eq_true, beq_iff_eq, decide_eq_true_eq, Bool.or_eq_true] at hok
          all_goals omega
        have ha1 : IntKind.wrap .i64 ((at_ : Int) + 1) = ((at_ + 1 : Nat) : Int) := by rw [w64 (by omega) (by omega)]; omega
        rw [ha1]
        obtain ⟨v, af', t1, t2, t3, t4⟩ := checkLoop k l hl d D deep (by omega) (fun a af haf => ih D (deep + 1) a af (by omega) (by omega) haf) at_ (by omega) n n.2.2.2.2.1 rfl hwn.2.2.2.1.2 k (at_ + 1) 0 0 af (by omega) (by omega) (by omega) hM0 (by omega) (fun _ => by omega) haf
        refine ⟨v, af', t1, t2, t3, ?_⟩
        rcases t4 with h | ⟨nx, h1, h2, h3, h4, h5⟩
        · exact .inl h
        · refine .inr ⟨nx, h1, ⟨n, hn2, hok, by simpa using h2, h4⟩, h3, fun i hi => ?_⟩
          have := (PartsR_mono (S' := fun _ _ => True) (Sub_lt d) _ _ _ _ (fun _ _ _ _ _ => trivial) h2).2
          exact h5 i (by omega) (by omega)
end Go.Law
end

section
/- Which lists are trees: the program's treeOf and the reference's TreeOk. -/
set_option linter.unusedVariables false
set_option linter.unusedSimpArgs false
namespace Go.Law
open Go.Am Go.Fn
variable (k : Nat)

theorem treeOf_eq (hk : 2000 ≤ k) (l : List TNode) (hw : ∀ n, n ∈ l → WfN n) (hlen : l.length < 4294967296) :
    ∃ b : Bool, spec_TreeOk k l = some b ∧ ((b = false ∧ ∃ x, impl_treeOf k l = some (((), false), x)) ∨
      (b = true ∧ l.length ≤ 1500 ∧ 1 ≤ l.length ∧ ∃ af, impl_treeOf k l = some (((), true), ((true, (l, (), ())), af)) ∧ Sub l af 12 0 l.length ∧ ∃ n, l[0]? = some n ∧ n.1 = 12 ∧ n.2.1 = 0)) := by
  unfold spec_TreeOk impl_treeOf
  simp only [within_eq, l1In_eq, Option.bind_some]
  by_cases hin : 1 ≤ l.length ∧ l.length ≤ 1500
  · have c1 : (decide ((1 : Int) ≤ (l.length : Int)) && decide ((l.length : Int) ≤ 1500)) = true := by simp; omega
    obtain ⟨n, hn1, hn2⟩ := rdL_some (xs := l) (i := 0) (by omega) (by omega)
    have hn2 : l[0]? = some n := hn2
    simp only [c1, Bool.not_true, cond_false, hn1, Option.bind_some, okLen_ok (show (0 : Int) ≤ (l.length : Int) by omega) (by omega), cond_true, cst, Int.toNat_natCast]
    by_cases hr : n.1 = 12 ∧ n.2.1 = 0
    · have c2 : (n.1 != 12 || n.2.1 != 0) = false := by simp [hr.1, hr.2]
      simp only [bneF hr.1, bneF hr.2, cond_false, Option.bind_some, Bool.or_self]
      obtain ⟨v, af', s1, s2, s3, s4⟩ := check k hk l hin.2 hw 12 k 1 0 (List.replicate l.length 0) (by omega) (by omega) (by simp)
      have s1 : spec_l4Check k l 0 1 = some v := s1
      have s2 : impl_tree_measure k 0 1 (true, (l, (), ())) (List.replicate l.length 0) = some (v, ((l, (), ()), af')) := s2
      simp only [s1, s2, Option.bind_some]
      by_cases hv : v = (l.length : Int)
      · refine ⟨true, by rw [beqT hv], .inr ⟨rfl, hin.2, hin.1, af', by simp only [bneF hv, cond_false], ?_, n, hn2, hr⟩⟩
        rcases s4 with h | ⟨nx, h1, h2, _⟩
        · omega
        · have : nx = l.length := by omega
          rw [← this]; exact h2
      · exact ⟨false, by rw [beqF hv], .inl ⟨rfl, ((false, ([], (), ())), []), by simp only [bneT hv, cond_true]⟩⟩
    · have c2 : (n.1 != 12 || n.2.1 != 0) = true := by
        simp only [Bool.or_eq_true, bne_iff_ne]
        exact Classical.byContradiction fun hh => hr ⟨Classical.byContradiction fun h => hh (.inl h), Classical.byContradiction fun h => hh (.inr h)⟩
      refine ⟨false, ?_, .inl ⟨rfl, ((false, ([], (), ())), []), by simp only [c2, cond_true]⟩⟩
      by_cases h12 : n.1 = 12
      · have h0 : ¬ n.2.1 = 0 := fun h => hr ⟨h12, h⟩
        simp only [bneF h12, cond_false, bneT h0, Option.bind_some, cond_true, Bool.false_or]
      · simp only [bneT h12, Option.bind_some, cond_true, Bool.true_or]
  · have c1 : (decide ((1 : Int) ≤ (l.length : Int)) && decide ((l.length : Int) ≤ 1500)) = false := by
      rw [Bool.eq_false_iff]; intro h
      simp only [Bool.and_eq_true, decide_eq_true_eq] at h
      omega
    simp only [c1, Bool.not_false, cond_true, Option.bind_some]
    exact ⟨false, rfl, .inl ⟨rfl, _, rfl⟩⟩

end Go.Law
end

section
/- A schema out of a tree, by both. -/
set_option linter.unusedVariables false
set_option linter.unusedSimpArgs false
namespace Go.Law
open Go.Am Go.Fn
variable (k : Nat)

theorem PartsR_cnt {S : Nat → Nat → Prop} {l : List TNode} {n : TNode} (hS : ∀ a b, S a b → a < b) : ∀ (c pos : Nat) (last : Int) (nx : Nat), PartsR S l n c pos last nx → pos + c ≤ nx
  | 0, pos, last, nx, e => by have e : pos = nx := e; omega
  | c + 1, pos, last, nx, ⟨p, mid, _, _, _, h4, h5⟩ => by
    have := hS _ _ h4
    have := PartsR_cnt hS c mid p.2.1 nx h5
    omega

theorem Sub_all {l : List TNode} {af : List Int} : ∀ (d a b : Nat), Sub l af d a b → ∀ i, a ≤ i → i < b → ∃ d' nx, d' ≤ d ∧ Sub l af d' i nx ∧ nx ≤ b
  | 0, _, _, h => h.elim
  | d + 1, a, b, ⟨n, h1, h2, h3, h4⟩ => by
    have key : ∀ (c pos : Nat) (last : Int) (nx : Nat), PartsR (Sub l af d) l n c pos last nx → ∀ i, pos ≤ i → i < nx → ∃ d' x, d' ≤ d ∧ Sub l af d' i x ∧ x ≤ nx := by
      intro c
      induction c with
      | zero => intro pos last nx e i hi1 hi2; have e : pos = nx := e; omega
      | succ c ih =>
        intro pos last nx ⟨p, mid, _, _, _, hs, hp⟩ i hi1 hi2
        rcases Nat.lt_or_ge i mid with h | h
        · obtain ⟨d', x, q1, q2, q3⟩ := Sub_all d pos mid hs i hi1 h
          have := PartsR_cnt (Sub_lt d) _ _ _ _ hp
          exact ⟨d', x, q1, q2, by omega⟩
        · exact ih mid _ nx hp i h hi2
    intro i hi1 hi2
    rcases Nat.lt_or_ge a i with h | h
    · obtain ⟨d', x, q1, q2, q3⟩ := key _ _ _ _ h3 i (by omega) hi2
      exact ⟨d', x, by omega, q2, q3⟩
    · obtain rfl : i = a := by omega
      exact ⟨d + 1, b, Nat.le_refl _, ⟨n, h1, h2, h3, h4⟩, Nat.le_refl _⟩

theorem Sub_node {l : List TNode} {af : List Int} {d a b : Nat} (h : Sub l af d a b) : ∃ n, l[a]? = some n ∧ nok n = true ∧ af[a]? = some (b : Int) := by
  cases d with
  | zero => exact h.elim
  | succ d => obtain ⟨n, h1, h2, h3, h4⟩ := h; exact ⟨n, h1, h2, h4⟩

theorem nok_many {n : TNode} (h : nok n = true) : 0 ≤ n.2.2.2.2.1 := by
  unfold nok at h
  repeat' split at h
  all_goals simp only [Bool.and_eq_true, beq_iff_eq, decide_eq_true_eq, Bool.or_eq_true] at h
  all_goals omega

theorem after_eq (hk : 2000 ≤ k) {l : List TNode} {af : List Int} (hl : l.length ≤ 1500) : ∀ (d D at_ nx : Nat), d ≤ D → Sub l af d at_ nx → nx ≤ l.length → spec_l4After.rec k D l (at_ : Int) = some (nx : Int) := by
  intro d
  induction d with
  | zero => intro D at_ nx _ h; exact h.elim
  | succ d ih =>
    intro D at_ nx hD ⟨n, h1, h2, h3, h4⟩ hnx
    obtain ⟨D, rfl⟩ : ∃ j, D = j + 1 := ⟨D - 1, by omega⟩
    have hm0 := nok_many h2
    have hat : at_ < l.length := (List.getElem?_eq_some_iff.1 h1).1
    have loop : ∀ (c pos : Nat) (last : Int) (f : Nat) (i : Int), PartsR (Sub l af d) l n c pos last nx → c < f → n.2.2.2.2.1 - i = c → 0 ≤ i → n.2.2.2.2.1 ≤ 2000 → spec_l4After.l3 k (spec_l4After.rec k D) f l (at_ : Int) (pos : Int) i = some (nx : Int) := by
      intro c
      induction c with
      | zero =>
        intro pos last f i hp hf hi hi0 hi2
        obtain ⟨f, rfl⟩ : ∃ j, f = j + 1 := ⟨f - 1, by omega⟩
        obtain rfl : pos = nx := hp
        simp only [spec_l4After.l3, rdL_nat, h1, Option.bind_some, decide_eq_false (show ¬ i < n.2.2.2.2.1 by omega), cond_false]
      | succ c ihc =>
        intro pos last f i ⟨p, mid, _, _, _, hs, hp⟩ hf hi hi0 hi2
        obtain ⟨f, rfl⟩ : ∃ j, f = j + 1 := ⟨f - 1, by omega⟩
        have hc := PartsR_cnt (Sub_lt d) _ _ _ _ hp
        simp only [spec_l4After.l3, rdL_nat, h1, Option.bind_some, decide_eq_true (show i < n.2.2.2.2.1 by omega), cond_true, ih D pos mid (by omega) hs (by omega)]
        have hlt := Sub_lt _ _ _ hs
        rw [w64 (by omega) (by omega)]
        exact ihc mid _ f (i + 1) hp (by omega) (by omega) (by omega) (by omega)
    have hc := PartsR_cnt (Sub_lt d) _ _ _ _ h3
    simp only [spec_l4After.rec, spec_l4After.b]
    rw [w64 (by omega) (by omega), show ((at_ : Int) + 1) = ((at_ + 1 : Nat) : Int) by omega]
    exact loop _ _ 0 k 0 h3 (by omega) (by omega) (by omega) (by omega)

section
variable {l : List TNode} {af : List Int}

structure TreeFacts (l : List TNode) (af : List Int) : Prop where
  len : l.length ≤ 1500
  pos : 1 ≤ l.length
  sub : Sub l af 12 0 l.length
  wf : ∀ n, n ∈ l → WfN n

theorem TreeFacts.at (h : TreeFacts l af) {i : Nat} (hi : i < l.length) : ∃ d nx, d ≤ 12 ∧ Sub l af d i nx ∧ nx ≤ l.length :=
  Sub_all 12 0 l.length h.sub i (Nat.zero_le _) hi

theorem TreeFacts.after (hk : 2000 ≤ k) (h : TreeFacts l af) {d i nx : Nat} (hd : d ≤ 12) (hs : Sub l af d i nx) (hn : nx ≤ l.length) : spec_l4After k l (i : Int) = some (nx : Int) :=
  after_eq k hk h.len d k i nx (by omega) hs hn

abbrev tB (l : List TNode) : TTreeB := (l, (), ())

theorem findLoop (hk : 2000 ≤ k) (h : TreeFacts l af) (d : Nat) (hd : d ≤ 12) (n : TNode) (at_ : Nat) (hn : l[at_]? = some n) (id : Int) (nx : Nat) (hnx : nx ≤ l.length) : ∀ (c pos : Nat) (last : Int) (f : Nat) (i : Int), PartsR (Sub l af d) l n c pos last nx → c < f → n.2.2.2.2.1 - i = c → 0 ≤ i → n.2.2.2.2.1 ≤ 2000 →
    ∃ v, spec_l4Find.l5 k f l (at_ : Int) id (pos : Int) i = some v ∧ impl_tree_find.l5 k f id (pos : Int) n.2.2.2.2.1 i (tB l) af = some (v, (tB l, af)) ∧ (v = -1 ∨ ∃ q : Nat, v = q ∧ pos ≤ q ∧ q < nx ∧ ∃ mid, Sub l af d q mid ∧ mid ≤ nx) := by
  intro c
  induction c with
  | zero =>
    intro pos last f i hp hf hi hi0 hi2
    obtain ⟨f, rfl⟩ : ∃ j, f = j + 1 := ⟨f - 1, by omega⟩
    simp only [spec_l4Find.l5, impl_tree_find.l5, rdL_nat, hn, Option.bind_some, decide_eq_false (show ¬ i < n.2.2.2.2.1 by omega), cond_false]
    exact ⟨_, rfl, rfl, .inl rfl⟩
  | succ c ihc =>
    intro pos last f i ⟨p, mid, hp1, _, _, hs, hp⟩ hf hi hi0 hi2
    obtain ⟨f, rfl⟩ : ∃ j, f = j + 1 := ⟨f - 1, by omega⟩
    have hc := PartsR_cnt (Sub_lt d) _ _ _ _ hp
    have hlt := Sub_lt _ _ _ hs
    obtain ⟨_, _, _, haf⟩ := Sub_node hs
    simp only [spec_l4Find.l5, impl_tree_find.l5, rdL_nat, hn, hp1, haf, Option.bind_some, decide_eq_true (show i < n.2.2.2.2.1 by omega), cond_true]
    by_cases hid : p.2.1 = id
    · simp only [beqT hid, cond_true]
      exact ⟨_, rfl, rfl, .inr ⟨pos, rfl, Nat.le_refl _, by omega, mid, hs, by omega⟩⟩
    · simp only [beqF hid, cond_false, h.after k hk hd hs (by omega), Option.bind_some]
      rw [w64 (by omega) (by omega)]
      obtain ⟨v, g1, g2, g3⟩ := ihc mid _ f (i + 1) hp (by omega) (by omega) (by omega) (by omega)
      refine ⟨v, g1, g2, ?_⟩
      rcases g3 with g | ⟨q, q1, q2, q3, q4⟩
      · exact .inl g
      · exact .inr ⟨q, q1, by omega, q3, q4⟩

theorem find_eq (hk : 2000 ≤ k) (h : TreeFacts l af) (at_ : Nat) (hat : at_ < l.length) (id : Int) :
    ∃ v, spec_l4Find k l (at_ : Int) id = some v ∧ impl_tree_find k (at_ : Int) id (true, tB l) af = some (v, (tB l, af)) ∧ (v = -1 ∨ ∃ q : Nat, v = q ∧ at_ < q ∧ q < l.length) := by
  obtain ⟨d, nx, hd, hs, hnx⟩ := h.at hat
  have hlen := h.len
  cases d with
  | zero => exact hs.elim
  | succ d =>
    obtain ⟨n, h1, h2, h3, h4⟩ := hs
    have hm0 := nok_many h2
    have hc := PartsR_cnt (Sub_lt d) _ _ _ _ h3
    unfold spec_l4Find impl_tree_find
    have c1 : (decide ((0 : Int) ≤ (at_ : Int)) && decide ((at_ : Int) ≤ IntKind.wrap .i64 ((l.length : Int) - 1))) = true := by
      rw [w64 (by omega) (by omega)]; simp; omega
    simp only [cond_true, within_eq, c1, Option.bind_some, Bool.not_true, cond_false, rdL_nat, h1]
    by_cases h12 : n.1 = 12
    · simp only [bneF h12, cond_false]
      have ha1 : IntKind.wrap .i64 ((at_ : Int) + 1) = ((at_ + 1 : Nat) : Int) := by rw [w64 (by omega) (by omega)]; omega
      rw [ha1]
      obtain ⟨v, g1, g2, g3⟩ := findLoop k hk h d (by omega) n at_ h1 id nx hnx _ _ 0 k 0 h3 (by omega) (by omega) (by omega) (by omega)
      refine ⟨v, g1, g2, ?_⟩
      rcases g3 with g | ⟨q, q1, q2, q3, _⟩
      · exact .inl g
      · exact .inr ⟨q, q1, by omega, by omega⟩
    · simp only [bneT h12, cond_true]
      exact ⟨_, rfl, rfl, .inl rfl⟩

theorem text_eq (hk : 2000 ≤ k) (h : TreeFacts l af) (at_ : Nat) (hat : at_ < l.length) (id : Int) :
    ∃ s b n, spec_l4TextOf k l (at_ : Int) id = some (s, b) ∧ impl_tree_part k (at_ : Int) id 8 (true, tB l) af = some ((n, b), (tB l, af)) ∧ n.2.2.2.1 = s ∧ s.size ≤ 300 := by
  obtain ⟨v, g1, g2, g3⟩ := find_eq k hk h at_ hat id
  unfold spec_l4TextOf impl_tree_part
  simp only [g1, g2, Option.bind_some]
  rcases g3 with rfl | ⟨q, rfl, q1, q2⟩
  · simp only [show decide ((-1 : Int) < 0) = true from rfl, cond_true, Option.bind_some]
    exact ⟨_, _, _, rfl, rfl, rfl, by decide⟩
  · obtain ⟨d, nx, hd, hs, hnx⟩ := h.at q2
    obtain ⟨n, n1, n2, n3⟩ := Sub_node hs
    simp only [decide_eq_false (show ¬ (q : Int) < 0 by omega), cond_false, rdL_nat, n1, Option.bind_some]
    by_cases h8 : n.1 = 8
    · simp only [bneF h8, cond_false]
      refine ⟨_, _, _, rfl, rfl, rfl, ?_⟩
      unfold nok at n2
      rw [h8] at n2
      simp only [reduceIte, if_neg (show ¬ ((8 : Int) = 5) by decide), if_neg (show ¬ ((8 : Int) = 6) by decide), Bool.and_eq_true, beq_iff_eq, decide_eq_true_eq] at n2
      omega
    · simp only [bneT h8, cond_true]
      exact ⟨_, _, _, rfl, rfl, rfl, by decide⟩

theorem num_eq (hk : 2000 ≤ k) (h : TreeFacts l af) (at_ : Nat) (hat : at_ < l.length) (id : Int) :
    ∃ v b, spec_l4NumOf k l (at_ : Int) id = some (v, b) ∧ impl_tree_num k (at_ : Int) id (true, tB l) af = some ((v, b), (tB l, af)) ∧ I64 v ∧ (∃ w, spec_l4Find k l (at_ : Int) id = some w ∧ (b = true → 0 ≤ w)) := by
  obtain ⟨v, g1, g2, g3⟩ := find_eq k hk h at_ hat id
  unfold spec_l4NumOf impl_tree_num
  simp only [g1, g2, Option.bind_some]
  have z : I64 0 := ⟨by omega, by omega⟩
  rcases g3 with rfl | ⟨q, rfl, q1, q2⟩
  · simp only [show decide ((-1 : Int) < 0) = true from rfl, cond_true, Option.bind_some]
    exact ⟨_, _, rfl, rfl, z, -1, rfl, fun h => by cases h⟩
  · obtain ⟨d, nx, hd, hs, hnx⟩ := h.at q2
    obtain ⟨n, n1, n2, n3⟩ := Sub_node hs
    have hw := h.wf n (List.mem_of_getElem? n1)
    simp only [decide_eq_false (show ¬ (q : Int) < 0 by omega), cond_false, rdL_nat, n1, Option.bind_some, csf]
    by_cases hb : (n.1 != 5 && n.1 != 6) = true
    · simp only [hb, cond_true]
      exact ⟨_, _, rfl, rfl, z, q, rfl, fun h => by cases h⟩
    · simp only [Bool.eq_false_iff.2 hb, cond_false]
      exact ⟨_, _, rfl, rfl, hw.2.2.1, q, rfl, fun _ => by omega⟩

theorem col_eq (hk : 2000 ≤ k) (h : TreeFacts l af) (at_ : Nat) (hat : at_ < l.length) (root : Bool) :
    ∃ x x' b, spec_l5Col k l (at_ : Int) root = some (x', b) ∧ impl_tree_col k (at_ : Int) root (true, tB l) af = some ((x, b), (tB l, af)) ∧ (b = true → x = x') ∧ x'.1.size ≤ 300 ∧ I64 x'.2.2.2.1 := by
  obtain ⟨s4, b4, n4, t1, t2, t3, t4⟩ := text_eq k hk h at_ hat 4
  obtain ⟨v1, b1, u1, u2, u3, w1, u4, u5⟩ := num_eq k hk h at_ hat 1
  obtain ⟨v3, b3, y1, y2, y3, w3, y4, y5⟩ := num_eq k hk h at_ hat 3
  obtain ⟨v5, b5, z1, z2, z3, w5, z4, z5⟩ := num_eq k hk h at_ hat 5
  obtain ⟨f1, a1, a2, a3⟩ := find_eq k hk h at_ hat 1
  obtain ⟨f5, e1, e2, e3⟩ := find_eq k hk h at_ hat 5
  obtain rfl : f1 = w1 := by rw [a1] at u4; exact Option.some.inj u4
  obtain rfl : f5 = w5 := by rw [e1] at z4; exact Option.some.inj z4
  have z : I64 0 := ⟨by omega, by omega⟩
  -- behind the reading
  have fin : ∀ (o100 o100' : TCol) (rep : Int) (has : Bool), ∃ x x' b, spec_l5Col.c9 k l (at_ : Int) b4 b1 v5 b5 has o100 (s4, v1, rep, 0, ()) = some (x', b) ∧
      impl_tree_col.c8 k (at_ : Int) b4 has b1 v5 b5 (tB l) af o100' (s4, v1, rep, 0, ()) = some ((x, b), (tB l, af)) ∧ (b = true → x = x') ∧ x'.1.size ≤ 300 ∧ I64 x'.2.2.2.1 := by
    intro o100 o100' rep has
    unfold spec_l5Col.c9 spec_l5Col.c12 impl_tree_col.c8 impl_tree_col.c11
    simp only [a1, e1, e2, a2, Option.bind_some, csf, cst]
    by_cases h5 : f5 ≥ 0
    · have hf5 : decide (f5 < 0) = false := decide_eq_false (by omega)
      simp only [decide_eq_true h5, cond_true, hf5]
      cases b5 with
      | true =>
        cases b1 with
        | true =>
          have : ¬ f1 < 0 := by have := u5 rfl; omega
          simp only [cond_true, cond_false, Bool.not_true, Option.bind_some, decide_eq_false this]
          cases b4 <;> cases has <;> exact ⟨_, _, _, rfl, rfl, (fun h => by cases h), t4, z⟩
        | false =>
          simp only [cond_true, cond_false, Bool.not_false, Option.bind_some]
          cases b4 <;> cases has <;> cases (decide (f1 < 0)) <;> exact ⟨_, _, _, rfl, rfl, fun _ => rfl, t4, z3⟩
      | false =>
        cases b1 with
        | true =>
          simp only [cond_true, cond_false, Bool.not_true, Option.bind_some]
          cases b4 <;> cases has <;> exact ⟨_, _, _, rfl, rfl, (fun h => by cases h), t4, z⟩
        | false =>
          simp only [cond_true, cond_false, Bool.not_false, Option.bind_some]
          cases b4 <;> cases has <;> cases (decide (f1 < 0)) <;> exact ⟨_, _, _, rfl, rfl, (fun h => by cases h), t4, z3⟩
    · have hf5 : decide (f5 < 0) = true := decide_eq_true (by omega)
      have hb5 : b5 = false := by
        cases b5 with
        | false => rfl
        | true => have := z5 rfl; omega
      subst hb5
      simp only [decide_eq_false h5, cond_false, hf5]
      cases b1 with
      | true =>
        simp only [cond_true, cond_false, Bool.not_true, Option.bind_some]
        cases b4 <;> cases has <;> exact ⟨_, _, _, rfl, rfl, fun _ => rfl, t4, z⟩
      | false =>
        simp only [cond_true, cond_false, Bool.not_false, Option.bind_some]
        cases b4 <;> cases has <;> exact ⟨_, _, _, rfl, rfl, (fun h => by cases h), t4, z3⟩
  unfold spec_l5Col impl_tree_col
  simp only [t1, t2, u1, u2, y1, y2, z1, z2, Option.bind_some, t3]
  cases root with
  | true => simp only [cond_true]; exact fin _ _ 0 true
  | false => simp only [cond_false]; exact fin _ _ v3 b3

/-! ### all cols -/
def chainL (af : List Int) : Nat → Nat → List Int
  | 0, _ => []
  | c + 1, pos => (pos : Int) :: chainL af c ((af[pos]?).getD 0).toNat

theorem chainL_len : ∀ (c pos : Nat), (chainL af c pos).length = c
  | 0, _ => rfl
  | c + 1, pos => by simp [chainL, chainL_len c]

theorem partsLoop (hlen : l.length ≤ 1500) (d : Nat) (n : TNode) (nx : Nat) (hnx : nx ≤ l.length) : ∀ (c pos : Nat) (last : Int) (f : Nat) (M i : Int) (acc : List Int), PartsR (Sub l af d) l n c pos last nx → c < f → M - i = c → 0 ≤ i → M ≤ 2000 → acc.length + c ≤ 4000 →
    impl_tree_parts.l7 k f (pos : Int) M i (tB l) af acc = some (((), true), (tB l, af, acc ++ chainL af c pos)) := by
  intro c
  induction c with
  | zero =>
    intro pos last f M i acc hp hf hi hi0 hi2 ha
    obtain ⟨f, rfl⟩ : ∃ j, f = j + 1 := ⟨f - 1, by omega⟩
    simp only [impl_tree_parts.l7, decide_eq_false (show ¬ i < M by omega), cond_false, chainL, List.append_nil]
  | succ c ihc =>
    intro pos last f M i acc ⟨p, mid, hp1, _, _, hs, hp⟩ hf hi hi0 hi2 ha
    obtain ⟨f, rfl⟩ : ∃ j, f = j + 1 := ⟨f - 1, by omega⟩
    have hc := PartsR_cnt (Sub_lt d) _ _ _ _ hp
    have hlt := Sub_lt _ _ _ hs
    obtain ⟨_, _, _, haf⟩ := Sub_node hs
    simp only [impl_tree_parts.l7, decide_eq_true (show i < M by omega), cond_true, rdL_nat, haf, Option.bind_some]
    rw [lim_ok (by simp; omega), cond_true, w64 (by omega) (by omega)]
    rw [ihc mid _ f M (i + 1) _ hp (by omega) (by omega) (by omega) (by omega) (by simp; omega)]
    simp [chainL, haf]

def Small (k : Nat) (c : TCol) : Prop := c.1.size < k ∧ c.1.size < 1000000000 ∧ I64 c.2.2.2.1

theorem schema_all {s : List TCol} (h : IsSchema s) : ∀ c, c ∈ s → colOk c = true := by
  intro c hc
  obtain ⟨i, hi, rfl⟩ := List.mem_iff_getElem.1 hc
  obtain ⟨c', h1, h2, _⟩ := SubC_all 6 0 s.length h.2.2.1 i (Nat.zero_le _) hi
  rw [List.getElem?_eq_getElem hi] at h1
  rw [Option.some.inj h1]
  exact h2

theorem specBad (hk : 2000 ≤ k) (h : TreeFacts l af) (d : Nat) (hd : d ≤ 12) (n : TNode) (q : Nat) (hn : l[q]? = some n) (nx : Nat) (hnx : nx ≤ l.length) : ∀ (c pos : Nat) (last : Int) (f : Nat) (i : Int) (out : List TCol), PartsR (Sub l af d) l n c pos last nx → c < f → n.2.2.2.2.1 - i = c → 0 ≤ i → n.2.2.2.2.1 ≤ 2000 →
    (∀ x, x ∈ out → Small k x) → (∃ x, x ∈ out ∧ colOk x = false) → out.length + c ≤ 4000 → spec_l5Of.l8 k f l (q : Int) (pos : Int) i [] out = some (((), false), []) := by
  intro c
  induction c with
  | zero =>
    intro pos last f i out hp hf hi hi0 hi2 hsm ⟨x, hx1, hx2⟩ ho
    obtain ⟨f, rfl⟩ : ∃ j, f = j + 1 := ⟨f - 1, by omega⟩
    obtain ⟨b, g1, _, g3⟩ := schemaOk_eq k (by omega) out hsm
    have hb : b = false := by
      cases b with
      | false => rfl
      | true =>
        have := schema_all (g3 rfl).1 x hx1
        rw [hx2] at this; cases this
    subst hb
    simp only [spec_l5Of.l8, rdL_nat, hn, Option.bind_some, decide_eq_false (show ¬ i < n.2.2.2.2.1 by omega), cond_false, g1, Bool.not_false, cond_true]
  | succ c ihc =>
    intro pos last f i out ⟨p, mid, hp1, _, _, hs, hp⟩ hf hi hi0 hi2 hsm hbad ho
    obtain ⟨f, rfl⟩ : ∃ j, f = j + 1 := ⟨f - 1, by omega⟩
    have hc := PartsR_cnt (Sub_lt d) _ _ _ _ hp
    have hlt := Sub_lt _ _ _ hs
    obtain ⟨x, x', b, g1, g2, g3, g4, g5⟩ := col_eq k hk h pos (by omega) (i == 0)
    simp only [spec_l5Of.l8, rdL_nat, hn, Option.bind_some, decide_eq_true (show i < n.2.2.2.2.1 by omega), cond_true, g1]
    cases b with
    | false => simp only [Bool.not_false, cond_true]
    | true =>
      simp only [Bool.not_true, cond_false]
      rw [lim_ok (by simp; omega), cond_true]
      simp only [h.after k hk hd hs (by omega), Option.bind_some]
      rw [w64 (by omega) (by omega)]
      obtain ⟨y, hy1, hy2⟩ := hbad
      refine ihc mid _ f (i + 1) _ hp (by omega) (by omega) (by omega) (by omega) (fun z hz => ?_) ⟨y, List.mem_append.2 (.inl hy1), hy2⟩ (by simp; omega)
      rcases List.mem_append.1 hz with hz | hz
      · exact hsm z hz
      · simp at hz; subst hz; exact ⟨by omega, by omega, g5⟩

def OkSchema (k : Nat) (r : List TCol) : Prop := IsSchema r ∧ spec_SchemaOk k r = some true ∧ impl_SchemaOk k r = some true ∧ ∀ c, c ∈ r → Small k c

theorem schemaLoop (hk : 2000 ≤ k) (h : TreeFacts l af) (d : Nat) (hd : d ≤ 12) (n : TNode) (q : Nat) (hn : l[q]? = some n) (nx : Nat) (hnx : nx ≤ l.length) (places : List Int) : ∀ (c pos : Nat) (last : Int) (f f' j : Nat) (out : List TCol), PartsR (Sub l af d) l n c pos last nx → c < f → c < f' → n.2.2.2.2.1 - j = c → n.2.2.2.2.1 ≤ 2000 →
    places.drop j = chainL af c pos → (places.length : Int) = n.2.2.2.2.1 → (∀ x, x ∈ out → Small k x) → out.length + c ≤ 4000 →
    ∃ b r, spec_l5Of.l8 k f l (q : Int) (pos : Int) (j : Int) [] out = some (((), b), r) ∧ impl_tree_schema.l6 k f' (places.length : Int) (j : Int) (tB l) af out places = some (((), b), (tB l, af, r)) ∧ (b = true → OkSchema k r) ∧ (b = false → r = []) := by
  intro c
  induction c with
  | zero =>
    intro pos last f f' j out hp hf hf' hi hi2 hpl hplen hsm ho
    obtain ⟨f, rfl⟩ : ∃ j, f = j + 1 := ⟨f - 1, by omega⟩
    obtain ⟨f', rfl⟩ : ∃ j, f' = j + 1 := ⟨f' - 1, by omega⟩
    obtain ⟨b, g1, g2, g3⟩ := schemaOk_eq k (by omega) out hsm
    simp only [spec_l5Of.l8, impl_tree_schema.l6, rdL_nat, hn, Option.bind_some, hplen, decide_eq_false (show ¬ (j : Int) < n.2.2.2.2.1 by omega), cond_false, g1, g2]
    cases b with
    | false => exact ⟨_, _, rfl, rfl, fun h => (by cases h), fun _ => rfl⟩
    | true => exact ⟨_, _, rfl, rfl, fun _ => ⟨(g3 rfl).1, g1, g2, hsm⟩, fun h => (by cases h)⟩
  | succ c ihc =>
    intro pos last f f' j out ⟨p, mid, hp1, _, _, hs, hp⟩ hf hf' hi hi2 hpl hplen hsm ho
    obtain ⟨f, rfl⟩ : ∃ j, f = j + 1 := ⟨f - 1, by omega⟩
    obtain ⟨f', rfl⟩ : ∃ j, f' = j + 1 := ⟨f' - 1, by omega⟩
    have hc := PartsR_cnt (Sub_lt d) _ _ _ _ hp
    have hlt := Sub_lt _ _ _ hs
    obtain ⟨_, _, _, haf⟩ := Sub_node hs
    have hch : chainL af (c + 1) pos = (pos : Int) :: chainL af c mid := by simp [chainL, haf]
    rw [hch] at hpl
    obtain ⟨d1, d2, d3⟩ := drop_get hpl
    obtain ⟨x, x', b, g1, g2, g3, g4, g5⟩ := col_eq k hk h pos (by omega) ((j : Int) == 0)
    simp only [spec_l5Of.l8, impl_tree_schema.l6, rdL_nat, hn, d1, Option.bind_some, hplen, decide_eq_true (show (j : Int) < n.2.2.2.2.1 by omega), cond_true, g1, g2, csf, cst]
    cases b with
    | false =>
      simp only [Bool.not_false, cond_true, Bool.true_or]
      exact ⟨_, _, rfl, rfl, fun h => (by cases h), fun _ => rfl⟩
    | true =>
      obtain rfl := g3 rfl
      simp only [Bool.not_true, cond_false, Bool.false_or]
      rw [lim_ok (show out.length + [x].length ≤ 4294967296 by simp; omega), cond_true]
      simp only [h.after k hk hd hs (by omega), Option.bind_some]
      rw [w64 (by omega) (by omega), show ((j : Int) + 1) = ((j + 1 : Nat) : Int) by omega]
      have hsm' : ∀ z, z ∈ out ++ [x] → Small k z := fun z hz => by
        rcases List.mem_append.1 hz with hz | hz
        · exact hsm z hz
        · simp at hz; subst hz; exact ⟨by omega, by omega, g5⟩
      by_cases hbad : (decide ((j : Int) > 0) && x.2.2.2.1 == 0 && x.2.1 == 7) = true
      · simp only [hbad, cond_true]
        have hb : x.2.2.2.1 = 0 ∧ x.2.1 = 7 := by
          simp only [Bool.and_eq_true, beq_iff_eq] at hbad
          exact ⟨hbad.1.2, hbad.2⟩
        rw [specBad k hk h d hd n q hn nx hnx c mid _ f _ _ hp (by omega) (by omega) (by omega) (by omega) hsm' ⟨x, by simp, by unfold colOk; rw [hb.1, hb.2]; rfl⟩ (by simp; omega)]
        exact ⟨_, _, rfl, rfl, fun h => (by cases h), fun _ => rfl⟩
      · simp only [Bool.eq_false_iff.2 hbad, cond_false]
        have := ihc mid _ f f' (j + 1) (out ++ [x]) hp (by omega) (by omega) (by omega) (by omega) d3 hplen hsm' (by simp; omega)
        rw [hplen] at this
        exact this

theorem of_eq (hk : 2000 ≤ k) (h : TreeFacts l af) (at_ : Nat) (hat : at_ < l.length) :
    ∃ b r, spec_l5Of k l (at_ : Int) 2 = some (((), b), r) ∧ impl_tree_schema k (at_ : Int) (true, tB l) af = some (((), b), (tB l, af, r)) ∧ (b = true → OkSchema k r) ∧ (b = false → r = []) := by
  obtain ⟨v, g1, g2, g3⟩ := find_eq k hk h at_ hat 2
  unfold spec_l5Of impl_tree_schema impl_tree_parts
  simp only [g1, g2, Option.bind_some]
  rcases g3 with rfl | ⟨q, rfl, q1, q2⟩
  · simp only [show decide ((-1 : Int) < 0) = true from rfl, cond_true, Option.bind_some, Bool.not_false]
    exact ⟨_, _, rfl, rfl, fun h => (by cases h), fun _ => rfl⟩
  · obtain ⟨d, nx, hd, hs, hnx⟩ := h.at q2
    cases d with
    | zero => exact hs.elim
    | succ d =>
      obtain ⟨n, h1, h2, h3, h4⟩ := hs
      have hm0 := nok_many h2
      have hlen := h.len
      have hc := PartsR_cnt (Sub_lt d) _ _ _ _ h3
      simp only [decide_eq_false (show ¬ (q : Int) < 0 by omega), cond_false, rdL_nat, h1, Option.bind_some]
      by_cases h9 : n.1 = 9
      · simp only [bneF h9, cond_false, Option.bind_some, csf]
        have hnok : (n.2.2.2.2.1 = 0 ∧ n.2.2.1 = 0) ∨ 0 < n.2.2.2.2.1 := by
          unfold nok at h2
          rw [h9] at h2
          simp only [reduceIte, if_neg (show ¬ ((9 : Int) = 5) by decide), if_neg (show ¬ ((9 : Int) = 6) by decide), if_neg (show ¬ ((9 : Int) = 8) by decide), Bool.and_eq_true, Bool.or_eq_true, beq_iff_eq, decide_eq_true_eq] at h2
          exact h2.2.imp id fun h => h.1
        have ha1 : IntKind.wrap .i64 ((q : Int) + 1) = ((q + 1 : Nat) : Int) := by rw [w64 (by omega) (by omega)]; omega
        by_cases h12 : n.2.2.1 = 12
        · simp only [bneF h12, cond_false, Bool.and_false, ha1]
          rw [partsLoop k hlen d n nx hnx _ _ 0 k _ 0 [] h3 (by omega) (by omega) (by omega) (by omega) (by simp; omega)]
          simp only [Option.bind_some, Bool.not_true, cond_false, List.nil_append]
          exact schemaLoop k hk h d (by omega) n q h1 nx hnx (chainL af n.2.2.2.2.1.toNat (q + 1)) _ _ 0 k k 0 [] h3 (by omega) (by omega) (by omega) (by omega) rfl (by rw [chainL_len]; omega) (fun x hx => (List.not_mem_nil hx).elim) (by simp; omega)
        · simp only [bneT h12, cond_true, Bool.and_true]
          rcases hnok with ⟨hz, _⟩ | hpos
          · obtain ⟨K, rfl⟩ : ∃ j, k = j + 1 := ⟨k - 1, by omega⟩
            have hso : impl_SchemaOk (K + 1) [] = some false := rfl
            rw [hz]
            simp only [show decide ((0 : Int) > 0) = false from rfl, cond_false, impl_tree_parts.l7, show decide ((0 : Int) < 0) = false from rfl, Option.bind_some, Bool.not_true, List.length_nil, impl_tree_schema.l6, show decide ((((0 : Nat) : Int)) > (((0 : Nat) : Int))) = false from rfl]
            refine ⟨_, _, rfl, ?_, fun h => (by cases h), fun _ => rfl⟩
            simp only [show decide ((0 : Int) < ((0 : Nat) : Int)) = false from rfl, cond_false, hso, Option.bind_some, Bool.not_false, cond_true]
          · simp only [decide_eq_true (show n.2.2.2.2.1 > 0 from hpos), cond_true, Bool.not_false]
            exact ⟨_, _, rfl, rfl, fun h => (by cases h), fun _ => rfl⟩
      · simp only [bneT h9, cond_true, Option.bind_some, Bool.not_false]
        exact ⟨_, _, rfl, rfl, fun h => (by cases h), fun _ => rfl⟩
end
end Go.Law
end

section
/- Trees: what is looked up in them, by both. -/
set_option linter.unusedVariables false
set_option linter.unusedSimpArgs false
namespace Go.Law
open Go.Am Go.Fn

def fV (k : Nat) (l : List TNode) (a id : Int) : Int := (spec_l4Find k l a id).getD (-1)
def nV (k : Nat) (l : List TNode) (a id : Int) : Int × Bool := (spec_l4NumOf k l a id).getD (0, false)
def pV (k : Nat) (l : List TNode) (a id kind : Int) : Bool × List Int := ((spec_l18List k l a id kind).map fun r => (r.1.2, r.2)).getD (false, [])

section
variable (k : Nat) (hk : 2000 ≤ k) {l : List TNode} {af : List Int} (h : TreeFacts l af)
include hk h

theorem find_val (a : Nat) (ha : a < l.length) (id : Int) : spec_l4Find k l (a : Int) id = some (fV k l a id) ∧ impl_tree_find k (a : Int) id (true, tB l) af = some (fV k l a id, (tB l, af)) ∧ (fV k l a id = -1 ∨ ∃ q : Nat, fV k l a id = q ∧ a < q ∧ q < l.length) := by
  obtain ⟨v, h1, h2, h3⟩ := find_eq k hk h a ha id
  have : fV k l a id = v := by unfold fV; rw [h1]; rfl
  rw [this]
  exact ⟨h1, h2, h3⟩

theorem num_val (a : Nat) (ha : a < l.length) (id : Int) : spec_l4NumOf k l (a : Int) id = some (nV k l a id) ∧ impl_tree_num k (a : Int) id (true, tB l) af = some (nV k l a id, (tB l, af)) ∧ I64 (nV k l a id).1 ∧ ((nV k l a id).2 = true → 0 ≤ fV k l a id) := by
  obtain ⟨v, b, h1, h2, h3, w, h4, h5⟩ := num_eq k hk h a ha id
  have e : nV k l a id = (v, b) := by unfold nV; rw [h1]; rfl
  have e2 : fV k l a id = w := by unfold fV; rw [h4]; rfl
  rw [e, e2]
  exact ⟨h1, h2, h3, h5⟩

theorem chainL_mem (d : Nat) (n : TNode) : ∀ (c pos : Nat) (last : Int) (nx : Nat), PartsR (Sub l af d) l n c pos last nx → nx ≤ l.length → ∀ p, p ∈ chainL af c pos → 0 ≤ p ∧ p < (l.length : Int) := by
  intro c
  induction c with
  | zero => intro pos last nx _ _ p hp; cases hp
  | succ c ih =>
    intro pos last nx ⟨q, mid, hq, _, _, hs, hp⟩ hnx p hpm
    obtain ⟨_, _, _, haf⟩ := Sub_node hs
    have hlt := Sub_lt _ _ _ hs
    have hc := PartsR_cnt (Sub_lt d) _ _ _ _ hp
    simp only [chainL, haf, Option.getD_some, Int.toNat_natCast, List.mem_cons] at hpm
    rcases hpm with rfl | hpm
    · omega
    · exact ih mid _ nx hp hnx p hpm

theorem sparts18 (d : Nat) (hd : d ≤ 12) (n : TNode) (q : Nat) (hn : l[q]? = some n) (nx : Nat) (hnx : nx ≤ l.length) : ∀ (c pos : Nat) (last : Int) (f : Nat) (i : Int) (acc : List Int), PartsR (Sub l af d) l n c pos last nx → c < f → n.2.2.2.2.1 - i = c → 0 ≤ i → n.2.2.2.2.1 ≤ 2000 → acc.length + c ≤ 4000 →
    spec_l18List.l7 k f l (q : Int) (pos : Int) i acc = some (((), true), acc ++ chainL af c pos) := by
  intro c
  induction c with
  | zero =>
    intro pos last f i acc hp hf hi hi0 hi2 ha
    obtain ⟨f, rfl⟩ : ∃ j, f = j + 1 := ⟨f - 1, by omega⟩
    simp only [spec_l18List.l7, rdL_nat, hn, Option.bind_some, decide_eq_false (show ¬ i < n.2.2.2.2.1 by omega), cond_false, chainL, List.append_nil]
  | succ c ihc =>
    intro pos last f i acc ⟨p, mid, hp1, _, _, hs, hp⟩ hf hi hi0 hi2 ha
    obtain ⟨f, rfl⟩ : ∃ j, f = j + 1 := ⟨f - 1, by omega⟩
    have hc := PartsR_cnt (Sub_lt d) _ _ _ _ hp
    have hlt := Sub_lt _ _ _ hs
    obtain ⟨_, _, _, haf⟩ := Sub_node hs
    simp only [spec_l18List.l7, rdL_nat, hn, Option.bind_some, decide_eq_true (show i < n.2.2.2.2.1 by omega), cond_true]
    rw [lim_ok (by simp; omega), cond_true]
    simp only [h.after k hk hd hs (by omega), Option.bind_some]
    rw [w64 (by omega) (by omega), ihc mid _ f (i + 1) _ hp (by omega) (by omega) (by omega) (by omega) (by simp; omega)]
    simp [chainL, haf]

theorem parts_val (a : Nat) (ha : a < l.length) (id kind : Int) : spec_l18List k l (a : Int) id kind = some (((), (pV k l a id kind).1), (pV k l a id kind).2) ∧ impl_tree_parts k (a : Int) id kind (true, tB l) af = some (((), (pV k l a id kind).1), (tB l, af, (pV k l a id kind).2)) ∧ (pV k l a id kind).2.length ≤ 1500 ∧ (∀ p, p ∈ (pV k l a id kind).2 → 0 ≤ p ∧ p < (l.length : Int)) := by
  obtain ⟨g1, g2, g3⟩ := find_val k hk h a ha id
  have key : ∃ b ps, spec_l18List k l (a : Int) id kind = some (((), b), ps) ∧ impl_tree_parts k (a : Int) id kind (true, tB l) af = some (((), b), (tB l, af, ps)) ∧ ps.length ≤ 1500 ∧ (∀ p, p ∈ ps → 0 ≤ p ∧ p < (l.length : Int)) := by
    have none_ok : ∀ p : Int, p ∈ ([] : List Int) → 0 ≤ p ∧ p < (l.length : Int) := fun p hp => by cases hp
    unfold spec_l18List impl_tree_parts
    simp only [g1, g2, Option.bind_some]
    rcases g3 with g3 | ⟨q, g3, q1, q2⟩
    · simp only [g3, show decide ((-1 : Int) < 0) = true from rfl, cond_true, Option.bind_some]
      exact ⟨_, _, rfl, rfl, by simp, none_ok⟩
    · rw [g3]
      obtain ⟨d, nx, hd, hs, hnx⟩ := h.at q2
      have hlen := h.len
      cases d with
      | zero => exact hs.elim
      | succ d =>
        obtain ⟨n, h1, h2, h3, h4⟩ := hs
        have hm0 := nok_many h2
        have hc := PartsR_cnt (Sub_lt d) _ _ _ _ h3
        have ha1 : IntKind.wrap .i64 ((q : Int) + 1) = ((q + 1 : Nat) : Int) := by rw [w64 (by omega) (by omega)]; omega
        simp only [decide_eq_false (show ¬ (q : Int) < 0 by omega), cond_false, rdL_nat, h1, Option.bind_some, csf, cst, ha1]
        cases ((n.1 != 9) || (decide (n.2.2.2.2.1 > 0) && (n.2.2.1 != kind))) with
        | true =>
          simp only [cond_true]
          exact ⟨_, _, rfl, rfl, by simp, none_ok⟩
        | false =>
          simp only [cond_false]
          rw [partsLoop k hlen d n nx hnx _ _ 0 k _ 0 [] h3 (by omega) (by omega) (by omega) (by omega) (by simp; omega), sparts18 k hk h d (by omega) n q h1 nx hnx _ _ 0 k 0 [] h3 (by omega) (by omega) (by omega) (by omega) (by simp; omega)]
          refine ⟨_, _, rfl, rfl, ?_, ?_⟩
          · rw [List.nil_append, chainL_len]; omega
          · rw [List.nil_append]
            exact chainL_mem k hk h d n _ _ _ nx h3 hnx
  obtain ⟨b, ps, e1, e2, e3, e4⟩ := key
  have e : pV k l a id kind = (b, ps) := by unfold pV; rw [e1]; rfl
  rw [e]
  exact ⟨e1, e2, e3, e4⟩
end

abbrev mR (b : Bool) : TMetaReader := ((), b, ())

section
variable (k : Nat) (hk : 2000 ≤ k) {l : List TNode} {af : List Int} (h : TreeFacts l af)
include hk h

theorem mnum (a : Nat) (ha : a < l.length) (id : Int) (b : Bool) : impl_metaReader_number k (a : Int) id (mR b) (tB l) af = some ((nV k l a id).1, (mR (b || !(nV k l a id).2), tB l, af)) := by
  obtain ⟨_, g, _⟩ := num_val k hk h a ha id
  unfold impl_metaReader_number impl_metaReader_number.c4
  simp only [g, Option.bind_some]
  cases (nV k l a id).2 <;> cases b <;> rfl

theorem mlist (a : Nat) (ha : a < l.length) (id kind : Int) (b : Bool) : impl_metaReader_list k (a : Int) id kind (mR b) (tB l) af = some ((), (mR (b || !(pV k l a id kind).1), tB l, af, (pV k l a id kind).2)) := by
  obtain ⟨_, g, _⟩ := parts_val k hk h a ha id kind
  unfold impl_metaReader_list impl_metaReader_list.c4
  simp only [g, Option.bind_some]
  cases (pV k l a id kind).1 <;> cases b <;> rfl
end
end Go.Law
end

section
/- Schemas: where a col ends; the leaves. -/
set_option linter.unusedVariables false
set_option linter.unusedSimpArgs false
set_option linter.unusedSectionVars false
namespace Go.Law
open Go.Am Go.Fn
variable (k : Nat)

theorem PartsC_nx {S : Nat → Nat → Prop} {s : List TCol} (hS : ∀ a b, S a b → a < b) : ∀ (c pos : Nat) (names : List ByteArray) (nx : Nat), PartsC S s c pos names nx → pos ≤ nx
  | c, pos, names, nx, h => by have := PartsC_le hS c pos names nx h; omega

section
variable (s : List TCol) (hs : s.length ≤ 20) (hn : ∀ c, c ∈ s → c.1.size < k ∧ c.1.size < 1000000000 ∧ I64 c.2.2.2.1)
include hs hn

theorem colAfter_loop (hk : 100 ≤ k) (d D deep : Nat) (hdeep : deep ≤ 6) (M : Int) (hM : M < 9223372036854775808)
    (ih : ∀ at_ nx : Nat, SubC s d at_ nx → nx ≤ s.length → impl_colAfter.rec k D s (at_ : Int) ((deep + 1 : Nat) : Int) = some (nx : Int)) :
    ∀ (c f pos : Nat) (i : Int) (names : List ByteArray) (nx : Nat), PartsC (SubC s d) s c pos names nx → c < f → M - i = c → 0 ≤ i → nx ≤ s.length → names.length ≤ pos →
      impl_colAfter.l6 k (impl_colAfter.rec k D) f s (deep : Int) (pos : Int) M i names = some (nx : Int) := by
  intro c
  induction c with
  | zero =>
    intro f pos i names nx hp hf hi h0 hnx hnm
    obtain ⟨f, rfl⟩ : ∃ m, f = m + 1 := ⟨f - 1, by omega⟩
    have hp : pos = nx := hp
    subst hp
    simp only [impl_colAfter.l6, decide_eq_false (show ¬ i < M by omega), cond_false]
  | succ c ihc =>
    intro f pos i names nx hp hf hi h0 hnx hnm
    obtain ⟨f, rfl⟩ : ∃ m, f = m + 1 := ⟨f - 1, by omega⟩
    obtain ⟨p, mid, p1, p2, p3, p4⟩ := hp
    have hlt := SubC_lt _ _ _ p3
    have hmn := PartsC_nx (SubC_lt d) _ _ _ _ p4
    have hd1 : IntKind.wrap .i64 ((deep : Int) + 1) = ((deep + 1 : Nat) : Int) := by rw [w64 (by omega) (by omega)]; omega
    have hi1 : IntKind.wrap .i64 (i + 1) = i + 1 := w64 (by omega) (by omega)
    simp only [impl_colAfter.l6, decide_eq_true (show i < M by omega), cond_true, decide_eq_false (show ¬ (pos : Int) ≥ (s.length : Int) by omega), cond_false]
    rw [show (0 : Int) = ((0 : Nat) : Int) from rfl, implNames k _ _ s _ pos M i _ p1 names (by omega) names.length k 0 (by omega) (by omega), List.drop_zero, if_neg p2, hd1, ih pos mid p3 (by omega)]
    simp only [Option.bind_some, decide_eq_false (show ¬ ((mid : Int) < 0) by omega), cond_false, hi1]
    exact ihc f mid (i + 1) (names ++ [p.1]) nx p4 (by omega) (by omega) (by omega) hnx (by simp; omega)

theorem colAfter_rec (hk : 100 ≤ k) : ∀ (d D deep at_ nx : Nat), SubC s d at_ nx → d + deep ≤ 7 → d < D → nx ≤ s.length → impl_colAfter.rec k D s (at_ : Int) (deep : Int) = some (nx : Int) := by
  intro d
  induction d with
  | zero => intro D deep at_ nx h; exact h.elim
  | succ d ih =>
    intro D deep at_ nx h hd hD hnx
    obtain ⟨D, rfl⟩ : ∃ m, D = m + 1 := ⟨D - 1, by omega⟩
    have hlt := SubC_lt _ _ _ h
    obtain ⟨c, h1, h2, h3, h4⟩ := h
    have hcm : c ∈ s := List.mem_of_getElem? h1
    obtain ⟨n1, n2, n3⟩ := hn c hcm
    have hle := PartsC_le (SubC_lt d) _ _ _ _ h4
    have ha1 : IntKind.wrap .i64 ((at_ : Int) + 1) = ((at_ + 1 : Nat) : Int) := by rw [w64 (by omega) (by omega)]; omega
    have hm0 : 0 ≤ c.2.2.2.1 := by
      unfold colOk at h2
      simp only [Bool.and_eq_true, Bool.or_eq_true, beq_iff_eq, decide_eq_true_eq] at h2
      omega
    have hname : (decide ((at_ : Int) > 0) && !nameOk c.1) = false := by
      by_cases h0 : 0 < at_
      · rw [h3 h0]; simp
      · rw [decide_eq_false (show ¬ (at_ : Int) > 0 by omega)]; rfl
    simp only [impl_colAfter.rec, impl_colAfter.b, cst, csf, decide_eq_false (show ¬ (at_ : Int) ≥ (s.length : Int) by omega), decide_eq_false (show ¬ (deep : Int) > 6 by omega), Bool.false_or, Option.bind_some, cond_false, rdL_nat, h1, colOk_eq, h2, Bool.not_true, isColName_eq k c.1 n1 n2, hname, ha1]
    have := colAfter_loop k s hs hn hk d D deep (by omega) c.2.2.2.1 n3.2 (fun a b hab hb => ih D (deep + 1) a b hab (by omega) (by omega) hb) c.2.2.2.1.toNat k (at_ + 1) 0 [] nx h4 (by omega) (by omega) (by omega) hnx (by simp)
    exact this

theorem colAfter_sub (hk : 100 ≤ k) {d at_ nx : Nat} (h : SubC s d at_ nx) (hd : d ≤ 6) (hnx : nx ≤ s.length) : impl_colAfter k s (at_ : Int) 1 = some (nx : Int) :=
  colAfter_rec k s hs hn hk d k 1 at_ nx h (by omega) (by omega) hnx

theorem l5After_rec (hk : 100 ≤ k) : ∀ (d D at_ nx : Nat), SubC s d at_ nx → d < D → nx ≤ s.length → spec_l5After.rec k D s (at_ : Int) = some (nx : Int) := by
  intro d
  induction d with
  | zero => intro D at_ nx h; exact h.elim
  | succ d ih =>
    intro D at_ nx h hD hnx
    obtain ⟨D, rfl⟩ : ∃ m, D = m + 1 := ⟨D - 1, by omega⟩
    have hlt := SubC_lt _ _ _ h
    obtain ⟨c, h1, h2, h3, h4⟩ := h
    obtain ⟨n1, n2, n3⟩ := hn c (List.mem_of_getElem? h1)
    have hle := PartsC_le (SubC_lt d) _ _ _ _ h4
    have ha1 : IntKind.wrap .i64 ((at_ : Int) + 1) = ((at_ + 1 : Nat) : Int) := by rw [w64 (by omega) (by omega)]; omega
    have hm0 : 0 ≤ c.2.2.2.1 := by
      unfold colOk at h2
      simp only [Bool.and_eq_true, Bool.or_eq_true, beq_iff_eq, decide_eq_true_eq] at h2
      omega
    have key : ∀ (m f pos : Nat) (i : Int) (names : List ByteArray), PartsC (SubC s d) s m pos names nx → m < f → c.2.2.2.1 - i = m → 0 ≤ i → spec_l5After.l3 k (spec_l5After.rec k D) f s (at_ : Int) (pos : Int) i = some (nx : Int) := by
      intro m
      induction m with
      | zero =>
        intro f pos i names hp hf hi h0
        obtain ⟨f, rfl⟩ : ∃ m, f = m + 1 := ⟨f - 1, by omega⟩
        have hp : pos = nx := hp
        subst hp
        simp only [spec_l5After.l3, rdL_nat, h1, Option.bind_some, decide_eq_false (show ¬ i < c.2.2.2.1 by omega), cond_false]
      | succ m ihm =>
        intro f pos i names hp hf hi h0
        obtain ⟨f, rfl⟩ : ∃ m, f = m + 1 := ⟨f - 1, by omega⟩
        obtain ⟨p, mid, p1, p2, p3, p4⟩ := hp
        have hmn := PartsC_nx (SubC_lt d) _ _ _ _ p4
        have hi1 : IntKind.wrap .i64 (i + 1) = i + 1 := w64 (by omega) (by obtain ⟨_, q⟩ := n3; omega)
        simp only [spec_l5After.l3, rdL_nat, h1, Option.bind_some, decide_eq_true (show i < c.2.2.2.1 by omega), cond_true, ih D pos mid p3 (by omega) (by omega), hi1]
        exact ihm f mid (i + 1) _ p4 (by omega) (by omega) (by omega)
    simp only [spec_l5After.rec, spec_l5After.b, ha1]
    exact key c.2.2.2.1.toNat k (at_ + 1) 0 [] h4 (by omega) (by omega) (by omega)

theorem l5After_sub (hk : 100 ≤ k) {d at_ nx : Nat} (h : SubC s d at_ nx) (hd : d ≤ 6) (hnx : nx ≤ s.length) : spec_l5After k s (at_ : Int) = some (nx : Int) :=
  l5After_rec k s hs hn hk d k at_ nx h (by omega) hnx
end

def leavesFrom : Nat → List TCol → List Int
  | _, [] => []
  | i, c :: r => if c.2.1 = 7 then leavesFrom (i + 1) r else (i : Int) :: leavesFrom (i + 1) r

theorem leavesFrom_len : ∀ (i : Nat) (s : List TCol), (leavesFrom i s).length ≤ s.length
  | _, [] => Nat.le_refl _
  | i, c :: r => by
    have := leavesFrom_len (i + 1) r
    simp only [leavesFrom]
    split <;> simp <;> omega

theorem leaves_loop (s : List TCol) (hs : s.length ≤ 1000) : ∀ (post pre : List TCol) (n : Nat) (o : List Int), s = pre ++ post → post.length < n → o.length ≤ pre.length →
    impl_leavesOf.l3 k n s (s.length : Int) (pre.length : Int) o = some ((), o ++ leavesFrom pre.length post) ∧ spec_l5Leaves.l3 k n s (pre.length : Int) o = some ((), o ++ leavesFrom pre.length post) := by
  intro post
  induction post with
  | nil =>
    intro pre n o hsp hn ho
    obtain ⟨n, rfl⟩ : ∃ j, n = j + 1 := ⟨n - 1, by omega⟩
    have : s = pre := by simpa using hsp
    subst this
    simp only [impl_leavesOf.l3, spec_l5Leaves.l3, decide_eq_false (show ¬ (s.length : Int) < (s.length : Int) by omega), cond_false]
    simp [leavesFrom]
  | cons x post ih =>
    intro pre n o hsp hn ho
    simp only [List.length_cons] at hn
    obtain ⟨n, rfl⟩ : ∃ j, n = j + 1 := ⟨n - 1, by omega⟩
    have hlen : s.length = pre.length + (post.length + 1) := by rw [hsp]; simp
    have hg : rdL s (pre.length : Int) = some x := by rw [hsp]; exact getMid _ _ _
    have hi1 : IntKind.wrap .i64 ((pre.length : Int) + 1) = ((pre.length + 1 : Nat) : Int) := by rw [w64 (by omega) (by omega)]; omega
    simp only [impl_leavesOf.l3, spec_l5Leaves.l3, decide_eq_true (show (pre.length : Int) < (s.length : Int) by omega), cond_true, hg, Option.bind_some, impl_leavesOf.c7, spec_l5Leaves.c4, hi1, leavesFrom]
    by_cases h7 : x.2.1 = 7
    · have hi := ih (pre ++ [x]) n o (by rw [hsp]; simp) (by omega) (by simp; omega)
      rw [List.length_append, List.length_singleton] at hi
      rw [bneF h7, cond_false, cond_false, if_pos h7]
      exact hi
    · have hi := ih (pre ++ [x]) n (o ++ [(pre.length : Int)]) (by rw [hsp]; simp) (by omega) (by simp; omega)
      rw [List.length_append, List.length_singleton, List.append_assoc, List.singleton_append] at hi
      rw [bneT h7, cond_true, cond_true, if_neg h7, lim_ok (by simp; omega), cond_true, cond_true]
      exact hi

theorem leaves_eq (hk : 2000 ≤ k) (s : List TCol) (hs : s.length ≤ 1000) : impl_leavesOf k s = some ((), leavesFrom 0 s) ∧ spec_l5Leaves k s = some ((), leavesFrom 0 s) := by
  have := leaves_loop k s hs s [] k [] rfl (by omega) (by simp)
  exact this
end Go.Law
end

section
/- Which values are right. -/
set_option linter.unusedVariables false
set_option linter.unusedSimpArgs false
namespace Go.Law
open Go.Am Go.Fn
variable (k : Nat)

def vok (t : Int) (v : TVal) : Bool :=
  if t = 0 then (decide (0 ≤ v.1) && decide (v.1 ≤ 1)) && eqS v.2.1 ⟨#[]⟩
  else if t = 1 then (decide (-2147483648 ≤ v.1) && decide (v.1 ≤ 2147483647)) && eqS v.2.1 ⟨#[]⟩
  else if t = 2 ∨ t = 5 then eqS v.2.1 ⟨#[]⟩
  else if t = 6 then v.1 == 0 && decide ((v.2.1.size : Int) ≤ 40)
  else false

end Go.Law
end

section
/- Going through a record: what is come to, in plain Lean. -/
set_option linter.unusedVariables false
set_option linter.unusedSimpArgs false
set_option linter.unusedSectionVars false
namespace Go.Law
open Go.Am Go.Fn

structure Ev where
  at_ : Nat
  leaf : Bool
  rep : Int
  def_ : Int
  v : TVal

def zv : TVal := (0, ⟨#[]⟩, ())

def cbad (v : TVal) (most : Int) : Bool := !eqS v.2.1 ⟨#[]⟩ || !(decide (0 ≤ v.1) && decide (v.1 ≤ most))
theorem cbad_false {v : TVal} {most : Int} (h : cbad v most = false) : 0 ≤ v.1 ∧ v.1 ≤ most := by
  unfold cbad at h
  simp only [Bool.or_eq_false_iff, Bool.not_eq_false', Bool.and_eq_true, decide_eq_true_eq] at h
  exact h.2
abbrev EvR := Option (List Ev × List TVal)

def evPair (a : EvR) (f : List TVal → EvR) : EvR :=
  match a with
  | none => none
  | some (x, V) => match f V with
    | none => none
    | some (y, W) => some (x ++ y, W)

def evParts (F : Nat → List TVal → EvR) (e : Nat → Nat) : Nat → Nat → List TVal → EvR
  | 0, _, V => some ([], V)
  | m + 1, a, V => evPair (F a V) (evParts F e m (e a))

def evItems (F : List TVal → EvR) : Nat → List TVal → EvR
  | 0, V => some ([], V)
  | m + 1, V => evPair (F V) (evItems F m)

def iter (f : Nat → Nat) : Nat → Nat → Nat
  | 0, a => a
  | n + 1, a => iter f n (f a)

def endC (s : List TCol) : Nat → Nat → Nat
  | 0, a => a
  | d + 1, a => match s[a]? with
    | none => a + 1
    | some c => iter (endC s d) c.2.2.2.1.toNat (a + 1)

theorem endC_parts {s : List TCol} {S : Nat → Nat → Prop} {e : Nat → Nat} (h : ∀ a b, S a b → e a = b) : ∀ (m a : Nat) (names : List ByteArray) (nx : Nat), PartsC S s m a names nx → iter e m a = nx
  | 0, a, _, nx, hp => hp
  | m + 1, a, names, nx, ⟨p, mid, _, _, h3, h4⟩ => by
    show iter e m (e a) = nx
    rw [h a mid h3]
    exact endC_parts h m mid _ nx h4

theorem endC_eq {s : List TCol} : ∀ (d : Nat) {a b : Nat}, SubC s d a b → ∀ d', d ≤ d' → endC s d' a = b
  | 0, _, _, h, _, _ => h.elim
  | d + 1, a, b, ⟨c, h1, _, _, h2⟩, d', hd => by
    obtain ⟨d', rfl⟩ : ∃ q, d' = q + 1 := ⟨d' - 1, by omega⟩
    simp only [endC, h1]
    exact endC_parts (S := SubC s d) (fun x y hxy => endC_eq d hxy d' (by omega)) _ _ _ _ h2

def miss (s : List TCol) (rep def_ : Int) : Nat → Nat → List Ev
  | 0, _ => []
  | n + 1, i => (match s[i]? with
    | none => []
    | some c => if c.2.1 = 7 then [] else [⟨i, false, rep, def_, zv⟩]) ++ miss s rep def_ n (i + 1)

def evPart (s : List TCol) (C : Int → Int → Int → List TVal → EvR) (e a : Nat) (rep def_ deep : Int) (V : List TVal) : EvR :=
  match s[a]? with
  | none => none
  | some c =>
    if c.2.2.1 = 0 then C rep def_ deep V
    else match V with
      | [] => none
      | v :: V =>
        if c.2.2.1 = 2 then
          if cbad v 20 = true then none
          else if v.1 = 0 then some (miss s rep def_ (e - a) a, V)
          else evPair (C rep (def_ + 1) (deep + 1) V) (evItems (C (deep + 1) (def_ + 1) (deep + 1)) (v.1.toNat - 1))
        else
          if cbad v 1 = true then none
          else if v.1 = 0 then some (miss s rep def_ (e - a) a, V)
          else C rep (def_ + 1) deep V

def evC (s : List TCol) : Nat → Nat → Int → Int → Int → List TVal → EvR
  | 0, _, _, _, _, _ => none
  | d + 1, a, rep, def_, deep, V => match s[a]? with
    | none => none
    | some c =>
      if c.2.1 = 7 then evParts (fun a V => evPart s (evC s d a) (endC s d a) a rep def_ deep V) (endC s d) c.2.2.2.1.toNat (a + 1) V
      else match V with
        | [] => none
        | v :: V => if vok c.2.1 v = true then some ([⟨a, true, rep, def_, v⟩], V) else none

/-! ### how much is told -/
def EvG (V : List TVal) (r : EvR) : Prop := ∀ X W, r = some (X, W) → W.length ≤ V.length ∧ X.length + 20 * W.length ≤ 20 * V.length ∧ W = V.drop (V.length - W.length)

theorem evPair_some {a : EvR} {f : List TVal → EvR} {X : List Ev} {W : List TVal} (h : evPair a f = some (X, W)) : ∃ x y V, a = some (x, V) ∧ f V = some (y, W) ∧ X = x ++ y := by
  unfold evPair at h
  split at h
  · cases h
  · rename_i x V
    split at h
    · cases h
    · rename_i y W' hf
      simp only [Option.some.injEq, Prod.mk.injEq] at h
      obtain ⟨rfl, rfl⟩ := h
      exact ⟨x, y, V, rfl, hf, rfl⟩

theorem EvG.pair {V : List TVal} {a : EvR} {f : List TVal → EvR} (h : EvG V a) (k : ∀ W, EvG W (f W)) : EvG V (evPair a f) := by
  intro X W hr
  obtain ⟨x, y, U, h1, h2, rfl⟩ := evPair_some hr
  obtain ⟨a1, a2, a3⟩ := h _ _ h1
  obtain ⟨b1, b2, b3⟩ := k U _ _ h2
  refine ⟨by omega, by simp; omega, ?_⟩
  rw [b3, a3, List.drop_drop]
  congr 1
  simp only [List.length_drop]
  omega

theorem EvG.nil (V : List TVal) : EvG V (some ([], V)) := by
  intro X W h
  simp only [Option.some.injEq, Prod.mk.injEq] at h
  obtain ⟨rfl, rfl⟩ := h
  exact ⟨Nat.le_refl _, by simp, by simp⟩

theorem EvG.parts {F : Nat → List TVal → EvR} {e : Nat → Nat} (h : ∀ a V, EvG V (F a V)) : ∀ (m a : Nat) (V : List TVal), EvG V (evParts F e m a V)
  | 0, _, V => EvG.nil V
  | m + 1, a, V => (h a V).pair (EvG.parts h m (e a))

theorem EvG.items {F : List TVal → EvR} (h : ∀ V, EvG V (F V)) : ∀ (m : Nat) (V : List TVal), EvG V (evItems F m V)
  | 0, V => EvG.nil V
  | m + 1, V => (h V).pair (EvG.items h m)

theorem miss_len (s : List TCol) (rep def_ : Int) : ∀ (n i : Nat), i + (miss s rep def_ n i).length ≤ max i s.length
  | 0, i => by simp only [miss, List.length_nil]; omega
  | n + 1, i => by
    have := miss_len s rep def_ n (i + 1)
    simp only [miss, List.length_append]
    cases h : s[i]? with
    | none =>
      have hl : s.length ≤ i := List.getElem?_eq_none_iff.1 h
      simp only [List.length_nil]
      omega
    | some c =>
      have hl : i < s.length := (List.getElem?_eq_some_iff.1 h).1
      simp only
      split <;> simp <;> omega

theorem EvG.part {s : List TCol} (hs : s.length ≤ 20) {C : Int → Int → Int → List TVal → EvR} (h : ∀ r d p V, EvG V (C r d p V)) (e a : Nat) (rep def_ deep : Int) (V : List TVal) : EvG V (evPart s C e a rep def_ deep V) := by
  intro X W hr
  unfold evPart at hr
  have hm : ∀ n, (miss s rep def_ n a).length ≤ 20 := fun n => by
    have := miss_len s rep def_ n a
    rcases Nat.lt_or_ge a s.length with h1 | h1
    · omega
    · have : (miss s rep def_ n a).length = 0 := by omega
      omega
  split at hr
  · cases hr
  · rename_i c hc
    split at hr
    · exact h _ _ _ _ _ _ hr
    · split at hr
      · cases hr
      · rename_i v V
        have lift : ∀ r : EvR, EvG V r → r = some (X, W) → W.length ≤ (v :: V).length ∧ X.length + 20 * W.length ≤ 20 * (v :: V).length ∧ W = (v :: V).drop ((v :: V).length - W.length) := by
          intro r hg hr
          obtain ⟨g1, g2, g3⟩ := hg _ _ hr
          refine ⟨by simp; omega, by simp; omega, ?_⟩
          rw [List.length_cons, show V.length + 1 - W.length = (V.length - W.length) + 1 by omega, List.drop_succ_cons]
          exact g3
        have ms : some (miss s rep def_ (e - a) a, V) = some (X, W) → W.length ≤ (v :: V).length ∧ X.length + 20 * W.length ≤ 20 * (v :: V).length ∧ W = (v :: V).drop ((v :: V).length - W.length) := by
          intro hr
          simp only [Option.some.injEq, Prod.mk.injEq] at hr
          obtain ⟨rfl, rfl⟩ := hr
          have := hm (e - a)
          refine ⟨by simp, by simp; omega, by simp⟩
        split at hr
        · split at hr
          · cases hr
          · split at hr
            · exact ms hr
            · exact lift _ ((h _ _ _ _).pair (EvG.items (h _ _ _) _)) hr
        · split at hr
          · cases hr
          · split at hr
            · exact ms hr
            · exact lift _ (h _ _ _ _) hr

theorem evC_G {s : List TCol} (hs : s.length ≤ 20) : ∀ (d a : Nat) (rep def_ deep : Int) (V : List TVal), EvG V (evC s d a rep def_ deep V)
  | 0, _, _, _, _, _ => fun X W h => by cases h
  | d + 1, a, rep, def_, deep, V => by
    intro X W h
    simp only [evC] at h
    split at h
    · cases h
    · split at h
      · exact EvG.parts (fun a V => EvG.part hs (fun r d p V => evC_G hs _ a r d p V) _ a rep def_ deep V) _ _ _ _ _ h
      · split at h
        · cases h
        · split at h
          · simp only [Option.some.injEq, Prod.mk.injEq] at h
            obtain ⟨rfl, rfl⟩ := h
            refine ⟨by simp, by simp; omega, by simp⟩
          · cases h

end Go.Law
end

section
/- The reference goes through a record: whether it is one. -/
set_option linter.unusedVariables false
set_option linter.unusedSimpArgs false
set_option linter.unusedSectionVars false
namespace Go.Law
open Go.Am Go.Fn

/-! ### what is left does not hang on the levels -/
def rst (r : EvR) : Option (List TVal) := match r with
  | none => none
  | some (_, W) => some W

theorem rst_pair (a : EvR) (f : List TVal → EvR) : rst (evPair a f) = (rst a).bind fun V => rst (f V) := by
  unfold evPair rst
  cases a with
  | none => rfl
  | some q =>
    obtain ⟨x, V⟩ := q
    simp only [Option.bind_some]
    cases f V with
    | none => rfl
    | some q2 => rfl

def rIt (C : List TVal → Option (List TVal)) : Nat → List TVal → Option (List TVal)
  | 0, V => some V
  | m + 1, V => (C V).bind (rIt C m)

theorem rst_items (F : List TVal → EvR) (C : List TVal → Option (List TVal)) (h : ∀ V, rst (F V) = C V) : ∀ (m : Nat) (V : List TVal), rst (evItems F m V) = rIt C m V
  | 0, V => rfl
  | m + 1, V => by
    show rst (evPair (F V) (evItems F m)) = _
    rw [rst_pair, h V]
    show _ = (C V).bind (rIt C m)
    congr 1
    funext W
    exact rst_items F C h m W

def rPart (s : List TCol) (C : List TVal → Option (List TVal)) (a : Nat) (V : List TVal) : Option (List TVal) :=
  match s[a]? with
  | none => none
  | some c =>
    if c.2.2.1 = 0 then C V
    else match V with
      | [] => none
      | v :: V => if cbad v (if c.2.2.1 = 2 then 20 else 1) = true then none else rIt C v.1.toNat V

theorem rst_part (s : List TCol) (F : Int → Int → Int → List TVal → EvR) (C : List TVal → Option (List TVal)) (h : ∀ r q p V, rst (F r q p V) = C V) (e a : Nat) (rep def_ deep : Int) (V : List TVal) : rst (evPart s F e a rep def_ deep V) = rPart s C a V := by
  unfold evPart rPart
  cases s[a]? with
  | none => rfl
  | some c =>
    simp only
    split
    · exact h _ _ _ _
    · cases V with
      | nil => rfl
      | cons v V =>
        simp only
        split
        · rename_i h2
          split
          · rename_i hb; rfl
          · rename_i hb
            have hb := cbad_false (by simpa using hb)
            split
            · rename_i h0; rw [h0]; rfl
            · rename_i h0
              obtain ⟨n, hn⟩ : ∃ n : Nat, v.1 = ((n + 1 : Nat) : Int) := ⟨v.1.toNat - 1, by omega⟩
              rw [hn, rst_pair, h]
              show _ = rIt C (n + 1) V
              simp only [rIt]
              congr 1
              funext W
              exact rst_items _ C (h _ _ _) _ W
        · rename_i h2
          split
          · rename_i hb; rfl
          · rename_i hb
            have hb := cbad_false (by simpa using hb)
            split
            · rename_i h0; rw [h0]; rfl
            · rename_i h0
              have h1 : v.1 = 1 := by omega
              rw [h1, h]
              show C V = rIt C 1 V
              simp only [rIt]
              cases C V <;> rfl

def rParts (F : Nat → List TVal → Option (List TVal)) (e : Nat → Nat) : Nat → Nat → List TVal → Option (List TVal)
  | 0, _, V => some V
  | m + 1, a, V => (F a V).bind (rParts F e m (e a))

theorem rst_parts (F : Nat → List TVal → EvR) (C : Nat → List TVal → Option (List TVal)) (h : ∀ a V, rst (F a V) = C a V) (e : Nat → Nat) : ∀ (m a : Nat) (V : List TVal), rst (evParts F e m a V) = rParts C e m a V
  | 0, _, V => rfl
  | m + 1, a, V => by
    show rst (evPair (F a V) (evParts F e m (e a))) = _
    rw [rst_pair, h a V]
    show _ = (C a V).bind (rParts C e m (e a))
    congr 1
    funext W
    exact rst_parts F C h e m (e a) W

def rC (s : List TCol) : Nat → Nat → List TVal → Option (List TVal)
  | 0, _, _ => none
  | d + 1, a, V => match s[a]? with
    | none => none
    | some c =>
      if c.2.1 = 7 then rParts (fun a V => rPart s (rC s d a) a V) (endC s d) c.2.2.2.1.toNat (a + 1) V
      else match V with
        | [] => none
        | v :: V => if vok c.2.1 v = true then some V else none

theorem rst_C (s : List TCol) : ∀ (d a : Nat) (rep def_ deep : Int) (V : List TVal), rst (evC s d a rep def_ deep V) = rC s d a V
  | 0, _, _, _, _, _ => rfl
  | d + 1, a, rep, def_, deep, V => by
    simp only [evC, rC]
    cases s[a]? with
    | none => rfl
    | some c =>
      simp only
      split
      · exact rst_parts _ _ (fun a V => rst_part s _ (rC s d a) (fun r q p V => rst_C s d a r q p V) _ a rep def_ deep V) _ _ _ _
      · cases V with
        | nil => rfl
        | cons v V =>
          simp only
          split <;> rfl

def RG (C : List TVal → Option (List TVal)) : Prop := ∀ V W, C V = some W → W.length ≤ V.length ∧ W = V.drop (V.length - W.length)

theorem RG.of {F : List TVal → EvR} {C : List TVal → Option (List TVal)} (h : ∀ V, rst (F V) = C V) (g : ∀ V, EvG V (F V)) : RG C := by
  intro V W hc
  rw [← h V] at hc
  unfold rst at hc
  split at hc
  · cases hc
  · rename_i X U hf
    simp only [Option.some.injEq] at hc
    subst hc
    obtain ⟨g1, _, g3⟩ := g V X U hf
    exact ⟨g1, g3⟩

theorem RG.c {s : List TCol} (hs : s.length ≤ 20) (d a : Nat) : RG (rC s d a) := RG.of (F := evC s d a 0 0 0) (rst_C s d a 0 0 0) (evC_G hs d a 0 0 0)

theorem RG.pos {C : List TVal → Option (List TVal)} (g : RG C) {V W : List TVal} {pos : Nat} (hp : pos ≤ V.length) (h : C (V.drop pos) = some W) : V.length - W.length ≤ V.length ∧ V.drop (V.length - W.length) = W ∧ pos ≤ V.length - W.length := by
  obtain ⟨g1, g2⟩ := g _ _ h
  simp only [List.length_drop] at g1 g2
  refine ⟨by omega, ?_, by omega⟩
  rw [List.drop_drop] at g2
  rw [show V.length - W.length = pos + (V.length - pos - W.length) by omega]
  exact g2.symm

section
variable (k : Nat) (s : List TCol) (hs : s.length ≤ 20) (hn : ∀ c, c ∈ s → c.1.size < k ∧ c.1.size < 1000000000 ∧ I64 c.2.2.2.1) (hk : 2000000 ≤ k)
variable (V : List TVal) (hV : V.length ≤ 1048576)
include hs hn hk hV

end

end Go.Law
end

section
/- The walker's instance of RecOk: it folds what is come to. Printed by program. -/
set_option linter.unusedVariables false
set_option linter.unusedSimpArgs false
set_option linter.unusedSectionVars false
namespace Go.Law
open Go.Am Go.Fn

def WO.P (_ : Nat) (_ : Nat) : Prop := True
section
variable (k : Nat) (s : List TCol)  
theorem WO.none_ok (a : Nat) (rep def_ : Int) (acc : Nat) (m : Nat) (hP : WO.P (m + 1) acc) (ha : a < s.length) (hc : ∀ c, s[a]? = some c → c.2.1 ≠ 7) : impl_RecOk_2 k (a : Int) rep def_ = some () := rfl
end

section
variable (k : Nat) (s : List TCol) (hs : s.length ≤ 20) (hn : ∀ c, c ∈ s → c.1.size < k ∧ c.1.size < 1000000000 ∧ I64 c.2.2.2.1) (hk : 2000000 ≤ k)  
include hs hn hk 

end

end Go.Law
end

section
/- Whether a record is one: both say so where it can be gone through. -/
set_option linter.unusedVariables false
set_option linter.unusedSimpArgs false
set_option linter.unusedSectionVars false
namespace Go.Law
open Go.Am Go.Fn

theorem schema_top {s : List TCol} (hS : IsSchema s) : ∃ c0, s[0]? = some c0 ∧ c0.2.1 = 7 ∧ 0 < c0.2.2.2.1 := by
  obtain ⟨_, _, ⟨c, e1, e2, _, _⟩, c0, hc0, _, _, h7⟩ := hS
  rw [hc0] at e1
  obtain rfl := Option.some.inj e1
  refine ⟨c0, hc0, h7, ?_⟩
  unfold colOk at e2
  rw [h7, tyOk_7] at e2
  simp at e2
  exact e2.1

/-! ### what is come to is a leaf -/
def evLeaf (s : List TCol) (X : List Ev) : Prop := ∀ e, e ∈ X → ∃ c, s[e.at_]? = some c ∧ c.2.1 ≠ 7
theorem evLeaf_append {s : List TCol} {X Y : List Ev} (h1 : evLeaf s X) (h2 : evLeaf s Y) : evLeaf s (X ++ Y) := fun e he => (List.mem_append.1 he).elim (h1 e) (h2 e)
def EvL (s : List TCol) (r : EvR) : Prop := ∀ X W, r = some (X, W) → evLeaf s X
theorem EvL.pair {s : List TCol} {a : EvR} {f : List TVal → EvR} (h : EvL s a) (g : ∀ V, EvL s (f V)) : EvL s (evPair a f) := by
  intro X W he
  obtain ⟨x, y, V, h1, h2, rfl⟩ := evPair_some he
  exact evLeaf_append (h _ _ h1) (g _ _ _ h2)
theorem EvL.nil (s : List TCol) (V : List TVal) : EvL s (some ([], V)) := by
  intro X W h
  simp only [Option.some.injEq, Prod.mk.injEq] at h
  obtain ⟨rfl, rfl⟩ := h
  exact fun e he => by cases he
theorem EvL.parts {s : List TCol} {F : Nat → List TVal → EvR} {e : Nat → Nat} (h : ∀ a V, EvL s (F a V)) : ∀ (m a : Nat) (V : List TVal), EvL s (evParts F e m a V)
  | 0, _, V => EvL.nil s V
  | m + 1, a, V => (h a V).pair (EvL.parts h m (e a))
theorem EvL.items {s : List TCol} {F : List TVal → EvR} (h : ∀ V, EvL s (F V)) : ∀ (m : Nat) (V : List TVal), EvL s (evItems F m V)
  | 0, V => EvL.nil s V
  | m + 1, V => (h V).pair (EvL.items h m)
theorem miss_leaf (s : List TCol) (rep def_ : Int) : ∀ (n i : Nat), evLeaf s (miss s rep def_ n i)
  | 0, i => fun e he => by cases he
  | n + 1, i => by
    simp only [miss]
    refine evLeaf_append ?_ (miss_leaf s rep def_ n (i + 1))
    cases h : s[i]? with
    | none => exact fun e he => by cases he
    | some c =>
      simp only
      split
      · exact fun e he => by cases he
      · rename_i h7
        intro e he
        rw [List.mem_singleton] at he
        subst he
        exact ⟨c, h, h7⟩
theorem EvL.part {s : List TCol} {C : Int → Int → Int → List TVal → EvR} (h : ∀ r d p V, EvL s (C r d p V)) (e a : Nat) (rep def_ deep : Int) (V : List TVal) : EvL s (evPart s C e a rep def_ deep V) := by
  intro X W hr
  unfold evPart at hr
  have ms : ∀ U, some (miss s rep def_ (e - a) a, U) = some (X, W) → evLeaf s X := by
    intro U hr
    simp only [Option.some.injEq, Prod.mk.injEq] at hr
    obtain ⟨rfl, rfl⟩ := hr
    exact miss_leaf _ _ _ _ _
  split at hr
  · cases hr
  · split at hr
    · exact h _ _ _ _ _ _ hr
    · split at hr
      · cases hr
      · split at hr
        · split at hr
          · cases hr
          · split at hr
            · exact ms _ hr
            · exact (EvL.pair (h _ _ _ _) (fun V => EvL.items (h _ _ _) _ V)) _ _ hr
        · split at hr
          · cases hr
          · split at hr
            · exact ms _ hr
            · exact h _ _ _ _ _ _ hr
end Go.Law
end

section
/- Levels: where a col ends, and how deep a leaf may be. -/
set_option linter.unusedVariables false
set_option linter.unusedSimpArgs false
set_option linter.unusedSectionVars false
namespace Go.Law
open Go.Am Go.Fn

theorem sub_at {s : List TCol} : ∀ (d : Nat) (a nx : Nat), SubC s d a nx → ∀ t, a ≤ t → t < nx → ∃ nx', SubC s d t nx' ∧ nx' ≤ nx
  | 0, _, _, h, _, _, _ => h.elim
  | d + 1, a, nx, h, t, h1, h2 => by
    rcases Nat.eq_or_lt_of_le h1 with rfl | h1
    · exact ⟨nx, h, Nat.le_refl _⟩
    · obtain ⟨c, _, _, _, hp⟩ := h
      have key : ∀ (m pl : Nat) (names : List ByteArray), PartsC (SubC s d) s m pl names nx → pl ≤ t → ∃ nx', SubC s d t nx' ∧ nx' ≤ nx := by
        intro m
        induction m with
        | zero =>
          intro pl names hp ht
          have hp : pl = nx := hp
          omega
        | succ m ih =>
          intro pl names hp ht
          obtain ⟨q, mid, q1, q2, q3, q4⟩ := hp
          have hmn := PartsC_nx (SubC_lt d) _ _ _ _ q4
          rcases Nat.lt_or_ge t mid with h | h
          · obtain ⟨nx', e1, e2⟩ := sub_at d pl mid q3 t ht h
            exact ⟨nx', e1, by omega⟩
          · exact ih mid _ q4 h
      obtain ⟨nx', e1, e2⟩ := key _ _ _ hp (by omega)
      exact ⟨nx', SubC_up d e1, e2⟩
where
  SubC_up : ∀ {s : List TCol} (d : Nat) {a b : Nat}, SubC s d a b → SubC s (d + 1) a b
  | _, 0, _, _, h => h.elim
  | s, d + 1, a, b, ⟨c, h1, h2, h3, h4⟩ => ⟨c, h1, h2, h3, PartsC_mono (fun x y h => SubC_up d h) _ _ _ _ h4⟩
  PartsC_mono {S T : Nat → Nat → Prop} {s : List TCol} (h : ∀ a b, S a b → T a b) : ∀ (m pos : Nat) (names : List ByteArray) (nx : Nat), PartsC S s m pos names nx → PartsC T s m pos names nx
  | 0, _, _, _, hp => hp
  | m + 1, _, _, _, ⟨q, mid, q1, q2, q3, q4⟩ => ⟨q, mid, q1, q2, h _ _ q3, PartsC_mono h m _ _ _ q4⟩

def colEnd (s : List TCol) (t : Nat) : Nat := endC s 6 t
theorem colEnd_eq {s : List TCol} {d a b : Nat} (hd : d ≤ 6) (h : SubC s d a b) : colEnd s a = b := endC_eq d h 6 hd
theorem colEnd_in {s : List TCol} {d a nx : Nat} (hd : d ≤ 6) (h : SubC s d a nx) {t : Nat} (h1 : a ≤ t) (h2 : t < nx) : t < colEnd s t ∧ colEnd s t ≤ nx := by
  obtain ⟨nx', e1, e2⟩ := sub_at d a nx h t h1 h2
  rw [colEnd_eq hd e1]
  exact ⟨SubC_lt _ _ _ e1, e2⟩

def dlv (s : List TCol) (f : TCol → Bool) (L : Nat) : Nat → Nat → Nat
  | 0, _ => 0
  | n + 1, t => (match s[t]? with
    | none => 0
    | some c => if L < colEnd s t ∧ f c = true then 1 else 0) + dlv s f L n (t + 1)
def lvD (s : List TCol) (f : TCol → Bool) (a L : Nat) : Nat := dlv s f L (L + 1 - a) a
def isOpt (c : TCol) : Bool := c.2.2.1 != 0
def isRep (c : TCol) : Bool := c.2.2.1 == 2

end Go.Law
end

section
/- Leaves and their numbers. -/
set_option linter.unusedVariables false
set_option linter.unusedSimpArgs false
namespace Go.Law
open Go.Am Go.Fn

def lnum (s : List TCol) : Nat → Nat
  | 0 => 0
  | a + 1 => lnum s a + (match s[a]? with
    | none => 0
    | some c => if c.2.1 = 7 then 0 else 1)
theorem lnum_leaf {s : List TCol} {a : Nat} {c : TCol} (hc : s[a]? = some c) (h7 : c.2.1 ≠ 7) : lnum s (a + 1) = lnum s a + 1 := by
  simp only [lnum, hc]; rw [if_neg h7]
theorem lnum_group {s : List TCol} {a : Nat} {c : TCol} (hc : s[a]? = some c) (h7 : c.2.1 = 7) : lnum s (a + 1) = lnum s a := by
  simp only [lnum, hc]; rw [if_pos h7]; rfl
theorem leavesFrom_get : ∀ (post pre : List TCol) (s : List TCol), s = pre ++ post → ∀ (j : Nat) (x : Int), (leavesFrom pre.length post)[j]? = some x → ∃ a : Nat, x = (a : Int) ∧ pre.length ≤ a ∧ lnum s a = lnum s pre.length + j ∧ ∃ c, s[a]? = some c ∧ c.2.1 ≠ 7
  | [], pre, s, h, j, x, hx => by simp [leavesFrom] at hx
  | c :: post, pre, s, h, j, x, hx => by
    have hc : s[pre.length]? = some c := by rw [h]; simp
    have ih := leavesFrom_get post (pre ++ [c]) s (by rw [h]; simp)
    rw [List.length_append, List.length_singleton] at ih
    simp only [leavesFrom] at hx
    by_cases h7 : c.2.1 = 7
    · rw [if_pos h7] at hx
      obtain ⟨a, h1, h2, h3, h4⟩ := ih j x hx
      rw [lnum_group hc h7] at h3
      exact ⟨a, h1, by omega, h3, h4⟩
    · rw [if_neg h7] at hx
      cases j with
      | zero =>
        simp only [List.getElem?_cons_zero, Option.some.injEq] at hx
        exact ⟨pre.length, hx.symm, Nat.le_refl _, rfl, c, hc, h7⟩
      | succ j =>
        simp only [List.getElem?_cons_succ] at hx
        obtain ⟨a, h1, h2, h3, h4⟩ := ih j x hx
        rw [lnum_leaf hc h7] at h3
        exact ⟨a, h1, by omega, by omega, h4⟩

end Go.Law
end

section
/- How deep a leaf may be: both tell it. -/
set_option linter.unusedVariables false
set_option linter.unusedSimpArgs false
set_option linter.unusedSectionVars false
namespace Go.Law
open Go.Am Go.Fn

def wayL (s : List TCol) (L : Nat) : Nat → Nat → List Int
  | 0, _ => []
  | n + 1, t => (if L < colEnd s t then [(t : Int)] else []) ++ wayL s L n (t + 1)
theorem wayL_len (s : List TCol) (L : Nat) : ∀ n t, (wayL s L n t).length ≤ n
  | 0, _ => Nat.le_refl _
  | n + 1, t => by
    have := wayL_len s L n (t + 1)
    simp only [wayL, List.length_append]
    split <;> simp <;> omega
theorem wayL_skip (s : List TCol) (L : Nat) : ∀ (m n t : Nat), (∀ u, t ≤ u → u < t + m → colEnd s u ≤ L) → wayL s L (m + n) t = wayL s L n (t + m)
  | 0, n, t, _ => by simp
  | m + 1, n, t, h => by
    have h1 := h t (Nat.le_refl _) (by omega)
    have := wayL_skip s L m n (t + 1) (fun u h2 h3 => h u (by omega) (by omega))
    rw [show m + 1 + n = (m + n) + 1 by omega]
    simp only [wayL]
    rw [this, show t + 1 + m = t + (m + 1) by omega, if_neg (by omega), List.nil_append]

section
variable (k : Nat) (s : List TCol) (hS : IsSchema s) (hn : ∀ c, c ∈ s → c.1.size < k ∧ c.1.size < 1000000000 ∧ I64 c.2.2.2.1) (hk : 2000000 ≤ k)
include hS hn hk

theorem colEnd_after (t : Nat) (ht : t < s.length) : t < colEnd s t ∧ colEnd s t ≤ s.length ∧ spec_l5After k s (t : Int) = some (colEnd s t : Int) ∧ impl_colAfter k s (t : Int) 1 = some (colEnd s t : Int) := by
  obtain ⟨nx', e1, e2⟩ := sub_at 6 0 s.length hS.2.2.1 t (Nat.zero_le _) ht
  have e3 := colEnd_eq (Nat.le_refl _) e1
  rw [e3]
  exact ⟨SubC_lt _ _ _ e1, e2, l5After_sub k s hS.2.1 hn (by omega) e1 (Nat.le_refl _) e2, colAfter_sub k s hS.2.1 hn (by omega) e1 (Nat.le_refl _) e2⟩

theorem sway_eq (L : Nat) (hL : L < s.length) : spec_l5Way k s (L : Int) = some ((), wayL s L (L + 1) 0) := by
  have hs20 := hS.2.1
  have key : ∀ (n t f : Nat) (o : List Int), t + n = L + 1 → n < f → o.length ≤ t → spec_l5Way.l3 k f s (L : Int) (t : Int) o = some ((), o ++ wayL s L n t) := by
    intro n
    induction n with
    | zero =>
      intro t f o h hf ho
      obtain ⟨f, rfl⟩ : ∃ q, f = q + 1 := ⟨f - 1, by omega⟩
      simp only [spec_l5Way.l3, decide_eq_false (show ¬ ((t : Int) ≤ (L : Int)) by omega), cond_false, wayL, List.append_nil]
    | succ n ih =>
      intro t f o h hf ho
      obtain ⟨f, rfl⟩ : ∃ q, f = q + 1 := ⟨f - 1, by omega⟩
      obtain ⟨a1, a2, a3, _⟩ := colEnd_after k s hS hn hk t (by omega)
      have ht1 : IntKind.wrap .i64 ((t : Int) + 1) = ((t + 1 : Nat) : Int) := by rw [w64 (by omega) (by omega)]; omega
      simp only [spec_l5Way.l3, decide_eq_true (show (t : Int) ≤ (L : Int) by omega), cond_true, a3, Option.bind_some, spec_l5Way.c4, ht1, wayL]
      by_cases h1 : L < colEnd s t
      · rw [decide_eq_true (show (colEnd s t : Int) > (L : Int) by omega), cond_true, lim_ok (by simp; omega), cond_true, if_pos h1, ih (t + 1) f _ (by omega) (by omega) (by simp; omega)]
        simp
      · rw [decide_eq_false (show ¬ (colEnd s t : Int) > (L : Int) by omega), cond_false, if_neg h1, ih (t + 1) f _ (by omega) (by omega) (by omega)]
        simp
  have := key (L + 1) 0 k [] (by omega) (by omega) (by simp)
  exact this

theorem smax_eq (f1 f2 : Int) (L : Nat) (hL : L < s.length) : ∀ (n t f : Nat) (pre : List Int) (x y : Nat), t + n = L + 1 → n < f → x ≤ t → y ≤ t → pre.length ≤ t →
    spec_l5Max.l4 k f s (x : Int) (y : Int) (pre.length : Int) (pre ++ wayL s L n t) = some (((x + dlv s isOpt L n t : Nat) : Int), ((y + dlv s isRep L n t : Nat) : Int)) ∧
    impl_LeafMax.l6 k f s (x : Int) (y : Int) ((pre ++ wayL s L n t).length : Int) (pre.length : Int) (pre ++ wayL s L n t) = some (((x + dlv s isOpt L n t : Nat) : Int), ((y + dlv s isRep L n t : Nat) : Int)) := by
  have hs20 := hS.2.1
  intro n
  induction n with
  | zero =>
    intro t f pre x y h hf hx hy hp
    obtain ⟨f, rfl⟩ : ∃ q, f = q + 1 := ⟨f - 1, by omega⟩
    simp only [spec_l5Max.l4, impl_LeafMax.l6, wayL, List.append_nil, decide_eq_false (show ¬ ((pre.length : Int) < (pre.length : Int)) by omega), cond_false, dlv, Nat.add_zero]
    exact ⟨trivial, trivial⟩
  | succ n ih =>
    intro t f pre x y h hf hx hy hp
    have hc := List.getElem?_eq_getElem (show t < s.length by omega)
    generalize s[t] = c at hc
    by_cases h1 : L < colEnd s t
    · obtain ⟨f, rfl⟩ : ∃ q, f = q + 1 := ⟨f - 1, by omega⟩
      have hi1 : IntKind.wrap .i64 ((pre.length : Int) + 1) = ((pre.length + 1 : Nat) : Int) := by rw [w64 (by omega) (by omega)]; omega
      have hx1 : IntKind.wrap .i64 ((x : Int) + 1) = ((x + 1 : Nat) : Int) := by rw [w64 (by omega) (by omega)]; omega
      have hy1 : IntKind.wrap .i64 ((y : Int) + 1) = ((y + 1 : Nat) : Int) := by rw [w64 (by omega) (by omega)]; omega
      simp only [wayL]
      rw [if_pos h1, List.singleton_append]
      have dT : ∀ g : TCol → Bool, g c = true → dlv s g L (n + 1) t = 1 + dlv s g L n (t + 1) := fun g hg => by simp only [dlv, hc]; rw [if_pos ⟨h1, hg⟩]
      have dF : ∀ g : TCol → Bool, g c = false → dlv s g L (n + 1) t = dlv s g L n (t + 1) := fun g hg => by simp only [dlv, hc]; rw [if_neg (fun q => by rw [hg] at q; cases q.2), Nat.zero_add]
      have hg := getMid pre (wayL s L n (t + 1)) (t : Int)
      have hlt : (pre.length : Int) < ((pre ++ (t : Int) :: wayL s L n (t + 1)).length : Int) := by simp; omega
      simp only [spec_l5Max.l4, impl_LeafMax.l6, decide_eq_true hlt, cond_true, hg, Option.bind_some, rdL_nat, hc, spec_l5Max.c8, impl_LeafMax.c10, spec_l5Max.c5, impl_LeafMax.c12, hi1, hx1, hy1]
      have ih' := fun x y hx hy => ih (t + 1) f (pre ++ [(t : Int)]) x y (by omega) (by omega) hx hy (by simp; omega)
      simp only [List.append_assoc, List.singleton_append, List.length_append, List.length_singleton] at ih'
      simp only [List.length_append]
      by_cases ho : c.2.2.1 = 0
      · have hr : ¬ c.2.2.1 = 2 := by omega
        have i1 : isOpt c = false := by simp [isOpt, ho]
        have i2 : isRep c = false := by simp [isRep, ho]
        rw [bneF ho, cond_false, cond_false, beqF hr, cond_false, cond_false, dF _ i1, dF _ i2]
        exact ih' x y (by omega) (by omega)
      · have i1 : isOpt c = true := by simp [isOpt, ho]
        by_cases hr : c.2.2.1 = 2
        · have i2 : isRep c = true := by simp [isRep, hr]
          rw [bneT ho, cond_true, cond_true, beqT hr, cond_true, cond_true, dT _ i1, dT _ i2]
          have := ih' (x + 1) (y + 1) (by omega) (by omega)
          rw [show x + (1 + dlv s isOpt L n (t + 1)) = x + 1 + dlv s isOpt L n (t + 1) by omega, show y + (1 + dlv s isRep L n (t + 1)) = y + 1 + dlv s isRep L n (t + 1) by omega]
          exact this
        · have i2 : isRep c = false := by simp [isRep, hr]
          rw [bneT ho, cond_true, cond_true, beqF hr, cond_false, cond_false, dT _ i1, dF _ i2]
          have := ih' (x + 1) y (by omega) (by omega)
          rw [show x + (1 + dlv s isOpt L n (t + 1)) = x + 1 + dlv s isOpt L n (t + 1) by omega]
          exact this
    · have e1 : wayL s L (n + 1) t = wayL s L n (t + 1) := by simp only [wayL]; rw [if_neg h1, List.nil_append]
      have e2 : ∀ g, dlv s g L (n + 1) t = dlv s g L n (t + 1) := fun g => by simp only [dlv, hc]; rw [if_neg (fun q => h1 q.1), Nat.zero_add]
      rw [e1, e2, e2]
      exact ih (t + 1) f pre x y (by omega) (by omega) (by omega) (by omega) (by omega)

theorem iway_loop (lv : List Int) (j : Int) (L : Nat) (hj : rdL lv j = some (L : Int)) (hL : L < s.length) : ∀ (N n t f : Nat) (o : List Int), n ≤ N → t + n = L + 1 → n < f → o.length ≤ t →
    impl_wayTo.l6 k f s j (t : Int) lv o = some ((), o ++ wayL s L n t) := by
  have hs20 := hS.2.1
  intro N
  induction N with
  | zero =>
    intro n t f o hN h hf ho
    obtain ⟨f, rfl⟩ : ∃ q, f = q + 1 := ⟨f - 1, by omega⟩
    have hn0 : n = 0 := by omega
    subst hn0
    simp only [impl_wayTo.l6, hj, Option.bind_some, decide_eq_false (show ¬ ((t : Int) ≤ (L : Int)) by omega), cond_false, wayL, List.append_nil]
  | succ N ih =>
    intro n t f o hN h hf ho
    obtain ⟨f, rfl⟩ : ∃ q, f = q + 1 := ⟨f - 1, by omega⟩
    cases n with
    | zero => simp only [impl_wayTo.l6, hj, Option.bind_some, decide_eq_false (show ¬ ((t : Int) ≤ (L : Int)) by omega), cond_false, wayL, List.append_nil]
    | succ n =>
      obtain ⟨a1, a2, _, a4⟩ := colEnd_after k s hS hn hk t (by omega)
      have ht1 : IntKind.wrap .i64 ((t : Int) + 1) = ((t + 1 : Nat) : Int) := by rw [w64 (by omega) (by omega)]; omega
      simp only [impl_wayTo.l6, hj, Option.bind_some, decide_eq_true (show (t : Int) ≤ (L : Int) by omega), cond_true, a4, ht1]
      by_cases h1 : L < colEnd s t
      · rw [decide_eq_true (show (colEnd s t : Int) > (L : Int) by omega), cond_true, lim_ok (by simp; omega), cond_true, ih n (t + 1) f _ (by omega) (by omega) (by omega) (by simp; omega)]
        simp only [wayL]
        rw [if_pos h1]
        simp
      · rw [decide_eq_false (show ¬ (colEnd s t : Int) > (L : Int) by omega), cond_false]
        obtain ⟨nx', e1, e2⟩ := sub_at 6 0 s.length hS.2.2.1 t (Nat.zero_le _) (by omega)
        have e3 := colEnd_eq (Nat.le_refl _) e1
        have hsk := wayL_skip s L (colEnd s t - t) (n + 1 - (colEnd s t - t)) t (fun u u1 u2 => by
          have := (colEnd_in (Nat.le_refl _) e1 u1 (by omega)).2; omega)
        rw [show colEnd s t - t + (n + 1 - (colEnd s t - t)) = n + 1 by omega, show t + (colEnd s t - t) = colEnd s t by omega] at hsk
        rw [hsk]
        exact ih _ _ f o (by omega) (by omega) (by omega) (by omega)

theorem leafMax_eq (hok : spec_SchemaOk k s = some true) (hok2 : impl_SchemaOk k s = some true) (j : Int) :
    (∃ L c, rdL (leavesFrom 0 s) j = some ((L : Nat) : Int) ∧ 0 ≤ j ∧ j < ((leavesFrom 0 s).length : Int) ∧ 1 ≤ L ∧ s[L]? = some c ∧ c.2.1 ≠ 7 ∧ j = (lnum s L : Int) ∧
      impl_LeafMax k s j = some ((lvD s isOpt 1 L : Int), (lvD s isRep 1 L : Int)) ∧ spec_l5Max k s (L : Int) = some ((lvD s isOpt 1 L : Int), (lvD s isRep 1 L : Int))) ∨
    (¬ (0 ≤ j ∧ j < ((leavesFrom 0 s).length : Int)) ∧ impl_LeafMax k s j = some (-1, -1)) := by
  obtain ⟨v1, v2⟩ := leaves_eq k (by omega) s (by have := hS.2.1; omega)
  have hs20 := hS.2.1
  have hll := leavesFrom_len 0 s
  obtain ⟨c0, hc0, h70, _⟩ := schema_top hS
  have hrep0 : c0.2.2.1 = 0 := by
    obtain ⟨_, _, _, c, e1, _, e2, _⟩ := hS
    rw [hc0] at e1
    cases e1
    exact e2
  unfold impl_LeafMax impl_wayTo impl_SchemaLeaves
  rw [hok2]
  simp only [Option.bind_some, cond_true, cond_false, Bool.not_true, v1, v2, l1In_eq, within_eq]
  generalize hlv : leavesFrom 0 s = lv at hll
  rw [w64 (show -9223372036854775808 ≤ (lv.length : Int) - 1 by omega) (by omega)]
  by_cases hin : 0 ≤ j ∧ j < (lv.length : Int)
  · left
    have hw : (decide (0 ≤ j) && decide (j ≤ (lv.length : Int) - 1)) = true := by simp; omega
    obtain ⟨n, rfl⟩ := Int.eq_ofNat_of_zero_le hin.1
    have hnl : n < lv.length := by omega
    obtain ⟨L, e1, e2, e3, c, e4, e5⟩ := leavesFrom_get s [] s rfl n _ (by rw [show ([] : List TCol).length = 0 from rfl, hlv]; exact List.getElem?_eq_getElem hnl)
    have hg : rdL lv (n : Int) = some (L : Int) := by rw [rdL_nat, List.getElem?_eq_getElem hnl, e1]
    have e3 : lnum s L = 0 + n := e3
    have hL : L < s.length := (List.getElem?_eq_some_iff.1 e4).1
    have hL1 : 1 ≤ L := by
      rcases Nat.eq_zero_or_pos L with h | h
      · subst h
        rw [hc0] at e4
        cases e4
        exact absurd h70 e5
      · exact h
    have hend0 : L < colEnd s 0 := by rw [colEnd_eq (Nat.le_refl _) hS.2.2.1]; exact hL
    have hz : ∀ g : TCol → Bool, g c0 = false → dlv s g L (L + 1) 0 = lvD s g 1 L := fun g hg => by
      simp only [dlv, hc0]
      rw [if_neg (fun q => by rw [hg] at q; cases q.2), Nat.zero_add]
      unfold lvD
      rw [show L + 1 - 1 = L by omega]
    have z1 := hz isOpt (by simp [isOpt, hrep0])
    have z2 := hz isRep (by simp [isRep, hrep0])
    have hmx : spec_l5Max k s (L : Int) = some ((lvD s isOpt 1 L : Int), (lvD s isRep 1 L : Int)) := by
      have h1 := (smax_eq k s hS hn hk 0 0 L hL (L + 1) 0 k [] 0 0 (by omega) (by omega) (by omega) (by omega) (by simp)).1
      rw [z1, z2, Nat.zero_add, Nat.zero_add] at h1
      unfold spec_l5Max
      rw [sway_eq k s hS hn hk L hL]
      exact h1
    refine ⟨L, c, hg, hin.1, hin.2, hL1, e4, e5, by omega, ?_, hmx⟩
    · rw [hw]
      simp only [Bool.not_true, cond_false]
      have h1 := iway_loop k s hS hn hk lv (n : Int) L hg hL L L 1 k [] (Nat.le_refl _) (by omega) (by omega) (by simp)
      have h1 : impl_wayTo.l6 k k s (n : Int) 1 lv [] = some ((), wayL s L L 1) := h1
      rw [h1]
      simp only [Option.bind_some]
      have h2 := (smax_eq k s hS hn hk 0 0 L hL L 1 k [] 0 0 (by omega) (by omega) (by omega) (by omega) (by simp)).2
      have hne : ((wayL s L L 1).length : Int) ≠ 0 := by
        have : ∀ n t, t + n = L + 1 → 0 < n → 0 < (wayL s L n t).length := by
          intro n
          induction n with
          | zero => intro t _ h; omega
          | succ n ih =>
            intro t h _
            simp only [wayL, List.length_append]
            rcases Nat.eq_zero_or_pos n with h0 | h0
            · subst h0
              have : t = L := by omega
              subst this
              rw [if_pos (colEnd_after k s hS hn hk t hL).1, List.length_singleton]
              omega
            · have := ih (t + 1) (by omega) h0; omega
        have := this L 1 (by omega) (by omega)
        omega
      rw [beqF hne, cond_false]
      have h2 : impl_LeafMax.l6 k k s 0 0 ((wayL s L L 1).length : Int) 0 (wayL s L L 1) = some (((0 + dlv s isOpt L L 1 : Nat) : Int), ((0 + dlv s isRep L L 1 : Nat) : Int)) := h2
      rw [h2, Nat.zero_add, Nat.zero_add]
      unfold lvD
      rw [show L + 1 - 1 = L by omega]
  · right
    have hw : (decide (0 ≤ j) && decide (j ≤ (lv.length : Int) - 1)) = false := by
      rw [Bool.eq_false_iff]
      intro h
      simp only [Bool.and_eq_true, decide_eq_true_eq] at h
      omega
    rw [hw]
    exact ⟨hin, rfl⟩
end
end Go.Law
end

section
/- Which leaf: both tell it. -/
set_option linter.unusedVariables false
set_option linter.unusedSimpArgs false
set_option linter.unusedSectionVars false
namespace Go.Law
open Go.Am Go.Fn

/-! ### which leaf -/
section
variable (k : Nat) (s : List TCol) (hn : ∀ c, c ∈ s → c.1.size < k ∧ c.1.size < 1000000000 ∧ I64 c.2.2.2.1) (hk : 2000000 ≤ k)
variable (hS : IsSchema s) (hok : spec_SchemaOk k s = some true) (hok2 : impl_SchemaOk k s = some true)
include hn hk hS hok hok2

theorem leafOf_eq (j : Int) : ∃ l b, spec_LeafOf k s j = some (l, b) ∧ impl_LeafOf k s j = some (l, b) ∧
    (b = true → ∃ L c, rdL (leavesFrom 0 s) j = some ((L : Nat) : Int) ∧ s[L]? = some c ∧ c.2.1 ≠ 7 ∧ j = (lnum s L : Int) ∧ l = (c.2.1, (lvD s isRep 1 L : Int), (lvD s isOpt 1 L : Int), ())) := by
  obtain ⟨v1, v2⟩ := leaves_eq k (by omega) s (by have := hS.2.1; omega)
  have hll := leavesFrom_len 0 s
  have hs20 := hS.2.1
  have hlm := leafMax_eq k s hS hn hk hok hok2 j
  unfold spec_LeafOf impl_LeafOf spec_SchemaLeaves impl_SchemaLeaves
  rw [hok, hok2]
  simp only [Option.bind_some, Bool.not_true, cond_false, v1, v2, l1In_eq, within_eq]
  generalize hlv : leavesFrom 0 s = lv at hll hlm
  rw [w64 (show -9223372036854775808 ≤ (lv.length : Int) - 1 by omega) (by omega)]
  rcases hlm with ⟨L, c, hg, h0, h1, _, hc, h7, hj, m2, m3⟩ | ⟨hin, _⟩
  · have hw : (decide (0 ≤ j) && decide (j ≤ (lv.length : Int) - 1)) = true := by simp; omega
    rw [hw]
    simp only [Bool.not_true, cond_false, hg, Option.bind_some, m2, m3, rdL_nat, hc]
    exact ⟨_, _, rfl, rfl, fun _ => ⟨L, c, rfl, hc, h7, hj, rfl⟩⟩
  · have hw : (decide (0 ≤ j) && decide (j ≤ (lv.length : Int) - 1)) = false := by
      rw [Bool.eq_false_iff]
      intro h
      simp only [Bool.and_eq_true, decide_eq_true_eq] at h
      omega
    rw [hw]
    exact ⟨_, _, rfl, rfl, fun h => by cases h⟩

end
end Go.Law
end

section
/- The names on the way to a leaf, by both. -/
set_option linter.unusedVariables false
set_option linter.unusedSimpArgs false
set_option linter.unusedSectionVars false
namespace Go.Law
open Go.Am Go.Fn

theorem wayL_mem (s : List TCol) (L : Nat) : ∀ (n t : Nat) (x : Int), x ∈ wayL s L n t → ∃ a : Nat, x = a ∧ t ≤ a ∧ a < t + n := by
  intro n
  induction n with
  | zero => intro t x hx; cases hx
  | succ n ih =>
    intro t x hx
    simp only [wayL] at hx
    rcases List.mem_append.1 hx with hx | hx
    · split at hx
      · rw [List.mem_singleton] at hx
        exact ⟨t, hx, by omega, by omega⟩
      · cases hx
    · obtain ⟨a, e, h1, h2⟩ := ih (t + 1) x hx
      exact ⟨a, e, by omega, by omega⟩

def nmAt (s : List TCol) (x : Int) : ByteArray := ((rdL s x).map (·.1)).getD ⟨#[]⟩

section
variable (k : Nat) (s : List TCol)

theorem spath_loop (w : List Int) (hw : w.length ≤ 100) (hm : ∀ x, x ∈ w → ∃ c, rdL s x = some c) : ∀ (post pre : List Int) (f : Nat) (o : List ByteArray), w = pre ++ post → post.length < f → o.length ≤ pre.length →
    spec_LeafPath.l7 k f s (pre.length : Int) o w = some ((), o ++ post.map (nmAt s)) := by
  intro post
  induction post with
  | nil =>
    intro pre f o h hf ho
    obtain ⟨f, rfl⟩ : ∃ q, f = q + 1 := ⟨f - 1, by omega⟩
    have hlen : w.length = pre.length := by rw [h]; simp
    simp only [spec_LeafPath.l7, decide_eq_false (show ¬ ((pre.length : Int) < (w.length : Int)) by omega), cond_false, List.map_nil, List.append_nil]
  | cons x post ih =>
    intro pre f o h hf ho
    simp only [List.length_cons] at hf
    obtain ⟨f, rfl⟩ : ∃ q, f = q + 1 := ⟨f - 1, by omega⟩
    have hlen : w.length = pre.length + (post.length + 1) := by rw [h]; simp
    have hg : rdL w (pre.length : Int) = some x := by rw [h]; exact getMid _ _ _
    have hi1 : IntKind.wrap .i64 ((pre.length : Int) + 1) = ((pre.length + 1 : Nat) : Int) := by rw [w64 (by omega) (by omega)]; omega
    obtain ⟨c, hc⟩ := hm x (by rw [h]; simp)
    have hi := ih (pre ++ [x]) f (o ++ [c.1]) (by rw [h]; simp) (by omega) (by simp; omega)
    rw [List.length_append, List.length_singleton] at hi
    simp only [spec_LeafPath.l7, decide_eq_true (show (pre.length : Int) < (w.length : Int) by omega), cond_true, hg, hc, Option.bind_some, hi1]
    rw [lim_ok (by simp; omega), cond_true, hi]
    simp [nmAt, hc]

theorem ipath_loop (w : List Int) (hw : w.length ≤ 100) (hm : ∀ x, x ∈ w → ∃ c, rdL s x = some c) : ∀ (post pre : List Int) (f : Nat) (o : List ByteArray), w = pre ++ post → post.length < f → o.length ≤ pre.length →
    impl_LeafPath.l3 k f s (w.length : Int) (pre.length : Int) o w = some ((), o ++ post.map (nmAt s)) := by
  intro post
  induction post with
  | nil =>
    intro pre f o h hf ho
    obtain ⟨f, rfl⟩ : ∃ q, f = q + 1 := ⟨f - 1, by omega⟩
    have hlen : w.length = pre.length := by rw [h]; simp
    simp only [impl_LeafPath.l3, decide_eq_false (show ¬ ((pre.length : Int) < (w.length : Int)) by omega), cond_false, List.map_nil, List.append_nil]
  | cons x post ih =>
    intro pre f o h hf ho
    simp only [List.length_cons] at hf
    obtain ⟨f, rfl⟩ : ∃ q, f = q + 1 := ⟨f - 1, by omega⟩
    have hlen : w.length = pre.length + (post.length + 1) := by rw [h]; simp
    have hg : rdL w (pre.length : Int) = some x := by rw [h]; exact getMid _ _ _
    have hi1 : IntKind.wrap .i64 ((pre.length : Int) + 1) = ((pre.length + 1 : Nat) : Int) := by rw [w64 (by omega) (by omega)]; omega
    obtain ⟨c, hc⟩ := hm x (by rw [h]; simp)
    have hi := ih (pre ++ [x]) f (o ++ [c.1]) (by rw [h]; simp) (by omega) (by simp; omega)
    rw [List.length_append, List.length_singleton] at hi
    simp only [impl_LeafPath.l3, decide_eq_true (show (pre.length : Int) < (w.length : Int) by omega), cond_true, hg, hc, Option.bind_some, hi1]
    rw [lim_ok (by simp; omega), cond_true, hi]
    simp [nmAt, hc]

theorem sEq_loop (a b : List ByteArray) (hab : a.length = b.length) (hl : a.length < 4611686018427387904) : ∀ (m f i : Nat), i + m = a.length → m < f → slices_Equal_string_string.l4 k f a b (a.length : Int) (i : Int) = some (decide (a.drop i = b.drop i)) := by
  intro m
  induction m with
  | zero =>
    intro f i hi hf
    obtain ⟨f, rfl⟩ : ∃ q, f = q + 1 := ⟨f - 1, by omega⟩
    simp only [slices_Equal_string_string.l4, decide_eq_false (show ¬ ((i : Int) < (a.length : Int)) by omega), cond_false]
    rw [List.drop_eq_nil_of_le (by omega), List.drop_eq_nil_of_le (by omega)]
    rfl
  | succ m ih =>
    intro f i hi hf
    obtain ⟨f, rfl⟩ : ∃ q, f = q + 1 := ⟨f - 1, by omega⟩
    have ha := List.getElem?_eq_getElem (show i < a.length by omega)
    have hb := List.getElem?_eq_getElem (show i < b.length by omega)
    have hi1 : IntKind.wrap .i64 ((i : Int) + 1) = ((i + 1 : Nat) : Int) := by rw [w64 (by omega) (by omega)]; omega
    have da := List.drop_eq_getElem_cons (show i < a.length by omega)
    have db := List.drop_eq_getElem_cons (show i < b.length by omega)
    rw [da, db]
    generalize a[i]'_ = x at ha
    generalize b[i]'_ = y at hb
    simp only [slices_Equal_string_string.l4, decide_eq_true (show (i : Int) < (a.length : Int) by omega), cond_true, rdL_nat, ha, hb, Option.bind_some, eqS_iff, hi1]
    by_cases hxy : x = y
    · subst hxy
      simp only [decide_true, Bool.not_true, cond_false, bne]
      rw [ih f (i + 1) (by omega) (by omega)]
      simp
    · simp only [decide_eq_false hxy, Bool.not_false, cond_true, bne]
      simp [hxy]

theorem sEq_val (a b : List ByteArray) (hl : a.length < k) (hl2 : a.length < 4611686018427387904) (hl3 : b.length < 4611686018427387904) : slices_Equal_string_string k a b = some (decide (a = b)) := by
  unfold slices_Equal_string_string
  by_cases h : a.length = b.length
  · rw [bneF (by omega), cond_false]
    have := sEq_loop k a b h hl2 a.length k 0 (by omega) hl
    simpa using this
  · rw [bneT (by omega), cond_true]
    rw [decide_eq_false (fun e => h (by rw [e]))]
end

section
variable (k : Nat) (s : List TCol) (hn : ∀ c, c ∈ s → c.1.size < k ∧ c.1.size < 1000000000 ∧ I64 c.2.2.2.1) (hk : 2000000 ≤ k)
variable (hS : IsSchema s) (hok : spec_SchemaOk k s = some true) (hok2 : impl_SchemaOk k s = some true)
include hn hk hS hok hok2

theorem path_eq (j : Int) : ∃ N, spec_LeafPath k s j = some ((), N) ∧ impl_LeafPath k s j = some ((), N) ∧ N.length ≤ 20 := by
  obtain ⟨v1, v2⟩ := leaves_eq k (by omega) s (by have := hS.2.1; omega)
  have hs20 := hS.2.1
  have hll := leavesFrom_len 0 s
  unfold spec_LeafPath impl_LeafPath impl_wayTo spec_SchemaLeaves impl_SchemaLeaves
  rw [hok, hok2]
  simp only [Option.bind_some, Bool.not_true, cond_false, v1, v2, l1In_eq, within_eq]
  generalize hlv : leavesFrom 0 s = lv at hll
  rw [w64 (show -9223372036854775808 ≤ (lv.length : Int) - 1 by omega) (by omega)]
  by_cases hin : 0 ≤ j ∧ j < (lv.length : Int)
  · have hw : (decide (0 ≤ j) && decide (j ≤ (lv.length : Int) - 1)) = true := by simp; omega
    obtain ⟨n, rfl⟩ := Int.eq_ofNat_of_zero_le hin.1
    have hnl : n < lv.length := by omega
    obtain ⟨L, e1, e2, e3, c, e4, e5⟩ := leavesFrom_get s [] s rfl n _ (by rw [show ([] : List TCol).length = 0 from rfl, hlv]; exact List.getElem?_eq_getElem hnl)
    have hg : rdL lv (n : Int) = some (L : Int) := by rw [rdL_nat, List.getElem?_eq_getElem hnl, e1]
    have hL : L < s.length := (List.getElem?_eq_some_iff.1 e4).1
    have hend0 : L < colEnd s 0 := by rw [colEnd_eq (Nat.le_refl _) hS.2.2.1]; exact hL
    have hway : wayL s L (L + 1) 0 = 0 :: wayL s L L 1 := by
      simp only [wayL]
      rw [if_pos hend0]
      rfl
    have hmem : ∀ x, x ∈ wayL s L L 1 → ∃ c, rdL s x = some c := fun x hx => by
      obtain ⟨a, rfl, h1, h2⟩ := wayL_mem s L L 1 x hx
      exact ⟨_, List.getElem?_eq_getElem (show a < s.length by omega)⟩
    have hlen := wayL_len s L L 1
    have h1 := iway_loop k s hS hn hk lv (n : Int) L hg hL L L 1 k [] (Nat.le_refl _) (by omega) (by omega) (by simp)
    have h1 : impl_wayTo.l6 k k s (n : Int) 1 lv [] = some ((), wayL s L L 1) := h1
    have hI := ipath_loop k s (wayL s L L 1) (by omega) hmem (wayL s L L 1) [] k [] rfl (by omega) (by simp)
    have hI : impl_LeafPath.l3 k k s ((wayL s L L 1).length : Int) 0 [] (wayL s L L 1) = _ := hI
    have hmem0 : ∀ x, x ∈ (0 : Int) :: wayL s L L 1 → ∃ c, rdL s x = some c := fun x hx => by
      rcases List.mem_cons.1 hx with rfl | hx
      · exact ⟨_, List.getElem?_eq_getElem (show 0 < s.length by omega)⟩
      · exact hmem x hx
    have hP := spath_loop k s (0 :: wayL s L L 1) (by simp; omega) hmem0 (wayL s L L 1) [0] k [] rfl (by omega) (by simp)
    have hP : spec_LeafPath.l7 k k s 1 [] (0 :: wayL s L L 1) = _ := hP
    rw [hw]
    simp only [Bool.not_true, cond_false, hg, Option.bind_some, sway_eq k s hS hn hk L hL, hway, h1, hI, hP]
    exact ⟨_, rfl, rfl, by simp; omega⟩
  · have hw : (decide (0 ≤ j) && decide (j ≤ (lv.length : Int) - 1)) = false := by
      rw [Bool.eq_false_iff]
      intro h
      simp only [Bool.and_eq_true, decide_eq_true_eq] at h
      omega
    obtain ⟨K, rfl⟩ : ∃ K, k = K + 1 := ⟨k - 1, by omega⟩
    rw [hw]
    exact ⟨[], rfl, rfl, by simp⟩
end
end Go.Law
end

section
/- The chunk of a struct, by both. -/
set_option linter.unusedVariables false
set_option linter.unusedSimpArgs false
set_option linter.unusedSectionVars false
namespace Go.Law
open Go.Am Go.Fn

def numAt (l : List TNode) (p : Int) : Int := ((rdL l p).map (·.2.2.1)).getD 0
def txtAt (l : List TNode) (p : Int) : ByteArray := ((rdL l p).map (·.2.2.2.1)).getD ⟨#[]⟩
def nmsV (k : Nat) (s : List TCol) (j : Int) : List ByteArray := ((spec_LeafPath k s j).map (·.2)).getD []
def lfT (k : Nat) (s : List TCol) (j : Int) : Int := ((spec_LeafOf k s j).map (·.1.1)).getD 0

def ownV (k : Nat) (l : List TNode) (a : Int) : Int := if fV k l a 3 < 0 then -1 else if ((rdL l (fV k l a 3)).map (·.1)).getD 0 = 12 then fV k l a 3 else -1

def chI (k : Nat) (l : List TNode) (s : List TCol) (strict : Bool) (a j : Int) : Bool :=
  if ownV k l a < 0 then false else
    (pV k l (ownV k l a) 2 5).1 && (pV k l (ownV k l a) 3 8).1 && ((nV k l (ownV k l a) 1).2 && ((nV k l (ownV k l a) 1).1 == lfT k s j)) && ((nV k l (ownV k l a) 4).2 && ((nV k l (ownV k l a) 4).1 == 0)) &&
      decide ((pV k l (ownV k l a) 3 8).2.map (txtAt l) = nmsV k s j) && (nV k l (ownV k l a) 5).2 && (nV k l (ownV k l a) 6).2 && ((nV k l (ownV k l a) 7).2 && ((nV k l (ownV k l a) 7).1 == (nV k l (ownV k l a) 6).1)) && (nV k l (ownV k l a) 9).2 &&
      (if fV k l (ownV k l a) 11 < 0 then true else (nV k l (ownV k l a) 11).2 && (if strict then decide (0 ≤ (nV k l (ownV k l a) 11).1) else (nV k l (ownV k l a) 11).1 != -1))

def chV (k : Nat) (l : List TNode) (a j : Int) : TChunk :=
  if ownV k l a < 0 then (j, 0, -1, 0, 0, [], ()) else
    (j, (nV k l (ownV k l a) 9).1, (if fV k l (ownV k l a) 11 < 0 then -1 else (nV k l (ownV k l a) 11).1), (nV k l (ownV k l a) 5).1, (nV k l (ownV k l a) 6).1, (pV k l (ownV k l a) 2 5).2.map (numAt l), ())

section
variable (k : Nat) (hk : 2000000 ≤ k) {l : List TNode} {af : List Int} (h : TreeFacts l af)
include hk h

theorem iencs_loop (t3 t10 : Int) (b : Bool) (s : List TCol) (o100 o101 : Int × Int × Int × Int × Int × Unit × Unit) (lf : TLeaf) (E : List Int) (hE : E.length ≤ 1500) (hm : ∀ p, p ∈ E → 0 ≤ p ∧ p < (l.length : Int)) (o104 : List Int) : ∀ (post pre : List Int) (f : Nat) (o : List Int), E = pre ++ post → post.length < f → o.length ≤ pre.length →
    impl_metaReader_chunk.l8 k f t3 t10 (E.length : Int) (pre.length : Int) (mR b) (tB l) af s o100 o101 lf E o104 o = (impl_metaReader_list k t10 3 8 (mR b) (tB l) af).bind fun r33 => impl_metaReader_chunk.l14 k k t3 t10 (List.length r33.2.2.2.2 : Int) 0 r33.2.1 r33.2.2.1 r33.2.2.2.1 s o100 o101 lf [] r33.2.2.2.2 o104 (o ++ post.map (numAt l)) := by
  intro post
  induction post with
  | nil =>
    intro pre f o h hf ho
    obtain ⟨f, rfl⟩ : ∃ q, f = q + 1 := ⟨f - 1, by omega⟩
    have hlen : E.length = pre.length := by rw [h]; simp
    simp only [impl_metaReader_chunk.l8, decide_eq_false (show ¬ ((pre.length : Int) < (E.length : Int)) by omega), cond_false, List.map_nil, List.append_nil]
  | cons x post ih =>
    intro pre f o h hf ho
    simp only [List.length_cons] at hf
    obtain ⟨f, rfl⟩ : ∃ q, f = q + 1 := ⟨f - 1, by omega⟩
    have hlen : E.length = pre.length + (post.length + 1) := by rw [h]; simp
    have hg : rdL E (pre.length : Int) = some x := by rw [h]; exact getMid _ _ _
    have hi1 : IntKind.wrap .i64 ((pre.length : Int) + 1) = ((pre.length + 1 : Nat) : Int) := by rw [w64 (by omega) (by omega)]; omega
    obtain ⟨x0, x1⟩ := hm x (by rw [h]; simp)
    obtain ⟨c, hc, _⟩ := rdL_some x0 x1
    have hi := ih (pre ++ [x]) f (o ++ [c.2.2.1]) (by rw [h]; simp) (by omega) (by simp; omega)
    rw [List.length_append, List.length_singleton] at hi
    have hc' : rdL (tB l).1 x = some c := hc
    simp only [impl_metaReader_chunk.l8, decide_eq_true (show (pre.length : Int) < (E.length : Int) by omega), cond_true, hg, Option.bind_some, impl_metaReader_chunk.d10, hc', hi1]
    rw [lim_ok (by simp; omega), cond_true, hi]
    simp [numAt, hc]

theorem ipaths_loop (t3 t10 : Int) (b : Bool) (s : List TCol) (o100 o101 : Int × Int × Int × Int × Int × Unit × Unit) (lf : TLeaf) (E : List Int) (hE : E.length ≤ 1500) (hm : ∀ p, p ∈ E → 0 ≤ p ∧ p < (l.length : Int)) (o105 o106 : List Int) : ∀ (post pre : List Int) (f : Nat) (o : List ByteArray), E = pre ++ post → post.length < f → o.length ≤ pre.length →
    impl_metaReader_chunk.l14 k f t3 t10 (E.length : Int) (pre.length : Int) (mR b) (tB l) af s o100 o101 lf o E o105 o106 = impl_metaReader_chunk.d18 k t3 t10 (mR b) (tB l) af s o100 o101 lf (o ++ post.map (txtAt l)) o105 o106 := by
  intro post
  induction post with
  | nil =>
    intro pre f o h hf ho
    obtain ⟨f, rfl⟩ : ∃ q, f = q + 1 := ⟨f - 1, by omega⟩
    have hlen : E.length = pre.length := by rw [h]; simp
    simp only [impl_metaReader_chunk.l14, decide_eq_false (show ¬ ((pre.length : Int) < (E.length : Int)) by omega), cond_false, List.map_nil, List.append_nil]
  | cons x post ih =>
    intro pre f o h hf ho
    simp only [List.length_cons] at hf
    obtain ⟨f, rfl⟩ : ∃ q, f = q + 1 := ⟨f - 1, by omega⟩
    have hlen : E.length = pre.length + (post.length + 1) := by rw [h]; simp
    have hg : rdL E (pre.length : Int) = some x := by rw [h]; exact getMid _ _ _
    have hi1 : IntKind.wrap .i64 ((pre.length : Int) + 1) = ((pre.length + 1 : Nat) : Int) := by rw [w64 (by omega) (by omega)]; omega
    obtain ⟨x0, x1⟩ := hm x (by rw [h]; simp)
    obtain ⟨c, hc, _⟩ := rdL_some x0 x1
    have hi := ih (pre ++ [x]) f (o ++ [c.2.2.2.1]) (by rw [h]; simp) (by omega) (by simp; omega)
    rw [List.length_append, List.length_singleton] at hi
    have hc' : rdL (tB l).1 x = some c := hc
    simp only [impl_metaReader_chunk.l14, decide_eq_true (show (pre.length : Int) < (E.length : Int) by omega), cond_true, hg, Option.bind_some, hc', hi1]
    rw [lim_ok (by simp; omega), cond_true, hi]
    simp [txtAt, hc]

theorem own_eq (a : Nat) (ha : a < l.length) : (ownV k l a = -1 ∧ ∀ (D : Option Unit), True) ∨ (∃ q : Nat, ownV k l a = q ∧ a < q ∧ q < l.length ∧ fV k l a 3 = q ∧ ∃ n, l[q]? = some n ∧ n.1 = 12) := by
  obtain ⟨_, _, g3⟩ := find_val k (by omega) h a ha 3
  unfold ownV
  rcases g3 with g3 | ⟨q, g3, q1, q2⟩
  · left; rw [g3, if_pos (by omega)]; exact ⟨rfl, fun _ => trivial⟩
  · rw [g3, if_neg (by omega), rdL_nat, List.getElem?_eq_getElem q2]
    simp only [Option.map_some, Option.getD_some]
    split
    · rename_i h12
      exact .inr ⟨q, rfl, q1, q2, rfl, _, List.getElem?_eq_getElem q2, h12⟩
    · exact .inl ⟨rfl, fun _ => trivial⟩

variable (s : List TCol) (hn : ∀ c, c ∈ s → c.1.size < k ∧ c.1.size < 1000000000 ∧ I64 c.2.2.2.1) (hS : IsSchema s) (hok : spec_SchemaOk k s = some true) (hok2 : impl_SchemaOk k s = some true)
include hn hS hok hok2

theorem names_val (j : Int) : spec_LeafPath k s j = some ((), nmsV k s j) ∧ impl_LeafPath k s j = some ((), nmsV k s j) ∧ (nmsV k s j).length ≤ 20 := by
  obtain ⟨N, e1, e2, e3⟩ := path_eq k s hn hk hS hok hok2 j
  have : nmsV k s j = N := by unfold nmsV; rw [e1]; rfl
  rw [this]
  exact ⟨e1, e2, e3⟩

theorem ichunk (a : Nat) (ha : a < l.length) (j : Int) (b : Bool) :
    impl_metaReader_chunk k (a : Int) j (mR b) (tB l) af s = some (((chV k l a j).1, (chV k l a j).2.1, (chV k l a j).2.2.1, (chV k l a j).2.2.2.1, (chV k l a j).2.2.2.2.1, (), ()), (mR (b || !chI k l s false a j), tB l, af, s, (chV k l a j).2.2.2.2.2.1)) := by
  have hk2 : 2000 ≤ k := by omega
  obtain ⟨_, g2, g3⟩ := find_val k hk2 h a ha 3
  unfold impl_metaReader_chunk
  simp only [g2, Option.bind_some]
  rcases own_eq k hk h a ha with ⟨ho, _⟩ | ⟨q, ho, q1, q2, q3, n, hnq, h12⟩
  · have hbad : (cond (decide (fV k l a 3 < 0)) (some true) ((rdL (tB l).1 (fV k l a 3)).bind fun y35 => some (y35.1 != 12))) = some true := by
      rcases g3 with g3 | ⟨q, g3, q1, q2⟩
      · rw [g3]; rfl
      · rw [g3, decide_eq_false (by omega), cond_false, rdL_nat, show (tB l).1 = l from rfl, List.getElem?_eq_getElem q2]
        unfold ownV at ho
        rw [g3, if_neg (by omega), rdL_nat, List.getElem?_eq_getElem q2] at ho
        simp only [Option.map_some, Option.getD_some] at ho
        split at ho
        · omega
        · rename_i h12
          simp only [Option.bind_some, bneT h12]
    rw [hbad]
    unfold chV chI
    simp only [ho, show ((-1 : Int) < 0) from by omega, if_true, Option.bind_some, cond_true, Bool.not_false, Bool.or_true]
  · have hgood : (cond (decide (fV k l a 3 < 0)) (some true) ((rdL (tB l).1 (fV k l a 3)).bind fun y35 => some (y35.1 != 12))) = some false := by
      rw [q3, decide_eq_false (by omega), cond_false, rdL_nat, show (tB l).1 = l from rfl, hnq]
      simp only [Option.bind_some, bneF h12]
    obtain ⟨lf, lb, e1, e2, _⟩ := leafOf_eq k s hn hk hS hok hok2 j
    have hlf : lfT k s j = lf.1 := by unfold lfT; rw [e1]; rfl
    obtain ⟨_, p2, p3⟩ := names_val k hk h s hn hS hok hok2 j
    obtain ⟨_, _, m1, m2⟩ := parts_val k hk2 h q q2 2 5
    obtain ⟨_, _, m3, m4⟩ := parts_val k hk2 h q q2 3 8
    obtain ⟨_, f2, f3⟩ := find_val k hk2 h q q2 11
    rw [hgood]
    simp only [Option.bind_some, cond_false, e2, q3, mlist k hk2 h q q2]
    have le := iencs_loop k hk h j (q : Int) (b || !(pV k l q 2 5).1) s (0, 0, 0, 0, 0, (), ()) (j, 0, (-1), 0, 0, (), ()) lf (pV k l q 2 5).2 m1 m2 [] (pV k l q 2 5).2 [] k [] rfl (by omega) (by simp)
    rw [List.length_nil, show ((0 : Nat) : Int) = 0 from rfl] at le
    rw [le]
    simp only [mlist k hk2 h q q2, Option.bind_some, List.nil_append]
    have lp := ipaths_loop k hk h j (q : Int) (b || !(pV k l q 2 5).1 || !(pV k l q 3 8).1) s (0, 0, 0, 0, 0, (), ()) (j, 0, (-1), 0, 0, (), ()) lf (pV k l q 3 8).2 m3 m4 [] ((pV k l q 2 5).2.map (numAt l)) (pV k l q 3 8).2 [] k [] rfl (by omega) (by simp)
    rw [List.length_nil, show ((0 : Nat) : Int) = 0 from rfl] at lp
    rw [lp, List.nil_append]
    have hsE := sEq_val k ((pV k l q 3 8).2.map (txtAt l)) (nmsV k s j) (by rw [List.length_map]; omega) (by rw [List.length_map]; omega) (by omega)
    -- behind the three looks
    have tail : ∀ b' : Bool, impl_metaReader_chunk.c20 k (q : Int) (mR b') (tB l) af s (0, 0, 0, 0, 0, (), ()) (j, 0, (-1), 0, 0, (), ()) [] ((pV k l q 2 5).2.map (numAt l)) =
        some (((chV k l a j).1, (chV k l a j).2.1, (chV k l a j).2.2.1, (chV k l a j).2.2.2.1, (chV k l a j).2.2.2.2.1, (), ()), (mR (b' || !((nV k l q 5).2 && (nV k l q 6).2 && ((nV k l q 7).2 && ((nV k l q 7).1 == (nV k l q 6).1)) && (nV k l q 9).2 && (if fV k l q 11 < 0 then true else (nV k l q 11).2 && ((nV k l q 11).1 != -1)))), tB l, af, s, (chV k l a j).2.2.2.2.2.1)) := by
      intro b'
      unfold impl_metaReader_chunk.c20 impl_metaReader_chunk.d22 impl_metaReader_chunk.c24 impl_metaReader_chunk.c28 chV
      rw [ho, if_neg (by omega)]
      have hm7 : (((nV k l q 7).1 != (nV k l q 6).1)) = !((nV k l q 7).1 == (nV k l q 6).1) := rfl
      simp only [mnum k hk2 h q q2, Option.bind_some, hm7]
      have hbne : ((nV k l q 11).1 != -1) = !((nV k l q 11).1 == -1) := rfl
      cases h7 : ((nV k l q 7).1 == (nV k l q 6).1)
      all_goals
        simp only [Bool.not_true, Bool.not_false, cond_true, cond_false, mnum k hk2 h q q2, Option.bind_some, f2]
        by_cases hf : fV k l q 11 < 0
        · rw [decide_eq_false (show ¬ fV k l q 11 ≥ 0 by omega), if_pos hf, if_pos hf]
          cases b' <;> cases (nV k l q 5).2 <;> cases (nV k l q 6).2 <;> cases (nV k l q 7).2 <;> cases (nV k l q 9).2 <;> rfl
        · rw [decide_eq_true (show fV k l q 11 ≥ 0 by omega), if_neg hf, if_neg hf, hbne]
          simp only [cond_true, mnum k hk2 h q q2, Option.bind_some, cst]
          cases b' <;> cases (nV k l q 5).2 <;> cases (nV k l q 6).2 <;> cases (nV k l q 7).2 <;> cases (nV k l q 9).2 <;> cases (nV k l q 11).2 <;> cases ((nV k l q 11).1 == -1) <;> rfl
    unfold impl_metaReader_chunk.d18
    have hm1 : (((nV k l q 1).1 != lf.1)) = !((nV k l q 1).1 == lf.1) := rfl
    have hm4 : (((nV k l q 4).1 != 0)) = !((nV k l q 4).1 == 0) := rfl
    simp only [mnum k hk2 h q q2, Option.bind_some, hm1, hm4, cond_true, p2, hsE]
    have hfin : chI k l s false a j = ((pV k l q 2 5).1 && (pV k l q 3 8).1 && ((nV k l q 1).2 && ((nV k l q 1).1 == lf.1)) && ((nV k l q 4).2 && ((nV k l q 4).1 == 0)) && decide ((pV k l q 3 8).2.map (txtAt l) = nmsV k s j) &&
        ((nV k l q 5).2 && (nV k l q 6).2 && ((nV k l q 7).2 && ((nV k l q 7).1 == (nV k l q 6).1)) && (nV k l q 9).2 && (if fV k l q 11 < 0 then true else (nV k l q 11).2 && ((nV k l q 11).1 != -1)))) := by
      unfold chI
      rw [ho, if_neg (by omega), hlf]
      simp only [Bool.and_assoc, Bool.false_eq_true, if_false]
    generalize hC : ((nV k l q 5).2 && (nV k l q 6).2 && ((nV k l q 7).2 && ((nV k l q 7).1 == (nV k l q 6).1)) && (nV k l q 9).2 && (if fV k l q 11 < 0 then true else (nV k l q 11).2 && ((nV k l q 11).1 != -1))) = C at tail hfin
    rw [hfin]
    generalize (pV k l q 2 5).1 = x1
    generalize (pV k l q 3 8).1 = x2
    generalize (nV k l q 1).2 = x3
    generalize (nV k l q 4).2 = x4
    generalize decide ((pV k l q 3 8).2.map (txtAt l) = nmsV k s j) = x5
    generalize ((nV k l q 4).1 == 0) = x7
    cases ((nV k l q 1).1 == lf.1) with
    | false =>
      simp only [Bool.not_false, cond_true]
      refine (tail true).trans ?_
      cases b <;> cases x1 <;> cases x2 <;> cases x3 <;> cases x4 <;> cases x5 <;> cases x7 <;> cases C <;> rfl
    | true =>
      simp only [Bool.not_true, cond_false]
      cases x7 with
      | false =>
        simp only [Bool.not_false, cond_true]
        refine (tail true).trans ?_
        cases b <;> cases x1 <;> cases x2 <;> cases x3 <;> cases x4 <;> cases x5 <;> cases C <;> rfl
      | true =>
        simp only [Bool.not_true, cond_false]
        cases x5 with
        | false =>
          simp only [Bool.not_false, cond_true]
          refine (tail true).trans ?_
          cases b <;> cases x1 <;> cases x2 <;> cases x3 <;> cases x4 <;> cases C <;> rfl
        | true =>
          simp only [Bool.not_true, cond_false]
          refine (tail _).trans ?_
          cases b <;> cases x1 <;> cases x2 <;> cases x3 <;> cases x4 <;> cases C <;> rfl
end
end Go.Law
end

section
/- The chunk of a struct, the reference's. -/
set_option linter.unusedVariables false
set_option linter.unusedSimpArgs false
set_option linter.unusedSectionVars false
namespace Go.Law
open Go.Am Go.Fn

section
variable (k : Nat) (hk : 2000000 ≤ k) {l : List TNode} {af : List Int} (h : TreeFacts l af)
include hk h

theorem ids6 (q : Nat) (hq : q < l.length) : ∃ O, spec_l16Ids k l (q : Int) [1, 4, 5, 6, 7, 9] = some (((), (nV k l q 1).2 && ((nV k l q 4).2 && ((nV k l q 5).2 && ((nV k l q 6).2 && ((nV k l q 7).2 && (nV k l q 9).2))))), O) ∧
    (((nV k l q 1).2 && ((nV k l q 4).2 && ((nV k l q 5).2 && ((nV k l q 6).2 && ((nV k l q 7).2 && (nV k l q 9).2))))) = true → O = [(nV k l q 1).1, (nV k l q 4).1, (nV k l q 5).1, (nV k l q 6).1, (nV k l q 7).1, (nV k l q 9).1]) := by
  have n1 := fun id => (num_val k (by omega) h q hq id).1
  have key : ∀ f, 7 ≤ f → ∃ O, spec_l16Ids.l3 k f l (q : Int) [1, 4, 5, 6, 7, 9] 0 [] = some (((), (nV k l q 1).2 && ((nV k l q 4).2 && ((nV k l q 5).2 && ((nV k l q 6).2 && ((nV k l q 7).2 && (nV k l q 9).2))))), O) ∧
    (((nV k l q 1).2 && ((nV k l q 4).2 && ((nV k l q 5).2 && ((nV k l q 6).2 && ((nV k l q 7).2 && (nV k l q 9).2))))) = true → O = [(nV k l q 1).1, (nV k l q 4).1, (nV k l q 5).1, (nV k l q 6).1, (nV k l q 7).1, (nV k l q 9).1]) := by
    intro f hf
    obtain ⟨f, rfl⟩ : ∃ g, f = g + 7 := ⟨f - 7, by omega⟩
    have r0 : rdL [(1 : Int), 4, 5, 6, 7, 9] 0 = some 1 := rfl
    have r1 : rdL [(1 : Int), 4, 5, 6, 7, 9] 1 = some 4 := rfl
    have r2 : rdL [(1 : Int), 4, 5, 6, 7, 9] 2 = some 5 := rfl
    have r3 : rdL [(1 : Int), 4, 5, 6, 7, 9] 3 = some 6 := rfl
    have r4 : rdL [(1 : Int), 4, 5, 6, 7, 9] 4 = some 7 := rfl
    have r5 : rdL [(1 : Int), 4, 5, 6, 7, 9] 5 = some 9 := rfl
    have w0 : IntKind.wrap .i64 (0 + 1) = 1 := by decide
    have w1 : IntKind.wrap .i64 (1 + 1) = 2 := by decide
    have w2 : IntKind.wrap .i64 (2 + 1) = 3 := by decide
    have w3 : IntKind.wrap .i64 (3 + 1) = 4 := by decide
    have w4 : IntKind.wrap .i64 (4 + 1) = 5 := by decide
    have w5 : IntKind.wrap .i64 (5 + 1) = 6 := by decide
    have L6 : (([(1 : Int), 4, 5, 6, 7, 9].length : Nat) : Int) = 6 := rfl
    simp only [spec_l16Ids.l3, L6, show decide ((0 : Int) < 6) = true by decide, show decide ((1 : Int) < 6) = true by decide, show decide ((2 : Int) < 6) = true by decide, show decide ((3 : Int) < 6) = true by decide, show decide ((4 : Int) < 6) = true by decide, show decide ((5 : Int) < 6) = true by decide, show decide ((6 : Int) < 6) = false by decide, cond_true, cond_false, r0, r1, r2, r3, r4, r5, w0, w1, w2, w3, w4, w5, Option.bind_some, n1]
    cases (nV k l q 1).2 with
    | false => exact ⟨_, rfl, fun h => by cases h⟩
    | true =>
      simp only [Bool.not_true, cond_false, Bool.true_and]
      rw [lim_ok (by simp), cond_true]
      cases (nV k l q 4).2 with
      | false => exact ⟨_, rfl, fun h => by cases h⟩
      | true =>
        simp only [Bool.not_true, cond_false, Bool.true_and]
        rw [lim_ok (by simp), cond_true]
        cases (nV k l q 5).2 with
        | false => exact ⟨_, rfl, fun h => by cases h⟩
        | true =>
          simp only [Bool.not_true, cond_false, Bool.true_and]
          rw [lim_ok (by simp), cond_true]
          cases (nV k l q 6).2 with
          | false => exact ⟨_, rfl, fun h => by cases h⟩
          | true =>
            simp only [Bool.not_true, cond_false, Bool.true_and]
            rw [lim_ok (by simp), cond_true]
            cases (nV k l q 7).2 with
            | false => exact ⟨_, rfl, fun h => by cases h⟩
            | true =>
              simp only [Bool.not_true, cond_false, Bool.true_and]
              rw [lim_ok (by simp), cond_true]
              cases (nV k l q 9).2 with
              | false => exact ⟨_, rfl, fun h => by cases h⟩
              | true =>
                simp only [Bool.not_true, cond_false]
                rw [lim_ok (by simp), cond_true]
                exact ⟨_, rfl, fun _ => rfl⟩
  exact key k (by omega)

theorem sencs_loop (q : Nat) (hq : q < l.length) (o100 o101 c : Int × Int × Int × Int × Int × Unit × Unit) (E : List Int) (hE : E.length ≤ 1500) (hm : ∀ p, p ∈ E → 0 ≤ p ∧ p < (l.length : Int)) (o104 o105 : List Int) : ∀ (post pre : List Int) (f : Nat) (o : List Int), E = pre ++ post → post.length < f → o.length ≤ pre.length →
    spec_l18From.l18 k f l (q : Int) (pre.length : Int) o100 o101 E c o104 o105 o = if fV k l q 11 < 0 then some ((c, true), o ++ post.map (numAt l)) else if ((nV k l q 11).2 && decide (0 ≤ (nV k l q 11).1)) = true then some (((c.1, c.2.1, (nV k l q 11).1, c.2.2.2.1, c.2.2.2.2.1, (), ()), true), o ++ post.map (numAt l)) else some ((o101, false), o105) := by
  intro post
  induction post with
  | nil =>
    intro pre f o h' hf ho
    obtain ⟨f, rfl⟩ : ∃ q, f = q + 1 := ⟨f - 1, by omega⟩
    have hlen : E.length = pre.length := by rw [h']; simp
    obtain ⟨f1, _, _⟩ := find_val k (by omega) h q hq 11
    obtain ⟨n1, _, _⟩ := num_val k (by omega) h q hq 11
    simp only [spec_l18From.l18, decide_eq_false (show ¬ ((pre.length : Int) < (E.length : Int)) by omega), cond_false, List.map_nil, List.append_nil, f1, n1, Option.bind_some, spec_l18From.c26, cst]
    by_cases hf : fV k l q 11 < 0
    · rw [decide_eq_false (show ¬ fV k l q 11 ≥ 0 by omega), if_pos hf]; rfl
    · rw [decide_eq_true (show fV k l q 11 ≥ 0 by omega), if_neg hf]
      simp only [cond_true]
      by_cases hx : 0 ≤ (nV k l q 11).1
      · rw [decide_eq_true hx, decide_eq_false (show ¬ (nV k l q 11).1 < 0 by omega)]
        cases (nV k l q 11).2 <;> rfl
      · rw [decide_eq_false hx, decide_eq_true (show (nV k l q 11).1 < 0 by omega)]
        cases (nV k l q 11).2 <;> rfl
  | cons x post ih =>
    intro pre f o h' hf ho
    simp only [List.length_cons] at hf
    obtain ⟨f, rfl⟩ : ∃ q, f = q + 1 := ⟨f - 1, by omega⟩
    have hlen : E.length = pre.length + (post.length + 1) := by rw [h']; simp
    have hg : rdL E (pre.length : Int) = some x := by rw [h']; exact getMid _ _ _
    have hi1 : IntKind.wrap .i64 ((pre.length : Int) + 1) = ((pre.length + 1 : Nat) : Int) := by rw [w64 (by omega) (by omega)]; omega
    obtain ⟨x0, x1⟩ := hm x (by rw [h']; simp)
    obtain ⟨d, hd, _⟩ := rdL_some x0 x1
    have hi := ih (pre ++ [x]) f (o ++ [d.2.2.1]) (by rw [h']; simp) (by omega) (by simp; omega)
    rw [List.length_append, List.length_singleton] at hi
    simp only [spec_l18From.l18, decide_eq_true (show (pre.length : Int) < (E.length : Int) by omega), cond_true, hg, hd, Option.bind_some, hi1]
    rw [lim_ok (by simp; omega), cond_true, hi]
    simp [numAt, hd]

theorem spaths_loop (q : Nat) (j : Int) (o100 o101 : Int × Int × Int × Int × Int × Unit × Unit) (O EP E : List Int) (hE : E.length ≤ 1500) (hm : ∀ p, p ∈ E → 0 ≤ p ∧ p < (l.length : Int)) (N : List ByteArray) (hN : N.length = E.length) (o106 o107 : List Int) : ∀ (m f i : Nat), i + m = E.length → m < f →
    spec_l18From.l12 k f l j (q : Int) (i : Int) o100 o101 O EP E N o106 o107 = if (E.drop i).map (txtAt l) = N.drop i then ((rdL O 5).bind fun y9 => (rdL O 2).bind fun y10 => (rdL O 3).bind fun y11 => spec_l18From.l18 k k l (q : Int) 0 o100 o101 EP (j, y9, (-1), y10, y11, (), ()) o106 o107 []) else some ((o101, false), o107) := by
  intro m
  induction m with
  | zero =>
    intro f i hi hf
    obtain ⟨f, rfl⟩ : ∃ q, f = q + 1 := ⟨f - 1, by omega⟩
    simp only [spec_l18From.l12, decide_eq_false (show ¬ ((i : Int) < (E.length : Int)) by omega), cond_false]
    rw [List.drop_eq_nil_of_le (by omega), List.drop_eq_nil_of_le (by omega), List.map_nil, if_pos rfl]
  | succ m ih =>
    intro f i hi hf
    obtain ⟨f, rfl⟩ : ∃ q, f = q + 1 := ⟨f - 1, by omega⟩
    have ha := List.getElem?_eq_getElem (show i < E.length by omega)
    have hb := List.getElem?_eq_getElem (show i < N.length by omega)
    have hi1 : IntKind.wrap .i64 ((i : Int) + 1) = ((i + 1 : Nat) : Int) := by rw [w64 (by omega) (by omega)]; omega
    have da := List.drop_eq_getElem_cons (show i < E.length by omega)
    have db := List.drop_eq_getElem_cons (show i < N.length by omega)
    rw [da, db]
    obtain ⟨x0, x1⟩ := hm _ (List.mem_of_getElem? ha)
    generalize E[i]'_ = x at ha x0 x1
    generalize N[i]'_ = y at hb
    obtain ⟨d, hd, _⟩ := rdL_some x0 x1
    simp only [spec_l18From.l12, decide_eq_true (show (i : Int) < (E.length : Int) by omega), cond_true, rdL_nat, ha, hb, hd, Option.bind_some, eqS_iff, hi1, List.map_cons]
    have ht : txtAt l x = d.2.2.2.1 := by unfold txtAt; rw [hd]; rfl
    rw [ht]
    by_cases hxy : d.2.2.2.1 = y
    · rw [hxy, decide_eq_true rfl]
      simp only [Bool.not_true, cond_false, List.cons.injEq, true_and]
      rw [ih f (i + 1) (by omega) (by omega)]
    · rw [decide_eq_false hxy, if_neg (fun e => hxy (List.cons.inj e).1)]
      rfl

variable (s : List TCol) (hn : ∀ c, c ∈ s → c.1.size < k ∧ c.1.size < 1000000000 ∧ I64 c.2.2.2.1) (hS : IsSchema s) (hok : spec_SchemaOk k s = some true) (hok2 : impl_SchemaOk k s = some true)
include hn hS hok hok2

theorem schunk (a : Nat) (ha : a < l.length) (j : Nat) (hj : j < (leavesFrom 0 s).length) :
    ∃ hd E, spec_l18From k l (a : Int) s (j : Int) = some ((hd, chI k l s true a j), E) ∧
      (chI k l s true a j = true → hd = ((chV k l a j).1, (chV k l a j).2.1, (chV k l a j).2.2.1, (chV k l a j).2.2.2.1, (chV k l a j).2.2.2.2.1, (), ()) ∧ E = (chV k l a j).2.2.2.2.2.1) := by
  have hk2 : 2000 ≤ k := by omega
  obtain ⟨g1, _, g3⟩ := find_val k hk2 h a ha 3
  unfold spec_l18From
  simp only [g1, Option.bind_some]
  rcases own_eq k hk h a ha with ⟨ho, _⟩ | ⟨q, ho, q1, q2, q3, n, hnq, h12⟩
  · have hbad : (cond (decide (fV k l a 3 < 0)) (some true) ((rdL l (fV k l a 3)).bind fun y349 => some (y349.1 != 12))) = some true := by
      rcases g3 with g3 | ⟨q, g3, q1, q2⟩
      · rw [g3]; rfl
      · rw [g3, decide_eq_false (by omega), cond_false, rdL_nat, List.getElem?_eq_getElem q2]
        unfold ownV at ho
        rw [g3, if_neg (by omega), rdL_nat, List.getElem?_eq_getElem q2] at ho
        simp only [Option.map_some, Option.getD_some] at ho
        split at ho
        · omega
        · rename_i h12
          simp only [Option.bind_some, bneT h12]
    rw [hbad]
    have hI : chI k l s true a j = false := by
      unfold chI
      rw [ho, if_pos (by omega)]
    rw [hI]
    simp only [Option.bind_some, cond_true]
    exact ⟨_, _, rfl, fun h => by cases h⟩
  · have hgood : (cond (decide (fV k l a 3 < 0)) (some true) ((rdL l (fV k l a 3)).bind fun y349 => some (y349.1 != 12))) = some false := by
      rw [q3, decide_eq_false (by omega), cond_false, rdL_nat, hnq]
      simp only [Option.bind_some, bneF h12]
    obtain ⟨O, i1, i2⟩ := ids6 k hk h q q2
    obtain ⟨p1, _, p3⟩ := names_val k hk h s hn hS hok hok2 j
    obtain ⟨b1, _, m1, m2⟩ := parts_val k hk2 h q q2 2 5
    obtain ⟨b2, _, m3, m4⟩ := parts_val k hk2 h q q2 3 8
    obtain ⟨_, v2⟩ := leaves_eq k (by omega) s (by have := hS.2.1; omega)
    -- the leaf's type
    obtain ⟨lf, lb, e1, _, e3⟩ := leafOf_eq k s hn hk hS hok hok2 (j : Int)
    have hlb : lb = true := by
      unfold spec_LeafOf spec_SchemaLeaves at e1
      rw [hok] at e1
      have hll := leavesFrom_len 0 s
      have hs20 := hS.2.1
      simp only [Option.bind_some, Bool.not_true, cond_false, v2, l1In_eq] at e1
      rw [w64 (by omega) (by omega), show (decide ((0 : Int) ≤ (j : Int)) && decide ((j : Int) ≤ ((leavesFrom 0 s).length : Int) - 1)) = true by simp; omega] at e1
      simp only [Bool.not_true, cond_false] at e1
      cases h1 : rdL (leavesFrom 0 s) (j : Int) with
      | none => rw [h1] at e1; cases e1
      | some x =>
        rw [h1] at e1
        simp only [Option.bind_some] at e1
        cases h2 : spec_l5Max k s x with
        | none => rw [h2] at e1; cases e1
        | some y =>
          rw [h2] at e1
          simp only [Option.bind_some] at e1
          cases h3 : rdL s x with
          | none => rw [h3] at e1; cases e1
          | some z =>
            rw [h3] at e1
            simp only [Option.bind_some, Option.some.injEq, Prod.mk.injEq] at e1
            exact e1.2.symm
    obtain ⟨L, c, hL, hc, _, _, hlf⟩ := e3 hlb
    have hlfT : lfT k s j = c.2.1 := by unfold lfT; rw [e1, hlf]; rfl
    have hcr : rdL s ((L : Nat) : Int) = some c := hc
    rw [hgood, q3]
    simp only [Option.bind_some, cond_false, i1, b1, b2, p1, spec_l18From.d9, cond_true, v2, hL, hcr]
    have hI : chI k l s true a j = ((((nV k l q 1).2 && ((nV k l q 4).2 && ((nV k l q 5).2 && ((nV k l q 6).2 && ((nV k l q 7).2 && (nV k l q 9).2))))) && (pV k l q 2 5).1 && (pV k l q 3 8).1 && ((nV k l q 1).1 == c.2.1) && ((nV k l q 4).1 == 0) && ((nV k l q 6).1 == (nV k l q 7).1)) &&
        decide ((pV k l q 3 8).2.map (txtAt l) = nmsV k s j) && (if fV k l q 11 < 0 then true else (nV k l q 11).2 && decide (0 ≤ (nV k l q 11).1))) := by
      unfold chI
      rw [ho, if_neg (by omega), hlfT, show ((nV k l q 7).1 == (nV k l q 6).1) = ((nV k l q 6).1 == (nV k l q 7).1) from by rw [Bool.eq_iff_iff]; simp; omega]
      simp only [if_true]
      generalize (nV k l q 1).2 = x1
      generalize (nV k l q 4).2 = x2
      generalize (nV k l q 5).2 = x3
      generalize (nV k l q 6).2 = x4
      generalize (nV k l q 7).2 = x5
      generalize (nV k l q 9).2 = x6
      generalize (pV k l q 2 5).1 = x7
      generalize (pV k l q 3 8).1 = x8
      cases x1 <;> cases x2 <;> cases x3 <;> cases x4 <;> cases x5 <;> cases x6 <;> cases x7 <;> cases x8 <;> simp [Bool.and_assoc, Bool.and_comm, Bool.and_left_comm]
    rw [hI]
    clear hI
    generalize hA : ((nV k l q 1).2 && ((nV k l q 4).2 && ((nV k l q 5).2 && ((nV k l q 6).2 && ((nV k l q 7).2 && (nV k l q 9).2))))) = A at i2
    cases A with
    | false =>
      simp only [Bool.not_false, cond_true, Bool.false_and]
      exact ⟨_, _, rfl, fun h => by cases h⟩
    | true =>
      obtain rfl := i2 rfl
      simp only [Bool.not_true, cond_false, Bool.true_and]
      cases (pV k l q 2 5).1 with
      | false =>
        simp only [Bool.not_false, cond_true, Bool.false_and]
        exact ⟨_, _, rfl, fun h => by cases h⟩
      | true =>
        simp only [Bool.not_true, cond_false, Bool.true_and]
        cases (pV k l q 3 8).1 with
        | false =>
          simp only [Bool.not_false, cond_true, Bool.false_and]
          exact ⟨_, _, rfl, fun h => by cases h⟩
        | true =>
          simp only [Bool.not_true, cond_false, Bool.true_and]
          by_cases hlen : (pV k l q 3 8).2.length = (nmsV k s j).length
          · have r0 : rdL [(nV k l q 1).1, (nV k l q 4).1, (nV k l q 5).1, (nV k l q 6).1, (nV k l q 7).1, (nV k l q 9).1] 0 = some (nV k l q 1).1 := rfl
            have r1 : rdL [(nV k l q 1).1, (nV k l q 4).1, (nV k l q 5).1, (nV k l q 6).1, (nV k l q 7).1, (nV k l q 9).1] 1 = some (nV k l q 4).1 := rfl
            have r2 : rdL [(nV k l q 1).1, (nV k l q 4).1, (nV k l q 5).1, (nV k l q 6).1, (nV k l q 7).1, (nV k l q 9).1] 2 = some (nV k l q 5).1 := rfl
            have r3 : rdL [(nV k l q 1).1, (nV k l q 4).1, (nV k l q 5).1, (nV k l q 6).1, (nV k l q 7).1, (nV k l q 9).1] 3 = some (nV k l q 6).1 := rfl
            have r4 : rdL [(nV k l q 1).1, (nV k l q 4).1, (nV k l q 5).1, (nV k l q 6).1, (nV k l q 7).1, (nV k l q 9).1] 4 = some (nV k l q 7).1 := rfl
            have r5 : rdL [(nV k l q 1).1, (nV k l q 4).1, (nV k l q 5).1, (nV k l q 6).1, (nV k l q 7).1, (nV k l q 9).1] 5 = some (nV k l q 9).1 := rfl
            rw [bneF (show ((pV k l q 3 8).2.length : Int) = ((nmsV k s j).length : Int) by omega)]
            simp only [cond_false, r0, r1, r3, r4, Option.bind_some, bne]
            cases ((nV k l q 1).1 == c.2.1) with
            | false =>
              simp only [Bool.not_false, cond_true, Bool.false_and]
              exact ⟨_, _, rfl, fun h => by cases h⟩
            | true =>
              simp only [Bool.not_true, cond_false, Bool.true_and]
              cases ((nV k l q 4).1 == 0) with
              | false =>
                simp only [Bool.not_false, cond_true, Bool.false_and]
                exact ⟨_, _, rfl, fun h => by cases h⟩
              | true =>
                simp only [Bool.not_true, cond_false, Bool.true_and]
                cases ((nV k l q 6).1 == (nV k l q 7).1) with
                | false =>
                  simp only [Bool.not_false, cond_true, Bool.false_and]
                  exact ⟨_, _, rfl, fun h => by cases h⟩
                | true =>
                  simp only [Bool.not_true, cond_false, Bool.true_and]
                  have lp := spaths_loop k hk h q (j : Int) (0, 0, 0, 0, 0, (), ()) (0, 0, 0, 0, 0, (), ()) [(nV k l q 1).1, (nV k l q 4).1, (nV k l q 5).1, (nV k l q 6).1, (nV k l q 7).1, (nV k l q 9).1] (pV k l q 2 5).2 (pV k l q 3 8).2 m3 m4 (nmsV k s j) hlen.symm [] [] (pV k l q 3 8).2.length k 0 (by omega) (by omega)
                  rw [show ((0 : Nat) : Int) = 0 from rfl] at lp
                  rw [lp, List.drop_zero, List.drop_zero]
                  by_cases hp : (pV k l q 3 8).2.map (txtAt l) = nmsV k s j
                  · rw [if_pos hp, decide_eq_true hp]
                    simp only [r5, r2, r3, Option.bind_some, Bool.true_and]
                    have le := sencs_loop k hk h q q2 (0, 0, 0, 0, 0, (), ()) (0, 0, 0, 0, 0, (), ()) ((j : Int), (nV k l q 9).1, (-1), (nV k l q 5).1, (nV k l q 6).1, (), ()) (pV k l q 2 5).2 m1 m2 [] [] (pV k l q 2 5).2 [] k [] rfl (by omega) (by simp)
                    rw [List.length_nil, show ((0 : Nat) : Int) = 0 from rfl] at le
                    rw [le]
                    have hch : chV k l a j = ((j : Int), (nV k l q 9).1, (if fV k l q 11 < 0 then -1 else (nV k l q 11).1), (nV k l q 5).1, (nV k l q 6).1, (pV k l q 2 5).2.map (numAt l), ()) := by
                      unfold chV
                      rw [ho, if_neg (by omega)]
                    rw [hch]
                    by_cases hf : fV k l q 11 < 0
                    · simp only [if_pos hf, List.nil_append]
                      exact ⟨_, _, rfl, fun _ => ⟨rfl, rfl⟩⟩
                    · simp only [if_neg hf, List.nil_append]
                      cases hd : ((nV k l q 11).2 && decide (0 ≤ (nV k l q 11).1)) with
                      | false =>
                        rw [if_neg (by decide)]
                        exact ⟨_, _, rfl, fun h => by cases h⟩
                      | true =>
                        rw [if_pos rfl]
                        exact ⟨_, _, rfl, fun _ => ⟨rfl, rfl⟩⟩
                  · rw [if_neg hp, decide_eq_false hp]
                    simp only [Bool.false_and]
                    exact ⟨_, _, rfl, fun h => by cases h⟩
          · rw [bneT (show ¬ ((pV k l q 3 8).2.length : Int) = ((nmsV k s j).length : Int) by omega)]
            have hp : ¬ (pV k l q 3 8).2.map (txtAt l) = nmsV k s j := fun e => hlen (by rw [← e, List.length_map])
            rw [decide_eq_false hp]
            simp only [cond_true, Bool.and_false, Bool.false_and]
            exact ⟨_, _, rfl, fun h => by cases h⟩
end
end Go.Law
end

section
/- Which feet are right: the program's MetaOk and the reference's. -/
set_option linter.unusedVariables false
set_option linter.unusedSimpArgs false
set_option linter.unusedSectionVars false
namespace Go.Law
open Go.Am Go.Fn

section
variable (k : Nat)

theorem encs_loop (c : TChunk) (hc : c.2.2.2.2.2.1.length < k) (hl : c.2.2.2.2.2.1.length < 4294967296) : ∀ (m f f' i : Nat), i + m = c.2.2.2.2.2.1.length → m < f → m < f' →
    ∃ b, spec_l18Chunk.l4 k f (i : Int) c = some b ∧ impl_encsRight.l2 k f' c.2.2.2.2.2.1 c.2.2.2.2.2.1 (c.2.2.2.2.2.1.length : Int) (i : Int) = some (b && (decide ((1 : Int) ≤ (c.2.2.2.2.2.1.length : Int)) && decide ((c.2.2.2.2.2.1.length : Int) ≤ 5))) := by
  intro m
  induction m with
  | zero =>
    intro f f' i hi hf hf'
    obtain ⟨f, rfl⟩ : ∃ q, f = q + 1 := ⟨f - 1, by omega⟩
    obtain ⟨f', rfl⟩ : ∃ q, f' = q + 1 := ⟨f' - 1, by omega⟩
    simp only [spec_l18Chunk.l4, impl_encsRight.l2, decide_eq_false (show ¬ ((i : Int) < (c.2.2.2.2.2.1.length : Int)) by omega), cond_false, within_eq, Option.bind_some]
    exact ⟨true, rfl, by rw [Bool.true_and]⟩
  | succ m ih =>
    intro f f' i hi hf hf'
    obtain ⟨f, rfl⟩ : ∃ q, f = q + 1 := ⟨f - 1, by omega⟩
    obtain ⟨f', rfl⟩ : ∃ q, f' = q + 1 := ⟨f' - 1, by omega⟩
    obtain ⟨x, hx, _⟩ := rdL_some (xs := c.2.2.2.2.2.1) (i := (i : Int)) (by omega) (by omega)
    have hi1 : IntKind.wrap .i64 ((i : Int) + 1) = ((i + 1 : Nat) : Int) := by rw [w64 (by omega) (by omega)]; omega
    obtain ⟨b, g1, g2⟩ := ih f f' (i + 1) (by omega) (by omega) (by omega)
    simp only [spec_l18Chunk.l4, impl_encsRight.l2, decide_eq_true (show (i : Int) < (c.2.2.2.2.2.1.length : Int) by omega), cond_true, spec_l18Chunk.d6, hx, Option.bind_some, within_eq, l1In_eq, hi1, g1, g2]
    cases (decide ((0 : Int) ≤ x) && decide (x ≤ 9)) with
    | false =>
      simp only [Bool.not_false, cond_true, Option.bind_some]
      exact ⟨false, rfl, by rw [Bool.false_and]⟩
    | true =>
      simp only [Bool.not_true, cond_false]
      by_cases h0 : (i : Int) > 0
      · obtain ⟨y, hy, _⟩ := rdL_some (xs := c.2.2.2.2.2.1) (i := (i : Int) - 1) (by omega) (by omega)
        have hm1 : IntKind.wrap .i64 ((i : Int) - 1) = (i : Int) - 1 := w64 (by omega) (by omega)
        simp only [decide_eq_true h0, cond_true, hm1, hy, Option.bind_some]
        cases decide (y ≥ x) with
        | true =>
          simp only [cond_true]
          exact ⟨false, rfl, by rw [Bool.false_and]⟩
        | false =>
          simp only [cond_false]
          exact ⟨b, rfl, rfl⟩
      · simp only [decide_eq_false h0, cond_false, Option.bind_some]
        exact ⟨b, rfl, rfl⟩

theorem chunk_eq (c : TChunk) (hc : c.2.2.2.2.2.1.length < k) (hl : c.2.2.2.2.2.1.length < 4294967296) (leaf : Int) : ∃ b, spec_l18Chunk k c leaf = some b ∧ impl_chunkOk k c leaf = some b ∧ (b = true → -1 ≤ c.2.2.1) := by
  obtain ⟨b, g1, g2⟩ := encs_loop k c hc hl c.2.2.2.2.2.1.length k k 0 (by omega) hc hc
  rw [show ((0 : Nat) : Int) = 0 from rfl] at g1 g2
  unfold spec_l18Chunk impl_chunkOk impl_encsRight
  simp only [l1In_eq, within_eq, Option.bind_some, cst, csf, g1, g2]
  generalize h2 : (decide ((0 : Int) ≤ c.2.1) && decide (c.2.1 ≤ 60000)) = x2
  generalize h3 : (decide ((-1 : Int) ≤ c.2.2.1) && decide (c.2.2.1 ≤ 60000)) = x3
  generalize (decide ((1 : Int) ≤ c.2.2.2.1) && decide (c.2.2.2.1 ≤ 2000)) = x4
  generalize (decide ((0 : Int) ≤ c.2.2.2.2.1) && decide (c.2.2.2.2.1 ≤ 60000)) = x5
  generalize (decide ((1 : Int) ≤ (c.2.2.2.2.2.1.length : Int)) && decide ((c.2.2.2.2.2.1.length : Int) ≤ 5)) = x6
  simp only [bne]
  generalize (c.1 == leaf) = x1
  have hd : x3 = true → -1 ≤ c.2.2.1 := fun h => by
    rw [h] at h3
    simp only [Bool.and_eq_true, decide_eq_true_eq] at h3
    exact h3.1
  clear g1 g2 h2 h3
  cases x1 <;> cases x2 <;> cases x3 <;> cases x4 <;> cases x5 <;> cases x6 <;> cases b <;> first | exact ⟨_, rfl, rfl, fun _ => hd rfl⟩ | exact ⟨_, rfl, rfl, fun h => Bool.noConfusion h⟩
end

def GoodGroups (n : Nat) (G : List TGroupMeta) : Prop := ∀ g, g ∈ G → g.2.1.length = n ∧ ∀ c, c ∈ g.2.1 → -1 ≤ c.2.2.1

def Fit (k : Nat) (G : List TGroupMeta) : Prop := ∀ g, g ∈ G → g.2.1.length < k ∧ g.2.1.length < 4294967296 ∧ ∀ c, c ∈ g.2.1 → c.2.2.2.2.2.1.length < k ∧ c.2.2.2.2.2.1.length < 4294967296

section
variable (k : Nat) (hk : 2000 ≤ k) (s : List TCol) (hok : spec_SchemaOk k s = some true) (hok2 : impl_SchemaOk k s = some true) (hs : s.length ≤ 1000)
include hk hok hok2 hs

theorem chunks_loop (m : TMeta) (g : TGroupMeta) (L6 : Int → Int → TMeta → List Int → Option Bool) (L5 : Int → List TGroupMeta → Int → Int → TMeta → Option Bool) (hfit : g.2.1.length < 4294967296 ∧ ∀ c, c ∈ g.2.1 → c.2.2.2.2.2.1.length < k ∧ c.2.2.2.2.2.1.length < 4294967296)
    (t4 t5 : Int) (o101 : List Int) (t3 : Int) (t19 : List TGroupMeta) (t20 t21 : Int) (x y : Bool) (h6 : L6 t4 (IntKind.wrap .i64 (t5 + 1)) m o101 = some x) (h5 : L5 (IntKind.wrap .i64 (t3 + g.1)) t19 t20 (IntKind.wrap .i64 (t21 + 1)) m = some y) :
    ∀ (post pre : List TChunk) (f f' : Nat), g.2.1 = pre ++ post → post.length < f → post.length < f' →
    ∃ b, spec_MetaOk.l13 k L6 f t4 t5 (pre.length : Int) m o101 g = some (b && x) ∧ impl_MetaOk.l10 k L5 f' t3 t19 t20 t21 g.2.1 (g.2.1.length : Int) (pre.length : Int) m g = some (b && y) ∧ (b = true → ∀ c, c ∈ post → -1 ≤ c.2.2.1) := by
  intro post
  induction post with
  | nil =>
    intro pre f f' h hf hf'
    obtain ⟨f, rfl⟩ : ∃ q, f = q + 1 := ⟨f - 1, by omega⟩
    obtain ⟨f', rfl⟩ : ∃ q, f' = q + 1 := ⟨f' - 1, by omega⟩
    have hlen : g.2.1.length = pre.length := by rw [h]; simp
    simp only [spec_MetaOk.l13, impl_MetaOk.l10, decide_eq_false (show ¬ ((pre.length : Int) < (g.2.1.length : Int)) by omega), cond_false, h6, h5]
    exact ⟨true, by simp, by simp, fun _ c hc => by cases hc⟩
  | cons c post ih =>
    intro pre f f' h hf hf'
    simp only [List.length_cons] at hf hf'
    obtain ⟨f, rfl⟩ : ∃ q, f = q + 1 := ⟨f - 1, by omega⟩
    obtain ⟨f', rfl⟩ : ∃ q, f' = q + 1 := ⟨f' - 1, by omega⟩
    have hlen : g.2.1.length = pre.length + (post.length + 1) := by rw [h]; simp
    have hg : rdL g.2.1 (pre.length : Int) = some c := by rw [h]; exact getMid _ _ _
    have hi1 : IntKind.wrap .i64 ((pre.length : Int) + 1) = ((pre.length + 1 : Nat) : Int) := by rw [w64 (by omega) (by omega)]; omega
    have hcm : c ∈ g.2.1 := by rw [h]; simp
    obtain ⟨b, e1, e2, e3⟩ := chunk_eq k c (hfit.2 c hcm).1 (hfit.2 c hcm).2 (pre.length : Int)
    obtain ⟨b', i1, i2, i3⟩ := ih (pre ++ [c]) f f' (by rw [h]; simp) (by omega) (by omega)
    rw [List.length_append, List.length_singleton] at i1 i2
    simp only [spec_MetaOk.l13, impl_MetaOk.l10, decide_eq_true (show (pre.length : Int) < (g.2.1.length : Int) by omega), cond_true, hg, Option.bind_some, e1, e2, hi1, i1, i2]
    cases b with
    | false => exact ⟨false, rfl, rfl, fun h => by cases h⟩
    | true =>
      refine ⟨b', rfl, rfl, fun hb c' hc' => ?_⟩
      rcases List.mem_cons.1 hc' with rfl | hc'
      · exact e3 rfl
      · exact i3 hb c' hc'

theorem groups_loop (m : TMeta) (hm : m.1 = s) (hfit : Fit k m.2.2.1) (hG : m.2.2.1.length ≤ 40) : ∀ (post pre : List TGroupMeta) (f f' : Nat) (R : Int), m.2.2.1 = pre ++ post → post.length < f → post.length < f' → 0 ≤ R → R ≤ 200 * pre.length →
    ∃ b, spec_MetaOk.l6 k f R (pre.length : Int) m (leavesFrom 0 s) = some b ∧ impl_MetaOk.l5 k f' R m.2.2.1 (m.2.2.1.length : Int) (pre.length : Int) m = some (b && decide (m.2.1 ≤ 200)) ∧ (b = true → 0 ≤ m.2.1 ∧ GoodGroups (leavesFrom 0 s).length post) := by
  obtain ⟨v1, v2⟩ := leaves_eq k hk s hs
  intro post
  induction post with
  | nil =>
    intro pre f f' R h hf hf' h0 hR
    obtain ⟨f, rfl⟩ : ∃ q, f = q + 1 := ⟨f - 1, by omega⟩
    obtain ⟨f', rfl⟩ : ∃ q, f' = q + 1 := ⟨f' - 1, by omega⟩
    have hlen : m.2.2.1.length = pre.length := by rw [h]; simp
    simp only [spec_MetaOk.l6, impl_MetaOk.l5, decide_eq_false (show ¬ ((pre.length : Int) < (m.2.2.1.length : Int)) by omega), cond_false, csf, Option.bind_some]
    refine ⟨_, rfl, ?_, fun hb => ⟨?_, fun g hg => by cases hg⟩⟩
    · by_cases he : R = m.2.1
      · rw [beqT he, he]
      · rw [beqF he]; rfl
    · simp only [beq_iff_eq] at hb
      omega
  | cons g post ih =>
    intro pre f f' R h hf hf' h0 hR
    simp only [List.length_cons] at hf hf'
    obtain ⟨f, rfl⟩ : ∃ q, f = q + 1 := ⟨f - 1, by omega⟩
    obtain ⟨f', rfl⟩ : ∃ q, f' = q + 1 := ⟨f' - 1, by omega⟩
    have hlen : m.2.2.1.length = pre.length + (post.length + 1) := by rw [h]; simp
    have hg : rdL m.2.2.1 (pre.length : Int) = some g := by rw [h]; exact getMid _ _ _
    have hgm : g ∈ m.2.2.1 := by rw [h]; simp
    have hi1 : IntKind.wrap .i64 ((pre.length : Int) + 1) = ((pre.length + 1 : Nat) : Int) := by rw [w64 (by omega) (by omega)]; omega
    simp only [spec_MetaOk.l6, impl_MetaOk.l5, decide_eq_true (show (pre.length : Int) < (m.2.2.1.length : Int) by omega), cond_true, hg, Option.bind_some, l1In_eq, cst, impl_MetaOk.d7, within_eq, hm, v1]
    by_cases hr : 1 ≤ g.1 ∧ g.1 ≤ 200
    · have hw : (decide ((1 : Int) ≤ g.1) && decide (g.1 ≤ 200)) = true := by simp; omega
      have hR1 : IntKind.wrap .i64 (R + g.1) = R + g.1 := w64 (by omega) (by omega)
      simp only [hw, Bool.not_true, Bool.false_or, cond_false, Option.bind_some]
      by_cases hn : g.2.1.length = (leavesFrom 0 s).length
      · rw [bneF (show ((g.2.1.length : Int)) = ((leavesFrom 0 s).length : Int) by omega), cond_false, cond_false]
        obtain ⟨b', i1, i2, i3⟩ := ih (pre ++ [g]) f f' (R + g.1) (by rw [h]; simp) (by omega) (by omega) (by omega) (by simp; omega)
        rw [List.length_append, List.length_singleton] at i1 i2
        obtain ⟨b, c1, c2, c3⟩ := chunks_loop k hk s hok hok2 hs m g (spec_MetaOk.l6 k f) (impl_MetaOk.l5 k f') (hfit g hgm).2 (IntKind.wrap .i64 (R + g.1)) (pre.length : Int) (leavesFrom 0 s) R m.2.2.1 (m.2.2.1.length : Int) (pre.length : Int) b' (b' && decide (m.2.1 ≤ 200)) (by rw [hR1, hi1]; exact i1) (by rw [hR1, hi1]; exact i2) g.2.1 [] k k rfl (hfit g hgm).1 (hfit g hgm).1
        rw [List.length_nil, show ((0 : Nat) : Int) = 0 from rfl] at c1 c2
        rw [c1, c2]
        refine ⟨_, rfl, by rw [Bool.and_assoc], fun hb => ?_⟩
        simp only [Bool.and_eq_true] at hb
        obtain ⟨q1, q2⟩ := i3 hb.2
        refine ⟨q1, fun g' hg' => ?_⟩
        rcases List.mem_cons.1 hg' with rfl | hg'
        · exact ⟨hn, c3 hb.1⟩
        · exact q2 g' hg'
      · rw [bneT (show ¬ ((g.2.1.length : Int)) = ((leavesFrom 0 s).length : Int) by omega), cond_true, cond_true]
        exact ⟨false, rfl, rfl, fun h => by cases h⟩
    · have hw : (decide ((1 : Int) ≤ g.1) && decide (g.1 ≤ 200)) = false := by
        rw [Bool.eq_false_iff]; intro q
        simp only [Bool.and_eq_true, decide_eq_true_eq] at q
        exact hr q
      simp only [hw, Bool.not_false, Bool.true_or, cond_true]
      exact ⟨false, rfl, rfl, fun h => by cases h⟩

theorem metaOk_eq (rows : Int) (G : List TGroupMeta) (hfit : Fit k G) : ∃ b, spec_MetaOk k (s, rows, G, ()) = some b ∧ impl_MetaOk k (s, rows, G, ()) = some b ∧ (b = true → G.length ≤ 40 ∧ 0 ≤ rows ∧ rows ≤ 200 ∧ GoodGroups (leavesFrom 0 s).length G) := by
  obtain ⟨v1, v2⟩ := leaves_eq k hk s hs
  unfold spec_MetaOk impl_MetaOk spec_SchemaLeaves
  simp only [hok, hok2, v2, Option.bind_some, Bool.not_true, cond_false, cst, Bool.false_or, l1In_eq]
  by_cases hG : G.length ≤ 40
  · rw [decide_eq_false (show ¬ ((G.length : Int) > 40) by omega)]
    obtain ⟨b, e1, e2, e3⟩ := groups_loop k hk s hok hok2 hs (s, rows, G, ()) rfl hfit hG G [] k k 0 rfl (by omega) (by omega) (by omega) (by simp)
    have e1 : spec_MetaOk.l6 k k 0 0 (s, rows, G, ()) (leavesFrom 0 s) = some b := e1
    have e2 : impl_MetaOk.l5 k k 0 G (G.length : Int) 0 (s, rows, G, ()) = some (b && decide (rows ≤ 200)) := e2
    simp only [Bool.false_or, cond_false, e2]
    by_cases hr : 0 ≤ rows ∧ rows ≤ 200
    · rw [show (decide ((0 : Int) ≤ rows) && decide (rows ≤ 200)) = true by simp; omega, decide_eq_true hr.2]
      simp only [Bool.not_true, cond_false, Bool.and_true, e1]
      exact ⟨b, rfl, rfl, fun h => ⟨hG, hr.1, hr.2, (e3 h).2⟩⟩
    · rw [show (decide ((0 : Int) ≤ rows) && decide (rows ≤ 200)) = false by rw [Bool.eq_false_iff]; intro q; simp only [Bool.and_eq_true, decide_eq_true_eq] at q; exact hr q]
      simp only [Bool.not_false, cond_true]
      refine ⟨false, rfl, ?_, fun h => by cases h⟩
      cases b with
      | false => rfl
      | true =>
        have := (e3 rfl).1
        have this : 0 ≤ rows := this
        rw [decide_eq_false (show ¬ rows ≤ 200 by omega)]; rfl
  · rw [decide_eq_true (show ((G.length : Int) > 40) by omega)]
    exact ⟨false, rfl, rfl, fun h => by cases h⟩
end
end Go.Law
end

section
/- MetaFrom, the program's and the reference's. -/
set_option linter.unusedVariables false
set_option linter.unusedSimpArgs false
set_option linter.unusedSectionVars false
namespace Go.Law
open Go.Am Go.Fn

def chsI (k : Nat) (l : List TNode) (s : List TCol) (strict : Bool) : Nat → List Int → Bool
  | _, [] => true
  | j, p :: r => chI k l s strict p j && chsI k l s strict (j + 1) r
def chsV (k : Nat) (l : List TNode) : Nat → List Int → List TChunk
  | _, [] => []
  | j, p :: r => chV k l p j :: chsV k l (j + 1) r

theorem chsV_len (k : Nat) (l : List TNode) : ∀ (r : List Int) (j : Nat), (chsV k l j r).length = r.length
  | [], _ => rfl
  | p :: r, j => by simp [chsV, chsV_len k l r (j + 1)]

def grI (k : Nat) (l : List TNode) (s : List TCol) (a : Int) : Bool := (nV k l a 3).2 && (pV k l a 1 12).1 && (chsI k l s false 0 (pV k l a 1 12).2 && decide ((pV k l a 1 12).2.length ≤ 20))
def grS (k : Nat) (l : List TNode) (s : List TCol) (a : Int) : Bool := (nV k l a 3).2 && (pV k l a 1 12).1 && (decide ((pV k l a 1 12).2.length = (leavesFrom 0 s).length) && chsI k l s true 0 (pV k l a 1 12).2)
def grV (k : Nat) (l : List TNode) (a : Int) : TGroupMeta := ((nV k l a 3).1, chsV k l 0 (pV k l a 1 12).2, ())

abbrev noMeta : ((Unit × Int × Unit × Unit) × Bool) × (List TCol) × (List TGroupMeta) := ((((), 0, (), ()), false), ([], []))

section
variable (k : Nat) (hk : 2000000 ≤ k) {l : List TNode} {af : List Int} (h : TreeFacts l af)
variable (s : List TCol) (hn : ∀ c, c ∈ s → c.1.size < k ∧ c.1.size < 1000000000 ∧ I64 c.2.2.2.1) (hS : IsSchema s) (hok : spec_SchemaOk k s = some true) (hok2 : impl_SchemaOk k s = some true)
include hk h hn hS hok hok2

theorem igroup_loop (o100 o101 : Int × Unit × Unit) (ps : List Int) (hps : ps.length ≤ 1500) (hm : ∀ p, p ∈ ps → 0 ≤ p ∧ p < (l.length : Int)) (o103 : List TChunk) : ∀ (post pre : List Int) (f : Nat) (b : Bool) (acc : List TChunk), ps = pre ++ post → post.length < f → acc.length ≤ pre.length → (b = false → pre.length ≤ 20) →
    ∃ acc', impl_metaReader_group.l4 k f (ps.length : Int) (pre.length : Int) (mR b) (tB l) af s o100 o101 ps o103 acc = some (o101, (mR (b || !(chsI k l s false pre.length post && decide (ps.length ≤ 20))), tB l, af, s, acc')) ∧ ((b || !(chsI k l s false pre.length post && decide (ps.length ≤ 20))) = false → acc' = acc ++ chsV k l pre.length post) := by
  intro post
  induction post with
  | nil =>
    intro pre f b acc h' hf ha hb
    obtain ⟨f, rfl⟩ : ∃ q, f = q + 1 := ⟨f - 1, by omega⟩
    have hlen : ps.length = pre.length := by rw [h']; simp
    simp only [impl_metaReader_group.l4, decide_eq_false (show ¬ ((pre.length : Int) < (ps.length : Int)) by omega), cond_false, impl_metaReader_group.c11, chsI, chsV, List.append_nil, Bool.true_and]
    cases b with
    | true => exact ⟨_, rfl, fun h => by cases h⟩
    | false =>
      have := hb rfl
      rw [decide_eq_true (show ps.length ≤ 20 by omega)]
      exact ⟨_, rfl, fun _ => rfl⟩
  | cons x post ih =>
    intro pre f b acc h' hf ha hb
    simp only [List.length_cons] at hf
    obtain ⟨f, rfl⟩ : ∃ q, f = q + 1 := ⟨f - 1, by omega⟩
    have hlen : ps.length = pre.length + (post.length + 1) := by rw [h']; simp
    have hg : rdL ps (pre.length : Int) = some x := by rw [h']; exact getMid _ _ _
    have hi1 : IntKind.wrap .i64 ((pre.length : Int) + 1) = ((pre.length + 1 : Nat) : Int) := by rw [w64 (by omega) (by omega)]; omega
    obtain ⟨x0, x1⟩ := hm x (by rw [h']; simp)
    obtain ⟨a, rfl⟩ := Int.eq_ofNat_of_zero_le x0
    simp only [impl_metaReader_group.l4, decide_eq_true (show (pre.length : Int) < (ps.length : Int) by omega), cond_true, hg, Option.bind_some, cst, impl_metaReader_group.c11]
    cases b with
    | true =>
      simp only [Bool.true_or, cond_true]
      exact ⟨_, rfl, fun h => by cases h⟩
    | false =>
      simp only [Bool.false_or]
      by_cases h20 : 20 ≤ pre.length
      · rw [decide_eq_true (show (pre.length : Int) ≥ 20 by omega), cond_true, decide_eq_false (show ¬ ps.length ≤ 20 by omega), Bool.and_false]
        exact ⟨_, rfl, fun h => by cases h⟩
      · rw [decide_eq_false (show ¬ (pre.length : Int) ≥ 20 by omega), cond_false, ichunk k hk h s hn hS hok hok2 a (by omega) (pre.length : Int) false]
        simp only [Option.bind_some, hi1, Bool.false_or]
        rw [lim_ok (by simp; omega), cond_true]
        obtain ⟨acc', e1, e2⟩ := ih (pre ++ [(a : Int)]) f (!chI k l s false a pre.length) (acc ++ [chV k l a pre.length]) (by rw [h']; simp) (by omega) (by simp; omega) (fun _ => by simp; omega)
        rw [List.length_append, List.length_singleton] at e1 e2
        have hb' : ((!chI k l s false (a : Int) (pre.length : Int)) || !(chsI k l s false (pre.length + 1) post && decide (ps.length ≤ 20))) = !(chsI k l s false pre.length ((a : Int) :: post) && decide (ps.length ≤ 20)) := by
          simp only [chsI]
          cases chI k l s false (a : Int) (pre.length : Int) <;> rfl
        rw [hb'] at e1 e2
        refine ⟨acc', e1, fun hh => ?_⟩
        rw [e2 hh]
        simp [chsV]

theorem igroup (a : Nat) (ha : a < l.length) (b : Bool) : ∃ C, impl_metaReader_group k (a : Int) (mR b) (tB l) af s = some (((nV k l a 3).1, (), ()), (mR (b || !grI k l s a), tB l, af, s, C)) ∧ ((b || !grI k l s a) = false → C = chsV k l 0 (pV k l a 1 12).2) := by
  have hk2 : 2000 ≤ k := by omega
  obtain ⟨_, _, m1, m2⟩ := parts_val k hk2 h a ha 1 12
  unfold impl_metaReader_group
  simp only [mnum k hk2 h a ha, mlist k hk2 h a ha, Option.bind_some]
  obtain ⟨C, e1, e2⟩ := igroup_loop k hk h s hn hS hok hok2 (0, (), ()) ((nV k l a 3).1, (), ()) (pV k l a 1 12).2 m1 m2 [] (pV k l a 1 12).2 [] k (b || !(nV k l a 3).2 || !(pV k l a 1 12).1) [] rfl (by omega) (by simp) (fun _ => by simp)
  rw [List.length_nil, show ((0 : Nat) : Int) = 0 from rfl] at e1
  rw [List.length_nil] at e2
  have hb : (b || !(nV k l a 3).2 || !(pV k l a 1 12).1 || !(chsI k l s false 0 (pV k l a 1 12).2 && decide ((pV k l a 1 12).2.length ≤ 20))) = (b || !grI k l s a) := by
    unfold grI
    cases b <;> cases (nV k l a 3).2 <;> cases (pV k l a 1 12).1 <;> rfl
  rw [hb] at e1 e2
  exact ⟨C, e1, fun hh => by rw [e2 hh]; rfl⟩

theorem igroups_loop (o100 o101 : Unit × Int × Unit × Unit) (gs : List Int) (hgs : gs.length ≤ 1500) (hm : ∀ p, p ∈ gs → 0 ≤ p ∧ p < (l.length : Int)) (o104 : List TCol) (o105 : List TGroupMeta) : ∀ (post pre : List Int) (f : Nat) (b : Bool) (G : List TGroupMeta), gs = pre ++ post → post.length < f → G.length ≤ pre.length →
    impl_MetaFrom.l11 k f (gs.length : Int) (pre.length : Int) o100 o101 (mR b) gs o104 o105 s G (tB l) af = if (b || !post.all (grI k l s)) = true then some noMeta else (impl_MetaOk k (s, o101.2.1, G ++ post.map (grV k l), ())).bind fun r => cond (!r) (some noMeta) (some ((o101, true), (s, G ++ post.map (grV k l)))) := by
  -- once bad, always
  have bad : ∀ (post pre : List Int) (f : Nat) (G : List TGroupMeta), gs = pre ++ post → post.length < f → G.length ≤ pre.length → impl_MetaFrom.l11 k f (gs.length : Int) (pre.length : Int) o100 o101 (mR true) gs o104 o105 s G (tB l) af = some noMeta := by
    intro post
    induction post with
    | nil =>
      intro pre f G h' hf hG
      obtain ⟨f, rfl⟩ : ∃ q, f = q + 1 := ⟨f - 1, by omega⟩
      have hlen : gs.length = pre.length := by rw [h']; simp
      simp only [impl_MetaFrom.l11, decide_eq_false (show ¬ ((pre.length : Int) < (gs.length : Int)) by omega), cond_false, cond_true, Option.bind_some]
    | cons x post ih =>
      intro pre f G h' hf hG
      simp only [List.length_cons] at hf
      obtain ⟨f, rfl⟩ : ∃ q, f = q + 1 := ⟨f - 1, by omega⟩
      have hlen : gs.length = pre.length + (post.length + 1) := by rw [h']; simp
      have hg : rdL gs (pre.length : Int) = some x := by rw [h']; exact getMid _ _ _
      have hi1 : IntKind.wrap .i64 ((pre.length : Int) + 1) = ((pre.length + 1 : Nat) : Int) := by rw [w64 (by omega) (by omega)]; omega
      obtain ⟨x0, x1⟩ := hm x (by rw [h']; simp)
      obtain ⟨a, rfl⟩ := Int.eq_ofNat_of_zero_le x0
      obtain ⟨C, e1, _⟩ := igroup k hk h s hn hS hok hok2 a (by omega) true
      simp only [impl_MetaFrom.l11, decide_eq_true (show (pre.length : Int) < (gs.length : Int) by omega), cond_true, hg, Option.bind_some, e1, hi1, Bool.true_or]
      rw [lim_ok (by simp; omega), cond_true]
      have := ih (pre ++ [(a : Int)]) f (G ++ [((nV k l a 3).1, C, ())]) (by rw [h']; simp) (by omega) (by simp; omega)
      rw [List.length_append, List.length_singleton] at this
      exact this
  intro post
  induction post with
  | nil =>
    intro pre f b G h' hf hG
    cases b with
    | true => rw [bad [] pre f G h' hf hG]; rfl
    | false =>
      obtain ⟨f, rfl⟩ : ∃ q, f = q + 1 := ⟨f - 1, by omega⟩
      have hlen : gs.length = pre.length := by rw [h']; simp
      simp only [impl_MetaFrom.l11, decide_eq_false (show ¬ ((pre.length : Int) < (gs.length : Int)) by omega), cond_false, List.all_nil, Bool.not_true, Bool.or_self, Bool.false_eq_true, if_false, List.map_nil, List.append_nil]
      cases impl_MetaOk k (s, o101.2.1, G, ()) with
      | none => rfl
      | some r => rfl
  | cons x post ih =>
    intro pre f b G h' hf hG
    cases b with
    | true => rw [bad (x :: post) pre f G h' hf hG]; rfl
    | false =>
      simp only [List.length_cons] at hf
      obtain ⟨f, rfl⟩ : ∃ q, f = q + 1 := ⟨f - 1, by omega⟩
      have hlen : gs.length = pre.length + (post.length + 1) := by rw [h']; simp
      have hg : rdL gs (pre.length : Int) = some x := by rw [h']; exact getMid _ _ _
      have hi1 : IntKind.wrap .i64 ((pre.length : Int) + 1) = ((pre.length + 1 : Nat) : Int) := by rw [w64 (by omega) (by omega)]; omega
      obtain ⟨x0, x1⟩ := hm x (by rw [h']; simp)
      obtain ⟨a, rfl⟩ := Int.eq_ofNat_of_zero_le x0
      obtain ⟨C, e1, e2⟩ := igroup k hk h s hn hS hok hok2 a (by omega) false
      simp only [impl_MetaFrom.l11, decide_eq_true (show (pre.length : Int) < (gs.length : Int) by omega), cond_true, hg, Option.bind_some, e1, hi1, Bool.false_or]
      rw [lim_ok (by simp; omega), cond_true]
      have := ih (pre ++ [(a : Int)]) f (!grI k l s a) (G ++ [((nV k l a 3).1, C, ())]) (by rw [h']; simp) (by omega) (by simp; omega)
      rw [List.length_append, List.length_singleton] at this
      rw [this]
      simp only [List.all_cons, List.map_cons]
      cases hgr : grI k l s (a : Int) with
      | false => rfl
      | true =>
        have hC := e2 (by rw [hgr]; rfl)
        subst hC
        simp only [Bool.not_true, Bool.false_or, Bool.true_and, List.append_assoc, List.singleton_append]
        rfl

theorem sgroup_loop (L11 : (List TNode) → Int → (Unit × Int × Unit × Unit) → (Unit × Int × Unit × Unit) → (List TCol) → (List Int) → (Unit × Int × Unit × Unit) → (List TCol) → (List TGroupMeta) → (List TCol) → (List TGroupMeta) → (List TGroupMeta) → Option (((Unit × Int × Unit × Unit) × Bool) × (List TCol) × (List TGroupMeta)))
    (t12 : Int) (o100 : Unit × Int × Unit × Unit) (gs : List Int) (o104 : Unit × Int × Unit × Unit) (ps : List Int) (hps : ps.length = (leavesFrom 0 s).length) (hps2 : ps.length ≤ 1500) (hm : ∀ p, p ∈ ps → 0 ≤ p ∧ p < (l.length : Int)) (rows : Int) (o107 : List TCol) (o108 : List TGroupMeta) (G : List TGroupMeta) (hG : G.length ≤ 10000) :
    ∀ (post pre : List Int) (f : Nat) (acc : List TChunk), ps = pre ++ post → post.length < f → acc.length ≤ pre.length →
    spec_MetaFrom.l19 k L11 f l t12 (pre.length : Int) o100 ((), 0, (), ()) s gs o104 ps (rows, (), ()) o107 o108 [] [] G acc = if chsI k l s true pre.length post = true then L11 l (IntKind.wrap .i64 (t12 + 1)) o100 ((), 0, (), ()) s gs o104 o107 o108 [] [] (G ++ [(rows, acc ++ chsV k l pre.length post, ())]) else some noMeta := by
  intro post
  induction post with
  | nil =>
    intro pre f acc h' hf ha
    obtain ⟨f, rfl⟩ : ∃ q, f = q + 1 := ⟨f - 1, by omega⟩
    have hlen : ps.length = pre.length := by rw [h']; simp
    simp only [spec_MetaFrom.l19, decide_eq_false (show ¬ ((pre.length : Int) < (ps.length : Int)) by omega), cond_false, chsI, chsV, List.append_nil, if_true]
    rw [lim_ok (by simp; omega), cond_true]
  | cons x post ih =>
    intro pre f acc h' hf ha
    simp only [List.length_cons] at hf
    obtain ⟨f, rfl⟩ : ∃ q, f = q + 1 := ⟨f - 1, by omega⟩
    have hlen : ps.length = pre.length + (post.length + 1) := by rw [h']; simp
    have hg : rdL ps (pre.length : Int) = some x := by rw [h']; exact getMid _ _ _
    have hi1 : IntKind.wrap .i64 ((pre.length : Int) + 1) = ((pre.length + 1 : Nat) : Int) := by rw [w64 (by omega) (by omega)]; omega
    obtain ⟨x0, x1⟩ := hm x (by rw [h']; simp)
    obtain ⟨a, rfl⟩ := Int.eq_ofNat_of_zero_le x0
    obtain ⟨hd, E, e1, e2⟩ := schunk k hk h s hn hS hok hok2 a (by omega) pre.length (by omega)
    simp only [spec_MetaFrom.l19, decide_eq_true (show (pre.length : Int) < (ps.length : Int) by omega), cond_true, hg, Option.bind_some, e1, hi1, chsI]
    by_cases hc : chI k l s true (a : Int) (pre.length : Int) = true
    · obtain ⟨rfl, rfl⟩ := e2 hc
      simp only [hc, Bool.not_true, cond_false, Bool.true_and]
      rw [lim_ok (by simp; omega), cond_true]
      have := ih (pre ++ [(a : Int)]) f (acc ++ [chV k l a pre.length]) (by rw [h']; simp) (by omega) (by simp; omega)
      rw [List.length_append, List.length_singleton] at this
      refine this.trans ?_
      simp only [chsV, List.append_assoc, List.singleton_append]
    · have hc := Bool.eq_false_iff.2 hc
      simp only [hc, Bool.not_false, cond_true, Bool.false_and, Bool.false_eq_true, if_false]

theorem sgroups_loop (o100 : Unit × Int × Unit × Unit) (gs : List Int) (hgs : gs.length ≤ 1500) (hm : ∀ p, p ∈ gs → 0 ≤ p ∧ p < (l.length : Int)) (o104 : Unit × Int × Unit × Unit) (o105 : List TCol) (o106 : List TGroupMeta) : ∀ (post pre : List Int) (f : Nat) (G : List TGroupMeta), gs = pre ++ post → post.length < f → G.length ≤ pre.length →
    spec_MetaFrom.l11 k f l (pre.length : Int) o100 ((), 0, (), ()) s gs o104 o105 o106 [] [] G = if post.all (grS k l s) = true then (spec_MetaOk k (s, o104.2.1, G ++ post.map (grV k l), ())).bind fun r => cond (!r) (some noMeta) (some ((o104, true), (s, G ++ post.map (grV k l)))) else some noMeta := by
  have hk2 : 2000 ≤ k := by omega
  obtain ⟨_, v2⟩ := leaves_eq k hk2 s (by have := hS.2.1; omega)
  intro post
  induction post with
  | nil =>
    intro pre f G h' hf hG
    obtain ⟨f, rfl⟩ : ∃ q, f = q + 1 := ⟨f - 1, by omega⟩
    have hlen : gs.length = pre.length := by rw [h']; simp
    simp only [spec_MetaFrom.l11, decide_eq_false (show ¬ ((pre.length : Int) < (gs.length : Int)) by omega), cond_false, List.all_nil, if_true, List.map_nil, List.append_nil]
  | cons x post ih =>
    intro pre f G h' hf hG
    simp only [List.length_cons] at hf
    obtain ⟨f, rfl⟩ : ∃ q, f = q + 1 := ⟨f - 1, by omega⟩
    have hlen : gs.length = pre.length + (post.length + 1) := by rw [h']; simp
    have hg : rdL gs (pre.length : Int) = some x := by rw [h']; exact getMid _ _ _
    have hi1 : IntKind.wrap .i64 ((pre.length : Int) + 1) = ((pre.length + 1 : Nat) : Int) := by rw [w64 (by omega) (by omega)]; omega
    obtain ⟨x0, x1⟩ := hm x (by rw [h']; simp)
    obtain ⟨a, rfl⟩ := Int.eq_ofNat_of_zero_le x0
    obtain ⟨n1, _⟩ := num_val k hk2 h a (by omega) 3
    obtain ⟨b1, _, m1, m2⟩ := parts_val k hk2 h a (by omega) 1 12
    simp only [spec_MetaFrom.l11, decide_eq_true (show (pre.length : Int) < (gs.length : Int) by omega), cond_true, hg, Option.bind_some, n1, b1, v2, cst]
    have hgr : grS k l s (a : Int) = ((nV k l a 3).2 && (pV k l a 1 12).1 && (decide ((pV k l a 1 12).2.length = (leavesFrom 0 s).length) && chsI k l s true 0 (pV k l a 1 12).2)) := rfl
    simp only [List.all_cons, hgr]
    cases (nV k l a 3).2 with
    | false => rfl
    | true =>
      cases (pV k l a 1 12).1 with
      | false => rfl
      | true =>
        simp only [Bool.not_true, Bool.or_self, cond_false, Bool.true_and]
        by_cases hl : (pV k l a 1 12).2.length = (leavesFrom 0 s).length
        · rw [bneF (show ((pV k l a 1 12).2.length : Int) = ((leavesFrom 0 s).length : Int) by omega), decide_eq_true hl]
          simp only [Option.bind_some, cond_false, Bool.true_and, Bool.false_or]
          have := sgroup_loop k hk h s hn hS hok hok2 (spec_MetaFrom.l11 k f) (pre.length : Int) o100 gs o104 (pV k l a 1 12).2 hl m1 m2 (nV k l a 3).1 o105 o106 G (by omega) (pV k l a 1 12).2 [] k [] rfl (by omega) (by simp)
          rw [List.length_nil, show ((0 : Nat) : Int) = 0 from rfl] at this
          rw [this]
          cases chsI k l s true 0 (pV k l a 1 12).2 with
          | false => rfl
          | true =>
            rw [if_pos rfl, hi1]
            have := ih (pre ++ [(a : Int)]) f (G ++ [grV k l a]) (by rw [h']; simp) (by omega) (by simp; omega)
            rw [List.length_append, List.length_singleton] at this
            refine this.trans ?_
            simp only [Bool.true_and, List.map_cons, List.append_assoc, List.singleton_append]
        · rw [bneT (show ¬ ((pV k l a 1 12).2.length : Int) = ((leavesFrom 0 s).length : Int) by omega), decide_eq_false hl]
          rfl

theorem chs_weak : ∀ (r : List Int) (j : Nat), chsI k l s true j r = true → chsI k l s false j r = true := by
  intro r
  induction r with
  | nil => intro j _; rfl
  | cons p r ih =>
    intro j hh
    simp only [chsI, Bool.and_eq_true] at hh ⊢
    refine ⟨?_, ih _ hh.2⟩
    have h1 := hh.1
    unfold chI at h1 ⊢
    split at h1
    · cases h1
    · rename_i ho
      rw [if_neg ho]
      simp only [Bool.and_eq_true] at h1 ⊢
      refine ⟨h1.1, ?_⟩
      have h2 := h1.2
      split at h2
      · rename_i hf
        rw [if_pos hf]
      · rename_i hf
        rw [if_neg hf]
        simp only [if_true, Bool.and_eq_true, decide_eq_true_eq] at h2
        simp only [Bool.false_eq_true, if_false, Bool.and_eq_true, bne_iff_ne, ne_eq]
        exact ⟨h2.1, by omega⟩

theorem chs_strong : ∀ (r : List Int) (j : Nat), chsI k l s false j r = true → (∀ c, c ∈ chsV k l j r → -1 ≤ c.2.2.1) → chsI k l s true j r = true := by
  intro r
  induction r with
  | nil => intro j _ _; rfl
  | cons p r ih =>
    intro j hh hc
    simp only [chsI, Bool.and_eq_true] at hh ⊢
    refine ⟨?_, ih _ hh.2 (fun c hcm => hc c (by simp [chsV, hcm]))⟩
    have h1 := hh.1
    have hd := hc (chV k l p j) (by simp [chsV])
    unfold chI at h1 ⊢
    unfold chV at hd
    split at h1
    · cases h1
    · rename_i ho
      rw [if_neg ho] at hd ⊢
      simp only [Bool.and_eq_true] at h1 ⊢
      refine ⟨h1.1, ?_⟩
      have h2 := h1.2
      split at h2
      · rename_i hf
        rw [if_pos hf]
      · rename_i hf
        rw [if_neg hf]
        simp only [if_neg hf] at hd
        simp only [Bool.false_eq_true, if_false, Bool.and_eq_true, bne_iff_ne, ne_eq] at h2
        simp only [if_true, Bool.and_eq_true, decide_eq_true_eq]
        exact ⟨h2.1, by omega⟩
end

theorem metaFrom_eq (k : Nat) (hk : 2000000 ≤ k) (l : List TNode) (hw : ∀ n, n ∈ l → WfN n) (hlen : l.length < 4294967296) : ∃ r, spec_MetaFrom k l = some r ∧ impl_MetaFrom k l = some r ∧ (r.1.2 = false → r = noMeta) ∧ r.2.1.length ≤ 20 ∧ r.2.2.length ≤ 40 ∧ ∀ g, g ∈ r.2.2 → g.2.1.length ≤ 1500 ∧ ∀ c, c ∈ g.2.1 → c.2.2.2.2.2.1.length ≤ 1500 := by
  have hk2 : 2000 ≤ k := by omega
  obtain ⟨b, h1, h2⟩ := treeOf_eq k hk2 l hw hlen
  unfold spec_MetaFrom impl_MetaFrom
  simp only [h1, Option.bind_some]
  rcases h2 with ⟨rfl, x, hx⟩ | ⟨rfl, hl, hl1, af, hx, hSb, _⟩
  · simp only [hx, Option.bind_some, Bool.not_false, cond_true]
    exact ⟨_, rfl, rfl, fun _ => rfl, by simp, by simp, fun g hg => by cases hg⟩
  · have h : TreeFacts l af := ⟨hl, hl1, hSb, hw⟩
    obtain ⟨c, s, g1, g2, g3, _⟩ := of_eq k hk2 h 0 hl1
    obtain ⟨n1, _⟩ := num_val k hk2 h 0 hl1 3
    obtain ⟨b1, _, m1, m2⟩ := parts_val k hk2 h 0 hl1 4 12
    have z : ((0 : Nat) : Int) = 0 := rfl
    rw [z] at g1 g2 n1 b1 m1 m2
    simp only [hx, Option.bind_some, Bool.not_true, cond_false, g1, g2, n1, b1, cst]
    cases c with
    | false =>
      simp only [Bool.not_false, cond_true, Bool.true_or]
      exact ⟨_, rfl, rfl, fun _ => rfl, by simp, by simp, fun g hg => by cases hg⟩
    | true =>
      obtain ⟨hS, ok1, ok2, hn⟩ := g3 rfl
      have hs20 := hS.2.1
      have mn := mnum k hk2 h 0 hl1 3 false
      have ml := mlist k hk2 h 0 hl1 4 12 (!(nV k l 0 3).2)
      rw [z] at mn ml
      rw [Bool.false_or] at mn
      have mn : impl_metaReader_number k 0 3 ((), false, ()) (tB l) af = _ := mn
      simp only [Bool.not_true, cond_false, mn, ml, Option.bind_some, Bool.false_or]
      have hI := igroups_loop k hk h s hn hS ok1 ok2 ((), 0, (), ()) ((), (nV k l 0 3).1, (), ()) (pV k l 0 4 12).2 m1 m2 [] [] (pV k l 0 4 12).2 [] k (!(nV k l 0 3).2 || !(pV k l 0 4 12).1) [] rfl (by omega) (by simp)
      have hSp := sgroups_loop k hk h s hn hS ok1 ok2 ((), 0, (), ()) (pV k l 0 4 12).2 m1 m2 ((), (nV k l 0 3).1, (), ()) [] [] (pV k l 0 4 12).2 [] k [] rfl (by omega) (by simp)
      rw [List.length_nil, z] at hI hSp
      rw [hI, List.nil_append]
      have hfit1 : ∀ g, g ∈ (pV k l 0 4 12).2.map (grV k l) → g.2.1.length ≤ 1500 ∧ ∀ c, c ∈ g.2.1 → c.2.2.2.2.2.1.length ≤ 1500 := by
        intro g hg
        obtain ⟨p, hp, rfl⟩ := List.mem_map.1 hg
        obtain ⟨p0, p1⟩ := m2 p hp
        obtain ⟨a, rfl⟩ := Int.eq_ofNat_of_zero_le p0
        obtain ⟨_, _, q1, q2⟩ := parts_val k hk2 h a (by omega) 1 12
        have hlen : (grV k l (a : Int)).2.1.length = (pV k l a 1 12).2.length := chsV_len k l _ _
        refine ⟨by omega, ?_⟩
        have key : ∀ (r : List Int) (j : Nat), (∀ p, p ∈ r → 0 ≤ p ∧ p < (l.length : Int)) → ∀ c, c ∈ chsV k l j r → c.2.2.2.2.2.1.length ≤ 1500 := by
          intro r
          induction r with
          | nil => intro j _ c hc; cases hc
          | cons p r ih =>
            intro j hr c hc
            simp only [chsV, List.mem_cons] at hc
            rcases hc with rfl | hc
            · obtain ⟨p0, p1⟩ := hr p (by simp)
              obtain ⟨a, rfl⟩ := Int.eq_ofNat_of_zero_le p0
              unfold chV
              rcases own_eq k hk h a (by omega) with ⟨ho, _⟩ | ⟨q, ho, _, q2, _⟩
              · rw [ho, if_pos (by omega)]
                simp
              · rw [ho, if_neg (by omega)]
                obtain ⟨_, _, w1, _⟩ := parts_val k hk2 h q q2 2 5
                simp only [List.length_map]
                omega
            · exact ih (j + 1) (fun p hp => hr p (by simp [hp])) c hc
        exact key _ 0 q2
      have hfit : Fit k ((pV k l 0 4 12).2.map (grV k l)) := fun g hg => by
        obtain ⟨f1, f2⟩ := hfit1 g hg
        exact ⟨by omega, by omega, fun c hc => by have := f2 c hc; omega⟩
      obtain ⟨mb, o1, o2, o3⟩ := metaOk_eq k hk2 s ok1 ok2 (by omega) (nV k l 0 3).1 ((pV k l 0 4 12).2.map (grV k l)) hfit
      have hmI : impl_MetaOk k (s, (((), (nV k l 0 3).1, (), ()) : Unit × Int × Unit × Unit).2.1, (pV k l 0 4 12).2.map (grV k l), ()) = some mb := o2
      rw [hmI]
      -- the two ways of looking at groups are the same where MetaOk is
      have same : (((pV k l 0 4 12).2.all (grI k l s)) && mb) = (((pV k l 0 4 12).2.all (grS k l s)) && mb) := by
        cases hmb : mb with
        | false => simp
        | true =>
          obtain ⟨_, _, _, hGG⟩ := o3 hmb
          rw [Bool.and_true, Bool.and_true, Bool.eq_iff_iff, List.all_eq_true, List.all_eq_true]
          constructor
          · intro hh p hp
            have hI := hh p hp
            obtain ⟨q1, q2⟩ := hGG (grV k l p) (List.mem_map_of_mem hp)
            have q1 : (chsV k l 0 (pV k l p 1 12).2).length = (leavesFrom 0 s).length := q1
            rw [chsV_len] at q1
            unfold grI at hI
            unfold grS
            simp only [Bool.and_eq_true, decide_eq_true_eq] at hI ⊢
            exact ⟨hI.1, q1, chs_strong k hk h s hn hS ok1 ok2 _ 0 hI.2.1 q2⟩
          · intro hh p hp
            have hI := hh p hp
            have hll := leavesFrom_len 0 s
            unfold grS at hI
            unfold grI
            simp only [Bool.and_eq_true, decide_eq_true_eq] at hI ⊢
            exact ⟨hI.1, chs_weak k hk h s hn hS ok1 ok2 _ 0 hI.2.2, by omega⟩
      cases hn3 : (nV k l 0 3).2 with
      | false =>
        simp only [Bool.not_false, Bool.true_or, cond_true, if_true]
        exact ⟨_, rfl, rfl, fun _ => rfl, by simp, by simp, fun g hg => by cases hg⟩
      | true =>
        cases hp4 : (pV k l 0 4 12).1 with
        | false =>
          simp only [Bool.not_true, Bool.not_false, Bool.or_true, Bool.true_or, cond_true, if_true]
          exact ⟨_, rfl, rfl, fun _ => rfl, by simp, by simp, fun g hg => by cases hg⟩
        | true =>
          have hmS : spec_MetaOk k (s, (((), (nV k l 0 3).1, (), ()) : Unit × Int × Unit × Unit).2.1, [] ++ (pV k l 0 4 12).2.map (grV k l), ()) = some mb := o1
          simp only [Bool.not_true, Bool.or_self, cond_false, Bool.false_or]
          rw [hSp, hmS]
          simp only [Option.bind_some, List.nil_append]
          cases mb with
          | false =>
            simp only [Bool.not_false, cond_true, ite_self]
            exact ⟨_, rfl, rfl, fun _ => rfl, by simp, by simp, fun g hg => by cases hg⟩
          | true =>
            rw [Bool.and_true, Bool.and_true] at same
            rw [same]
            simp only [Bool.not_true, cond_false]
            cases (pV k l 0 4 12).2.all (grS k l s) with
            | false =>
              simp only [Bool.not_false, if_true, Bool.false_eq_true, if_false]
              exact ⟨_, rfl, rfl, fun _ => rfl, by simp, by simp, fun g hg => by cases hg⟩
            | true =>
              simp only [Bool.not_true, if_true, Bool.false_eq_true, if_false]
              exact ⟨_, rfl, rfl, (fun h => by cases h), hs20, (o3 rfl).1, hfit1⟩
end Go.Law
end

section
/- Varints: what is put is got again. -/
set_option linter.unusedVariables false
set_option linter.unusedSimpArgs false
namespace Go.Law
open Go.Am Go.Fn

def uvB : Nat → Nat → List Int
  | 0, n => [(n : Int)]
  | f + 1, n => if 127 < n then ((n % 128 + 128 : Nat) : Int) :: uvB f (n / 128) else [(n : Int)]

def uv (x : Int) : List Int := uvB 9 (x % 18446744073709551616).toNat

theorem xor_zero (a : Int) (h0 : -9223372036854775808 ≤ a) (h1 : a < 9223372036854775808) : bits .xor .i64 a 0 = a := by
  have e : (BitVec.ofInt (IntKind.bits .i64) a ^^^ BitVec.ofInt (IntKind.bits .i64) 0) = BitVec.ofInt (IntKind.bits .i64) a := by simp
  simp only [bits, e, BitVec.toNat_ofInt]
  show IntKind.wrap .i64 (((a % ((2 ^ 64 : Nat) : Int)).toNat : Nat) : Int) = a
  rw [IntKind.wrap_i64]
  omega

theorem xor_ones (a : Int) (h0 : -9223372036854775808 ≤ a) (h1 : a < 9223372036854775808) : bits .xor .i64 a (-1) = -a - 1 := by
  have e : (BitVec.ofInt (IntKind.bits .i64) a ^^^ BitVec.ofInt (IntKind.bits .i64) (-1)) = ~~~ BitVec.ofInt (IntKind.bits .i64) a := by
    have : BitVec.ofInt (IntKind.bits .i64) (-1) = BitVec.allOnes (IntKind.bits .i64) := by decide
    rw [this, BitVec.xor_allOnes]
  simp only [bits, e, BitVec.toNat_not, BitVec.toNat_ofInt]
  show IntKind.wrap .i64 ((2 ^ 64 - 1 - (a % ((2 ^ 64 : Nat) : Int)).toNat : Nat) : Int) = _
  rw [IntKind.wrap_i64]
  omega

def zig (x : Int) : Int := if 0 ≤ x then IntKind.wrap .i64 (x * 2) else -IntKind.wrap .i64 (x * 2) - 1

theorem zag_zig (k : Nat) (x : Int) (h0 : -9223372036854775808 ≤ x) (h1 : x < 9223372036854775808) : impl_Zag k (zig x) = some x := by
  unfold impl_Zag
  rw [and1, wu64_eq, shr1u, w64 (by omega) (by omega)]
  have hz : zig x = if 0 ≤ x then (x * 2 + 9223372036854775808) % 18446744073709551616 - 9223372036854775808 else -((x * 2 + 9223372036854775808) % 18446744073709551616 - 9223372036854775808) - 1 := by
    unfold zig; rw [IntKind.wrap_i64]
  by_cases hx : 0 ≤ x
  · rw [if_pos hx] at hz
    rw [show zig x % 2 = 0 by omega, show IntKind.wrap .i64 (0 - 0) = 0 by decide, xor_zero _ (by omega) (by omega)]
    congr 1
    omega
  · rw [if_neg hx] at hz
    rw [show zig x % 2 = 1 by omega, show IntKind.wrap .i64 (0 - 1) = -1 by decide, xor_ones _ (by omega) (by omega)]
    congr 1
    omega

end Go.Law
end

section
/- Varints: what is got of any bytes. -/
set_option linter.unusedVariables false
set_option linter.unusedSimpArgs false
namespace Go.Law
open Go.Am Go.Fn

def gvN : Nat → List Int → Option (Nat × Nat)
  | 0, _ => none
  | _ + 1, [] => none
  | f + 1, c :: r => if f = 0 ∧ 1 < c then none else if c < 128 then some (c.toNat, 1) else (gvN f r).map fun x => ((c % 128).toNat + 128 * x.1, x.2 + 1)

def gv (l : List Int) : Option (Int × Nat) := (gvN 10 l).map fun x => (IntKind.wrap .i64 (x.1 : Int), x.2)

theorem gvN_facts : ∀ (f : Nat) (l : List Int) (v n : Nat), (∀ x, x ∈ l → 0 ≤ x ∧ x < 256) → gvN (f + 1) l = some (v, n) → v < 2 * 128 ^ f ∧ 1 ≤ n ∧ n ≤ l.length ∧ n ≤ f + 1 ∧ (uvB f v).length ≤ n := by
  intro f
  induction f with
  | zero =>
    intro l v n hb h
    cases l with
    | nil => simp [gvN] at h
    | cons c r =>
      obtain ⟨c0, c1⟩ := hb c (by simp)
      simp only [gvN, true_and] at h
      split at h
      · cases h
      · split at h
        · simp only [Option.some.injEq, Prod.mk.injEq] at h
          obtain ⟨rfl, rfl⟩ := h
          simp [uvB]; omega
        · simp at h
  | succ f ih =>
    intro l v n hb h
    cases l with
    | nil => simp [gvN] at h
    | cons c r =>
      obtain ⟨c0, c1⟩ := hb c (by simp)
      rw [gvN, if_neg (by omega)] at h
      have hP : 1 ≤ 128 ^ f := Nat.pow_pos (by decide)
      have hP2 : (128 : Nat) ^ (f + 1) = 128 * 128 ^ f := by rw [Nat.pow_succ, Nat.mul_comm]
      split at h
      · simp only [Option.some.injEq, Prod.mk.injEq] at h
        obtain ⟨rfl, rfl⟩ := h
        refine ⟨by omega, by omega, by simp, by omega, ?_⟩
        simp only [uvB]
        rw [if_neg (by omega)]
        simp
      · cases hg : gvN (f + 1) r with
        | none => rw [hg] at h; cases h
        | some x =>
          obtain ⟨v', n'⟩ := x
          rw [hg] at h
          simp only [Option.map_some, Option.some.injEq, Prod.mk.injEq] at h
          obtain ⟨rfl, rfl⟩ := h
          obtain ⟨i1, i2, i3, i4, i5⟩ := ih r v' n' (fun x hx => hb x (by simp [hx])) hg
          refine ⟨by omega, by omega, by simp; omega, by omega, ?_⟩
          simp only [uvB]
          split
          · rw [List.length_cons, show ((c % 128).toNat + 128 * v') / 128 = v' by omega]
            omega
          · simp

theorem gv_facts (l : List Int) (u : Int) (n : Nat) (hb : ∀ x, x ∈ l → 0 ≤ x ∧ x < 256) (h : gv l = some (u, n)) : I64 u ∧ 1 ≤ n ∧ n ≤ l.length ∧ n ≤ 10 ∧ (uv u).length ≤ n := by
  unfold gv at h
  cases hg : gvN 10 l with
  | none => rw [hg] at h; cases h
  | some x =>
    obtain ⟨v, n'⟩ := x
    rw [hg] at h
    simp only [Option.map_some, Option.some.injEq, Prod.mk.injEq] at h
    obtain ⟨rfl, rfl⟩ := h
    obtain ⟨h1, h2, h3, h4, h5⟩ := gvN_facts 9 l v n' hb hg
    have h1 : v < 18446744073709551616 := by simpa using h1
    refine ⟨⟨w64_lo _, w64_hi _⟩, h2, h3, h4, ?_⟩
    unfold uv
    rw [IntKind.wrap_i64, show (((v : Int) + 9223372036854775808) % 18446744073709551616 - 9223372036854775808) % 18446744073709551616 = (v : Int) by omega, Int.toNat_natCast]
    exact h5

theorem drop_cons_of {α : Type} {l : List α} {p : Nat} (h : p < l.length) : ∃ c, l.drop p = c :: l.drop (p + 1) ∧ l[p]? = some c := by
  refine ⟨l[p], ?_, by simp [h]⟩
  rw [List.drop_eq_getElem_cons h]

theorem igetLoop (k : Nat) (b : List Int) (p : Nat) (hb : b.length < 4611686018427387904) (hby : ∀ x, x ∈ b → 0 ≤ x ∧ x < 256) (hp : p < 4611686018427387904) : ∀ (f n i acc : Nat), i + f = 10 → f < n → acc < 2 ^ (7 * i) →
    impl_UvarGet.l5 k n b (p : Int) (acc : Int) (i : Int) = match gvN f (b.drop (p + i)) with
      | none => some (0, 0, false)
      | some (v, m) => some (IntKind.wrap .i64 ((acc + v * 2 ^ (7 * i) : Nat) : Int), ((p + i + m : Nat) : Int), true) := by
  intro f
  induction f with
  | zero =>
    intro n i acc hi hn hacc
    obtain ⟨n, rfl⟩ : ∃ j, n = j + 1 := ⟨n - 1, by omega⟩
    obtain rfl : i = 10 := by omega
    simp only [impl_UvarGet.l5, show decide (((10 : Nat) : Int) < 10) = false by decide, cond_false, Option.bind_some, gvN, impl_UvarGet.c12]
  | succ f ih =>
    intro n i acc hi hn hacc
    obtain ⟨n, rfl⟩ : ∃ j, n = j + 1 := ⟨n - 1, by omega⟩
    have hP : 0 < 2 ^ (7 * i) := Nat.two_pow_pos _
    have hP7 : 2 ^ (7 * (i + 1)) = 128 * 2 ^ (7 * i) := by rw [Nat.mul_add, Nat.pow_add]; simp [Nat.mul_comm]
    have c1 : decide ((i : Int) < 10) = true := by simp; omega
    by_cases hlt : p + i < b.length
    · obtain ⟨c, hc, hc2⟩ := drop_cons_of hlt
      obtain ⟨c0, c255⟩ := hby c (List.mem_of_getElem? hc2)
      have e1 : IntKind.wrap .i64 ((b.length : Int) - (p : Int)) = (b.length : Int) - p := w64 (by omega) (by omega)
      have e2 : IntKind.wrap .i64 ((p : Int) + (i : Int)) = ((p + i : Nat) : Int) := by rw [w64 (by omega) (by omega)]; omega
      have e3 : IntKind.wrap .i64 (7 * (i : Int)) = ((7 * i : Nat) : Int) := by rw [w64 (by omega) (by omega)]; omega
      have e5 : IntKind.wrap .i64 (((p + i : Nat) : Int) + 1) = ((p + i + 1 : Nat) : Int) := by rw [w64 (by omega) (by omega)]; omega
      have e6 : IntKind.wrap .i64 ((i : Int) + 1) = ((i + 1 : Nat) : Int) := by rw [w64 (by omega) (by omega)]; omega
      have c2 : decide ((i : Int) < (b.length : Int) - p) = true := by simp; omega
      have c5 : decide ((0 : Int) ≤ ((7 * i : Nat) : Int)) = true := decide_eq_true (by omega)
      have hget : rdL b ((p + i : Nat) : Int) = some c := by rw [rdL_nat]; exact hc2
      rw [hc, gvN]
      simp only [impl_UvarGet.l5, c1, e1, c2, e2, e3, e5, e6, hget, cond_true, Option.bind_some, csf]
      by_cases h9 : f = 0 ∧ 1 < c
      · obtain ⟨rfl, h1c⟩ := h9
        obtain rfl : i = 9 := by omega
        rw [if_pos ⟨rfl, h1c⟩]
        simp only [show (((9 : Nat) : Int) == 9) = true by decide, show decide (c > 1) = true from decide_eq_true h1c, Bool.and_self, cond_true, impl_UvarGet.c12]
      · rw [if_neg h9]
        have h9b : (((i : Int) == 9) && decide (c > 1)) = false := by
          rw [Bool.eq_false_iff]; intro q
          simp only [Bool.and_eq_true, beq_iff_eq, decide_eq_true_eq] at q
          exact h9 ⟨by omega, q.2⟩
        simp only [h9b, cond_false, c5, cond_true]
        -- the bits of this byte
        have hcm : (c % 128) * 2 ^ (7 * i) < 18446744073709551616 := by
          by_cases hf : f = 0
          · have : i = 9 := by omega
            subst this
            have : c ≤ 1 := by
              rcases Int.lt_or_le 1 c with q | q
              · exact (h9 ⟨hf, q⟩).elim
              · exact q
            have h2 : (2 : Int) ^ (7 * 9) = 9223372036854775808 := by decide
            rw [h2]; omega
          · have : (2 : Int) ^ (7 * i) ≤ 2 ^ 56 := by
              have := Nat.pow_le_pow_right (n := 2) (by omega) (show 7 * i ≤ 56 by omega)
              exact_mod_cast this
            have h3 : (2 : Int) ^ 56 = 72057594037927936 := by decide
            have h4 : (0 : Int) < 2 ^ (7 * i) := by exact_mod_cast hP
            have := Int.mul_le_mul (show c % 128 ≤ 127 by omega) this (by omega) (by omega)
            omega
        have e4 : shlI .u64 (IntKind.wrap .u64 (bits .and .u8 c 127)) ((7 * i : Nat) : Int) = (c % 128) * 2 ^ (7 * i) := by
          rw [u8_and127 c0 c255, wu64_eq]
          unfold shlI
          rw [wu64_eq]
          have : min (((7 * i : Nat) : Int)).toNat (IntKind.bits .u64) = 7 * i := by simp [IntKind.bits]; omega
          rw [this, show (c % 128) % 18446744073709551616 = c % 128 by omega]
          have : 0 ≤ (c % 128) * 2 ^ (7 * i) := Int.mul_nonneg (by omega) (by exact_mod_cast Nat.zero_le _)
          omega
        have eor : bits .or .u64 (acc : Int) ((c % 128) * 2 ^ (7 * i)) = ((acc + (c % 128).toNat * 2 ^ (7 * i) : Nat) : Int) := by
          rw [u64_or_shl (i := 7 * i) (by omega) (by exact_mod_cast hacc) (by omega) (by omega) (by omega)]
          have : c % 128 = (((c % 128).toNat : Nat) : Int) := by omega
          rw [this]
          simp
        rw [e4, eor]
        by_cases h128 : c < 128
        · rw [if_pos h128, decide_eq_true h128, cond_true]
          have : (c % 128).toNat = c.toNat := by omega
          rw [this]
        · rw [if_neg h128, decide_eq_false h128, cond_false]
          have hlt2 : acc + (c % 128).toNat * 2 ^ (7 * i) < 2 ^ (7 * (i + 1)) := by
            rw [hP7]
            have : (c % 128).toNat * 2 ^ (7 * i) ≤ 127 * 2 ^ (7 * i) := Nat.mul_le_mul_right _ (by omega)
            omega
          rw [ih n (i + 1) _ (by omega) (by omega) hlt2, ← Nat.add_assoc]
          cases gvN f (b.drop (p + i + 1)) with
          | none => rfl
          | some x =>
            obtain ⟨v, m⟩ := x
            simp only [Option.map_some]
            rw [hP7, show acc + (c % 128).toNat * 2 ^ (7 * i) + v * (128 * 2 ^ (7 * i)) = acc + ((c % 128).toNat + 128 * v) * 2 ^ (7 * i) by grind, show p + i + 1 + m = p + i + (m + 1) by omega]
    · have c2 : decide ((i : Int) < IntKind.wrap .i64 ((b.length : Int) - (p : Int))) = false := by
        rw [w64 (by omega) (by omega)]
        exact decide_eq_false (by omega)
      rw [List.drop_eq_nil_of_le (by omega), gvN]
      simp only [impl_UvarGet.l5, c1, c2, cond_true, cond_false, Option.bind_some, impl_UvarGet.c12]

end Go.Law
end

section
/- Trees: parts of lists of nodes, and how many bytes they have. -/
set_option linter.unusedVariables false
set_option linter.unusedSimpArgs false
namespace Go.Law
open Go.Am Go.Fn

def Byt (B : List Int) : Prop := ∀ x, x ∈ B → 0 ≤ x ∧ x < 256

theorem Byt.cons {a : Int} {B : List Int} (h0 : 0 ≤ a) (h1 : a < 256) (h' : Byt B) : Byt (a :: B) := fun x hx => by
  rcases List.mem_cons.1 hx with rfl | hx
  · exact ⟨h0, h1⟩
  · exact h' x hx
theorem Byt.nil : Byt [] := fun x hx => (List.not_mem_nil hx).elim

def headB (p : TNode) (last : Int) : List Int := if p.2.1 - last ≤ 15 then [16 * (p.2.1 - last) + p.1] else p.1 :: uv (zig p.2.1)

/-! ### how many bytes a node has, with its parts; what stands behind it -/
def costP (S : List TNode → Nat × List TNode) (st : Bool) : Nat → Int → List TNode → Nat × List TNode
  | 0, _, X => (0, X)
  | _ + 1, _, [] => (0, [])
  | c + 1, last, p :: X => ((if st then (headB p last).length else 0) + (S (p :: X)).1 + (costP S st c p.2.1 (S (p :: X)).2).1, (costP S st c p.2.1 (S (p :: X)).2).2)

def cost : Nat → List TNode → Nat × List TNode
  | 0, X => (0, X)
  | _ + 1, [] => (0, [])
  | d + 1, n :: X =>
    if n.1 = 5 ∨ n.1 = 6 then ((uv (zig n.2.2.1)).length, X)
    else if n.1 = 8 then ((uv (n.2.2.2.1.size : Int)).length + n.2.2.2.1.size, X)
    else if n.1 = 9 then ((if n.2.2.2.2.1 ≤ 14 then 1 else 1 + (uv n.2.2.2.2.1).length) + (costP (cost d) false n.2.2.2.2.1.toNat 0 X).1, (costP (cost d) false n.2.2.2.2.1.toNat 0 X).2)
    else if n.1 = 12 then ((costP (cost d) true n.2.2.2.2.1.toNat 0 X).1 + 1, (costP (cost d) true n.2.2.2.2.1.toNat 0 X).2)
    else (0, X)

def sn (id j : Int) : TNode := (12, id, 0, ⟨#[]⟩, j, ())

end Go.Law
end

section
/- Lists of nodes that are built as trees are right. -/
set_option linter.unusedVariables false
set_option linter.unusedSimpArgs false
namespace Go.Law
open Go.Am Go.Fn
variable (k : Nat)

def EncP (E : List TNode → Prop) (n : TNode) : Nat → Int → List TNode → Prop
  | 0, _, X => X = []
  | c + 1, last, X => ∃ p Y Z, X = (p :: Y) ++ Z ∧ (n.1 = 9 → p.1 = n.2.2.1 ∧ p.2.1 = 0) ∧ (n.1 = 12 → last + 1 ≤ p.2.1 ∧ p.2.1 ≤ 1000) ∧ E (p :: Y) ∧ EncP E n c p.2.1 Z

def Enc : Nat → List TNode → Prop
  | 0, _ => False
  | _ + 1, [] => False
  | d + 1, n :: X => nok n = true ∧ EncP (Enc d) n n.2.2.2.2.1.toNat 0 X

end Go.Law
end
