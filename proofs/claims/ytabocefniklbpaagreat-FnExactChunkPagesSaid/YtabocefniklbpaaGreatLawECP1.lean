import Derived.Test.YtabocefniklbpaaGreatLawECP0
import Derived.Test.YtabocefniklbpaaGreatECPF0
import Derived.Test.YtabocefniklbpaaGreatAmRow
set_option linter.unnecessarySimpa false
set_option linter.unusedSimpArgs false
set_option linter.unusedVariables false
set_option linter.unusedSectionVars false
section
/- Trees: what the reference reads of any bytes. -/
set_option linter.unusedVariables false
set_option linter.unusedSimpArgs false
namespace Go.Law
open Go.Am Go.Fn

theorem bits_xor_comm (k : IntKind) (a b : Int) : bits .xor k a b = bits .xor k b a := by
  simp only [bits, BitVec.xor_comm]

theorem and_mask63 (x : Int) : bits .and .i64 x 9223372036854775807 = x % 9223372036854775808 := by
  have hc : (9223372036854775807 : Int) = ((2 ^ 63 - 1 : Nat) : Int) := by decide
  have hb : (2 ^ 63 - 1) % 2 ^ IntKind.i64.bits = 2 ^ 63 - 1 := by decide
  rw [hc]
  simp only [bits, BitVec.ofInt_natCast, BitVec.toNat_and, BitVec.toNat_ofNat, hb, Nat.and_two_pow_sub_one_eq_mod, BitVec.toNat_ofInt]
  show IntKind.wrap .i64 (((x % ((2 ^ 64 : Nat) : Int)).toNat % 2 ^ 63 : Nat) : Int) = _
  rw [w64 (by omega) (by omega)]
  omega

variable (k : Nat)

theorem szag_eq {u : Int} (h : I64 u) : spec_Zag k u = some (zagV u) := by
  obtain ⟨h0, h1⟩ := h
  have hm : IntKind.wrap .i64 (shlI .i64 1 (IntKind.wrap .i64 (64 - 1)) - 1) = 9223372036854775807 := by decide
  have hd : spec_l2Down k u 1 = some ((u % 18446744073709551616) / 2) := by
    unfold spec_l2Down
    rw [beqF (by decide), cond_false, decide_eq_true (show (0 : Int) ≤ 1 by decide), cond_true, decide_eq_true (show (0 : Int) ≤ IntKind.wrap .i64 (64 - 1) by decide), cond_true, hm, and_mask63]
    have := shrI_eq .i64 u 1 (by decide)
    rw [show ((1 : Nat) : Int) = 1 from rfl] at this
    rw [this]
    congr 1
    omega
  unfold spec_Zag zagV
  rw [hd, and1]
  by_cases h2 : u % 2 = 0
  · rw [if_pos h2, beqF (by omega)]
    rfl
  · rw [if_neg h2, beqT (by omega)]
    simp only [cond_true, Option.bind_some]
    rw [bits_xor_comm, xor_ones _ (by omega) (by omega)]

theorem sgetLoop (b : List Int) (p : Nat) (hb : b.length < 4611686018427387904) (hby : ∀ x, x ∈ b → 0 ≤ x ∧ x < 256) (hp : p ≤ b.length) : ∀ (f n i acc : Nat), i + f = 10 → f < n → acc < 2 ^ (7 * i) →
    spec_UvarGet.l5 k n b (p : Int) (IntKind.wrap .i64 (acc : Int)) (i : Int) = match gvN f (b.drop (p + i)) with
      | none => some (0, 0, false)
      | some (v, m) => some (IntKind.wrap .i64 ((acc + v * 2 ^ (7 * i) : Nat) : Int), ((p + i + m : Nat) : Int), true) := by
  have last : ∀ (n : Nat) (x : Int), 0 < n → spec_UvarGet.l5 k n b (p : Int) x ((10 : Nat) : Int) = some (0, 0, false) := by
    intro n x hn
    obtain ⟨n, rfl⟩ : ∃ j, n = j + 1 := ⟨n - 1, by omega⟩
    simp only [spec_UvarGet.l5, show decide (((10 : Nat) : Int) < 10) = false by decide, cond_false, Option.bind_some]
  intro f
  induction f with
  | zero =>
    intro n i acc hi hn hacc
    obtain rfl : i = 10 := by omega
    exact last n _ (by omega)
  | succ f ih =>
    intro n i acc hi hn hacc
    obtain ⟨n, rfl⟩ : ∃ j, n = j + 1 := ⟨n - 1, by omega⟩
    have hP : 0 < 2 ^ (7 * i) := Nat.two_pow_pos _
    have hP7 : 2 ^ (7 * (i + 1)) = 128 * 2 ^ (7 * i) := by rw [Nat.mul_add, Nat.pow_add]; simp [Nat.mul_comm]
    have c1 : decide ((i : Int) < 10) = true := by simp; omega
    have e2 : IntKind.wrap .i64 ((p : Int) + (i : Int)) = ((p + i : Nat) : Int) := by rw [w64 (by omega) (by omega)]; omega
    by_cases hlt : p + i < b.length
    · obtain ⟨c, hc, hc2⟩ := drop_cons_of hlt
      obtain ⟨c0, c255⟩ := hby c (List.mem_of_getElem? hc2)
      have e3 : IntKind.wrap .i64 (7 * (i : Int)) = ((7 * i : Nat) : Int) := by rw [w64 (by omega) (by omega)]; omega
      have e5 : IntKind.wrap .i64 (((p + i : Nat) : Int) + 1) = ((p + i + 1 : Nat) : Int) := by rw [w64 (by omega) (by omega)]; omega
      have e6 : IntKind.wrap .i64 ((i : Int) + 1) = ((i + 1 : Nat) : Int) := by rw [w64 (by omega) (by omega)]; omega
      have c2 : decide (((p + i : Nat) : Int) < (b.length : Int)) = true := by simp; omega
      have c5 : decide ((0 : Int) ≤ ((7 * i : Nat) : Int)) = true := decide_eq_true (by omega)
      have hget : rdL b ((p + i : Nat) : Int) = some c := by rw [rdL_nat]; exact hc2
      have ec : IntKind.wrap .i64 c = c := w64 (by omega) (by omega)
      have e127 : bits .and .i64 c 127 = (((c % 128).toNat : Nat) : Int) := by
        have := and_mask_i64 c 7 (by decide)
        rw [show ((2 : Int) ^ 7 - 1) = 127 by decide, show ((2 : Int) ^ 7) = 128 by decide] at this
        rw [this]; omega
      rw [hc, gvN]
      simp only [spec_UvarGet.l5, c1, c2, e2, e3, e5, e6, hget, ec, c5, cond_true, Option.bind_some, csf, e127]
      by_cases h9 : f = 0 ∧ 1 < c
      · obtain ⟨rfl, h1c⟩ := h9
        obtain rfl : i = 9 := by omega
        rw [if_pos ⟨rfl, h1c⟩]
        by_cases h128 : c < 128
        · simp only [decide_eq_true h128, cond_true, show (((9 : Nat) : Int) == 9) = true by decide, show decide (c > 1) = true from decide_eq_true h1c, Bool.and_self]
        · simp only [decide_eq_false h128, cond_false]
          exact last n _ (by omega)
      · rw [if_neg h9]
        have h9b : (((i : Int) == 9) && decide (c > 1)) = false := by
          rw [Bool.eq_false_iff]; intro q
          simp only [Bool.and_eq_true, beq_iff_eq, decide_eq_true_eq] at q
          exact h9 ⟨by omega, q.2⟩
        have hsum : acc + (c % 128).toNat * 2 ^ (7 * i) < 2 ^ IntKind.bits .i64 := by
          show _ < 2 ^ 64
          by_cases hf : f = 0
          · have : i = 9 := by omega
            subst this
            have hc1 : c ≤ 1 := by
              rcases Int.lt_or_le 1 c with q | q
              · exact (h9 ⟨hf, q⟩).elim
              · exact q
            have h1 : (c % 128).toNat ≤ 1 := by omega
            have h2 : (2 : Nat) ^ (7 * 9) = 9223372036854775808 := by decide
            rw [h2] at hacc ⊢
            have := Nat.mul_le_mul_right 9223372036854775808 h1
            omega
          · have h1 : (c % 128).toNat * 2 ^ (7 * i) ≤ 127 * 2 ^ (7 * i) := Nat.mul_le_mul_right _ (by omega)
            have h2 : 2 ^ (7 * (i + 1)) ≤ 2 ^ 63 := Nat.pow_le_pow_right (by omega) (by omega)
            rw [hP7] at h2
            have h3 : (2 : Nat) ^ 63 = 9223372036854775808 := by decide
            omega
        have eor := or_shl .i64 (a := acc) (b := (c % 128).toNat) (i := 7 * i) (show 7 * i ≤ 64 by omega) hacc hsum
        rw [eor]
        by_cases h128 : c < 128
        · rw [if_pos h128]
          simp only [decide_eq_true h128, cond_true, h9b, cond_false]
          have : (c % 128).toNat = c.toNat := by omega
          rw [this]
        · rw [if_neg h128]
          simp only [decide_eq_false h128, cond_false]
          have hlt2 : acc + (c % 128).toNat * 2 ^ (7 * i) < 2 ^ (7 * (i + 1)) := by
            rw [hP7]
            have : (c % 128).toNat * 2 ^ (7 * i) ≤ 127 * 2 ^ (7 * i) := Nat.mul_le_mul_right _ (by omega)
            omega
          rw [ih n (i + 1) _ (by omega) (by omega) hlt2, ← Nat.add_assoc]
          cases gvN f (b.drop (p + i + 1)) with
          | none => rfl
          | some x =>
            obtain ⟨v, m⟩ := x
            simp only [Option.map_some]
            rw [hP7, show acc + (c % 128).toNat * 2 ^ (7 * i) + v * (128 * 2 ^ (7 * i)) = acc + ((c % 128).toNat + 128 * v) * 2 ^ (7 * i) by grind, show p + i + 1 + m = p + i + (m + 1) by omega]
    · have c2 : decide (((p + i : Nat) : Int) < (b.length : Int)) = false := decide_eq_false (by omega)
      rw [List.drop_eq_nil_of_le (by omega), gvN]
      simp only [spec_UvarGet.l5, c1, e2, c2, cond_true, cond_false, Option.bind_some]

theorem sget_any (hk : 2000 ≤ k) {b : List Int} (hl : b.length < 4611686018427387904) (hb : Byt b) (p : Nat) (hp : p ≤ b.length) : spec_UvarGet k b (p : Int) = match gv (b.drop p) with
    | none => some (0, 0, false)
    | some (u, n) => some (u, ((p + n : Nat) : Int), true) := by
  unfold spec_UvarGet
  rw [decide_eq_false (show ¬ ((p : Int) < 0) by omega)]
  by_cases h : p = b.length
  · rw [decide_eq_true (show (p : Int) ≥ (b.length : Int) by omega), List.drop_eq_nil_of_le (by omega)]
    rfl
  · rw [decide_eq_false (show ¬ (p : Int) ≥ (b.length : Int) by omega)]
    simp only [cond_false, Option.bind_some]
    have h := sgetLoop k b p hl hb hp 10 k 0 0 rfl (by omega) (by simp)
    rw [show IntKind.wrap .i64 ((0 : Nat) : Int) = 0 by decide, show ((0 : Nat) : Int) = 0 from rfl] at h
    rw [h]
    unfold gv
    rw [Nat.add_zero]
    cases gvN 10 (b.drop p) with
    | none => rfl
    | some x =>
      simp only [Option.map_some, Nat.mul_zero, Nat.pow_zero, Nat.mul_one, Nat.zero_add]

theorem szig_any (hk : 2000 ≤ k) {b : List Int} (hl : b.length < 4611686018427387904) (hb : Byt b) (p : Nat) (hp : p ≤ b.length) : spec_ZigGet k b (p : Int) = match gv (b.drop p) with
    | none => some (0, 0, false)
    | some (u, n) => some (zagV u, ((p + n : Nat) : Int), true) := by
  unfold spec_ZigGet
  rw [sget_any k hk hl hb p hp]
  cases hg : gv (b.drop p) with
  | none => rfl
  | some z =>
    obtain ⟨u, n⟩ := z
    obtain ⟨f1, _⟩ := gv_facts _ u n (fun x hx => hb x (List.mem_of_mem_drop hx)) hg
    simp only [Option.bind_some, Bool.not_true, cond_false, szag_eq k f1]

theorem smany_any (hk : 2000 ≤ k) {b : List Int} (hl : b.length < 4611686018427387904) (hb : Byt b) (p : Nat) (hp : p ≤ b.length) : ∃ x y z e, spec_l4Many k b (p : Int) = some (x, y, z, e) ∧
    (match prMany b p with
    | .bad c => e = c ∧ c ≠ 0
    | .ok q (many, item) => x = many ∧ y = item ∧ z = (q : Int) ∧ e = 0 ∧ q ≤ b.length) := by
  unfold spec_l4Many prMany
  by_cases hlt : p < b.length
  · obtain ⟨c, hc, hc2⟩ := drop_cons_of hlt
    obtain ⟨c0, c255⟩ := hb c (List.mem_of_getElem? hc2)
    have ec : IntKind.wrap .i64 c = c := w64 (by omega) (by omega)
    have e16 : IntKind.wrap .i64 (Int.tdiv c 16) = c / 16 := by
      rw [Int.tdiv_eq_ediv_of_nonneg c0, w64 (by omega) (by omega)]
    have em : Int.tmod c 16 = c % 16 := Int.tmod_eq_emod_of_nonneg c0
    have ep : IntKind.wrap .i64 ((p : Int) + 1) = ((p + 1 : Nat) : Int) := by rw [w64 (by omega) (by omega)]; omega
    rw [decide_eq_false (by omega), cond_false, rdL_nat, hc2]
    simp only [Option.bind_some, ec, e16, em, ep]
    have tail : ∀ (many : Int) (q : Nat), q ≤ b.length → ∃ x y z e, spec_l4Many.c11 k (q : Int) many (c % 16) = some (x, y, z, e) ∧
        (match (if many = 0 then (.ok q (0, 0) : Res (Int × Int)) else if isItem (c % 16) = false then .bad 2 else if many < 0 ∨ 1500 < many then .bad 4 else .ok q (many, c % 16)) with
        | .bad c => e = c ∧ c ≠ 0
        | .ok q (many, item) => x = many ∧ y = item ∧ z = (q : Int) ∧ e = 0 ∧ q ≤ b.length) := by
      intro many q hq
      unfold spec_l4Many.c11
      by_cases h0 : many = 0
      · rw [beqT h0, cond_true, if_pos h0]
        exact ⟨_, _, _, _, rfl, rfl, rfl, rfl, rfl, hq⟩
      · rw [beqF h0, cond_false, if_neg h0, l4Item_eq]
        simp only [Option.bind_some, cst]
        cases isItem (c % 16) with
        | false =>
          rw [if_pos rfl]
          exact ⟨_, _, _, _, rfl, rfl, by decide⟩
        | true =>
          rw [if_neg (by decide)]
          simp only [Bool.not_true, cond_false]
          by_cases hm : many < 0 ∨ 1500 < many
          · rw [if_pos hm]
            have : (decide (many < 0) || decide (many > 1500)) = true := by
              rcases hm with h | h
              · rw [decide_eq_true h, Bool.true_or]
              · rw [decide_eq_true (show many > 1500 from h), Bool.or_true]
            rw [this]
            exact ⟨_, _, _, _, rfl, rfl, by decide⟩
          · rw [if_neg hm]
            rw [decide_eq_false (show ¬ many < 0 by omega), decide_eq_false (show ¬ many > 1500 by omega)]
            exact ⟨_, _, _, _, rfl, rfl, rfl, rfl, rfl, hq⟩
    by_cases h15 : c / 16 = 15
    · simp only [if_pos h15, beqT h15, cond_true, sget_any k hk hl hb (p + 1) (by omega)]
      cases hg : gv (b.drop (p + 1)) with
      | none =>
        simp only [Option.bind_some, Bool.not_false, cond_true, Option.map_none]
        exact ⟨_, _, _, _, rfl, rfl, by decide⟩
      | some z =>
        obtain ⟨u, n⟩ := z
        obtain ⟨f1, f2, f3, f4, f5⟩ := gv_facts _ u n (fun x hx => hb x (List.mem_of_mem_drop hx)) hg
        rw [List.length_drop] at f3
        simp only [Option.bind_some, Bool.not_true, cond_false, Option.map_some]
        exact tail u (p + 1 + n) (by omega)
    · simp only [if_neg h15, beqF h15, cond_false]
      exact tail (c / 16) (p + 1) (by omega)
  · rw [decide_eq_true (by omega), cond_true, List.getElem?_eq_none (by omega)]
    exact ⟨_, _, _, _, rfl, rfl, by decide⟩

theorem shead_any (hk : 2000 ≤ k) {b : List Int} (hl : b.length < 4611686018427387904) (hb : Byt b) (p : Nat) (hp : p ≤ b.length) (last : Int) (hla : 0 ≤ last ∧ last ≤ 1000) : ∃ x y z e, spec_l4Head k b (p : Int) last = some (x, y, z, e) ∧
    (match prHead b p last with
    | .bad c => e = c ∧ c ≠ 0
    | .ok q (t, id) => x = t ∧ (t ≠ 0 → y = id) ∧ z = (q : Int) ∧ e = 0 ∧ q ≤ b.length) := by
  unfold spec_l4Head prHead
  by_cases hlt : p < b.length
  · obtain ⟨c, hc, hc2⟩ := drop_cons_of hlt
    obtain ⟨c0, c255⟩ := hb c (List.mem_of_getElem? hc2)
    have ec : IntKind.wrap .i64 c = c := w64 (by omega) (by omega)
    have e16 : IntKind.wrap .i64 (Int.tdiv c 16) = c / 16 := by
      rw [Int.tdiv_eq_ediv_of_nonneg c0, w64 (by omega) (by omega)]
    have em : Int.tmod c 16 = c % 16 := Int.tmod_eq_emod_of_nonneg c0
    have ep : IntKind.wrap .i64 ((p : Int) + 1) = ((p + 1 : Nat) : Int) := by rw [w64 (by omega) (by omega)]; omega
    have el : IntKind.wrap .i64 (last + c / 16) = last + c / 16 := w64 (by omega) (by omega)
    rw [decide_eq_false (by omega), cond_false, rdL_nat, hc2]
    simp only [Option.bind_some, ec, e16, em, ep, el]
    by_cases h0 : c = 0
    · rw [beqT h0, cond_true, if_pos h0]
      exact ⟨_, _, _, _, rfl, rfl, fun h => (h rfl).elim, rfl, rfl, by omega⟩
    · rw [beqF h0, cond_false, if_neg h0, l4Kind_eq]
      simp only [Option.bind_some]
      cases hkd : isKind (c % 16) with
      | false =>
        rw [if_pos rfl]
        exact ⟨_, _, _, _, rfl, rfl, by decide⟩
      | true =>
        rw [if_neg (by decide)]
        simp only [Bool.not_true, cond_false]
        have tail : ∀ (id : Int) (q : Nat), q ≤ b.length → ∃ x y z e, spec_l4Head.c16 k (q : Int) last (c % 16) id = some (x, y, z, e) ∧
            (match (if id < 1 ∨ 1000 < id then (.bad 3 : Res (Int × Int)) else if id ≤ last then .bad 5 else .ok q (c % 16, id)) with
            | .bad c => e = c ∧ c ≠ 0
            | .ok q (t, id) => x = t ∧ (t ≠ 0 → y = id) ∧ z = (q : Int) ∧ e = 0 ∧ q ≤ b.length) := by
          intro id q hq
          unfold spec_l4Head.c16
          rw [l1In_eq]
          simp only [Option.bind_some]
          by_cases hi : id < 1 ∨ 1000 < id
          · rw [if_pos hi]
            have hw : (decide ((1 : Int) ≤ id) && decide (id ≤ 1000)) = false := by
              rw [Bool.eq_false_iff]; intro q
              simp only [Bool.and_eq_true, decide_eq_true_eq] at q
              omega
            rw [hw]
            exact ⟨_, _, _, _, rfl, rfl, by decide⟩
          · rw [if_neg hi]
            have hw : (decide ((1 : Int) ≤ id) && decide (id ≤ 1000)) = true := by simp; omega
            rw [hw]
            simp only [Bool.not_true, cond_false]
            by_cases h5 : id ≤ last
            · rw [if_pos h5, decide_eq_true h5]
              exact ⟨_, _, _, _, rfl, rfl, by decide⟩
            · rw [if_neg h5, decide_eq_false h5]
              exact ⟨_, _, _, _, rfl, rfl, fun _ => rfl, rfl, rfl, hq⟩
        by_cases h16 : c / 16 = 0
        · simp only [if_pos h16, beqT h16, cond_true, szig_any k hk hl hb (p + 1) (by omega)]
          cases hg : gv (b.drop (p + 1)) with
          | none =>
            simp only [Option.bind_some, Bool.not_false, cond_true, Option.map_none]
            exact ⟨_, _, _, _, rfl, rfl, by decide⟩
          | some z =>
            obtain ⟨u, n⟩ := z
            obtain ⟨f1, f2, f3, f4, f5⟩ := gv_facts _ u n (fun x hx => hb x (List.mem_of_mem_drop hx)) hg
            rw [List.length_drop] at f3
            simp only [Option.bind_some, Bool.not_true, cond_false, Option.map_some]
            exact tail (zagV u) (p + 1 + n) (by omega)
        · simp only [if_neg h16, beqF h16, cond_false]
          exact tail (last + c / 16) (p + 1) (by omega)
  · rw [decide_eq_true (by omega), cond_true, List.getElem?_eq_none (by omega)]
    exact ⟨_, _, _, _, rfl, rfl, by decide⟩

theorem stext_any (hk : 2000 ≤ k) {b : List Int} (hl : b.length < 4611686018427387904) (hb : Byt b) (p : Nat) (hp : p ≤ b.length) : ∃ x z e, spec_l4Text k b (p : Int) = some (x, z, e) ∧
    (match prText b p with
    | .bad c => e = c ∧ c ≠ 0
    | .ok q s => x = s ∧ z = (q : Int) ∧ e = 0 ∧ q ≤ b.length) := by
  unfold spec_l4Text prText
  rw [sget_any k hk hl hb p hp]
  cases hg : gv (b.drop p) with
  | none => exact ⟨_, _, _, rfl, rfl, by decide⟩
  | some z =>
    obtain ⟨u, n⟩ := z
    obtain ⟨⟨f0, f1⟩, f2, f3, f4, f5⟩ := gv_facts _ u n (fun x hx => hb x (List.mem_of_mem_drop hx)) hg
    rw [List.length_drop] at f3
    simp only [Option.bind_some, Bool.not_true, cond_false, cst]
    by_cases hu : u < 0 ∨ 300 < u
    · rw [if_pos hu]
      have : (decide (u < 0) || decide (u > 300)) = true := by
        rcases hu with h | h
        · rw [decide_eq_true h, Bool.true_or]
        · rw [decide_eq_true (show u > 300 from h), Bool.or_true]
      rw [this]
      exact ⟨_, _, _, rfl, rfl, by decide⟩
    · rw [if_neg hu, decide_eq_false (show ¬ u < 0 by omega), decide_eq_false (show ¬ u > 300 by omega)]
      have e1 : IntKind.wrap .i64 ((b.length : Int) - ((p + n : Nat) : Int)) = (b.length : Int) - ((p + n : Nat) : Int) := w64 (by omega) (by omega)
      simp only [Bool.or_self, cond_false, e1]
      by_cases hs : (b.length : Int) - ((p + n : Nat) : Int) < u
      · rw [if_pos hs, decide_eq_true hs]
        exact ⟨_, _, _, rfl, rfl, by decide⟩
      · rw [if_neg hs, decide_eq_false hs]
        obtain ⟨U, rfl⟩ := Int.eq_ofNat_of_zero_le (show 0 ≤ u by omega)
        have e2 : IntKind.wrap .i64 (((p + n : Nat) : Int) + (U : Int)) = ((p + n + U : Nat) : Int) := by rw [w64 (by omega) (by omega)]; omega
        have c3 : inSl ((p + n : Nat) : Int) ((p + n + U : Nat) : Int) b.length = true := inSl_ok (by omega) (by omega) (by omega)
        have hcut : cutL b ((p + n : Nat) : Int) ((p + n + U : Nat) : Int) = (b.drop (p + n)).take U := by
          unfold cutL
          rw [Int.toNat_natCast, Int.toNat_natCast, List.drop_take, show p + n + U - (p + n) = U by omega]
        simp only [cond_false, e2, c3, cond_true, hcut, Int.toNat_natCast]
        exact ⟨_, _, _, rfl, rfl, rfl, rfl, by omega⟩

def SNode (S : (List Int) → Int → Int → Int → Int → (List TNode) → Option ((Unit × Int × Int) × (List TNode))) (b : List Int) (kind id deep : Int) (p : Nat) (acc : List TNode) (r : Res (List TNode)) : Prop :=
  match r with
  | .bad e => e ≠ 0 ∧ ∃ q l, S b (p : Int) kind id deep acc = some (((), q, e), l)
  | .ok q Y => q ≤ b.length ∧ S b (p : Int) kind id deep acc = some (((), (q : Int), 0), acc ++ Y)

theorem sparts (S : (List Int) → Int → Int → Int → Int → (List TNode) → Option ((Unit × Int × Int) × (List TNode))) (b : List Int) (item : Int) (deep : Nat) (hdeep : deep ≤ 100) (P : Nat → Nat → Res (List TNode))
    (ih : ∀ (p : Nat) (acc : List TNode), p ≤ b.length → acc.length ≤ 1500 → SNode S b item 0 ((deep + 1 : Nat) : Int) p acc (P p acc.length))
    (hP : ∀ p c q Y, c ≤ 1500 → P p c = .ok q Y → c + Y.length ≤ 1500) (many : Int) (hm : many ≤ 1500) :
    ∀ (m f : Nat) (i : Int) (p : Nat) (acc : List TNode), many - i = m → 0 ≤ i → m < f → p ≤ b.length → acc.length ≤ 1500 →
    match prParts P m p acc.length with
    | .bad e => e ≠ 0 ∧ ∃ q l, spec_l4Read.l24 k S f b (deep : Int) many item (p : Int) 0 i acc = some (((), q, e), l)
    | .ok q Y => q ≤ b.length ∧ spec_l4Read.l24 k S f b (deep : Int) many item (p : Int) 0 i acc = some (((), (q : Int), 0), acc ++ Y) := by
  have hdw : IntKind.wrap .i64 ((deep : Int) + 1) = ((deep + 1 : Nat) : Int) := by rw [w64 (by omega) (by omega)]; omega
  intro m
  induction m with
  | zero =>
    intro f i p acc hi h0 hf hp hc
    obtain ⟨f, rfl⟩ : ∃ j, f = j + 1 := ⟨f - 1, by omega⟩
    simp only [prParts, spec_l4Read.l24, decide_eq_false (show ¬ i < many by omega), cond_false, Option.bind_some, List.append_nil]
    exact ⟨hp, trivial⟩
  | succ m ihm =>
    intro f i p acc hi h0 hf hp hc
    obtain ⟨f, rfl⟩ : ∃ j, f = j + 1 := ⟨f - 1, by omega⟩
    have hi1 : IntKind.wrap .i64 (i + 1) = i + 1 := w64 (by omega) (by omega)
    have h1 := ih p acc hp hc
    simp only [prParts, spec_l4Read.l24, decide_eq_true (show i < many by omega), cond_true, Option.bind_some, beqT rfl, hdw, hi1]
    unfold SNode at h1
    cases hr : P p acc.length with
    | bad e =>
      rw [hr] at h1
      obtain ⟨he, q, l, e1⟩ := h1
      refine ⟨he, q, l, ?_⟩
      obtain ⟨f, rfl⟩ : ∃ j, f = j + 1 := ⟨f - 1, by omega⟩
      simp only [e1, Option.bind_some, spec_l4Read.l24, beqF he]
      cases decide (i + 1 < many) <;> rfl
    | ok q Y =>
      rw [hr] at h1
      obtain ⟨hq, e1⟩ := h1
      have hlen := hP _ _ _ _ hc hr
      have h2 := ihm f (i + 1) q (acc ++ Y) (by omega) (by omega) (by omega) hq (by rw [List.length_append]; exact hlen)
      rw [List.length_append] at h2
      simp only [e1, Option.bind_some]
      cases hr2 : prParts P m q (acc.length + Y.length) with
      | bad e => rw [hr2] at h2; exact h2
      | ok q2 Z => rw [hr2] at h2; simpa [List.append_assoc] using h2

theorem sfields (hk : 2000 ≤ k) (S : (List Int) → Int → Int → Int → Int → (List TNode) → Option ((Unit × Int × Int) × (List TNode))) (b : List Int) (hl : b.length < 4611686018427387904) (hb : Byt b) (deep : Nat) (hdeep : deep ≤ 100) (P : Int → Int → Nat → Nat → Res (List TNode))
    (ih : ∀ (t id : Int) (p : Nat) (acc : List TNode), isKind t = true → p ≤ b.length → acc.length ≤ 1500 → SNode S b t id ((deep + 1 : Nat) : Int) p acc (P t id p acc.length))
    (hP : ∀ t id p c q Y, isKind t = true → c ≤ 1500 → P t id p c = .ok q Y → c + Y.length ≤ 1500) (id0 : Int) (pre : List TNode) :
    ∀ (g f : Nat) (last : Int) (p : Nat) (j : Nat) (mid : List TNode), 1002 ≤ (g : Int) + last → 0 ≤ last → last ≤ 1000 → g < f → p ≤ b.length → pre.length + 1 + mid.length ≤ 1500 → (j : Int) + g ≤ 4000 →
    match prFields P b g last p (pre.length + 1 + mid.length) with
    | .bad e => e ≠ 0 ∧ ∃ q l, spec_l4Read.l30 k S f b (p : Int) (deep : Int) (pre.length : Int) last (j : Int) (pre ++ sn id0 0 :: mid) = some (((), q, e), l)
    | .ok q (m, Y) => q ≤ b.length ∧ spec_l4Read.l30 k S f b (p : Int) (deep : Int) (pre.length : Int) last (j : Int) (pre ++ sn id0 0 :: mid) = some (((), (q : Int), 0), pre ++ sn id0 ((j + m : Nat) : Int) :: (mid ++ Y)) := by
  have hdw : IntKind.wrap .i64 ((deep : Int) + 1) = ((deep + 1 : Nat) : Int) := by rw [w64 (by omega) (by omega)]; omega
  intro g
  induction g with
  | zero => intro f last p j mid h1 h2 h3; omega
  | succ g ihg =>
    intro f last p j mid h1 h2 h3 hf hp hc hj
    obtain ⟨f, rfl⟩ : ∃ j, f = j + 1 := ⟨f - 1, by omega⟩
    have hjw : IntKind.wrap .i64 ((j : Int) + 1) = ((j + 1 : Nat) : Int) := by rw [w64 (by omega) (by omega)]; omega
    obtain ⟨x, y, z, e, e1, e2⟩ := shead_any k hk hl hb p hp last ⟨h2, h3⟩
    simp only [prFields, spec_l4Read.l30, e1, Option.bind_some]
    cases hr : prHead b p last with
    | bad c =>
      rw [hr] at e2
      obtain ⟨rfl, he⟩ := e2
      simp only [bneT he, cond_true]
      exact ⟨he, _, _, rfl⟩
    | ok q w =>
      obtain ⟨t, id⟩ := w
      rw [hr] at e2
      obtain ⟨rfl, hy, rfl, rfl, hq⟩ := e2
      obtain ⟨a1, a2⟩ := prHead_ok hr
      simp only [bneF rfl, cond_false]
      by_cases ht : x = 0
      · simp only [if_pos ht, beqT ht, cond_true]
        have hget : rdL (pre ++ sn id0 0 :: mid) (pre.length : Int) = some (sn id0 0) := by
          rw [rdL_nat, List.getElem?_append_right (Nat.le_refl _)]; simp
        have hset : ∀ x y : TNode, List.set (pre ++ x :: mid) (Int.toNat (pre.length : Int)) y = pre ++ y :: mid := fun x y => by
          rw [Int.toNat_natCast, List.set_append_right _ _ (Nat.le_refl _)]; simp
        simp only [hget, Option.bind_some, hset]
        exact ⟨hq, by simp [sn]⟩
      · obtain rfl := hy ht
        rcases a2 with a2 | ⟨a2, _, a3, a4, a5⟩
        · exact (ht a2).elim
        · simp only [if_neg ht, beqF ht, cond_false, hdw]
          have hn := ih x y q (pre ++ sn id0 0 :: mid) a2 hq (by simp; omega)
          rw [show (pre ++ sn id0 0 :: mid).length = pre.length + 1 + mid.length by simp; omega] at hn
          unfold SNode at hn
          cases hr2 : P x y q (pre.length + 1 + mid.length) with
          | bad e =>
            rw [hr2] at hn
            obtain ⟨he, q', l, e3⟩ := hn
            simp only [e3, Option.bind_some, bneT he, cond_true]
            exact ⟨he, _, _, rfl⟩
          | ok r Y =>
            rw [hr2] at hn
            obtain ⟨hr1, e3⟩ := hn
            have hlen := hP _ _ _ _ _ _ a2 (by omega) hr2
            have h4 := ihg f y r (j + 1) (mid ++ Y) (by omega) (by omega) (by omega) (by omega) hr1 (by rw [List.length_append]; omega) (by omega)
            rw [List.length_append, ← Nat.add_assoc] at h4
            simp only [e3, Option.bind_some, bneF rfl, cond_false, hjw, List.append_assoc, List.cons_append]
            cases hr3 : prFields P b g y r (pre.length + 1 + mid.length + Y.length) with
            | bad e => rw [hr3] at h4; exact h4
            | ok z w =>
              obtain ⟨m, Z⟩ := w
              rw [hr3] at h4
              obtain ⟨h5, h6⟩ := h4
              refine ⟨h5, ?_⟩
              rw [h6, show j + 1 + m = j + (m + 1) by omega, List.append_assoc]

theorem srdN (hk : 2000 ≤ k) (b : List Int) (hl : b.length < 4611686018427387904) (hb : Byt b) : ∀ (d D deep : Nat) (kind id : Int) (p : Nat) (acc : List TNode), d + deep = 13 → d < D → isKind kind = true → p ≤ b.length → acc.length ≤ 1500 →
    SNode (spec_l4Read.rec k D) b kind id (deep : Int) p acc (prN d b kind id p acc.length) := by
  intro d
  induction d with
  | zero =>
    intro D deep kind id p acc hdd hD hkd hp hc
    obtain ⟨D, rfl⟩ : ∃ m, D = m + 1 := ⟨D - 1, by omega⟩
    refine ⟨by decide, 0, acc, ?_⟩
    simp only [spec_l4Read.rec, spec_l4Read.b, cst, decide_eq_true (show (deep : Int) > 12 by omega), Bool.or_true, Option.bind_some, cond_true]
  | succ d ih =>
    intro D deep kind id p acc hdd hD hkd hp hc
    obtain ⟨D, rfl⟩ : ∃ m, D = m + 1 := ⟨D - 1, by omega⟩
    have hset : ∀ (acc : List TNode) (x y : TNode), List.set (acc ++ [x]) (Int.toNat (acc.length : Int)) y = acc ++ [y] := fun acc x y => by
      rw [Int.toNat_natCast, List.set_append_right _ _ (Nat.le_refl _)]; simp
    have hget : ∀ (acc : List TNode) (x : TNode), rdL (acc ++ [x]) (acc.length : Int) = some x := fun acc x => by
      rw [rdL_nat, List.getElem?_append_right (Nat.le_refl _)]; simp
    unfold prN
    by_cases hc5 : acc.length = 1500
    · rw [if_pos hc5]
      refine ⟨by decide, 0, acc, ?_⟩
      simp only [spec_l4Read.rec, spec_l4Read.b, cst, beqT (show (acc.length : Int) = 1500 by omega), Bool.true_or, Option.bind_some, cond_true]
    · rw [if_neg hc5]
      unfold SNode
      simp only [spec_l4Read.rec, spec_l4Read.b, cst, beqF (show ¬ (acc.length : Int) = 1500 by omega), decide_eq_false (show ¬ (deep : Int) > 12 by omega), Bool.or_self, Option.bind_some, cond_false]
      rw [lim_ok (by simp; omega), cond_true]
      by_cases h56 : kind = 5 ∨ kind = 6
      · rw [if_pos h56]
        have e0 : (cond (kind == 5)
             (spec_l4Read.c8 k (spec_l4Read.rec k D) b (p : Int) kind (deep : Int) (acc.length : Int) kind (kind == 5) (acc ++ [(kind, id, 0, (⟨#[]⟩ : ByteArray), 0, ())]))
             (spec_l4Read.c8 k (spec_l4Read.rec k D) b (p : Int) kind (deep : Int) (acc.length : Int) kind (kind == 6) (acc ++ [(kind, id, 0, (⟨#[]⟩ : ByteArray), 0, ())])))
            = spec_l4Read.c8 k (spec_l4Read.rec k D) b (p : Int) kind (deep : Int) (acc.length : Int) kind true (acc ++ [(kind, id, 0, (⟨#[]⟩ : ByteArray), 0, ())]) := by
          rcases h56 with h | h
          · rw [beqT h, cond_true]
          · rw [beqF (show ¬ kind = 5 by omega), beqT h, cond_false]
        rw [e0]
        simp only [spec_l4Read.c8, cond_true, szig_any k hk hl hb p hp]
        cases hg : gv (b.drop p) with
        | none => exact ⟨by decide, _, _, rfl⟩
        | some z =>
          obtain ⟨u, n⟩ := z
          obtain ⟨f1, f2, f3, f4, f5⟩ := gv_facts _ u n (fun x hx => hb x (List.mem_of_mem_drop hx)) hg
          rw [List.length_drop] at f3
          simp only [Option.bind_some, Bool.not_true, cond_false, spec_l4Int, l1In_eq, csf]
          have h32 : (decide (-2147483648 ≤ zagV u) && decide (zagV u ≤ 2147483647)) = int32 (zagV u) := rfl
          rw [h32]
          by_cases hbad : kind = 5 ∧ int32 (zagV u) = false
          · rw [if_pos hbad]
            refine ⟨by decide, 0, acc ++ [(kind, id, 0, ⟨#[]⟩, 0, ())], ?_⟩
            simp only [beqT hbad.1, hbad.2, Bool.not_false, Bool.and_self, cond_true]
          · rw [if_neg hbad]
            have hb2 : ((kind == 5) && !int32 (zagV u)) = false := by
              rw [Bool.eq_false_iff]; intro q
              simp only [Bool.and_eq_true, beq_iff_eq, Bool.not_eq_true'] at q
              exact hbad q
            refine ⟨by omega, ?_⟩
            simp only [hb2, cond_false, hget, hset, Option.bind_some]
      · rw [if_neg h56]
        have e5 : (kind == 5) = false := beqF (by omega)
        have e6 : (kind == 6) = false := beqF (by omega)
        simp only [e5, e6, cond_false, spec_l4Read.c8]
        by_cases h8 : kind = 8
        · subst h8
          simp only [if_true, show ((8 : Int) == 8) = true from rfl, cond_true]
          obtain ⟨x, z, e, e1, e2⟩ := stext_any k hk hl hb p hp
          simp only [e1, Option.bind_some, hget, hset]
          cases hr : prText b p with
          | bad c =>
            rw [hr] at e2
            obtain ⟨rfl, he⟩ := e2
            exact ⟨he, _, _, rfl⟩
          | ok q s =>
            rw [hr] at e2
            obtain ⟨rfl, rfl, rfl, hq⟩ := e2
            exact ⟨hq, rfl⟩
        · rw [if_neg h8]
          simp only [beqF h8, cond_false]
          by_cases h9 : kind = 9
          · subst h9
            simp only [if_true, show ((9 : Int) == 9) = true from rfl, cond_true]
            obtain ⟨x, y, z, e, e1, e2⟩ := smany_any k hk hl hb p hp
            simp only [e1, Option.bind_some, hget, hset]
            cases hr : prMany b p with
            | bad c =>
              rw [hr] at e2
              obtain ⟨rfl, he⟩ := e2
              have : ∀ f a, f ≠ 0 → spec_l4Read.l24 k (spec_l4Read.rec k D) f b (deep : Int) x y z e 0 a = some (((), z, e), a) := by
                intro f a hf
                obtain ⟨f, rfl⟩ : ∃ j, f = j + 1 := ⟨f - 1, by omega⟩
                simp only [spec_l4Read.l24, beqF he]
                cases decide ((0 : Int) < x) <;> rfl
              refine ⟨he, _, _, this k _ (by omega)⟩
            | ok q w =>
              obtain ⟨many, item⟩ := w
              rw [hr] at e2
              obtain ⟨rfl, rfl, rfl, rfl, hq⟩ := e2
              obtain ⟨_, m1⟩ := prMany_ok hr
              simp only
              have hx : x ≤ 1500 := by rcases m1 with h | h <;> omega
              have hx0 : 0 ≤ x := by rcases m1 with h | h <;> omega
              rcases m1 with ⟨rfl, rfl⟩ | ⟨m1, m2, m3⟩
              · obtain ⟨K, hK⟩ : ∃ K, k = K + 1 := ⟨k - 1, by omega⟩
                have : ∀ f a, f ≠ 0 → spec_l4Read.l24 k (spec_l4Read.rec k D) f b (deep : Int) 0 0 (q : Int) 0 0 a = some (((), (q : Int), 0), a) := by
                  intro f a hf
                  obtain ⟨f, rfl⟩ : ∃ j, f = j + 1 := ⟨f - 1, by omega⟩
                  simp only [spec_l4Read.l24, decide_eq_false (show ¬ ((0 : Int) < 0) by omega), cond_false, Option.bind_some]
                simp only [Int.toNat_zero, prParts]
                exact ⟨hq, this k _ (by omega)⟩
              · have hp := sparts k (spec_l4Read.rec k D) b y deep (by omega) (fun p c => prN d b y 0 p c)
                  (fun p acc hp hc => ih D (deep + 1) y 0 p acc (by omega) (by omega) (isKind_of_item m3) hp hc)
                  (fun p c q Y hc h => by
                    obtain ⟨_, n, X, rfl, _, _, _, h5⟩ := prN_enc d b y 0 p c q Y (isKind_of_item m3) hc h
                    exact h5) x hx x.toNat k 0 q (acc ++ [(9, id, y, ⟨#[]⟩, x, ())]) (by omega) (by omega) (by omega) hq (by simp; omega)
                rw [List.length_append, List.length_singleton] at hp
                cases hr2 : prParts (fun p c => prN d b y 0 p c) x.toNat q (acc.length + 1) with
                | bad e => rw [hr2] at hp; exact hp
                | ok q' Y =>
                  rw [hr2] at hp
                  obtain ⟨h1, h2⟩ := hp
                  exact ⟨h1, by rw [h2]; simp⟩
          · rw [if_neg h9]
            simp only [beqF h9, cond_false]
            by_cases h12 : kind = 12
            · subst h12
              simp only [if_true, show ((12 : Int) == 12) = true from rfl, cond_true]
              have hf := sfields k hk (spec_l4Read.rec k D) b hl hb deep (by omega) (fun t id p c => prN d b t id p c)
                (fun t id p acc ht hp hc => ih D (deep + 1) t id p acc (by omega) (by omega) ht hp hc)
                (fun t id p c q Y ht hc h => by
                  obtain ⟨_, n, X, rfl, _, _, _, h5⟩ := prN_enc d b t id p c q Y ht hc h
                  exact h5) id acc 1002 k 0 p 0 [] (by omega) (by omega) (by omega) (by omega) hp (by simp; omega) (by omega)
              rw [List.length_nil, Nat.add_zero] at hf
              rw [show (acc ++ [((12 : Int), id, (0 : Int), (⟨#[]⟩ : ByteArray), (0 : Int), ())] : List TNode) = acc ++ sn id 0 :: [] from rfl]
              cases hr : prFields (fun t id p c => prN d b t id p c) b 1002 0 p (acc.length + 1) with
              | bad e => rw [hr] at hf; exact hf
              | ok q' x =>
                obtain ⟨m, Y⟩ := x
                rw [hr] at hf
                obtain ⟨hq', e1⟩ := hf
                refine ⟨hq', ?_⟩
                rw [show ((0 : Nat) : Int) = 0 from rfl] at e1
                rw [e1]
                simp [sn]
            · rw [if_neg h12]
              simp only [beqF h12, cond_false]
              exact ⟨hp, trivial⟩
end Go.Law
end

section
/- Trees: what is read of bytes that are cut off. -/
set_option linter.unusedVariables false
set_option linter.unusedSimpArgs false
namespace Go.Law
open Go.Am Go.Fn

theorem prParts_mono {S : Nat → Nat → Res (List TNode)} (ih : ∀ p c q Y, S p c = .ok q Y → p ≤ q) : ∀ (j p c q : Nat) (Y : List TNode), prParts S j p c = .ok q Y → p ≤ q := by
  intro j
  induction j with
  | zero =>
    intro p c q Y h
    simp only [prParts, Res.ok.injEq] at h
    omega
  | succ j ihj =>
    intro p c q Y h
    simp only [prParts] at h
    split at h
    · cases h
    · rename_i h1
      split at h
      · cases h
      · rename_i h2
        simp only [Res.ok.injEq] at h
        have := ih _ _ _ _ h1
        have := ihj _ _ _ _ h2
        omega

theorem prFields_mono {S : Int → Int → Nat → Nat → Res (List TNode)} {b : List Int} (ih : ∀ t id p c q Y, S t id p c = .ok q Y → p ≤ q) : ∀ (f : Nat) (last : Int) (p c q : Nat) (Y : Nat × List TNode), prFields S b f last p c = .ok q Y → p < q := by
  intro f
  induction f with
  | zero => intro last p c q Y h; cases h
  | succ f ihf =>
    intro last p c q Y h
    simp only [prFields] at h
    split at h
    · cases h
    · rename_i h1
      have := (prHead_ok h1).1
      split at h
      · simp only [Res.ok.injEq] at h
        omega
      · split at h
        · cases h
        · rename_i h2
          split at h
          · cases h
          · rename_i h3
            simp only [Res.ok.injEq] at h
            have := ih _ _ _ _ _ _ h2
            have := ihf _ _ _ _ _ h3
            omega

theorem prN_mono : ∀ (d : Nat) (b : List Int) (kind id : Int) (p c q : Nat) (Y : List TNode), prN d b kind id p c = .ok q Y → p ≤ q := by
  intro d
  induction d with
  | zero => intro b kind id p c q Y h; cases h
  | succ d ih =>
    intro b kind id p c q Y h
    simp only [prN] at h
    split at h
    · cases h
    · split at h
      · split at h
        · cases h
        · split at h
          · cases h
          · simp only [Res.ok.injEq] at h
            omega
      · split at h
        · split at h
          · cases h
          · rename_i hs
            simp only [Res.ok.injEq] at h
            have := (prText_ok hs).1
            omega
        · split at h
          · split at h
            · cases h
            · rename_i hm
              have := (prMany_ok hm).1
              split at h
              · cases h
              · rename_i hp
                simp only [Res.ok.injEq] at h
                have := prParts_mono (fun p c q Y h => ih b _ 0 p c q Y h) _ _ _ _ _ hp
                omega
          · split at h
            · split at h
              · cases h
              · rename_i hf
                simp only [Res.ok.injEq] at h
                have := prFields_mono (fun t id p c q Y h => ih b t id p c q Y h) _ _ _ _ _ _ hf
                omega
            · simp only [Res.ok.injEq] at h
              omega

end Go.Law
end

section
/- Trees: how many bytes they have, and how many have been read at least. -/
set_option linter.unusedVariables false
set_option linter.unusedSimpArgs false
namespace Go.Law
open Go.Am Go.Fn

def CostLe (d : Nat) (Y : List TNode) (m : Nat) : Prop := ∀ rest, (cost d (Y ++ rest)).2 = rest ∧ (cost d (Y ++ rest)).1 ≤ m
def CostPLe (d : Nat) (st : Bool) (c : Nat) (last : Int) (Y : List TNode) (m : Nat) : Prop := ∀ rest, (costP (cost d) st c last (Y ++ rest)).2 = rest ∧ (costP (cost d) st c last (Y ++ rest)).1 ≤ m

theorem CostPLe_cons {d : Nat} {st : Bool} {c : Nat} {last : Int} {x : TNode} {X Z : List TNode} {m1 m2 m : Nat} (h1 : CostLe d (x :: X) m1) (h2 : CostPLe d st c x.2.1 Z m2) (hm : (if st then (headB x last).length else 0) + m1 + m2 ≤ m) : CostPLe d st (c + 1) last ((x :: X) ++ Z) m := by
  intro rest
  obtain ⟨a1, a2⟩ := h1 (Z ++ rest)
  obtain ⟨b1, b2⟩ := h2 rest
  rw [List.append_assoc, List.cons_append]
  rw [List.cons_append] at a1 a2
  simp only [costP, a1]
  exact ⟨b1, by omega⟩

theorem prHead_len {b : List Int} (hb : Byt b) {p : Nat} {last : Int} {q : Nat} {t id : Int} (hl : 0 ≤ last) (h : prHead b p last = .ok q (t, id)) : q ≤ b.length ∧ (t ≠ 0 → ∀ x : TNode, x.2.1 = id → p + (headB x last).length ≤ q) := by
  unfold prHead at h
  split at h
  · cases h
  · rename_i y hy
    have hp : p < b.length := (List.getElem?_eq_some_iff.1 hy).1
    obtain ⟨y0, y1⟩ := hb y (List.mem_of_getElem? hy)
    split at h
    · simp only [Res.ok.injEq, Prod.mk.injEq] at h
      exact ⟨by omega, fun hh => by omega⟩
    · split at h
      · cases h
      · split at h
        · cases h
        · rename_i id' q' hm
          split at h
          · cases h
          · split at h
            · cases h
            · simp only [Res.ok.injEq, Prod.mk.injEq] at h
              obtain ⟨rfl, rfl, rfl⟩ := h
              split at hm
              · cases hg : gv (b.drop (p + 1)) with
                | none => rw [hg] at hm; cases hm
                | some z =>
                  rw [hg] at hm
                  obtain ⟨u, n⟩ := z
                  simp only [Option.map_some, Option.some.injEq, Prod.mk.injEq] at hm
                  obtain ⟨rfl, rfl⟩ := hm
                  obtain ⟨f1, f2, f3, f4, f5⟩ := gv_facts _ u n (fun x hx => hb x (List.mem_of_mem_drop hx)) hg
                  rw [List.length_drop] at f3
                  refine ⟨by omega, fun _ x hx => ?_⟩
                  unfold headB
                  split
                  · simp <;> omega
                  · rw [hx, zig_zagV f1, List.length_cons]; omega
              · simp only [Option.some.injEq, Prod.mk.injEq] at hm
                obtain ⟨rfl, rfl⟩ := hm
                refine ⟨by omega, fun _ x hx => ?_⟩
                unfold headB
                rw [if_pos (by omega)]
                simp

theorem prMany_len {b : List Int} (hb : Byt b) {p q : Nat} {many item : Int} (h : prMany b p = .ok q (many, item)) : q ≤ b.length ∧ p + (if many ≤ 14 then 1 else 1 + (uv many).length) ≤ q := by
  unfold prMany at h
  split at h
  · cases h
  · rename_i y hy
    have hp : p < b.length := (List.getElem?_eq_some_iff.1 hy).1
    obtain ⟨y0, y1⟩ := hb y (List.mem_of_getElem? hy)
    split at h
    · cases h
    · rename_i m q' hm
      have hq : q' ≤ b.length ∧ p + (if m ≤ 14 then 1 else 1 + (uv m).length) ≤ q' := by
        split at hm
        · cases hg : gv (b.drop (p + 1)) with
          | none => rw [hg] at hm; cases hm
          | some z =>
            rw [hg] at hm
            obtain ⟨u, n⟩ := z
            simp only [Option.map_some, Option.some.injEq, Prod.mk.injEq] at hm
            obtain ⟨rfl, rfl⟩ := hm
            obtain ⟨f1, f2, f3, f4, f5⟩ := gv_facts _ u n (fun x hx => hb x (List.mem_of_mem_drop hx)) hg
            rw [List.length_drop] at f3
            refine ⟨by omega, ?_⟩
            split <;> omega
        · simp only [Option.some.injEq, Prod.mk.injEq] at hm
          obtain ⟨rfl, rfl⟩ := hm
          refine ⟨by omega, ?_⟩
          rw [if_pos (by omega)]
          omega
      split at h
      · rename_i h0
        simp only [Res.ok.injEq, Prod.mk.injEq] at h
        obtain ⟨rfl, rfl, rfl⟩ := h
        rw [h0] at hq
        exact hq
      · split at h
        · cases h
        · split at h
          · cases h
          · simp only [Res.ok.injEq, Prod.mk.injEq] at h
            obtain ⟨rfl, rfl, rfl⟩ := h
            exact hq

theorem prText_len {b : List Int} (hb : Byt b) {p q : Nat} {s : ByteArray} (h : prText b p = .ok q s) : q ≤ b.length ∧ p + ((uv (s.size : Int)).length + s.size) ≤ q := by
  unfold prText at h
  split at h
  · cases h
  · rename_i u n hg
    obtain ⟨f1, f2, f3, f4, f5⟩ := gv_facts _ u n (fun x hx => hb x (List.mem_of_mem_drop hx)) hg
    rw [List.length_drop] at f3
    split at h
    · cases h
    · split at h
      · cases h
      · simp only [Res.ok.injEq] at h
        obtain ⟨rfl, rfl⟩ := h
        have hs : (intsStr (List.take u.toNat (List.drop (p + n) b))).size = u.toNat := by
          rw [intsStr_size, List.length_take, List.length_drop]; omega
        rw [hs, show ((u.toNat : Nat) : Int) = u by omega]
        omega

theorem prParts_cost {d : Nat} {b : List Int} {S : Nat → Nat → Res (List TNode)} (ih : ∀ p c q Y, p ≤ b.length → c ≤ 1500 → S p c = .ok q Y → p ≤ q ∧ q ≤ b.length ∧ Y ≠ [] ∧ c + Y.length ≤ 1500 ∧ CostLe d Y (q - p)) : ∀ (m p c : Nat) (last : Int) (q : Nat) (Y : List TNode), p ≤ b.length → c ≤ 1500 → prParts S m p c = .ok q Y → p ≤ q ∧ q ≤ b.length ∧ CostPLe d false m last Y (q - p) := by
  intro m
  induction m with
  | zero =>
    intro p c last q Y hp hc h
    simp only [prParts, Res.ok.injEq] at h
    obtain ⟨rfl, rfl⟩ := h
    exact ⟨Nat.le_refl _, hp, fun rest => ⟨rfl, Nat.zero_le _⟩⟩
  | succ m ihm =>
    intro p c last q Y hp hc h
    simp only [prParts] at h
    split at h
    · cases h
    · rename_i q1 Y1 h1
      split at h
      · cases h
      · rename_i q2 Z h2
        simp only [Res.ok.injEq] at h
        obtain ⟨rfl, rfl⟩ := h
        obtain ⟨a1, a2, a3, a4, a5⟩ := ih _ _ _ _ hp hc h1
        cases Y1 with
        | nil => exact (a3 rfl).elim
        | cons x X =>
          obtain ⟨b1, b2, b3⟩ := ihm _ _ x.2.1 _ _ a2 (by omega) h2
          exact ⟨by omega, b2, CostPLe_cons a5 b3 (by simp; omega)⟩

theorem prFields_cost {d : Nat} {b : List Int} (hb : Byt b) {S : Int → Int → Nat → Nat → Res (List TNode)} (ih : ∀ t id p c q Y, isKind t = true → p ≤ b.length → c ≤ 1500 → S t id p c = .ok q Y → p ≤ q ∧ q ≤ b.length ∧ (∃ x X, Y = x :: X ∧ x.2.1 = id) ∧ c + Y.length ≤ 1500 ∧ CostLe d Y (q - p)) : ∀ (f : Nat) (last : Int) (p c q m : Nat) (Y : List TNode), 0 ≤ last → p ≤ b.length → c ≤ 1500 → prFields S b f last p c = .ok q (m, Y) → p < q ∧ q ≤ b.length ∧ CostPLe d true m last Y (q - p - 1) := by
  intro f
  induction f with
  | zero => intro last p c q m Y hl hp hc h; cases h
  | succ f ihf =>
    intro last p c q m Y hl hp hc h
    simp only [prFields] at h
    split at h
    · cases h
    · rename_i q1 t id h1
      obtain ⟨a1, a2⟩ := prHead_ok h1
      obtain ⟨l1, l2⟩ := prHead_len hb hl h1
      split at h
      · simp only [Res.ok.injEq, Prod.mk.injEq] at h
        obtain ⟨rfl, rfl, rfl⟩ := h
        exact ⟨a1, l1, fun rest => ⟨rfl, Nat.zero_le _⟩⟩
      · rename_i ht
        rcases a2 with a2 | ⟨a2, _, a3, a4, a5⟩
        · exact (ht a2).elim
        · split at h
          · cases h
          · rename_i q2 Y1 h2
            split at h
            · cases h
            · rename_i q3 m' Z h3
              simp only [Res.ok.injEq, Prod.mk.injEq] at h
              obtain ⟨rfl, rfl, rfl⟩ := h
              obtain ⟨c1, c2, ⟨x, X, rfl, hx⟩, c4, c5⟩ := ih _ _ _ _ _ _ a2 l1 hc h2
              obtain ⟨b1, b2, b3⟩ := ihf _ _ _ _ _ _ (by omega) c2 (by omega) h3
              rw [← hx] at b3
              have := l2 ht x hx
              exact ⟨by omega, b2, CostPLe_cons c5 b3 (by simp; omega)⟩

theorem prN_cost : ∀ (d : Nat) (b : List Int) (hb : Byt b) (kind id : Int) (p c q : Nat) (Y : List TNode), isKind kind = true → p ≤ b.length → c ≤ 1500 → prN d b kind id p c = .ok q Y → q ≤ b.length ∧ CostLe d Y (q - p) := by
  intro d
  induction d with
  | zero => intro b hb kind id p c q Y hk hp hc h; cases h
  | succ d ih =>
    intro b hb kind id p c q Y hk hp hc h
    have ihS : ∀ t id p c q Y, isKind t = true → p ≤ b.length → c ≤ 1500 → prN d b t id p c = .ok q Y → p ≤ q ∧ q ≤ b.length ∧ (∃ x X, Y = x :: X ∧ x.2.1 = id) ∧ c + Y.length ≤ 1500 ∧ CostLe d Y (q - p) := by
      intro t id p c q Y hk hp hc h
      obtain ⟨a1, x, X, rfl, x1, x2, x3, x4⟩ := prN_enc d b t id p c q Y hk hc h
      obtain ⟨b1, b2⟩ := ih b hb t id p c q _ hk hp hc h
      exact ⟨a1, b1, ⟨x, X, rfl, x2⟩, x4, b2⟩
    simp only [prN] at h
    split at h
    · cases h
    · rename_i hc5
      split at h
      · rename_i h56
        split at h
        · cases h
        · rename_i u n hg
          obtain ⟨f1, f2, f3, f4, f5⟩ := gv_facts _ u n (fun x hx => hb x (List.mem_of_mem_drop hx)) hg
          rw [List.length_drop] at f3
          split at h
          · cases h
          · simp only [Res.ok.injEq] at h
            obtain ⟨rfl, rfl⟩ := h
            refine ⟨by omega, fun rest => ?_⟩
            simp only [List.cons_append, List.nil_append, cost, if_pos h56, zig_zagV f1]
            exact ⟨trivial, by omega⟩
      · rename_i h56
        split at h
        · rename_i h8
          split at h
          · cases h
          · rename_i q' s hs
            simp only [Res.ok.injEq] at h
            obtain ⟨rfl, rfl⟩ := h
            obtain ⟨s1, s2⟩ := prText_len hb hs
            refine ⟨s1, fun rest => ?_⟩
            simp only [List.cons_append, List.nil_append, cost, if_neg (show ¬ ((8 : Int) = 5 ∨ (8 : Int) = 6) by omega), if_true]
            exact ⟨trivial, by omega⟩
        · rename_i h8
          split at h
          · rename_i h9
            split at h
            · cases h
            · rename_i q1 many item hm
              obtain ⟨m0, m1⟩ := prMany_ok hm
              obtain ⟨l0, l1⟩ := prMany_len hb hm
              split at h
              · cases h
              · rename_i q2 Y' hq
                simp only [Res.ok.injEq] at h
                obtain ⟨rfl, rfl⟩ := h
                have key : q1 ≤ q2 ∧ q2 ≤ b.length ∧ CostPLe d false many.toNat 0 Y' (q2 - q1) := by
                  rcases m1 with ⟨rfl, rfl⟩ | ⟨m1, m2, m3⟩
                  · simp only [Int.toNat_zero, prParts, Res.ok.injEq] at hq
                    obtain ⟨rfl, rfl⟩ := hq
                    exact ⟨Nat.le_refl _, l0, fun rest => ⟨rfl, Nat.zero_le _⟩⟩
                  · refine prParts_cost (d := d) (b := b) (fun p c q Y hp hc h => ?_) _ _ _ 0 _ _ l0 (by omega) hq
                    obtain ⟨c1, c2, ⟨x, X, c3, _⟩, c4, c5⟩ := ihS _ _ _ _ _ _ (isKind_of_item m3) hp hc h
                    exact ⟨c1, c2, by rw [c3]; simp, c4, c5⟩
                obtain ⟨k0, k1, k2⟩ := key
                refine ⟨k1, fun rest => ?_⟩
                obtain ⟨e1, e2⟩ := k2 rest
                simp only [List.cons_append, cost, if_neg (show ¬ ((9 : Int) = 5 ∨ (9 : Int) = 6) by omega), if_neg (show ¬ ((9 : Int) = 8) by omega), if_true]
                exact ⟨e1, by omega⟩
          · rename_i h9
            split at h
            · rename_i h12
              split at h
              · cases h
              · rename_i q1 m Y' hf
                simp only [Res.ok.injEq] at h
                obtain ⟨rfl, rfl⟩ := h
                obtain ⟨k0, k1, k2⟩ := prFields_cost (d := d) hb ihS _ _ _ _ _ _ _ (Int.le_refl 0) hp (by omega) hf
                refine ⟨k1, fun rest => ?_⟩
                obtain ⟨e1, e2⟩ := k2 rest
                simp only [List.cons_append, cost, if_neg (show ¬ ((12 : Int) = 5 ∨ (12 : Int) = 6) by omega), if_neg (show ¬ ((12 : Int) = 8) by omega), if_neg (show ¬ ((12 : Int) = 9) by omega), if_true, Int.toNat_natCast]
                exact ⟨e1, by omega⟩
            · rename_i h12
              simp only [Res.ok.injEq] at h
              obtain ⟨rfl, rfl⟩ := h
              refine ⟨hp, fun rest => ?_⟩
              simp only [List.cons_append, List.nil_append, cost, if_neg h56, if_neg h8, if_neg h9, if_neg h12]
              exact ⟨trivial, by omega⟩
end Go.Law
end

section
/- Trees: the program and the reference read the same of any bytes. -/
set_option linter.unusedVariables false
set_option linter.unusedSimpArgs false
namespace Go.Law
open Go.Am Go.Fn

theorem isz {x : Int} (h0 : -1000000000000 ≤ x) (h1 : x ≤ 1000000000000) : I64 x := ⟨by omega, by omega⟩

theorem wfn_mk {k id num m : Int} {t : ByteArray} (h1 : I64 k) (h2 : I64 id) (h3 : I64 num) (h4 : I64 m) (h5 : t.size ≤ 1073741824) : WfN (k, id, num, t, m, ()) := ⟨h1, h2, h3, h4, h5⟩
theorem i8 : I64 8 := ⟨by decide, by decide⟩
theorem i9 : I64 9 := ⟨by decide, by decide⟩
theorem i12 : I64 12 := ⟨by decide, by decide⟩

theorem prParts_wf {S : Nat → Nat → Res (List TNode)} (ih : ∀ p c q Y, S p c = .ok q Y → ∀ n, n ∈ Y → WfN n) : ∀ (m p c q : Nat) (Y : List TNode), prParts S m p c = .ok q Y → ∀ n, n ∈ Y → WfN n := by
  intro m
  induction m with
  | zero =>
    intro p c q Y h n hn
    simp only [prParts, Res.ok.injEq] at h
    obtain ⟨_, rfl⟩ := h
    cases hn
  | succ m ihm =>
    intro p c q Y h n hn
    simp only [prParts] at h
    split at h
    · cases h
    · rename_i h1
      split at h
      · cases h
      · rename_i h2
        simp only [Res.ok.injEq] at h
        obtain ⟨_, rfl⟩ := h
        rcases List.mem_append.1 hn with hn | hn
        · exact ih _ _ _ _ h1 n hn
        · exact ihm _ _ _ _ h2 n hn

theorem prFields_wf {S : Int → Int → Nat → Nat → Res (List TNode)} {b : List Int} (ih : ∀ t id p c q Y, isKind t = true → 0 ≤ id → id ≤ 1000 → S t id p c = .ok q Y → ∀ n, n ∈ Y → WfN n) : ∀ (f : Nat) (last : Int) (p c q m : Nat) (Y : List TNode), prFields S b f last p c = .ok q (m, Y) → m ≤ f ∧ ∀ n, n ∈ Y → WfN n := by
  intro f
  induction f with
  | zero => intro last p c q m Y h; cases h
  | succ f ihf =>
    intro last p c q m Y h
    simp only [prFields] at h
    split at h
    · cases h
    · rename_i q1 t id h1
      obtain ⟨a1, a2⟩ := prHead_ok h1
      split at h
      · simp only [Res.ok.injEq, Prod.mk.injEq] at h
        obtain ⟨_, rfl, rfl⟩ := h
        exact ⟨by omega, fun n hn => by cases hn⟩
      · rename_i ht
        rcases a2 with a2 | ⟨a2, _, a3, a4, a5⟩
        · exact (ht a2).elim
        · split at h
          · cases h
          · rename_i h2
            split at h
            · cases h
            · rename_i h3
              simp only [Res.ok.injEq, Prod.mk.injEq] at h
              obtain ⟨_, rfl, rfl⟩ := h
              obtain ⟨g1, g2⟩ := ihf _ _ _ _ _ _ h3
              refine ⟨by omega, fun n hn => ?_⟩
              rcases List.mem_append.1 hn with hn | hn
              · exact ih _ _ _ _ _ _ a2 (by omega) a5 h2 n hn
              · exact g2 n hn

theorem prN_wf : ∀ (d : Nat) (b : List Int) (kind id : Int) (p c q : Nat) (Y : List TNode), isKind kind = true → 0 ≤ id → id ≤ 1000 → prN d b kind id p c = .ok q Y → ∀ n, n ∈ Y → WfN n := by
  intro d
  induction d with
  | zero => intro b kind id p c q Y _ _ _ h; cases h
  | succ d ih =>
    intro b kind id p c q Y hk h0 h1 h
    have hkb : I64 kind := by rcases kind_cases hk with e | e | e | e | e | e | e <;> subst e <;> exact ⟨by decide, by decide⟩
    have hid : I64 id := isz (by omega) (by omega)
    have hz : I64 0 := ⟨by decide, by decide⟩
    have he : (⟨#[]⟩ : ByteArray).size ≤ 1073741824 := by decide
    have mk : ∀ (x : TNode) (Y : List TNode), WfN x → (∀ n, n ∈ Y → WfN n) → ∀ n, n ∈ x :: Y → WfN n := fun x Y hx hY n hn => by
      rcases List.mem_cons.1 hn with rfl | hn
      · exact hx
      · exact hY n hn
    have nil : ∀ n : TNode, n ∈ ([] : List TNode) → WfN n := fun n hn => by cases hn
    simp only [prN] at h
    split at h
    · cases h
    · split at h
      · split at h
        · cases h
        · split at h
          · cases h
          · simp only [Res.ok.injEq] at h
            obtain ⟨_, rfl⟩ := h
            exact mk _ _ (wfn_mk hkb hid (zagV_i64 _) hz he) nil
      · split at h
        · split at h
          · cases h
          · rename_i s hs
            obtain ⟨_, s2⟩ := prText_ok hs
            simp only [Res.ok.injEq] at h
            obtain ⟨_, rfl⟩ := h
            exact mk _ _ (wfn_mk i8 hid hz hz (by omega)) nil
        · split at h
          · split at h
            · cases h
            · rename_i many item hm
              obtain ⟨_, m1⟩ := prMany_ok hm
              split at h
              · cases h
              · rename_i hp
                simp only [Res.ok.injEq] at h
                obtain ⟨_, rfl⟩ := h
                rcases m1 with ⟨rfl, rfl⟩ | ⟨m1, m2, m3⟩
                · simp only [Int.toNat_zero, prParts, Res.ok.injEq] at hp
                  obtain ⟨_, rfl⟩ := hp
                  exact mk _ _ (wfn_mk i9 hid hz hz he) nil
                · refine mk _ _ (wfn_mk i9 hid ?_ (isz (by omega) (by omega)) he) (prParts_wf (fun p c q Y h => ih b item 0 p c q Y (isKind_of_item m3) (by omega) (by omega) h) _ _ _ _ _ hp)
                  rcases kind_cases (isKind_of_item m3) with e | e | e | e | e | e | e <;> subst e <;> exact ⟨by decide, by decide⟩
          · split at h
            · split at h
              · cases h
              · rename_i hf
                simp only [Res.ok.injEq] at h
                obtain ⟨_, rfl⟩ := h
                obtain ⟨g1, g2⟩ := prFields_wf (fun t id p c q Y hk h0 h1 h => ih b t id p c q Y hk h0 h1 h) _ _ _ _ _ _ _ hf
                exact mk _ _ (wfn_mk i12 hid hz (isz (by omega) (by omega)) he) g2
            · simp only [Res.ok.injEq] at h
              obtain ⟨_, rfl⟩ := h
              exact mk _ _ (wfn_mk hkb hid hz hz he) nil

def trd (b : List Int) (at_ : Int) : Res (List TNode) := if 0 ≤ at_ ∧ at_ < b.length then prN 12 b 12 0 at_.toNat 0 else .bad 1

structure ReadOk (b : List Int) (at_ : Int) (q : Nat) (Y : List TNode) : Prop where
  rng : 0 ≤ at_ ∧ at_ < q ∧ q ≤ b.length
  enc : Enc 12 Y
  root : ∃ X, ∃ n : TNode, Y = n :: X ∧ n.1 = 12 ∧ n.2.1 = 0
  len : Y.length ≤ 1500
  wf : ∀ n, n ∈ Y → WfN n

theorem trd_ok {b : List Int} (hl : b.length < 4611686018427387904) (hb : Byt b) {at_ : Int} {q : Nat} {Y : List TNode} (h : trd b at_ = .ok q Y) : ReadOk b at_ q Y := by
  unfold trd at h
  split at h
  · rename_i hr
    obtain ⟨a1, n, X, e1, e2, e3, e4, e5⟩ := prN_enc 12 b 12 0 _ 0 q Y (by decide) (by omega) h
    have hlt : at_.toNat < q := by
      simp only [prN] at h
      simp only [if_neg (show ¬ (0 : Nat) = 1500 by omega), if_neg (show ¬ ((12 : Int) = 5 ∨ (12 : Int) = 6) by omega), if_neg (show ¬ ((12 : Int) = 8) by omega), if_neg (show ¬ ((12 : Int) = 9) by omega), if_true] at h
      split at h
      · cases h
      · rename_i hf
        simp only [Res.ok.injEq] at h
        obtain ⟨rfl, rfl⟩ := h
        exact prFields_mono (fun t id p c q Y h => prN_mono 11 b t id p c q Y h) _ _ _ _ _ _ hf
    have hq := (prN_cost 12 b hb 12 0 _ 0 q Y (by decide) (by omega) (by omega) h).1
    exact ⟨⟨hr.1, by omega, hq⟩, e4, ⟨X, n, e1, e2, e3⟩, by omega, prN_wf 12 b 12 0 _ 0 q Y (by decide) (by omega) (by omega) h⟩
  · cases h

variable (k : Nat)

theorem treeRead_eq (hk : 2000 ≤ k) (b : List Int) (hl : b.length < 4611686018427387904) (hb : Byt b) (at_ : Int) :
    match trd b at_ with
    | .bad e => e ≠ 0 ∧ spec_TreeRead k b at_ = some (((), 0, e), []) ∧ impl_TreeRead k b at_ = some (((), 0, e), [])
    | .ok q Y => spec_TreeRead k b at_ = some (((), (q : Int), 0), Y) ∧ impl_TreeRead k b at_ = some (((), (q : Int), 0), Y) := by
  unfold trd spec_TreeRead impl_TreeRead
  simp only [cst, within_eq]
  by_cases hr : 0 ≤ at_ ∧ at_ < b.length
  · rw [if_pos hr]
    have c1 : (decide ((0 : Int) ≤ at_) && decide (at_ ≤ IntKind.wrap .i64 ((b.length : Int) - 1))) = true := by
      rw [w64 (by omega) (by omega)]
      simp
      omega
    rw [decide_eq_false (show ¬ at_ < 0 by omega), decide_eq_false (show ¬ at_ ≥ (b.length : Int) by omega), c1]
    simp only [Bool.or_self, Option.bind_some, cond_false, Bool.not_true]
    obtain ⟨p, rfl⟩ := Int.eq_ofNat_of_zero_le hr.1
    rw [Int.toNat_natCast]
    have hs := srdN k hk b hl hb 12 k 1 12 0 p [] (by omega) (by omega) (by decide) (by omega) (by simp)
    have hi := irdN k hk b hl hb 12 k 1 12 0 p [] (by omega) (by omega) (by decide) (by omega) (by simp)
    have es : ∀ x, spec_l4Read k b (p : Int) 12 0 1 [] = x ↔ spec_l4Read.rec k k b (p : Int) 12 0 ((1 : Nat) : Int) [] = x := fun x => Iff.rfl
    have ei : ∀ x, impl_treeReader_node k 12 0 1 (b, (p : Int), (), 0, ()) [] = x ↔ (impl_treeReader_node.rec k k).1 12 0 ((1 : Nat) : Int) (rdE b p 0) [] = x := fun x => Iff.rfl
    rw [List.length_nil] at hs hi
    unfold SNode at hs
    unfold INode at hi
    cases h : prN 12 b 12 0 p 0 with
    | bad e =>
      rw [h] at hs hi
      obtain ⟨he, q, l, e1⟩ := hs
      obtain ⟨_, q', l', _, e2⟩ := hi
      rw [(es _).2 e1, (ei _).2 e2]
      simp only [Option.bind_some, bneT he, cond_true]
      exact ⟨he, trivial, trivial⟩
    | ok q Y =>
      rw [h] at hs hi
      obtain ⟨_, e1⟩ := hs
      obtain ⟨_, e2⟩ := hi
      rw [(es _).2 e1, (ei _).2 e2]
      simp only [Option.bind_some, bneF rfl, cond_false, List.nil_append]
      exact ⟨trivial, trivial⟩
  · rw [if_neg hr]
    have c1 : (decide ((0 : Int) ≤ at_) && decide (at_ ≤ IntKind.wrap .i64 ((b.length : Int) - 1))) = false := by
      rw [w64 (by omega) (by omega), Bool.eq_false_iff]
      intro q
      simp only [Bool.and_eq_true, decide_eq_true_eq] at q
      omega
    have c2 : (decide (at_ < 0) || decide (at_ ≥ (b.length : Int))) = true := by
      simp only [Bool.or_eq_true, decide_eq_true_eq]
      omega
    rw [c1, c2]
    simp only [Option.bind_some, cond_true, Bool.not_false]
    exact ⟨by decide, trivial, trivial⟩

theorem read_tree (hk : 2000 ≤ k) {b : List Int} {at_ : Int} {q : Nat} {Y : List TNode} (h : ReadOk b at_ q Y) : spec_TreeOk k Y = some true := by
  obtain ⟨X, n, rfl, h1, h2⟩ := h.root
  exact treeOkEnc k hk n X h.enc h.len h1 h2
end Go.Law
end

section
/- The head of a page, by both. -/
set_option linter.unusedVariables false
set_option linter.unusedSimpArgs false
set_option linter.unusedSectionVars false
namespace Go.Law
open Go.Am Go.Fn

abbrev hdr (a : Int) (bad : Bool) : THeadReader := ((), a, bad, ())
abbrev zN : TNode := (0, 0, 0, (⟨#[]⟩ : ByteArray), 0, ())
abbrev zH : THead := (0, 0, 0, 0, 0, 0, 0, 0, false, 0, false, zS, 0, ())

section
variable (k : Nat) (hk : 2000000 ≤ k) {l : List TNode} {af : List Int} (h : TreeFacts l af)
include hk h

theorem hany (a : Nat) (ha : a < l.length) (id : Int) (b : Bool) : impl_headReader_any k id (hdr a b) (true, tB l) af = some ((nV k l a id).1, (hdr a (b || !(nV k l a id).2), tB l, af)) := by
  obtain ⟨_, g, _⟩ := num_val k (by omega) h a ha id
  unfold impl_headReader_any impl_headReader_any.c4
  simp only [g, Option.bind_some]
  cases (nV k l a id).2 <;> cases b <;> rfl

theorem hnum (a : Nat) (ha : a < l.length) (id : Int) (b : Bool) : impl_headReader_num k id 0 (hdr a b) (tB l) af = some ((nV k l a id).1, (hdr a (b || (!(nV k l a id).2 || decide ((nV k l a id).1 < 0))), tB l, af)) := by
  obtain ⟨_, g, _⟩ := num_val k (by omega) h a ha id
  unfold impl_headReader_num impl_headReader_num.c4
  simp only [g, Option.bind_some, cst]
  cases (nV k l a id).2 <;> cases decide ((nV k l a id).1 < 0) <;> cases b <;> rfl

def kdV (l : List TNode) (q : Int) : Int := ((rdL l q).map (·.1)).getD 0

theorem kd_val (q : Int) (h0 : 0 ≤ q) (h1 : q < l.length) : ∃ n, rdL l q = some n ∧ kdV l q = n.1 ∧ nok n = true := by
  obtain ⟨p, rfl⟩ := Int.eq_ofNat_of_zero_le h0
  obtain ⟨d, nx, hd, hs, hnx⟩ := h.at (i := p) (by omega)
  obtain ⟨n, n1, n2, n3⟩ := Sub_node hs
  refine ⟨n, n1, ?_, n2⟩
  unfold kdV
  rw [show rdL l ((p : Nat) : Int) = some n from n1]
  rfl

theorem find_ns (q : Nat) (hq : q < l.length) (hn : kdV l q ≠ 12) (id : Int) : fV k l q id = -1 := by
  obtain ⟨n, n1, n2, n3⟩ := kd_val k hk h (q : Int) (by omega) (by omega)
  have c1 : (decide ((0 : Int) ≤ (q : Int)) && decide ((q : Int) ≤ IntKind.wrap .i64 ((l.length : Int) - 1))) = true := by
    have := h.len
    rw [w64 (by omega) (by omega)]; simp; omega
  have : spec_l4Find k l (q : Int) id = some (-1) := by
    unfold spec_l4Find
    simp only [l1In_eq, c1, Option.bind_some, Bool.not_true, cond_false, n1, cst, csf, bneT (show ¬ n.1 = 12 by omega), cond_true, Bool.true_or, Bool.or_true]
  unfold fV
  rw [this]
  rfl

def ptV (k : Nat) (l : List TNode) (id : Int) : Bool := decide (0 ≤ fV k l 0 id) && (kdV l (fV k l 0 id) == 12)

theorem enter_eq (id : Int) (b : Bool) : ∃ q : Nat, q < l.length ∧ impl_headReader_enter k id (hdr 0 b) (tB l) af = some ((), (hdr q (b || !ptV k l id), tB l, af)) ∧ spec_l16Part k l id = some (if ptV k l id then (q : Int) else -1) := by
  have hpos := h.pos
  obtain ⟨f1, f2, f3⟩ := find_val k (by omega) h 0 (by omega) id
  rw [show ((0 : Nat) : Int) = 0 from rfl] at f1 f2 f3
  unfold impl_headReader_enter spec_l16Part ptV
  simp only [f1, f2, Option.bind_some]
  rcases f3 with f3 | ⟨q, f3, q1, q2⟩
  · rw [f3]
    refine ⟨0, hpos, ?_, rfl⟩
    cases b <;> rfl
  · rw [f3]
    obtain ⟨n, n1, n2, n3⟩ := kd_val k hk h (q : Int) (by omega) (by omega)
    simp only [decide_eq_false (show ¬ (q : Int) < 0 by omega), cond_false, n1, Option.bind_some, n2, decide_eq_true (show (0 : Int) ≤ (q : Int) by omega), Bool.true_and]
    by_cases h12 : n.1 = 12
    · refine ⟨q, q2, ?_, ?_⟩
      · rw [bneF h12, beqT h12, cond_false]; cases b <;> rfl
      · rw [bneF h12, beqT h12]; rfl
    · refine ⟨0, hpos, ?_, ?_⟩
      · rw [bneT h12, beqF h12, cond_true]; cases b <;> rfl
      · rw [bneT h12, beqF h12]; rfl

theorem ids_loop (a : Nat) (ha : a < l.length) (ids : List Int) (hi : ids.length < 1000) : ∀ (post pre : List Int) (n : Nat) (o : List Int), ids = pre ++ post → post.length < n → o.length = pre.length →
    ∃ out, spec_l16Ids.l3 k n l (a : Int) ids (pre.length : Int) o = some (((), post.all fun id => (nV k l a id).2), out) ∧ ((post.all fun id => (nV k l a id).2) = true → out = o ++ post.map fun id => (nV k l a id).1) := by
  intro post
  induction post with
  | nil =>
    intro pre n o hp hn ho
    obtain ⟨n, rfl⟩ : ∃ x, n = x + 1 := ⟨n - 1, by omega⟩
    have : ids = pre := by simpa using hp
    subst this
    simp only [spec_l16Ids.l3, decide_eq_false (show ¬ (ids.length : Int) < (ids.length : Int) by omega), cond_false]
    exact ⟨o, rfl, fun _ => by simp⟩
  | cons id post ih =>
    intro pre n o hp hn ho
    simp only [List.length_cons] at hn
    obtain ⟨n, rfl⟩ : ∃ x, n = x + 1 := ⟨n - 1, by omega⟩
    have hlen : ids.length = pre.length + (post.length + 1) := by rw [hp]; simp
    have hg : rdL ids (pre.length : Int) = some id := by rw [hp]; exact getMid pre post id
    obtain ⟨g, _⟩ := num_val k (by omega) h a ha id
    simp only [spec_l16Ids.l3, decide_eq_true (show (pre.length : Int) < (ids.length : Int) by omega), cond_true, hg, Option.bind_some, g, List.all_cons]
    cases hb : (nV k l a id).2 with
    | false => exact ⟨o, rfl, fun h => by cases h⟩
    | true =>
      obtain ⟨out, i1, i2⟩ := ih (pre ++ [id]) n (o ++ [(nV k l a id).1]) (by rw [hp]; simp) (by omega) (by simp [ho])
      rw [List.length_append, List.length_singleton] at i1
      simp only [Bool.not_true, cond_false, lim_ok (show o.length + [(nV k l a id).1].length ≤ 4294967296 by simp; omega), cond_true, w64 (x := (pre.length : Int) + 1) (by omega) (by omega), Bool.true_and]
      exact ⟨out, i1, fun hh => by rw [i2 hh]; simp⟩

theorem ids_eq (a : Nat) (ha : a < l.length) (ids : List Int) (hi : ids.length < 1000) :
    ∃ out, spec_l16Ids k l (a : Int) ids = some (((), ids.all fun id => (nV k l a id).2), out) ∧ ((ids.all fun id => (nV k l a id).2) = true → out = ids.map fun id => (nV k l a id).1) := by
  obtain ⟨out, i1, i2⟩ := ids_loop k hk h a ha ids hi ids [] k [] rfl (by omega) rfl
  exact ⟨out, i1, fun hh => by rw [i2 hh]; simp⟩

abbrev setSt (x : THead) (S : TStats × Bool) : THead := (x.1, x.2.1, x.2.2.1, x.2.2.2.1, x.2.2.2.2.1, x.2.2.2.2.2.1, x.2.2.2.2.2.2.1, x.2.2.2.2.2.2.2.1, x.2.2.2.2.2.2.2.2.1, x.2.2.2.2.2.2.2.2.2.1, S.2, S.1, x.2.2.2.2.2.2.2.2.2.2.2.2.1, ())

def stV (k : Nat) (lf : TLeaf) (l : List TNode) (a id : Int) : TStats × Bool :=
  if 0 ≤ fV k l a id then (spec_l15From k lf l (fV k l a id)).getD (zS, false) else (zS, false)

def NoSt (x : THead) : Prop := x.2.2.2.2.2.2.2.2.2.2.1 = false ∧ x.2.2.2.2.2.2.2.2.2.2.2.1 = zS

theorem statistics_eq (lf : TLeaf) (hlf : lfOk lf = true) (a : Nat) (ha : a < l.length) (id : Int) (hid : id > 0) (b : Bool) (x : THead) (hx : NoSt x) (o102 : THead) :
    impl_headReader_statistics k lf id (hdr a b) x (tB l) af = some ((), (hdr a b, setSt x (stV k lf l a id), tB l, af)) ∧ spec_l16Kind.c27 k l id (a : Int) lf x o102 = some (setSt x (stV k lf l a id), true) := by
  obtain ⟨f1, f2, f3⟩ := find_val k (by omega) h a ha id
  have hxx : setSt x (zS, false) = x := by
    obtain ⟨h1, h2⟩ := hx
    obtain ⟨x1, x2, x3, x4, x5, x6, x7, x8, x9, x10, x11, x12, x13, x14⟩ := x
    simp only at h1 h2
    subst h1; subst h2
    rfl
  unfold impl_headReader_statistics spec_l16Kind.c27 spec_l16Kind.c33 stV
  simp only [f1, f2, Option.bind_some, decide_eq_true hid, cond_true]
  rcases f3 with f3 | ⟨q, f3, q1, q2⟩
  · rw [f3]
    exact ⟨by rw [if_neg (by decide), hxx]; rfl, by rw [if_neg (by decide), hxx]; rfl⟩
  · rw [f3]
    obtain ⟨n, n1, n2, n3⟩ := kd_val k hk h (q : Int) (by omega) (by omega)
    obtain ⟨S, s1, s2, s3⟩ := stats_eq k hk h lf hlf q q2
    rw [if_pos (by omega), s2]
    simp only [decide_eq_true (show (q : Int) ≥ 0 by omega), cond_true, n1, Option.bind_some, s1, csf, Option.getD_some]
    by_cases h12 : n.1 = 12
    · rw [beqT h12]
      simp only [Bool.true_and, cond_true, s2, Option.bind_some]
      exact ⟨trivial, trivial⟩
    · rw [beqF h12]
      have : S = (zS, false) := by
        have hm : (nV k l q 3).2 = false := by
          obtain ⟨_, _, _, g4⟩ := num_val k (by omega) h q q2 3
          have := find_ns k hk h q q2 (by omega) 3
          cases hb : (nV k l q 3).2 with
          | false => rfl
          | true => have := g4 hb; omega
        unfold spec_l15From at s2
        obtain ⟨g1, _⟩ := num_val k (by omega) h q q2 3
        obtain ⟨t5, b5, _, g5, _⟩ := text_eq k (by omega) h q q2 5
        obtain ⟨t6, b6, _, g6, _⟩ := text_eq k (by omega) h q q2 6
        simp only [g1, g5, g6, Option.bind_some, hm, Bool.not_false, cond_true, Option.some.injEq] at s2
        exact s2.symm
      subst this
      simp only [Bool.and_false, cond_false]
      exact ⟨trivial, by rw [hxx]⟩

def tl (k : Nat) (l : List TNode) (a : Int) : Bool := (!(nV k l a 1).2 || decide ((nV k l a 1).1 < 0)) || decide ((nV k l a 1).1 > 2000)

abbrev setM (x : THead) (m : Int) : THead := (x.1, x.2.1, m, x.2.2.2.1, x.2.2.2.2.1, x.2.2.2.2.2.1, x.2.2.2.2.2.2.1, x.2.2.2.2.2.2.2.1, x.2.2.2.2.2.2.2.2.1, x.2.2.2.2.2.2.2.2.2.1, x.2.2.2.2.2.2.2.2.2.2.1, x.2.2.2.2.2.2.2.2.2.2.2.1, x.2.2.2.2.2.2.2.2.2.2.2.2.1, ())

theorem c23_eq (a : Nat) (ha : a < l.length) (b : Bool) (x : THead) : impl_headReader_own.c23 k (hdr a b) x (tB l) af = some ((), (hdr a (b || tl k l a), setM x (nV k l a 1).1, tB l, af)) := by
  unfold impl_headReader_own.c23 tl
  simp only [hnum k hk h a ha 1 b, Option.bind_some, cst, Bool.or_assoc]

theorem tl_false {a : Int} (hh : tl k l a = false) : (nV k l a 1).2 = true ∧ 0 ≤ (nV k l a 1).1 ∧ (nV k l a 1).1 ≤ 2000 := by
  unfold tl at hh
  simp only [Bool.or_eq_false_iff, Bool.not_eq_false', decide_eq_false_iff_not] at hh
  exact ⟨hh.1.1, by omega, by omega⟩

theorem tl_true {a : Int} (hh : tl k l a = true) : (nV k l a 1).2 = false ∨ (decide (0 ≤ (nV k l a 1).1) && decide ((nV k l a 1).1 ≤ 2000)) = false := by
  cases hb : (nV k l a 1).2 with
  | false => exact .inl rfl
  | true =>
    right
    unfold tl at hh
    rw [hb] at hh
    simp only [Bool.not_true, Bool.false_or, Bool.or_eq_true, decide_eq_true_eq] at hh
    rw [Bool.eq_false_iff]
    simp only [ne_eq, Bool.and_eq_true, decide_eq_true_eq]
    omega

def OwnRes (k : Nat) (l : List TNode) (af : List Int) (lf : TLeaf) (b : Bool) (x : THead) : Prop :=
  ∃ (a' : Int) (c : Bool) (y y' : THead), impl_headReader_own k lf (hdr 0 b) x (tB l) af = some ((), (hdr a' (b || c), y, tB l, af)) ∧ spec_l16Kind k lf l x = some (y', !c) ∧ (y.2.1 = x.2.1 ∧ y.2.2.2.2.2.2.2.2.2.2.2.2.1 = x.2.2.2.2.2.2.2.2.2.2.2.2.1) ∧ (c = false → y' = y ∧ 0 ≤ y.2.2.1 ∧ y.2.2.1 ≤ 2000)

theorem own2 (lf : TLeaf) (b : Bool) (x : THead) (hkd : x.1 = 2) : OwnRes k l af lf b x := by
  obtain ⟨q, hq, e1, e2⟩ := enter_eq k hk h 7 b
  obtain ⟨out, g1, g2⟩ := ids_eq k hk h q hq [1, 2] (by decide)
  unfold OwnRes impl_headReader_own spec_l16Kind spec_l16Kind.c7 spec_l16Kind.c27 spec_l16Kind.c33
  simp only [hkd, show ((2 : Int) == 0) = false from rfl, show ((2 : Int) == 3) = false from rfl, show ((2 : Int) == 2) = true from rfl, cond_true, cond_false, e1, e2, Option.bind_some, hany k hk h q hq, c23_eq k hk h q hq, l1In_eq, cst, show decide ((0 : Int) > 0) = false from rfl]
  have gx : ∀ c : Bool, (((b || !ptV k l 7) || !(nV k l q 2).2) || tl k l q) = (b || (!ptV k l 7 || (!(nV k l q 2).2 || tl k l q))) := fun _ => by simp only [Bool.or_assoc]
  rw [gx true]
  cases hE : ptV k l 7 with
  | false =>
    simp only [Bool.false_eq_true, if_false, show decide ((-1 : Int) < 0) = true from rfl, cond_true]
    exact ⟨_, _, _, _, rfl, rfl, ⟨rfl, rfl⟩, fun hh => by simp at hh⟩
  | true =>
    simp only [if_true, decide_eq_false (show ¬ (q : Int) < 0 by omega), cond_false, g1, Option.bind_some, List.all_cons, List.all_nil, Bool.and_true]
    cases h2 : (nV k l q 2).2 with
    | false =>
      simp only [Bool.and_false, Bool.not_false, cond_true, Option.bind_some]
      exact ⟨_, _, _, _, rfl, rfl, ⟨rfl, rfl⟩, fun hh => by simp at hh⟩
    | true =>
      cases ht : tl k l q with
      | true =>
        rcases tl_true k hk h ht with h1 | h1
        · simp only [h1, Bool.false_and, Bool.not_false, cond_true, Option.bind_some]
          exact ⟨_, _, _, _, rfl, rfl, ⟨rfl, rfl⟩, fun hh => by simp at hh⟩
        · cases h1' : (nV k l q 1).2 with
          | false =>
            simp only [Bool.false_and, Bool.not_false, cond_true, Option.bind_some]
            exact ⟨_, _, _, _, rfl, rfl, ⟨rfl, rfl⟩, fun hh => by simp at hh⟩
          | true =>
            have g2 := g2 (by simp [h1', h2])
            subst g2
            simp only [List.map_cons, List.map_nil, Bool.and_self, Bool.not_true, cond_false, rdL_zero, List.getElem?_cons_zero, Option.bind_some, h1, Bool.not_false, cond_true]
            exact ⟨_, _, _, _, rfl, rfl, ⟨rfl, rfl⟩, fun hh => by simp at hh⟩
      | false =>
        obtain ⟨h1, t0, t1⟩ := tl_false k hk h ht
        have g2 := g2 (by simp [h1, h2])
        subst g2
        have r1 : rdL [(nV k l q 1).1, (nV k l q 2).1] 1 = some (nV k l q 2).1 := rfl
        simp only [h1, List.map_cons, List.map_nil, Bool.and_self, Bool.not_true, cond_false, rdL_zero, List.getElem?_cons_zero, Option.bind_some, r1, decide_eq_true t0, decide_eq_true t1]
        exact ⟨_, _, _, _, rfl, rfl, ⟨rfl, rfl⟩, fun _ => ⟨rfl, t0, t1⟩⟩

theorem own0 (lf : TLeaf) (hlf : lfOk lf = true) (b : Bool) (x : THead) (hkd : x.1 = 0) (hx : NoSt x) : OwnRes k l af lf b x := by
  obtain ⟨q, hq, e1, e2⟩ := enter_eq k hk h 5 b
  obtain ⟨out, g1, g2⟩ := ids_eq k hk h q hq [1, 2, 3, 4] (by decide)
  have st := fun (bb : Bool) (m e : Int) => statistics_eq k hk h lf hlf q hq 5 (by decide) bb ((0, x.2.1, m, e, x.2.2.2.2.1, x.2.2.2.2.2.1, x.2.2.2.2.2.2.1, x.2.2.2.2.2.2.2.1, x.2.2.2.2.2.2.2.2.1, x.2.2.2.2.2.2.2.2.2.1, x.2.2.2.2.2.2.2.2.2.2.1, x.2.2.2.2.2.2.2.2.2.2.2.1, x.2.2.2.2.2.2.2.2.2.2.2.2.1, ()) : THead) hx zH
  by_cases hc3 : (nV k l q 3).1 = 3 ∧ (nV k l q 4).1 = 3
  · obtain ⟨h3, h4⟩ := hc3
    unfold OwnRes impl_headReader_own spec_l16Kind spec_l16Kind.c7 impl_headReader_own.c8
    simp only [hkd, show ((0 : Int) == 0) = true from rfl, show ((0 : Int) == 3) = false from rfl, show ((0 : Int) == 2) = false from rfl, cond_true, cond_false, e1, e2, Option.bind_some, hany k hk h q hq, (st _ _ _).1, c23_eq k hk h q hq, l1In_eq, cst]
    simp only [bneF h3, bneF h4, cond_false]
    rw [show ((((((b || !ptV k l 5) || !(nV k l q 2).2) || !(nV k l q 3).2) || !(nV k l q 4).2) || tl k l q)) = (b || (!ptV k l 5 || (!(nV k l q 2).2 || (!(nV k l q 3).2 || (!(nV k l q 4).2 || tl k l q))))) by simp only [Bool.or_assoc]]
    cases hE : ptV k l 5 with
    | false =>
      simp only [Bool.false_eq_true, if_false, show decide ((-1 : Int) < 0) = true from rfl, cond_true]
      exact ⟨_, _, _, _, rfl, rfl, ⟨rfl, rfl⟩, fun hh => by simp at hh⟩
    | true =>
      simp only [if_true, decide_eq_false (show ¬ (q : Int) < 0 by omega), cond_false, g1, Option.bind_some, List.all_cons, List.all_nil, Bool.and_true]
      cases n2 : (nV k l q 2).2 with
      | false =>
        simp only [Bool.and_false, Bool.false_and, Bool.not_false, cond_true, Option.bind_some]
        exact ⟨_, _, _, _, rfl, rfl, ⟨rfl, rfl⟩, fun hh => by simp at hh⟩
      | true =>
        cases n3 : (nV k l q 3).2 with
        | false =>
          simp only [Bool.and_false, Bool.false_and, Bool.not_false, cond_true, Option.bind_some]
          exact ⟨_, _, _, _, rfl, rfl, ⟨rfl, rfl⟩, fun hh => by simp at hh⟩
        | true =>
          cases n4 : (nV k l q 4).2 with
          | false =>
            simp only [Bool.and_false, Bool.false_and, Bool.not_false, cond_true, Option.bind_some]
            exact ⟨_, _, _, _, rfl, rfl, ⟨rfl, rfl⟩, fun hh => by simp at hh⟩
          | true =>
            cases n1 : (nV k l q 1).2 with
            | false =>
              have ht : tl k l q = true := by unfold tl; rw [n1]; rfl
              rw [ht]
              simp only [Bool.and_false, Bool.false_and, Bool.not_false, cond_true, Option.bind_some]
              exact ⟨_, _, _, _, rfl, rfl, ⟨rfl, rfl⟩, fun hh => by simp at hh⟩
            | true =>
              have g2 := g2 (by simp [n1, n2, n3, n4])
              subst g2
              have r1 : ∀ a b c d : Int, rdL [a, b, c, d] 1 = some b := fun _ _ _ _ => rfl
              have r2 : ∀ a b c d : Int, rdL [a, b, c, d] 2 = some c := fun _ _ _ _ => rfl
              have r3 : ∀ a b c d : Int, rdL [a, b, c, d] 3 = some d := fun _ _ _ _ => rfl
              simp only [List.map_cons, List.map_nil, Bool.and_self, Bool.not_true, cond_false, rdL_zero, List.getElem?_cons_zero, Option.bind_some, r1, r2, r3, bneF h3, bneF h4]
              cases ht : tl k l q with
              | true =>
                rcases tl_true k hk h ht with t | t
                · rw [n1] at t; cases t
                · simp only [t, Bool.not_false, cond_true]
                  exact ⟨_, _, _, _, rfl, rfl, ⟨rfl, rfl⟩, fun hh => by simp at hh⟩
              | false =>
                obtain ⟨_, t0, t1⟩ := tl_false k hk h ht
                simp only [decide_eq_true t0, decide_eq_true t1, Bool.and_self, Bool.not_true, cond_false]
                exact ⟨_, _, _, _, rfl, (st b _ _).2, ⟨rfl, rfl⟩, fun _ => ⟨rfl, t0, t1⟩⟩
  · -- a level's encoding is not right
    have hI : ∃ (a' : Int) (y : THead), impl_headReader_own k lf (hdr 0 b) x (tB l) af = some ((), (hdr a' true, y, tB l, af)) ∧ (y.2.1 = x.2.1 ∧ y.2.2.2.2.2.2.2.2.2.2.2.2.1 = x.2.2.2.2.2.2.2.2.2.2.2.2.1) := by
      unfold impl_headReader_own impl_headReader_own.c8
      simp only [hkd, show ((0 : Int) == 0) = true from rfl, cond_true, e1, Option.bind_some, hany k hk h q hq, (st _ _ _).1, c23_eq k hk h q hq]
      by_cases h3 : (nV k l q 3).1 = 3
      · have h4 : ¬ (nV k l q 4).1 = 3 := fun h4 => hc3 ⟨h3, h4⟩
        simp only [bneF h3, bneT h4, cond_false, cond_true, Bool.true_or]
        exact ⟨_, _, rfl, rfl, rfl⟩
      · simp only [bneT h3, cond_true, Bool.true_or]
        exact ⟨_, _, rfl, rfl, rfl⟩
    have hS : ∃ y', spec_l16Kind k lf l x = some (y', false) := by
      unfold spec_l16Kind spec_l16Kind.c7
      simp only [hkd, show ((0 : Int) == 0) = true from rfl, show ((0 : Int) == 3) = false from rfl, show ((0 : Int) == 2) = false from rfl, cond_true, cond_false, e2, Option.bind_some, l1In_eq, cst]
      cases ptV k l 5 with
      | false =>
        simp only [Bool.false_eq_true, if_false, show decide ((-1 : Int) < 0) = true from rfl, cond_true]
        exact ⟨_, rfl⟩
      | true =>
        simp only [if_true, decide_eq_false (show ¬ (q : Int) < 0 by omega), cond_false, g1, Option.bind_some]
        cases hal : ([1, 2, 3, 4].all fun id => (nV k l (q : Int) id).2) with
        | false =>
          simp only [Bool.not_false, cond_true, Option.bind_some]
          exact ⟨_, rfl⟩
        | true =>
          have g2 := g2 hal
          subst g2
          have r1 : ∀ a b c d : Int, rdL [a, b, c, d] 1 = some b := fun _ _ _ _ => rfl
          have r2 : ∀ a b c d : Int, rdL [a, b, c, d] 2 = some c := fun _ _ _ _ => rfl
          have r3 : ∀ a b c d : Int, rdL [a, b, c, d] 3 = some d := fun _ _ _ _ => rfl
          simp only [List.map_cons, List.map_nil, Bool.not_true, cond_false, rdL_zero, List.getElem?_cons_zero, Option.bind_some, r1, r2, r3]
          cases (decide (0 ≤ (nV k l (q : Int) 1).1) && decide ((nV k l (q : Int) 1).1 ≤ 2000)) with
          | false => exact ⟨_, rfl⟩
          | true =>
            by_cases h3 : (nV k l q 3).1 = 3
            · have h4 : ¬ (nV k l q 4).1 = 3 := fun h4 => hc3 ⟨h3, h4⟩
              simp only [bneF h3, bneT h4, cond_false, Option.bind_some, cond_true, Bool.not_true, Bool.or_true, Bool.false_or]
              exact ⟨_, rfl⟩
            · simp only [bneT h3, Option.bind_some, cond_true, Bool.not_true, cond_false, Bool.true_or]
              exact ⟨_, rfl⟩
    obtain ⟨a', y, i1, i2⟩ := hI
    obtain ⟨y', s1⟩ := hS
    exact ⟨a', true, y, y', by rw [i1, Bool.or_true], s1, i2, nofun⟩

theorem own3 (lf : TLeaf) (hlf : lfOk lf = true) (b : Bool) (x : THead) (hkd : x.1 = 3) (hx : NoSt x) : OwnRes k l af lf b x := by
  obtain ⟨q, hq, e1, e2⟩ := enter_eq k hk h 8 b
  obtain ⟨out, g1, g2⟩ := ids_eq k hk h q hq [1, 4, 2, 3, 5, 6] (by decide)
  have st := fun (bb : Bool) (m e r n d p : Int) => statistics_eq k hk h lf hlf q hq 8 (by decide) bb ((3, x.2.1, m, e, r, n, d, p, x.2.2.2.2.2.2.2.2.1, x.2.2.2.2.2.2.2.2.2.1, x.2.2.2.2.2.2.2.2.2.2.1, x.2.2.2.2.2.2.2.2.2.2.2.1, x.2.2.2.2.2.2.2.2.2.2.2.2.1, ()) : THead) hx zH
  obtain ⟨f1, f2, f3⟩ := find_val k (by omega) h q hq 7
  -- the mark that the body is not packed
  have hmk : ∃ c7 : Bool, (bif decide (fV k l q 7 < 0) then some true else (rdL l (fV k l q 7)).bind fun y => some (y.1 == 1)) = some c7 := by
    rcases f3 with f3 | ⟨p, f3, p1, p2⟩
    · rw [f3]; exact ⟨_, rfl⟩
    · rw [f3, decide_eq_false (show ¬ (p : Int) < 0 by omega), cond_false]
      obtain ⟨n, n1, _⟩ := kd_val k hk h (p : Int) (by omega) (by omega)
      rw [n1]; exact ⟨_, rfl⟩
  obtain ⟨c7, hc7⟩ := hmk
  have hI : ∃ (a' : Int), impl_headReader_own k lf (hdr 0 b) x (tB l) af = some ((), (hdr a' (b || (!ptV k l 8 || ((!(nV k l q 2).2 || decide ((nV k l q 2).1 < 0)) || ((!(nV k l q 3).2 || decide ((nV k l q 3).1 < 0)) || (!(nV k l q 4).2 || ((!(nV k l q 5).2 || decide ((nV k l q 5).1 < 0)) || ((!(nV k l q 6).2 || decide ((nV k l q 6).1 < 0)) || (c7 || tl k l q)))))))),
      setM (setSt (3, x.2.1, 0, (nV k l q 4).1, (nV k l q 3).1, (nV k l q 2).1, (nV k l q 5).1, (nV k l q 6).1, x.2.2.2.2.2.2.2.2.1, x.2.2.2.2.2.2.2.2.2.1, false, zS, x.2.2.2.2.2.2.2.2.2.2.2.2.1, ()) (stV k lf l q 8)) (nV k l q 1).1, tB l, af)) := by
    unfold impl_headReader_own impl_headReader_own.c19
    simp only [hkd, show ((3 : Int) == 0) = false from rfl, show ((3 : Int) == 3) = true from rfl, cond_true, cond_false, e1, Option.bind_some, hany k hk h q hq, hnum k hk h q hq, f2, hc7, (st _ _ _ _ _ _ _).1, c23_eq k hk h q hq]
    refine ⟨q, ?_⟩
    cases c7 with
    | true => simp only [cond_true, Bool.true_or, Bool.or_true]
    | false => simp only [cond_false, Bool.false_or, Bool.or_assoc]
  obtain ⟨a', hI⟩ := hI
  generalize hYd : setM (setSt (3, x.2.1, 0, (nV k l q 4).1, (nV k l q 3).1, (nV k l q 2).1, (nV k l q 5).1, (nV k l q 6).1, x.2.2.2.2.2.2.2.2.1, x.2.2.2.2.2.2.2.2.2.1, false, zS, x.2.2.2.2.2.2.2.2.2.2.2.2.1, ()) (stV k lf l q 8)) (nV k l q 1).1 = Y at hI
  have hy2 : Y.2.1 = x.2.1 ∧ Y.2.2.2.2.2.2.2.2.2.2.2.2.1 = x.2.2.2.2.2.2.2.2.2.2.2.2.1 := by rw [← hYd]; exact ⟨rfl, rfl⟩
  unfold OwnRes
  rw [hI]
  unfold spec_l16Kind spec_l16Kind.c7
  simp only [hkd, show ((3 : Int) == 0) = false from rfl, show ((3 : Int) == 3) = true from rfl, show ((3 : Int) == 2) = false from rfl, cond_true, cond_false, e2, Option.bind_some, l1In_eq, cst, f1]
  cases hE : ptV k l 8 with
  | false =>
    simp only [Bool.false_eq_true, if_false, show decide ((-1 : Int) < 0) = true from rfl, cond_true]
    exact ⟨a', _, Y, _, rfl, rfl, hy2, fun hh => by simp at hh⟩
  | true =>
    simp only [if_true, decide_eq_false (show ¬ (q : Int) < 0 by omega), cond_false, g1, Option.bind_some]
    cases hal : ([1, 4, 2, 3, 5, 6].all fun id => (nV k l (q : Int) id).2) with
    | false =>
      simp only [Bool.not_false, cond_true, Option.bind_some]
      refine ⟨a', true, Y, _, ?_, rfl, hy2, nofun⟩
      have : (!true || ((!(nV k l q 2).2 || decide ((nV k l q 2).1 < 0)) || ((!(nV k l q 3).2 || decide ((nV k l q 3).1 < 0)) || (!(nV k l q 4).2 || ((!(nV k l q 5).2 || decide ((nV k l q 5).1 < 0)) || ((!(nV k l q 6).2 || decide ((nV k l q 6).1 < 0)) || (c7 || tl k l q))))))) = true := by
        unfold tl
        simp only [List.all_cons, List.all_nil, Bool.and_true] at hal
        revert hal
        cases (nV k l q 1).2 <;> cases (nV k l q 2).2 <;> cases (nV k l q 3).2 <;> cases (nV k l q 4).2 <;> cases (nV k l q 5).2 <;> cases (nV k l q 6).2 <;> simp
      rw [this]
    | true =>
      have g2 := g2 hal
      subst g2
      simp only [List.all_cons, List.all_nil, Bool.and_true, Bool.and_eq_true] at hal
      obtain ⟨n1, n4, n2, n3, n5, n6⟩ := hal
      have r1 : ∀ a b c d e f : Int, rdL [a, b, c, d, e, f] 1 = some b := fun _ _ _ _ _ _ => rfl
      have r2 : ∀ a b c d e f : Int, rdL [a, b, c, d, e, f] 2 = some c := fun _ _ _ _ _ _ => rfl
      have r3 : ∀ a b c d e f : Int, rdL [a, b, c, d, e, f] 3 = some d := fun _ _ _ _ _ _ => rfl
      have r4 : ∀ a b c d e f : Int, rdL [a, b, c, d, e, f] 4 = some e := fun _ _ _ _ _ _ => rfl
      have r5 : ∀ a b c d e f : Int, rdL [a, b, c, d, e, f] 5 = some f := fun _ _ _ _ _ _ => rfl
      have hsum : ∀ y : Bool, (bif y then some true else (bif decide (fV k l q 7 < 0) then some true else (rdL l (fV k l q 7)).bind fun y => some (y.1 == 1))) = some (y || c7) := by
        intro y
        rw [hc7]
        cases y <;> rfl
      have hsum2 : ∀ y : Bool, (bif y || decide (fV k l q 7 < 0) then some true else (rdL l (fV k l q 7)).bind fun y => some (y.1 == 1)) = some (y || c7) := by
        intro y
        cases y with
        | true => rfl
        | false => rw [Bool.false_or, hc7, Bool.false_or]
      simp only [List.map_cons, List.map_nil, Bool.not_true, cond_false, rdL_zero, List.getElem?_cons_zero, Option.bind_some, r1, r2, r3, r4, r5, n1, n2, n3, n4, n5, n6, Bool.false_or, f1, hsum2]
      cases ht : tl k l q with
      | true =>
        rcases tl_true k hk h ht with t | t
        · rw [n1] at t; cases t
        · simp only [t, Bool.not_false, cond_true]
          refine ⟨a', true, Y, _, by simp only [Bool.or_true], rfl, hy2, nofun⟩
      | false =>
        obtain ⟨_, t0, t1⟩ := tl_false k hk h ht
        simp only [decide_eq_true t0, decide_eq_true t1, Bool.and_self, Bool.not_true, cond_false]
        cases hbad : (((((decide ((nV k l q 2).1 < 0) || decide ((nV k l q 3).1 < 0)) || decide ((nV k l q 5).1 < 0)) || decide ((nV k l q 6).1 < 0))) || c7) with
        | true =>
          simp only [cond_true]
          refine ⟨a', true, Y, _, ?_, rfl, hy2, nofun⟩
          have : (decide ((nV k l q 2).1 < 0) || (decide ((nV k l q 3).1 < 0) || (decide ((nV k l q 5).1 < 0) || (decide ((nV k l q 6).1 < 0) || (c7 || false))))) = true := by
            simpa only [Bool.or_assoc, Bool.or_false] using hbad
          rw [this]
        | false =>
          simp only [cond_false]
          have : (decide ((nV k l q 2).1 < 0) || (decide ((nV k l q 3).1 < 0) || (decide ((nV k l q 5).1 < 0) || (decide ((nV k l q 6).1 < 0) || (c7 || false))))) = false := by
            simpa only [Bool.or_assoc, Bool.or_false] using hbad
          refine ⟨a', false, Y, _, by rw [this], (st b _ _ _ _ _ _).2, hy2, fun _ => ⟨?_, ?_⟩⟩
          · rw [← hYd, hx.1, hx.2]
          · rw [← hYd]; exact ⟨t0, t1⟩

theorem part_val (id kind : Int) : (fV k l 0 id = -1 ∧ impl_tree_part k 0 id kind (true, tB l) af = some ((zN, false), (tB l, af))) ∨
    ∃ n : TNode, 0 ≤ fV k l 0 id ∧ rdL l (fV k l 0 id) = some n ∧ nok n = true ∧ impl_tree_part k 0 id kind (true, tB l) af = some ((if n.1 = kind then n else zN, n.1 == kind), (tB l, af)) := by
  obtain ⟨f1, f2, f3⟩ := find_val k (by omega) h 0 h.pos id
  rw [show ((0 : Nat) : Int) = 0 from rfl] at f1 f2 f3
  unfold impl_tree_part
  simp only [f2, Option.bind_some]
  rcases f3 with f3 | ⟨q, f3, q1, q2⟩
  · left
    rw [f3]
    exact ⟨rfl, rfl⟩
  · right
    obtain ⟨n, n1, _, n2⟩ := kd_val k hk h (q : Int) (by omega) (by omega)
    rw [f3]
    refine ⟨n, by omega, n1, n2, ?_⟩
    simp only [decide_eq_false (show ¬ (q : Int) < 0 by omega), cond_false, n1, Option.bind_some]
    by_cases hkd : n.1 = kind
    · rw [bneF hkd, beqT hkd, if_pos hkd]; rfl
    · rw [bneT hkd, beqF hkd, if_neg hkd]; rfl

theorem own_res (lf : TLeaf) (hlf : lfOk lf = true) (b : Bool) (x : THead) (hkd : x.1 = 0 ∨ x.1 = 2 ∨ x.1 = 3) (hx : NoSt x) : OwnRes k l af lf b x := by
  rcases hkd with hkd | hkd | hkd
  · exact own0 k hk h lf hlf b x hkd hx
  · exact own2 k hk h lf b x hkd
  · exact own3 k hk h lf hlf b x hkd hx

theorem own_bad (lf : TLeaf) (b : Bool) (x : THead) (hkd : ¬ (x.1 = 0 ∨ x.1 = 2 ∨ x.1 = 3)) : ∃ a' y, impl_headReader_own k lf (hdr 0 b) x (tB l) af = some ((), (hdr a' true, y, tB l, af)) := by
  unfold impl_headReader_own
  simp only [beqF (show ¬ x.1 = 0 from fun h => hkd (.inl h)), beqF (show ¬ x.1 = 3 from fun h => hkd (.inr (.inr h))), beqF (show ¬ x.1 = 2 from fun h => hkd (.inr (.inl h))), cond_false]
  have := c23_eq k hk h 0 h.pos true x
  rw [show ((0 : Nat) : Int) = 0 from rfl, Bool.true_or] at this
  exact ⟨_, _, this⟩

abbrev hd0 (v1 v2 : Int) (c : Bool) (w q : Int) : THead := (v1, v2, 0, 0, 0, 0, 0, 0, c, w, false, zS, q, ())

def finI (k : Nat) (l : List TNode) (af : List Int) (lf : TLeaf) (b : List Int) (q : Int) (bad : Bool) (x : THead) : Option (THead × Int) :=
  (impl_headReader_own k lf (hdr 0 bad) x (tB l) af).bind fun r1 => cond r1.2.1.2.2.1 (some (zH, 1)) (cond (decide (r1.2.2.1.2.1 > (IntKind.wrap .i64 ((List.length b : Int) - q)))) (some (zH, 2)) (some (r1.2.2.1, 0)))

theorem finI_true (lf : TLeaf) (hlf : lfOk lf = true) (b : List Int) (q v1 v2 w p : Int) (c : Bool) : finI k l af lf b q true (hd0 v1 v2 c w p) = some (zH, 1) := by
  unfold finI
  by_cases hkd : v1 = 0 ∨ v1 = 2 ∨ v1 = 3
  · obtain ⟨a', cc, y, y', e1, _⟩ := own_res k hk h lf hlf true (hd0 v1 v2 c w p) hkd ⟨rfl, rfl⟩
    rw [e1]
    rfl
  · obtain ⟨a', y, e1⟩ := own_bad k hk h lf true (hd0 v1 v2 c w p) hkd
    rw [e1]
    rfl

theorem finI_kind (lf : TLeaf) (b : List Int) (q v1 v2 w p : Int) (c bad : Bool) (hkd : ¬ (v1 = 0 ∨ v1 = 2 ∨ v1 = 3)) : finI k l af lf b q bad (hd0 v1 v2 c w p) = some (zH, 1) := by
  unfold finI
  obtain ⟨a', y, e1⟩ := own_bad k hk h lf bad (hd0 v1 v2 c w p) hkd
  rw [e1]
  rfl

theorem finI_good (lf : TLeaf) (hlf : lfOk lf = true) (b : List Int) (q v1 v2 w p : Int) (c : Bool) (hkd : v1 = 0 ∨ v1 = 2 ∨ v1 = 3) :
    ∃ r, finI k l af lf b q false (hd0 v1 v2 c w p) = some r ∧ spec_HeadRead.c17 k b q lf zH zH l (hd0 v1 v2 c w p) = some r ∧ (r.2 = 0 → (r.1.2.1 = v2 ∧ r.1.2.2.2.2.2.2.2.2.2.2.2.2.1 = p) ∧ (0 ≤ r.1.2.2.1 ∧ r.1.2.2.1 ≤ 2000) ∧ r.1.2.1 ≤ IntKind.wrap .i64 ((b.length : Int) - q)) ∧ (r.2 = 0 ∨ r.2 = 1 ∨ r.2 = 2) := by
  unfold finI spec_HeadRead.c17
  obtain ⟨a', cc, y, y', e1, e2, e3, e4⟩ := own_res k hk h lf hlf false (hd0 v1 v2 c w p) hkd ⟨rfl, rfl⟩
  rw [e1, e2]
  cases cc with
  | true => exact ⟨_, rfl, rfl, (fun hh => by cases hh), .inr (.inl rfl)⟩
  | false =>
    obtain ⟨e4, e5⟩ := e4 rfl
    subst e4
    simp only [Option.bind_some, Bool.or_self, cond_false, Bool.not_false, Bool.not_true]
    by_cases hs : y'.2.1 > IntKind.wrap .i64 ((b.length : Int) - q)
    · rw [decide_eq_true hs]
      exact ⟨_, rfl, rfl, (fun hh => by cases hh), .inr (.inr rfl)⟩
    · rw [decide_eq_false hs]
      exact ⟨_, rfl, rfl, fun _ => ⟨e3, e5, Int.not_lt.1 hs⟩, .inl rfl⟩

theorem crc_and {x : Int} (h0 : -2147483648 ≤ x) (h1 : x ≤ 2147483647) : bits .and .i64 x 4294967295 = if x < 0 then IntKind.wrap .i64 (x + 4294967296) else x := by
  have := and_mask_i64 x 32 (by decide)
  have e : (2 : Int) ^ 32 - 1 = 4294967295 := by decide
  rw [e] at this
  rw [this]
  have e2 : (2 : Int) ^ 32 = 4294967296 := by decide
  rw [e2]
  split
  · rw [w64 (by omega) (by omega)]; omega
  · omega

theorem head_eq (lf : TLeaf) (hlf : lfOk lf = true) (b : List Int) (q : Int) :
    ∃ r, ((impl_headReader_any k 1 (hdr 0 false) (true, tB l) af).bind fun r15 => (impl_headReader_num k 2 0 r15.2.1 r15.2.2.1 r15.2.2.2).bind fun r16 =>
      impl_HeadRead.d9 k b q lf zH r16.2.2.1 r16.2.1 (r15.1, r16.1, 0, 0, 0, 0, 0, 0, false, 0, false, zS, q, ()) r16.2.2.2) = some r ∧
    ((spec_l16Ids k l 0 [1, 2, 3]).bind fun r5 =>
     (cond (!r5.1.2) (some (true)) ((rdL r5.2 0).bind fun y6 =>
         (cond (y6 != 0) ((rdL r5.2 0).bind fun y7 => some (y7 != 2)) (some (false))).bind fun b8 =>
         (cond b8 ((rdL r5.2 0).bind fun y9 => some (y9 != 3)) (some (false))).bind fun b10 => some (b10))).bind fun b11 =>
     (cond b11 (some (true)) ((rdL r5.2 1).bind fun y12 => some (decide (y12 < 0)))).bind fun b13 =>
     (cond b13 (some (true)) ((rdL r5.2 1).bind fun y14 => (rdL r5.2 2).bind fun y15 => some (y14 != y15))).bind fun b16 =>
     cond b16
       (some (zH, 1))
       ((rdL r5.2 0).bind fun y17 =>
        (rdL r5.2 1).bind fun y18 =>
        (spec_l4Find k l 0 4).bind fun r19 =>
        cond (decide (r19 ≥ 0))
          ((rdL l r19).bind fun y20 =>
           cond (y20.1 != 5)
             (some (zH, 1))
             ((rdL l r19).bind fun y21 =>
              cond (decide (y21.2.2.1 < 0))
                (spec_HeadRead.c17 k b q lf zH zH l (y17, y18, 0, 0, 0, 0, 0, 0, true, IntKind.wrap .i64 (y21.2.2.1 + 4294967296), false, zS, q, ()))
                (spec_HeadRead.c17 k b q lf zH zH l (y17, y18, 0, 0, 0, 0, 0, 0, true, y21.2.2.1, false, zS, q, ()))))
          (spec_HeadRead.c17 k b q lf zH zH l (y17, y18, 0, 0, 0, 0, 0, 0, false, 0, false, zS, q, ())))) = some r ∧
    (r.2 = 0 → (0 ≤ r.1.2.1 ∧ r.1.2.2.2.2.2.2.2.2.2.2.2.2.1 = q) ∧ (0 ≤ r.1.2.2.1 ∧ r.1.2.2.1 ≤ 2000) ∧ r.1.2.1 ≤ IntKind.wrap .i64 ((b.length : Int) - q)) ∧ (r.2 = 0 ∨ r.2 = 1 ∨ r.2 = 2) := by
  have hpos := h.pos
  have z : ((0 : Nat) : Int) = 0 := rfl
  have a1 := hany k hk h 0 hpos 1 false
  have a2 := fun bb => hnum k hk h 0 hpos 2 bb
  have a3 := fun bb => hany k hk h 0 hpos 3 bb
  obtain ⟨f1, f2, f3⟩ := find_val k (by omega) h 0 hpos 4
  obtain ⟨out, g1, g2⟩ := ids_eq k hk h 0 hpos [1, 2, 3] (by decide)
  rw [z] at a1 f1 f2 f3 g1 g2
  simp only [z] at a2 a3
  -- the check sum
  have hcrc : ∃ (cb ch : Bool) (cw : Int), (∀ bb v1 v2, impl_HeadRead.c11 k b q lf zH (tB l) (hdr 0 bb) (v1, v2, 0, 0, 0, 0, 0, 0, false, 0, false, zS, q, ()) af = finI k l af lf b q (bb || cb) (hd0 v1 v2 ch cw q)) ∧
      ∀ v1 v2, ((spec_l4Find k l 0 4).bind fun r19 => cond (decide (r19 ≥ 0)) ((rdL l r19).bind fun y20 => cond (y20.1 != 5) (some (zH, 1)) ((rdL l r19).bind fun y21 =>
              cond (decide (y21.2.2.1 < 0))
                (spec_HeadRead.c17 k b q lf zH zH l (v1, v2, 0, 0, 0, 0, 0, 0, true, IntKind.wrap .i64 (y21.2.2.1 + 4294967296), false, zS, q, ()))
                (spec_HeadRead.c17 k b q lf zH zH l (v1, v2, 0, 0, 0, 0, 0, 0, true, y21.2.2.1, false, zS, q, ()))))
          (spec_HeadRead.c17 k b q lf zH zH l (v1, v2, 0, 0, 0, 0, 0, 0, false, 0, false, zS, q, ()))) = cond cb (some (zH, 1)) (spec_HeadRead.c17 k b q lf zH zH l (hd0 v1 v2 ch cw q)) := by
    unfold impl_HeadRead.c11 impl_HeadRead.c14 impl_HeadRead.d14 finI
    simp only [f1, f2, Option.bind_some]
    rcases part_val k hk h 4 5 with ⟨p1, p2⟩ | ⟨n, p1, p2, p3, p4⟩
    · simp only [p1, p2, f2, Option.bind_some, show decide ((-1 : Int) ≥ 0) = false from rfl, cond_false]
      refine ⟨false, false, 0, fun bb v1 v2 => ?_, fun v1 v2 => rfl⟩
      rw [Bool.or_false]
      rfl
    · simp only [p2, p4, f2, Option.bind_some, decide_eq_true (show fV k l 0 4 ≥ 0 from p1), cond_true]
      by_cases h5 : n.1 = 5
      · have hnum : -2147483648 ≤ n.2.2.1 ∧ n.2.2.1 ≤ 2147483647 := by
          unfold nok at p3
          rw [if_pos h5] at p3
          simp only [Bool.and_eq_true, decide_eq_true_eq] at p3
          exact p3.1.1
        rw [beqT h5, bneF h5, if_pos h5]
        refine ⟨false, true, bits .and .i64 n.2.2.1 4294967295, fun bb v1 v2 => ?_, fun v1 v2 => ?_⟩
        · simp only [Bool.not_true, Option.bind_some, cond_false, Bool.or_false]
        · simp only [cond_false]
          rw [crc_and k hk h hnum.1 hnum.2]
          by_cases hneg : n.2.2.1 < 0
          · rw [decide_eq_true hneg, if_pos hneg, cond_true]
          · rw [decide_eq_false hneg, if_neg hneg, cond_false]
      · rw [beqF h5, bneT h5, if_neg h5]
        refine ⟨true, false, bits .and .i64 0 4294967295, fun bb v1 v2 => ?_, fun v1 v2 => rfl⟩
        simp only [Bool.not_false, Option.bind_some, cond_true, Bool.or_true]
  obtain ⟨cb, ch, cw, c1, c2⟩ := hcrc
  simp only [a1, a2, Option.bind_some, impl_HeadRead.d9, a3, c1, g1, c2]
  have hfl : ∀ (B C : Bool), (cond B (finI k l af lf b q (true || cb) (hd0 (nV k l 0 1).1 (nV k l 0 2).1 ch cw q)) (finI k l af lf b q (C || cb) (hd0 (nV k l 0 1).1 (nV k l 0 2).1 ch cw q))) = finI k l af lf b q ((C || B) || cb) (hd0 (nV k l 0 1).1 (nV k l 0 2).1 ch cw q) := by
    intro B C
    cases B <;> cases C <;> rfl
  rw [hfl]
  by_cases good : ((nV k l 0 1).2 = true ∧ (nV k l 0 2).2 = true ∧ (nV k l 0 3).2 = true) ∧ ((nV k l 0 1).1 = 0 ∨ (nV k l 0 1).1 = 2 ∨ (nV k l 0 1).1 = 3) ∧ 0 ≤ (nV k l 0 2).1 ∧ (nV k l 0 2).1 = (nV k l 0 3).1
  · obtain ⟨⟨n1, n2, n3⟩, hkd, hs0, hs1⟩ := good
    have hal : ([1, 2, 3].all fun id => (nV k l 0 id).2) = true := by simp [n1, n2, n3]
    have g2 := g2 hal
    subst g2
    rw [hal]
    have r1 : ∀ a b c : Int, rdL [a, b, c] 1 = some b := fun _ _ _ => rfl
    have r2 : ∀ a b c : Int, rdL [a, b, c] 2 = some c := fun _ _ _ => rfl
    have hk3 : ((bif (nV k l 0 1).1 != 0 then (some ((nV k l 0 1).1 != 2) : Option Bool) else some false).bind fun b8 => (bif b8 then (some ((nV k l 0 1).1 != 3) : Option Bool) else some false).bind fun b10 => some b10) = some false := by
      rcases hkd with e | e | e <;> rw [e] <;> rfl
    simp only [List.map_cons, List.map_nil, Bool.not_true, cond_false, rdL_zero, List.getElem?_cons_zero, Option.bind_some, r1, r2, hk3, n1, n2, n3, decide_eq_false (show ¬ (nV k l 0 2).1 < 0 by omega), bneF hs1, bneF hs1.symm, Bool.or_self, Bool.false_or]
    cases cb with
    | true => exact ⟨_, finI_true k hk h lf hlf b q _ _ _ _ _, rfl, (fun hh => by cases hh), .inr (.inl rfl)⟩
    | false =>
      obtain ⟨r, e1, e2, e3, e9⟩ := finI_good k hk h lf hlf b q (nV k l 0 1).1 (nV k l 0 2).1 cw q ch hkd
      exact ⟨r, e1, e2, (fun hh => by obtain ⟨⟨x1, x2⟩, x3, x4⟩ := e3 hh; exact ⟨⟨by omega, x2⟩, x3, x4⟩), e9⟩
  · refine ⟨(zH, 1), ?_, ?_, (fun hh => by cases hh), .inr (.inl rfl)⟩
    · by_cases hkd : (nV k l 0 1).1 = 0 ∨ (nV k l 0 1).1 = 2 ∨ (nV k l 0 1).1 = 3
      · have : ((((((false || !(nV k l 0 1).2) || (!(nV k l 0 2).2 || decide ((nV k l 0 2).1 < 0))) || !(nV k l 0 3).2) || ((nV k l 0 3).1 != (nV k l 0 2).1)) || cb)) = true := by
          cases n1 : (nV k l 0 1).2 with
          | false => simp
          | true =>
            cases n2 : (nV k l 0 2).2 with
            | false => simp
            | true =>
              cases n3 : (nV k l 0 3).2 with
              | false => simp
              | true =>
                by_cases hs : (nV k l 0 2).1 < 0
                · rw [decide_eq_true hs]; simp
                · have : ¬ (nV k l 0 3).1 = (nV k l 0 2).1 := fun e => good ⟨⟨n1, n2, n3⟩, hkd, by omega, e.symm⟩
                  rw [bneT this]; simp
        rw [this]
        exact finI_true k hk h lf hlf b q _ _ _ _ _
      · exact finI_kind k hk h lf b q _ _ _ _ _ _ hkd
    · cases hal : ([1, 2, 3].all fun id => (nV k l 0 id).2) with
      | false => rfl
      | true =>
        have g2 := g2 hal
        subst g2
        simp only [List.all_cons, List.all_nil, Bool.and_true, Bool.and_eq_true] at hal
        obtain ⟨n1, n2, n3⟩ := hal
        have r1 : ∀ a b c : Int, rdL [a, b, c] 1 = some b := fun _ _ _ => rfl
        have r2 : ∀ a b c : Int, rdL [a, b, c] 2 = some c := fun _ _ _ => rfl
        simp only [List.map_cons, List.map_nil, Bool.not_true, cond_false, rdL_zero, List.getElem?_cons_zero, Option.bind_some, r1, r2]
        by_cases hkd : (nV k l 0 1).1 = 0 ∨ (nV k l 0 1).1 = 2 ∨ (nV k l 0 1).1 = 3
        · have hk3 : ((bif (nV k l 0 1).1 != 0 then (some ((nV k l 0 1).1 != 2) : Option Bool) else some false).bind fun b8 => (bif b8 then (some ((nV k l 0 1).1 != 3) : Option Bool) else some false).bind fun b10 => some b10) = some false := by
            rcases hkd with e | e | e <;> rw [e] <;> rfl
          rw [hk3]
          simp only [Option.bind_some, cond_false]
          by_cases hs : (nV k l 0 2).1 < 0
          · rw [decide_eq_true hs]; rfl
          · have : ¬ (nV k l 0 2).1 = (nV k l 0 3).1 := fun e => good ⟨⟨n1, n2, n3⟩, hkd, by omega, e⟩
            rw [decide_eq_false hs, bneT this]; rfl
        · have hk3 : ((bif (nV k l 0 1).1 != 0 then (some ((nV k l 0 1).1 != 2) : Option Bool) else some false).bind fun b8 => (bif b8 then (some ((nV k l 0 1).1 != 3) : Option Bool) else some false).bind fun b10 => some b10) = some true := by
            rw [bneT (fun e => hkd (.inl e)), bneT (fun e => hkd (.inr (.inl e))), bneT (fun e => hkd (.inr (.inr e)))]
            rfl
          rw [hk3]
          rfl
end

theorem headRead_eq (k : Nat) (hk : 2000000 ≤ k) (lf : TLeaf) (b : List Int) (hl : b.length < 4611686018427387904) (hb : Byt b) (at_ : Int) :
    ∃ r, impl_HeadRead k lf b at_ = some r ∧ spec_HeadRead k lf b at_ = some r ∧
      (r.2 = 0 → lfOk lf = true ∧ 0 ≤ r.1.2.1 ∧ 0 ≤ r.1.2.2.2.2.2.2.2.2.2.2.2.2.1 ∧ r.1.2.2.2.2.2.2.2.2.2.2.2.2.1 + r.1.2.1 ≤ (b.length : Int) ∧ 0 ≤ r.1.2.2.1 ∧ r.1.2.2.1 ≤ 2000 ∧ 0 ≤ at_ ∧ at_ < r.1.2.2.2.2.2.2.2.2.2.2.2.2.1) ∧ (r.2 = 0 ∨ r.2 = 1 ∨ r.2 = 2) := by
  have hr := treeRead_eq k (by omega) b hl hb at_
  unfold impl_HeadRead spec_HeadRead
  cases ht : trd b at_ with
  | bad c =>
    rw [ht] at hr
    obtain ⟨hc, e1, e2⟩ := hr
    have hto : ∃ x, impl_treeOf k [] = some x := by
      obtain ⟨_, _, h2⟩ := treeOf_eq k (by omega) [] (fun n hn => by cases hn) (by simp)
      rcases h2 with ⟨_, x, hx⟩ | ⟨_, _, h1, _⟩
      · exact ⟨_, hx⟩
      · simp at h1
    obtain ⟨x, hx⟩ := hto
    simp only [e1, e2, hx, Option.bind_some, (lfOk_eq k lf).1, (lfOk_eq k lf).2, cst, bneT hc, Bool.or_true, Bool.true_or, cond_true]
    exact ⟨(zH, 1), rfl, rfl, (fun hh => by cases hh), .inr (.inl rfl)⟩
  | ok q Y =>
    rw [ht] at hr
    obtain ⟨e1, e2⟩ := hr
    have g := trd_ok hl hb ht
    have hok := read_tree k (by omega) g
    obtain ⟨bb, h1, h2⟩ := treeOf_eq k (by omega) Y g.wf (by have := g.len; omega)
    rw [hok] at h1
    rcases h2 with ⟨rfl, _⟩ | ⟨_, hl1, hl2, af, hx, hSb, _⟩
    · cases h1
    have h : TreeFacts Y af := ⟨hl1, hl2, hSb, g.wf⟩
    simp only [e1, e2, hx, Option.bind_some, (lfOk_eq k lf).1, (lfOk_eq k lf).2, cst, bneF rfl, Bool.or_false, Bool.not_true]
    cases hlf : lfOk lf with
    | false =>
      simp only [Bool.not_false, cond_true]
      exact ⟨(zH, 1), rfl, rfl, (fun hh => by cases hh), .inr (.inl rfl)⟩
    | true =>
      simp only [Bool.not_true, cond_false]
      obtain ⟨r, r1, r2, r3, r4⟩ := head_eq k hk h lf hlf b (q : Int)
      refine ⟨r, r1, r2, fun hh => ?_, r4⟩
      obtain ⟨⟨x1, x2⟩, x3, x4⟩ := r3 hh
      have := g.rng
      rw [w64 (by omega) (by omega)] at x4
      exact ⟨trivial, x1, by omega, by omega, x3.1, x3.2, by omega, by omega⟩
end Go.Law
end

section
/- Pages of dictionaries, by both. -/
set_option linter.unusedVariables false
set_option linter.unusedSimpArgs false
namespace Go.Law
open Go.Am Go.Fn

abbrev bodyOf' (h : THead) : Int := h.2.2.2.2.2.2.2.2.2.2.2.2.1

theorem checked_eq (k : Nat) (hk : 2000000 ≤ k) (lf : TLeaf) (b : List Int) (hl : b.length ≤ 1048576) (hb : Byt b) (at_ : Int) :
    ∃ (h : THead) (c : Int), impl_HeadRead k lf b at_ = some (h, c) ∧ spec_HeadRead k lf b at_ = some (h, c) ∧
      ((c ≠ 0 ∧ c ≠ 3 ∧ impl_checked k lf b at_ = some (h, [], c)) ∨
       (c = 0 ∧ lfOk lf = true ∧ 0 ≤ bodyOf' h ∧ 0 ≤ h.2.1 ∧ bodyOf' h + h.2.1 ≤ (b.length : Int) ∧ 0 ≤ h.2.2.1 ∧ h.2.2.1 ≤ 2000 ∧
        ∃ r : Int, spec_CrcOf k (cutL b (bodyOf' h) (bodyOf' h + h.2.1)) = some r ∧
          impl_checked k lf b at_ = some (if h.2.2.2.2.2.2.2.2.1 = true ∧ r ≠ h.2.2.2.2.2.2.2.2.2.1 then (h, [], 3) else (h, cutL b (bodyOf' h) (bodyOf' h + h.2.1), 0)))) := by
  obtain ⟨⟨h, c⟩, e1, e2, e3, e4⟩ := headRead_eq k hk lf b (by omega) hb at_
  refine ⟨h, c, e1, e2, ?_⟩
  by_cases hc : c = 0
  · subst hc
    obtain ⟨f1, f2, f3, f4, f5, f6, _⟩ := e3 rfl
    right
    have f2 : 0 ≤ h.2.1 := f2
    have f3 : 0 ≤ bodyOf' h := f3
    have f4 : bodyOf' h + h.2.1 ≤ (b.length : Int) := f4
    have ew : IntKind.wrap .i64 (bodyOf' h + h.2.1) = bodyOf' h + h.2.1 := w64 (by omega) (by omega)
    have hcb : Byt (cutL b (bodyOf' h) (bodyOf' h + h.2.1)) := fun x hx => by
      unfold cutL at hx
      exact hb x (List.mem_of_mem_take (List.mem_of_mem_drop hx))
    have hcl : (cutL b (bodyOf' h) (bodyOf' h + h.2.1)).length ≤ 1048576 := by
      unfold cutL
      rw [List.length_drop, List.length_take]
      omega
    obtain ⟨r, r1, r2⟩ := crcOf_eq k (by omega) _ (show (cutL b (bodyOf' h) (bodyOf' h + h.2.1)).length < 1000000000 by omega) (by omega) hcb
    refine ⟨rfl, f1, f3, f2, f4, f5, f6, r, r2, ?_⟩
    unfold impl_checked impl_checked.d5
    simp only [e1, Option.bind_some, bneF rfl, cond_false]
    have ew : IntKind.wrap .i64 (h.2.2.2.2.2.2.2.2.2.2.2.2.1 + h.2.1) = h.2.2.2.2.2.2.2.2.2.2.2.2.1 + h.2.1 := ew
    have r1 : impl_CrcOf k (cutL b h.2.2.2.2.2.2.2.2.2.2.2.2.1 (h.2.2.2.2.2.2.2.2.2.2.2.2.1 + h.2.1)) = some r := r1
    rw [ew, inSl_ok f3 (show bodyOf' h ≤ bodyOf' h + h.2.1 by omega) f4, cond_true, r1]
    cases hs : h.2.2.2.2.2.2.2.2.1 with
    | false => rw [if_neg (fun hh => by cases hh.1)]; rfl
    | true =>
      simp only [Option.bind_some, cond_true]
      by_cases hr : h.2.2.2.2.2.2.2.2.2.1 = r
      · rw [bneF hr, if_neg (fun hh => hh.2 hr.symm)]; rfl
      · rw [bneT hr, if_pos ⟨trivial, fun e => hr e.symm⟩]; rfl
  · left
    have e4 : c = 0 ∨ c = 1 ∨ c = 2 := e4
    have h3 : c ≠ 3 := by omega
    refine ⟨hc, h3, ?_⟩
    unfold impl_checked
    simp only [e1, Option.bind_some, bneT hc, cond_true]

theorem dictRead_eq (k : Nat) (hk : 2000000 ≤ k) (t : Int) (b : List Int) (hl : b.length ≤ 1048576) (hb : Byt b) (at_ : Int) :
    ∃ r, impl_DictRead k t b at_ = some r ∧ spec_DictRead k t b at_ = some r ∧ r.2.length ≤ 2000 ∧ (r.1.2.2 = 0 → tyOk t = true ∧ ∀ v, v ∈ r.2 → vok t v = true ∧ I64 v.1) := by
  obtain ⟨h, c, e1, e2, e3⟩ := checked_eq k hk (t, 0, 0, ()) b hl hb at_
  unfold impl_DictRead spec_DictRead
  rcases e3 with ⟨c0, c3, e3⟩ | ⟨rfl, f1, f2, f3, f4, f5, f6, r, r1, e3⟩
  · simp only [e2, e3, Option.bind_some, bneT c0, beqF c0, beqF c3, cond_true, cond_false]
    exact ⟨(((), 0, c), []), rfl, rfl, by simp, fun hh => (c0 hh).elim⟩
  · have ew : IntKind.wrap .i64 (h.2.2.2.2.2.2.2.2.2.2.2.2.1 + h.2.1) = h.2.2.2.2.2.2.2.2.2.2.2.2.1 + h.2.1 := w64 (show _ ≤ bodyOf' h + h.2.1 by omega) (show bodyOf' h + h.2.1 < _ by omega)
    have hsl : inSl h.2.2.2.2.2.2.2.2.2.2.2.2.1 (h.2.2.2.2.2.2.2.2.2.2.2.2.1 + h.2.1) b.length = true := inSl_ok f2 (show bodyOf' h ≤ bodyOf' h + h.2.1 by omega) f4
    simp only [e2, e3, Option.bind_some, bneF rfl, cond_false, csf]
    by_cases hkd : (h.1 != 2 || (h.2.2.2.1 != 0 && h.2.2.2.1 != 2)) = true
    · refine ⟨(((), 0, 1), []), ?_, ?_, by simp, fun hh => by cases hh⟩
      · by_cases hs : h.2.2.2.2.2.2.2.2.1 = true ∧ r ≠ h.2.2.2.2.2.2.2.2.2.1
        · rw [if_pos hs]
          simp only [show ((3 : Int) == 0) = false from rfl, show ((3 : Int) == 3) = true from rfl, cond_false, Option.bind_some, cond_true, cst, hkd, Bool.or_self, Bool.or_false, Bool.false_or, Bool.or_true, Bool.true_or, csf, Bool.true_and, Bool.false_and]
        · rw [if_neg hs]
          simp only [show ((0 : Int) == 0) = true from rfl, Option.bind_some, cond_true, cst, hkd, Bool.or_self, Bool.or_false, Bool.false_or, Bool.or_true, Bool.true_or, csf, Bool.true_and]
      · simp only [Option.bind_some, cst, hkd, cond_true]
    · have hkd := Bool.eq_false_iff.2 hkd
      obtain ⟨nx, ok, l, p1, p2, pr⟩ := plainRead_eq k (by omega) t (cutL b (bodyOf' h) (bodyOf' h + h.2.1)) (by unfold cutL; rw [List.length_drop, List.length_take]; omega) (fun x hx => by
        unfold cutL at hx
        exact hb x (List.mem_of_mem_take (List.mem_of_mem_drop hx))) 0 h.2.2.1 ⟨by decide, by decide⟩
      have r1 : spec_CrcOf k (cutL b h.2.2.2.2.2.2.2.2.2.2.2.2.1 (h.2.2.2.2.2.2.2.2.2.2.2.2.1 + h.2.1)) = some r := r1
      have p2 : spec_PlainRead k t (cutL b h.2.2.2.2.2.2.2.2.2.2.2.2.1 (h.2.2.2.2.2.2.2.2.2.2.2.2.1 + h.2.1)) 0 h.2.2.1 = some (((), nx, ok), l) := p2
      unfold spec_DictRead.d8
      simp only [Option.bind_some, cst, hkd, cond_false, ew, hsl, cond_true, r1, p2]
      by_cases hs : h.2.2.2.2.2.2.2.2.1 = true ∧ r ≠ h.2.2.2.2.2.2.2.2.2.1
      · obtain ⟨hs1, hs2⟩ := hs
        rw [if_pos ⟨hs1, hs2⟩, hs1, bneT hs2]
        simp only [show ((3 : Int) == 0) = false from rfl, show ((3 : Int) == 3) = true from rfl, show ((3 : Int) != 0) = true from rfl, cond_false, Option.bind_some, cond_true, hkd, cst, Bool.or_self, Bool.or_false, Bool.false_or, Bool.or_true, Bool.true_or, csf, Bool.true_and, Bool.false_and]
        exact ⟨(((), 0, 3), []), rfl, rfl, by simp, fun hh => by cases hh⟩
      · rw [if_neg hs]
        have hin : (bif h.2.2.2.2.2.2.2.2.1 then
            (bif r != h.2.2.2.2.2.2.2.2.2.1 then some ((((), 0, 3), []) : (Unit × Int × Int) × List TVal) else (bif !ok || nx != ((cutL b h.2.2.2.2.2.2.2.2.2.2.2.2.1 (h.2.2.2.2.2.2.2.2.2.2.2.2.1 + h.2.1)).length : Int) then some (((), 0, 5), []) else some (((), h.2.2.2.2.2.2.2.2.2.2.2.2.1 + h.2.1, 0), l)))
            else (bif !ok || nx != ((cutL b h.2.2.2.2.2.2.2.2.2.2.2.2.1 (h.2.2.2.2.2.2.2.2.2.2.2.2.1 + h.2.1)).length : Int) then some (((), 0, 5), []) else some (((), h.2.2.2.2.2.2.2.2.2.2.2.2.1 + h.2.1, 0), l))) =
            (bif !ok || nx != ((cutL b h.2.2.2.2.2.2.2.2.2.2.2.2.1 (h.2.2.2.2.2.2.2.2.2.2.2.2.1 + h.2.1)).length : Int) then some (((), 0, 5), []) else some (((), h.2.2.2.2.2.2.2.2.2.2.2.2.1 + h.2.1, 0), l)) := by
          cases hs1 : h.2.2.2.2.2.2.2.2.1 with
          | false => rfl
          | true =>
            have : r = h.2.2.2.2.2.2.2.2.2.1 := Classical.byContradiction fun hh => hs ⟨hs1, hh⟩
            rw [bneF this]; rfl
        have p1 : impl_PlainRead k t (cutL b h.2.2.2.2.2.2.2.2.2.2.2.2.1 (h.2.2.2.2.2.2.2.2.2.2.2.2.1 + h.2.1)) 0 h.2.2.1 = some (((), nx, ok), l) := p1
        rw [hin]
        simp only [show ((0 : Int) == 0) = true from rfl, show ((0 : Int) != 0) = false from rfl, cond_false, Option.bind_some, cond_true, cst, hkd, p1, ew, Bool.or_self, Bool.or_false, Bool.true_or, csf, Bool.true_and]
        cases ok with
        | false =>
          simp only [Bool.not_false, Bool.true_or, cond_true]
          exact ⟨(((), 0, 5), []), rfl, rfl, by simp, fun hh => by cases hh⟩
        | true =>
          have hlen := pr.len rfl
          have hm := pr.m0 rfl
          cases (!true || nx != ((cutL b h.2.2.2.2.2.2.2.2.2.2.2.2.1 (h.2.2.2.2.2.2.2.2.2.2.2.2.1 + h.2.1)).length : Int)) with
          | true => exact ⟨(((), 0, 5), []), rfl, rfl, by simp, fun hh => by cases hh⟩
          | false => exact ⟨_, rfl, rfl, (by show l.length ≤ 2000; omega), fun _ => ⟨pr.ty rfl, pr.vk rfl⟩⟩
end Go.Law
end

section
/- The pages of a chunk, by both. -/
set_option linter.unusedVariables false
set_option linter.unusedSimpArgs false
namespace Go.Law
open Go.Am Go.Fn

theorem pages_loop (k : Nat) (hk : 2000000 ≤ k) (lf : TLeaf) (ck : TChunk) (b : List Int) (hl : b.length ≤ 1048576) (hb : Byt b) (dict : List TVal) : ∀ (f n : Nat) (at_ many : Int) (o : List Int), ((b.length : Int) - at_).toNat ≤ f → f < n → 0 ≤ at_ → 0 ≤ many → many + 2000 * f ≤ 1000000000000 → o.length + f ≤ 1048576 →
    ∃ (c : Int) (P : List Int) (V : List TVal), impl_ChunkPages.l11 k n b many at_ lf ck dict o = some (((), (), c), (P, V)) ∧ spec_ChunkPages.l13 k n b at_ many lf ck [] [] dict o = some (((), (), c), (P, V)) ∧
      P.length ≤ 1048576 ∧ (V = dict ∨ V = []) := by
  intro f
  induction f with
  | zero =>
    intro n at_ many o hf hn h0 hm hb2 hol
    obtain ⟨n, rfl⟩ : ∃ x, n = x + 1 := ⟨n - 1, by omega⟩
    obtain ⟨⟨h, c⟩, e1, e2, e3, e4⟩ := headRead_eq k hk lf b (by omega) hb at_
    simp only [impl_ChunkPages.l11, spec_ChunkPages.l13]
    by_cases hmore : many < ck.2.2.2.1
    · have hc : ¬ c = 0 := by
        intro hc
        obtain ⟨_, _, _, f4, _, _, _, f8⟩ := e3 hc
        have f4 : bodyOf' h + h.2.1 ≤ (b.length : Int) := f4
        have f8 : at_ < bodyOf' h := f8
        have f2 : 0 ≤ h.2.1 := by obtain ⟨_, f2, _⟩ := e3 hc; exact f2
        omega
      simp only [decide_eq_true hmore, cond_true, e1, e2, Option.bind_some, bneT hc]
      exact ⟨_, _, _, rfl, rfl, by simp, .inr rfl⟩
    · simp only [decide_eq_false hmore, cond_false]
      exact ⟨_, _, _, rfl, rfl, by omega, .inl rfl⟩
  | succ f ih =>
    intro n at_ many o hf hn h0 hm hb2 hol
    obtain ⟨n, rfl⟩ : ∃ x, n = x + 1 := ⟨n - 1, by omega⟩
    obtain ⟨⟨h, c⟩, e1, e2, e3, e4⟩ := headRead_eq k hk lf b (by omega) hb at_
    simp only [impl_ChunkPages.l11, spec_ChunkPages.l13]
    by_cases hmore : many < ck.2.2.2.1
    · simp only [decide_eq_true hmore, cond_true, e1, e2, Option.bind_some]
      by_cases hc : c = 0
      · subst hc
        obtain ⟨_, f2, f3, f4, f5, f6, _, f8⟩ := e3 rfl
        have f2 : 0 ≤ h.2.1 := f2
        have f4 : bodyOf' h + h.2.1 ≤ (b.length : Int) := f4
        have f8 : at_ < bodyOf' h := f8
        have f5 : 0 ≤ h.2.2.1 := f5
        have f6 : h.2.2.1 ≤ 2000 := f6
        simp only [bneF rfl, cond_false, cst, Option.bind_some]
        cases ((h.1 == 2 || h.2.2.1 == 0) || decide (IntKind.wrap .i64 (many + h.2.2.1) > ck.2.2.2.1)) with
        | true =>
          simp only [cond_true]
          exact ⟨_, _, _, rfl, rfl, by simp, .inr rfl⟩
        | false =>
          have em : IntKind.wrap .i64 (many + h.2.2.1) = many + h.2.2.1 := w64 (by omega) (by omega)
          have eb : IntKind.wrap .i64 (h.2.2.2.2.2.2.2.2.2.2.2.2.1 + h.2.1) = h.2.2.2.2.2.2.2.2.2.2.2.2.1 + h.2.1 := w64 (show _ ≤ bodyOf' h + h.2.1 by omega) (show bodyOf' h + h.2.1 < _ by omega)
          simp only [cond_false, em, eb]
          rw [lim_ok (show o.length + [at_].length ≤ 4294967296 by simp; omega), cond_true, cond_true]
          exact ih n (bodyOf' h + h.2.1) (many + h.2.2.1) (o ++ [at_]) (by omega) (by omega) (by omega) (by omega) (by omega) (by simp; omega)
      · simp only [bneT hc, cond_true]
        exact ⟨_, _, _, rfl, rfl, by simp, .inr rfl⟩
    · simp only [decide_eq_false hmore, cond_false]
      exact ⟨_, _, _, rfl, rfl, by omega, .inl rfl⟩

theorem chunkPages_eq (k : Nat) (hk : 2000000 ≤ k) (lf : TLeaf) (ck : TChunk) (b : List Int) (hl : b.length ≤ 1048576) (hb : Byt b) :
    ∃ (c : Int) (P : List Int) (V : List TVal), impl_ChunkPages k lf b ck = some (((), (), c), (P, V)) ∧ spec_ChunkPages k lf b ck = some (((), (), c), (P, V)) ∧ P.length ≤ 1048576 ∧ V.length ≤ 2000 := by
  unfold impl_ChunkPages spec_ChunkPages impl_ChunkPages.c9 spec_ChunkPages.c10
  simp only [cst, Option.bind_some]
  by_cases hat : ck.2.1 < 0
  · simp only [decide_eq_true hat, Bool.true_or, cond_true]
    exact ⟨_, _, _, rfl, rfl, by simp, by simp⟩
  by_cases hdi : ck.2.2.1 < -1
  · simp only [decide_eq_true hdi, Bool.or_true, cond_true]
    exact ⟨_, _, _, rfl, rfl, by simp, by simp⟩
  simp only [decide_eq_false hat, decide_eq_false hdi, Bool.or_self, cond_false]
  by_cases hd : ck.2.2.1 ≥ 0
  · obtain ⟨r, e1, e2, e3, _⟩ := dictRead_eq k hk lf.1 b hl hb ck.2.2.1
    simp only [decide_eq_true hd, cond_true, e1, e2, Option.bind_some]
    by_cases hc : r.1.2.2 = 0
    · simp only [bneF hc, cond_false]
      obtain ⟨c, P, V, i1, i2, i3, i4⟩ := pages_loop k hk lf ck b hl hb r.2 b.length k ck.2.1 0 [] (by omega) (by omega) (by omega) (by omega) (by omega) (by simp; omega)
      refine ⟨c, P, V, i1, i2, i3, ?_⟩
      rcases i4 with rfl | rfl
      · exact e3
      · simp
    · simp only [bneT hc, cond_true]
      exact ⟨_, _, _, rfl, rfl, by simp, by simp⟩
  · simp only [decide_eq_false hd, cond_false]
    obtain ⟨c, P, V, i1, i2, i3, i4⟩ := pages_loop k hk lf ck b hl hb [] b.length k ck.2.1 0 [] (by omega) (by omega) (by omega) (by omega) (by omega) (by simp; omega)
    refine ⟨c, P, V, i1, i2, i3, ?_⟩
    rcases i4 with rfl | rfl <;> simp
end Go.Law
end

section
/- What the exact laws do around a call: copies, marks, and looks. -/
set_option linter.unusedVariables false
set_option linter.unusedSimpArgs false
namespace Go.Law
open Go.Am Go.Fn
variable (k : Nat)


theorem w1 {x : Int} {c : Int} (h : I64 x) (hc : 0 ≤ c) (hb : x + c < 9223372036854775808) : IntKind.wrap .i64 (x + c) = x + c := w64 (by have := h.1; omega) hb

/-! ### the text of a mark -/
theorem markTextLoop : ∀ (f n : Nat) (t : Int) (acc : ByteArray), t < 10 ^ f → f < n → acc.size + f ≤ 1000 → t < 9223372036854775808 → ∃ s, laws_markText.l4 k n t acc = some s ∧ s.size ≤ 1001 := by
  intro f
  induction f with
  | zero =>
    intro n t acc ht hn ha h64
    obtain ⟨n, rfl⟩ : ∃ j, n = j + 1 := ⟨n - 1, by omega⟩
    have ht : t < 1 := by simpa using ht
    simp only [laws_markText.l4, decide_eq_false (show ¬ t > 0 by omega), cond_false]
    rw [lim_ok (by show 1 + acc.size ≤ _; omega), cond_true]
    exact ⟨_, rfl, by rw [ByteArray.size_append]; show 1 + acc.size ≤ _; omega⟩
  | succ f ih =>
    intro n t acc ht hn ha h64
    obtain ⟨n, rfl⟩ : ∃ j, n = j + 1 := ⟨n - 1, by omega⟩
    by_cases h : t > 0
    · simp only [laws_markText.l4, decide_eq_true h, cond_true]
      rw [lim_ok (by rw [intsStr_size]; simp; omega), cond_true, Int.tdiv_eq_ediv_of_nonneg (by omega), w64 (show -9223372036854775808 ≤ t / 10 by omega) (by omega)]
      refine ih n (t / 10) _ ?_ (by omega) (by rw [ByteArray.size_append, intsStr_size]; simp; omega) (by omega)
      have hp : (10 : Int) ^ (f + 1) = 10 ^ f * 10 := Int.pow_succ 10 f
      omega
    · simp only [laws_markText.l4, decide_eq_false h, cond_false]
      rw [lim_ok (by show 1 + acc.size ≤ _; omega), cond_true]
      exact ⟨_, rfl, by rw [ByteArray.size_append]; show 1 + acc.size ≤ _; omega⟩

theorem markText_ok (hk : 100 ≤ k) (t : Int) (h : t < 9223372036854775808) : ∃ s, laws_markText k t = some s := by
  unfold laws_markText
  by_cases h0 : t ≤ 0
  · simp only [decide_eq_true h0, cond_true]
    exact ⟨_, rfl⟩
  · simp only [decide_eq_false h0, cond_false]
    obtain ⟨s, hs, _⟩ := markTextLoop k 19 k t ⟨#[]⟩ (by omega) (by omega) (by decide) h
    exact ⟨s, hs⟩

def mtx (t : Int) : ByteArray := (laws_markText k t).getD ⟨#[]⟩
theorem mtx_eq (hk : 100 ≤ k) (t : Int) (h : t < 9223372036854775808) : laws_markText k t = some (mtx k t) := by
  obtain ⟨s, hs⟩ := markText_ok k hk t h
  unfold mtx
  rw [hs]; rfl
end Go.Law
end

section
/- What the exact laws do around a call: rows of anything. -/
set_option linter.unusedVariables false
set_option linter.unusedSimpArgs false
namespace Go.Law
open Go.Am Go.Fn

def xtot {α : Type} (f : α → Nat) : List α → Nat
  | [] => 0
  | x :: r => f x + xtot f r
theorem xtot_le {α : Type} {f : α → Nat} {C : Nat} : ∀ (l : List α), (∀ x, x ∈ l → f x ≤ C) → xtot f l ≤ C * l.length
  | [], _ => Nat.zero_le _
  | x :: r, h => by
    have h1 := h x (List.mem_cons_self ..)
    have h2 := xtot_le r (fun y hy => h y (List.mem_cons_of_mem _ hy))
    simp only [xtot, List.length_cons, Nat.mul_add, Nat.mul_one]
    omega
theorem xtot_mem {α : Type} {f : α → Nat} : ∀ (l : List α) (x : α), x ∈ l → f x ≤ xtot f l
  | y :: r, x, h => by
    simp only [xtot]
    rcases List.mem_cons.1 h with rfl | h
    · omega
    · have := xtot_mem (f := f) r x h; omega

def okL {α : Type} (P : α → Prop) (l : List α) : Prop := l.length ≤ 1048576 ∧ ∀ x, x ∈ l → P x
theorem okL.tot {α : Type} {P : α → Prop} {l : List α} (h : okL P l) {f : α → Nat} {C : Nat} (hc : ∀ x, P x → f x ≤ C) : xtot f l ≤ C * 1048576 := by
  have := xtot_le l (f := f) (C := C) (fun x hx => hc x (h.2 x hx))
  exact Nat.le_trans this (Nat.mul_le_mul_left _ h.1)

def mkL {α : Type} (mk : α → Int → α) (cnt : α → Nat) : List α → Int → List α
  | [], _ => []
  | x :: r, m => mk x m :: mkL mk cnt r (m + cnt x)
theorem nat1 {α : Type} (pre : List α) (h : pre.length ≤ 1048576) : IntKind.wrap .i64 ((pre.length : Int) + 1) = ((pre.length + 1 : Nat) : Int) := by rw [w64 (by omega) (by omega)]; omega
theorem ltMid {α : Type} (pre post : List α) (x : α) : decide ((pre.length : Int) < ((pre ++ x :: post).length : Int)) = true := decide_eq_true (by simp; omega)
theorem ltEnd {α : Type} (l : List α) : decide ((l.length : Int) < (l.length : Int)) = false := decide_eq_false (by omega)

theorem xto_gen {α : Type} (F : Nat → List α → Int → List α → Option (Unit × List α)) (z : α) (P : α → Prop)
    (h0 : ∀ n l o, F (n + 1) l (l.length : Int) o = some ((), o))
    (h1 : ∀ n pre x post o, P x → pre.length ≤ 1048576 → F (n + 1) (pre ++ x :: post) (pre.length : Int) (pre ++ z :: o) = F n (pre ++ x :: post) ((pre.length + 1 : Nat) : Int) (pre ++ x :: o)) :
    ∀ (post pre : List α) (n : Nat), post.length < n → pre.length + post.length ≤ 1048576 → (∀ x, x ∈ post → P x) → F n (pre ++ post) (pre.length : Int) (pre ++ List.replicate post.length z) = some ((), pre ++ post) := by
  intro post
  induction post with
  | nil =>
    intro pre n hn hl hP
    obtain ⟨n, rfl⟩ : ∃ j, n = j + 1 := ⟨n - 1, by omega⟩
    simp only [List.append_nil, List.length_nil, List.replicate_zero]
    exact h0 n pre pre
  | cons x post ih =>
    intro pre n hn hl hP
    obtain ⟨n, rfl⟩ : ∃ j, n = j + 1 := ⟨n - 1, by omega⟩
    simp only [List.length_cons] at hn hl
    have := ih (pre ++ [x]) n (by omega) (by simp; omega) (fun y hy => hP y (List.mem_cons_of_mem _ hy))
    rw [List.length_cons, List.replicate_succ, h1 n pre x post _ (hP x (List.mem_cons_self ..)) (by omega)]
    rw [List.length_append, List.length_singleton, List.append_assoc, List.singleton_append, List.append_assoc, List.singleton_append] at this
    exact this

theorem xeq_gen {α : Type} (F : Nat → List α → List α → Int → Option Bool) (P : α → Prop)
    (h0 : ∀ n l, F (n + 1) l l (l.length : Int) = some true)
    (h1 : ∀ n pre x post, P x → pre.length ≤ 1048576 → F (n + 1) (pre ++ x :: post) (pre ++ x :: post) (pre.length : Int) = F n (pre ++ x :: post) (pre ++ x :: post) ((pre.length + 1 : Nat) : Int)) :
    ∀ (post pre : List α) (n : Nat), post.length < n → pre.length + post.length ≤ 1048576 → (∀ x, x ∈ post → P x) → F n (pre ++ post) (pre ++ post) (pre.length : Int) = some true := by
  intro post
  induction post with
  | nil =>
    intro pre n hn hl hP
    obtain ⟨n, rfl⟩ : ∃ j, n = j + 1 := ⟨n - 1, by omega⟩
    simp only [List.append_nil]
    exact h0 n pre
  | cons x post ih =>
    intro pre n hn hl hP
    obtain ⟨n, rfl⟩ : ∃ j, n = j + 1 := ⟨n - 1, by omega⟩
    simp only [List.length_cons] at hn hl
    have := ih (pre ++ [x]) n (by omega) (by simp; omega) (fun y hy => hP y (List.mem_cons_of_mem _ hy))
    rw [h1 n pre x post (hP x (List.mem_cons_self ..)) (by omega)]
    rw [List.length_append, List.length_singleton, List.append_assoc, List.singleton_append] at this
    exact this

theorem xmark_gen {α : Type} (F : Nat → Int → Int → List α → Option (Int × List α)) (mk : α → Int → α) (cnt : α → Nat) (C : Nat) (P : α → Prop) (B : Int) (hC : ∀ x, P x → cnt x ≤ C)
    (h0 : ∀ n m l, F (n + 1) m (l.length : Int) l = some (m, l))
    (h1 : ∀ n m pre x post, P x → 0 ≤ m → m + cnt x ≤ B → pre.length ≤ 1048576 → F (n + 1) m (pre.length : Int) (pre ++ x :: post) = F n (m + cnt x) ((pre.length + 1 : Nat) : Int) (pre ++ mk x m :: post)) :
    ∀ (post pre : List α) (n : Nat) (m : Int), post.length < n → pre.length + post.length ≤ 1048576 → (∀ x, x ∈ post → P x) → 0 ≤ m → m + xtot cnt post ≤ B → F n m (pre.length : Int) (pre ++ post) = some (m + xtot cnt post, pre ++ mkL mk cnt post m) := by
  intro post
  induction post with
  | nil =>
    intro pre n m hn hl hP hm hB
    obtain ⟨n, rfl⟩ : ∃ j, n = j + 1 := ⟨n - 1, by omega⟩
    simp only [List.append_nil, xtot, mkL]
    rw [h0 n m pre]
    simp
  | cons x post ih =>
    intro pre n m hn hl hP hm hB
    obtain ⟨n, rfl⟩ : ∃ j, n = j + 1 := ⟨n - 1, by omega⟩
    simp only [List.length_cons, xtot] at hn hl hB
    have := ih (pre ++ [mk x m]) n (m + cnt x) (by omega) (by simp; omega) (fun y hy => hP y (List.mem_cons_of_mem _ hy)) (by omega) (by omega)
    rw [h1 n m pre x post (hP x (List.mem_cons_self ..)) hm (by omega) (by omega)]
    rw [List.length_append, List.length_singleton, List.append_assoc, List.singleton_append, List.append_assoc, List.singleton_append] at this
    rw [this]
    simp only [xtot, mkL]
    congr 2
    omega

theorem xheld_gen {α : Type} (F : Nat → List α → Int → Int → Option Int) (mk : α → Int → α) (cnt : α → Nat) (P : α → Prop) (B : Int)
    (h0 : ∀ n m l, F (n + 1) l m (l.length : Int) = some m)
    (h1 : ∀ n m pre x post, P x → 0 ≤ m → m + cnt x ≤ B → pre.length ≤ 1048576 → F (n + 1) (pre ++ mk x m :: post) m (pre.length : Int) = F n (pre ++ mk x m :: post) (m + cnt x) ((pre.length + 1 : Nat) : Int)) :
    ∀ (post pre : List α) (n : Nat) (m : Int), post.length < n → pre.length + post.length ≤ 1048576 → (∀ x, x ∈ post → P x) → 0 ≤ m → m + xtot cnt post ≤ B → F n (pre ++ mkL mk cnt post m) m (pre.length : Int) = some (m + xtot cnt post) := by
  intro post
  induction post with
  | nil =>
    intro pre n m hn hl hP hm hB
    obtain ⟨n, rfl⟩ : ∃ j, n = j + 1 := ⟨n - 1, by omega⟩
    simp only [List.append_nil, xtot, mkL]
    rw [h0 n m pre]
    simp
  | cons x post ih =>
    intro pre n m hn hl hP hm hB
    obtain ⟨n, rfl⟩ : ∃ j, n = j + 1 := ⟨n - 1, by omega⟩
    simp only [List.length_cons, xtot] at hn hl hB
    have := ih (pre ++ [mk x m]) n (m + cnt x) (by omega) (by simp; omega) (fun y hy => hP y (List.mem_cons_of_mem _ hy)) (by omega) (by omega)
    simp only [mkL, xtot]
    rw [h1 n m pre x _ (hP x (List.mem_cons_self ..)) hm (by omega) (by omega)]
    rw [List.length_append, List.length_singleton, List.append_assoc, List.singleton_append] at this
    rw [this]
    congr 1
    omega

def szOut (s : Nat) (m : Int) : Int := if (s : Int) ≤ m then m - (s : Int) else -1
theorem szOut_pos {s : Nat} {m : Int} (h : (s : Int) ≤ m) : szOut s m = m - s := if_pos h
theorem szOut_neg {s : Nat} {m : Int} (h : ¬ (s : Int) ≤ m) : szOut s m = -1 := if_neg h
theorem i64_wf' {x : Int} (h : (Lit.int .i64 x).wf = true) : I64 x := by
  simp only [Lit.wf, Bool.and_eq_true, decide_eq_true_eq] at h
  have h1 : IntKind.min .i64 = -9223372036854775808 := by decide
  have h2 : IntKind.max .i64 = 9223372036854775807 := by decide
  rw [h1, h2] at h
  exact ⟨by omega, by omega⟩
end Go.Law
end

section
/- Copies, marks and looks. Printed by program. -/
set_option linter.unusedVariables false
set_option linter.unusedSimpArgs false
set_option maxRecDepth 4000
namespace Go.Law
open Go.Am Go.Fn
variable (k : Nat)

def okByte (x : Int) : Prop := 0 ≤ x ∧ x < 256

def cntByte (x : Int) : Nat := 1
def mkByte (k : Nat) (x : Int) (m : Int) : Int := IntKind.wrap .u8 m
theorem cntByte_le (x : Int) (h : okByte x) : cntByte x ≤ 1 := Nat.le_refl _
theorem xtoByteS (hk : 2000000 ≤ k) (l : List Int) (hl : okL okByte l) : laws_toByteS k l = some ((), l) := by
  unfold laws_toByteS
  have h := hl.1
  rw [okLen_ok (by omega) (by omega), cond_true]
  refine xto_gen (laws_toByteS.l3 k) (0 : Int) okByte ?_ ?_ l [] k (by omega) (by simpa using h) hl.2
  · intro n l o
    simp only [laws_toByteS.l3, ltEnd, cond_false]
  · intro n pre x post o hx hp
    simp only [laws_toByteS.l3, ltMid, cond_true, getMid, Option.bind_some, laws_toChunk, laws_toLeaf, setMid, nat1 pre hp]

theorem xeqByteS (hk : 2000000 ≤ k) (l : List Int) (hl : okL okByte l) : laws_eqByteS k l l = some true := by
  unfold laws_eqByteS
  have h := hl.1
  simp only [bneF rfl, cond_false]
  refine xeq_gen (laws_eqByteS.l4 k) okByte ?_ ?_ l [] k (by omega) (by simpa using h) hl.2
  · intro n l
    simp only [laws_eqByteS.l4, ltEnd, cond_false]
  · intro n pre x post hx hp
    simp only [laws_eqByteS.l4, ltMid, cond_true, getMid, Option.bind_some, bneF rfl, eqS_iff, decide_true, Bool.not_true, cond_false, nat1 pre hp]

theorem xmarkByteS (hk : 2000000 ≤ k) (l : List Int) (hl : okL okByte l) (m : Int) (h0 : 0 ≤ m) (hm : m + (xtot cntByte l : Nat) ≤ 4611686018427387904) : laws_markByteS k m l = some (m + (xtot cntByte l : Nat), mkL (mkByte k) cntByte l m) := by
  unfold laws_markByteS
  have h := hl.1
  refine xmark_gen (laws_markByteS.l2 k) (mkByte k) cntByte 1 okByte 4611686018427387904 cntByte_le ?_ ?_ l [] k m (by omega) (by simpa using h) hl.2 h0 hm
  · intro n m l
    simp only [laws_markByteS.l2, ltEnd, cond_false]
  · intro n m pre x post hx h0 hm hp
    simp only [cntByte] at hm
    have e0 : IntKind.wrap .i64 (m + 1) = m + 1 := w64 (by omega) (by omega)
    have eN : m + 1 = m + (cntByte x : Nat) := by simp only [cntByte] <;> omega
    simp only [laws_markByteS.l2, ltMid, cond_true, getMid, Option.bind_some, setMid, e0, laws_markChunk, nat1 pre hp]
    rw [eN]
    rfl

def okInt (x : Int) : Prop := True

def goodInt (x : Int) : Prop := I64 x
def cntInt (x : Int) : Nat := 1
def mkInt (k : Nat) (x : Int) (m : Int) : Int := m
def szInt (x : Int) : Nat := 0
theorem cntInt_le (x : Int) (h : okInt x) : cntInt x ≤ 1 := Nat.le_refl _
theorem okInt_of (x : Int) (hg : goodInt x) (h : szInt x ≤ 1048576) : okInt x := trivial

theorem xtoIntS (hk : 2000000 ≤ k) (l : List Int) (hl : okL okInt l) : laws_toIntS k l = some ((), l) := by
  unfold laws_toIntS
  have h := hl.1
  rw [okLen_ok (by omega) (by omega), cond_true]
  refine xto_gen (laws_toIntS.l3 k) (0 : Int) okInt ?_ ?_ l [] k (by omega) (by simpa using h) hl.2
  · intro n l o
    simp only [laws_toIntS.l3, ltEnd, cond_false]
  · intro n pre x post o hx hp
    simp only [laws_toIntS.l3, ltMid, cond_true, getMid, Option.bind_some, laws_toChunk, laws_toLeaf, setMid, nat1 pre hp]

theorem xeqIntS (hk : 2000000 ≤ k) (l : List Int) (hl : okL okInt l) : laws_eqIntS k l l = some true := by
  unfold laws_eqIntS
  have h := hl.1
  simp only [bneF rfl, cond_false]
  refine xeq_gen (laws_eqIntS.l4 k) okInt ?_ ?_ l [] k (by omega) (by simpa using h) hl.2
  · intro n l
    simp only [laws_eqIntS.l4, ltEnd, cond_false]
  · intro n pre x post hx hp
    simp only [laws_eqIntS.l4, ltMid, cond_true, getMid, Option.bind_some, bneF rfl, eqS_iff, decide_true, Bool.not_true, cond_false, nat1 pre hp]

theorem xmarkIntS (hk : 2000000 ≤ k) (l : List Int) (hl : okL okInt l) (m : Int) (h0 : 0 ≤ m) (hm : m + (xtot cntInt l : Nat) ≤ 4611686018427387904) : laws_markIntS k m l = some (m + (xtot cntInt l : Nat), mkL (mkInt k) cntInt l m) := by
  unfold laws_markIntS
  have h := hl.1
  refine xmark_gen (laws_markIntS.l2 k) (mkInt k) cntInt 1 okInt 4611686018427387904 cntInt_le ?_ ?_ l [] k m (by omega) (by simpa using h) hl.2 h0 hm
  · intro n m l
    simp only [laws_markIntS.l2, ltEnd, cond_false]
  · intro n m pre x post hx h0 hm hp
    simp only [cntInt] at hm
    have e0 : IntKind.wrap .i64 (m + 1) = m + 1 := w64 (by omega) (by omega)
    have eN : m + 1 = m + (cntInt x : Nat) := by simp only [cntInt] <;> omega
    simp only [laws_markIntS.l2, ltMid, cond_true, getMid, Option.bind_some, setMid, e0, laws_markChunk, nat1 pre hp]
    rw [eN]
    rfl

theorem xheldIntS (hk : 2000000 ≤ k) (l : List Int) (hl : okL okInt l) (m : Int) (h0 : 0 ≤ m) (hm : m + (xtot cntInt l : Nat) ≤ 4611686018427387904) : laws_heldIntS k (mkL (mkInt k) cntInt l m) m = some (m + (xtot cntInt l : Nat)) := by
  unfold laws_heldIntS
  have h := hl.1
  refine xheld_gen (laws_heldIntS.l2 k) (mkInt k) cntInt okInt 4611686018427387904 ?_ ?_ l [] k m (by omega) (by simpa using h) hl.2 h0 hm
  · intro n m l
    simp only [laws_heldIntS.l2, ltEnd, cond_false]
  · intro n m pre x post hx h0 hm hp
    simp only [cntInt] at hm
    have e0 : IntKind.wrap .i64 (m + 1) = m + 1 := w64 (by omega) (by omega)
    have eN : m + 1 = m + (cntInt x : Nat) := by simp only [cntInt] <;> omega
    simp only [laws_heldIntS.l2, ltMid, cond_true]
    simp only [mkInt, getMid, Option.bind_some, eqS_iff, decide_true, Bool.not_true, cond_false, bneF rfl, bne_self_eq_false, e0, nat1 pre hp]
    rw [eN]

theorem xszIntS (hk : 2000000 ≤ k) (l : List Int) (hl : l.length ≤ 9223372036854775807) (hg : ∀ y, y ∈ l → goodInt y) (m : Int) (h0 : 0 ≤ m) (h1 : m ≤ 1048576) : laws_szIntS k l m = some (szOut (l.length + xtot szInt l) m) := by
  have e : ∀ l : List Int, xtot szInt l = 0 := fun l => by
    induction l with
    | nil => rfl
    | cons x r ih => simp only [xtot, ih, szInt]
  unfold laws_szIntS
  rw [e, w64 (show -9223372036854775808 ≤ m - (l.length : Int) by omega) (by omega), Nat.add_zero]
  by_cases c : (l.length : Int) ≤ m
  · rw [decide_eq_false (by omega), cond_false, szOut_pos c]
  · rw [decide_eq_true (by omega), cond_true, szOut_neg c]

def okVal (x : TVal) : Prop := True
def cntVal (x : TVal) : Nat := 1 + 1
def mkVal (k : Nat) (x : TVal) (m : Int) : TVal := (m, mtx k (m + 1), ())
theorem cntVal_le (x : TVal) (h : okVal x) : cntVal x ≤ 2 := by
  unfold cntVal
  omega
theorem xeqVal (hk : 2000000 ≤ k) (x : TVal) (hx : okVal x) : laws_eqVal k x x = some true := by
  simp only [bneF rfl, eqS_iff, decide_true, Bool.not_true, cond_false, Option.bind_some, bne_self_eq_false, beq_self_eq_true, laws_eqChunk, laws_eqVal]

theorem xeqValS (hk : 2000000 ≤ k) (l : List TVal) (hl : okL okVal l) : laws_eqValS k l l = some true := by
  unfold laws_eqValS
  have h := hl.1
  simp only [bneF rfl, cond_false]
  refine xeq_gen (laws_eqValS.l4 k) okVal ?_ ?_ l [] k (by omega) (by simpa using h) hl.2
  · intro n l
    simp only [laws_eqValS.l4, ltEnd, cond_false]
  · intro n pre x post hx hp
    simp only [laws_eqValS.l4, ltMid, cond_true, getMid, Option.bind_some, xeqVal k hk x hx, Bool.not_true, cond_false, nat1 pre hp]

theorem xmarkValS (hk : 2000000 ≤ k) (l : List TVal) (hl : okL okVal l) (m : Int) (h0 : 0 ≤ m) (hm : m + (xtot cntVal l : Nat) ≤ 4611686018427387904) : laws_markValS k m l = some (m + (xtot cntVal l : Nat), mkL (mkVal k) cntVal l m) := by
  unfold laws_markValS
  have h := hl.1
  refine xmark_gen (laws_markValS.l2 k) (mkVal k) cntVal 2 okVal 4611686018427387904 cntVal_le ?_ ?_ l [] k m (by omega) (by simpa using h) hl.2 h0 hm
  · intro n m l
    simp only [laws_markValS.l2, ltEnd, cond_false]
  · intro n m pre x post hx h0 hm hp
    simp only [cntVal] at hm
    have e0 : IntKind.wrap .i64 (m + 1) = m + 1 := w64 (by omega) (by omega)
    have e1 : IntKind.wrap .i64 (m + 1 + 1) = m + 1 + 1 := w64 (by omega) (by omega)
    have eN : m + 1 + 1 = m + (cntVal x : Nat) := by simp only [cntVal] <;> omega
    simp only [laws_markValS.l2, ltMid, cond_true, getMid, Option.bind_some, setMid, e0, e1, mtx_eq k (by omega) (m + 1) (by omega), laws_markChunk, nat1 pre hp]
    rw [eN]
    rfl

theorem xheldValS (hk : 2000000 ≤ k) (l : List TVal) (hl : okL okVal l) (m : Int) (h0 : 0 ≤ m) (hm : m + (xtot cntVal l : Nat) ≤ 4611686018427387904) : laws_heldValS k (mkL (mkVal k) cntVal l m) m = some (m + (xtot cntVal l : Nat)) := by
  unfold laws_heldValS
  have h := hl.1
  refine xheld_gen (laws_heldValS.l2 k) (mkVal k) cntVal okVal 4611686018427387904 ?_ ?_ l [] k m (by omega) (by simpa using h) hl.2 h0 hm
  · intro n m l
    simp only [laws_heldValS.l2, ltEnd, cond_false]
  · intro n m pre x post hx h0 hm hp
    simp only [cntVal] at hm
    have e0 : IntKind.wrap .i64 (m + 1) = m + 1 := w64 (by omega) (by omega)
    have e1 : IntKind.wrap .i64 (m + 1 + 1) = m + 1 + 1 := w64 (by omega) (by omega)
    have eN : m + 1 + 1 = m + (cntVal x : Nat) := by simp only [cntVal] <;> omega
    simp only [laws_heldValS.l2, ltMid, cond_true]
    simp only [mkVal, laws_heldValS.d7, getMid, Option.bind_some, eqS_iff, decide_true, Bool.not_true, cond_false, bneF rfl, bne_self_eq_false, e0, e1, mtx_eq k (by omega) (m + 1) (by omega), nat1 pre hp]
    rw [eN]

def okChunk (x : TChunk) : Prop := okL okInt x.2.2.2.2.2.1
def goodChunk (x : TChunk) : Prop := I64 x.1 ∧ I64 x.2.1 ∧ I64 x.2.2.1 ∧ I64 x.2.2.2.1 ∧ I64 x.2.2.2.2.1 ∧ (x.2.2.2.2.2.1.length ≤ 9223372036854775807 ∧ ∀ y, y ∈ x.2.2.2.2.2.1 → goodInt y)
def szChunk (x : TChunk) : Nat := (x.2.2.2.2.2.1.length + xtot szInt x.2.2.2.2.2.1) + 0
theorem okChunk_of (x : TChunk) (hg : goodChunk x) (h : szChunk x ≤ 1048576) : okChunk x := by
  obtain ⟨g0, g1, g2, g3, g4, g5⟩ := hg
  unfold szChunk at h
  exact ⟨by omega, fun y hy => okInt_of y (g5.2 y hy) (by have := xtot_mem (f := szInt) _ _ hy; omega)⟩
theorem goodChunk_of {e1 : TypeId} {x : TChunk} (h : GoodP (.st (.cons (.int .i64) (.cons (.int .i64) (.cons (.int .i64) (.cons (.int .i64) (.cons (.int .i64) (.cons (.list e1 (.int .i64)) .nil))))))) x) : goodChunk x := by
  have hm : maxLen ≤ 9223372036854775807 := by decide
  obtain ⟨q0, q1, q2, q3, q4, q5, _⟩ := h
  exact ⟨i64_wf' q0, i64_wf' q1, i64_wf' q2, i64_wf' q3, i64_wf' q4, ⟨Nat.le_trans q5.1 hm, fun y hy => i64_wf' (q5.2 y hy)⟩⟩

theorem xeqChunk (hk : 2000000 ≤ k) (x : TChunk) (hx : okChunk x) : laws_eqChunk k x x = some true := by
  have o0 : okL okInt x.2.2.2.2.2.1 := hx
  have k_o0 : okL okInt x.2.2.2.2.2.1 := o0
  simp only [bneF rfl, eqS_iff, decide_true, Bool.not_true, cond_false, Option.bind_some, bne_self_eq_false, beq_self_eq_true, laws_eqChunk, laws_eqVal, xeqIntS k hk _ k_o0]

theorem xszChunk (hk : 2000000 ≤ k) (x : TChunk) (hg : goodChunk x) (m : Int) (h0 : 0 ≤ m) (h1 : m ≤ 1048576) : laws_szChunk k x m = some (szOut (szChunk x) m) := by
  obtain ⟨g0, g1, g2, g3, g4, g5⟩ := hg
  unfold laws_szChunk szChunk
  rw [xszIntS k hk x.2.2.2.2.2.1 g5.1 g5.2 (m) (by omega) (by omega)]
  by_cases c0 : (((x.2.2.2.2.2.1.length + xtot szInt x.2.2.2.2.2.1) : Nat) : Int) ≤ m
  rotate_left
  · rw [szOut_neg c0]; simp only [Option.bind_some, show decide ((-1 : Int) < 0) = true from rfl, cond_true]; rw [szOut_neg (by omega)]
  rw [szOut_pos c0]; simp only [Option.bind_some]; rw [decide_eq_false (by omega), cond_false]
  rw [szOut_pos (by omega)]; congr 1 <;> omega

end Go.Law
end

section
/- Small facts that the exact laws share. -/
set_option linter.unusedVariables false
set_option linter.unusedSimpArgs false
namespace Go.Law
open Go.Am Go.Fn

theorem goodL {t : Ty} {e : TypeId} {P : t.Den → Prop} (hP : ∀ x, GoodP t x → P x) {l : List t.Den} (h : GoodP (.list e t) l) : l.length ≤ 9223372036854775807 ∧ ∀ x, x ∈ l → P x :=
  ⟨Nat.le_trans h.1 (by decide), fun x hx => hP x (h.2 x hx)⟩

end Go.Law
end

section
/- Bytes that come in as an argument. -/
set_option linter.unusedVariables false
set_option linter.unusedSimpArgs false
namespace Go.Law
open Go.Am Go.Fn

theorem u8_lit {x : Int} (h : (Lit.int .u8 x).wf = true) : 0 ≤ x ∧ x < 256 := by
  simp only [Lit.wf, Bool.and_eq_true, decide_eq_true_eq] at h
  have h1 : IntKind.min .u8 = 0 := by decide
  have h2 : IntKind.max .u8 = 255 := by decide
  rw [h1, h2] at h
  exact ⟨by omega, by omega⟩

theorem goodB {b : List Int} (h : GoodP (.list 0 (.int .u8)) b) : ∀ x, x ∈ b → 0 ≤ x ∧ x < 256 :=
  (goodL (t := .int .u8) (P := fun x => 0 ≤ x ∧ x < 256) (fun x hx => u8_lit hx) h).2
end Go.Law
end

section
/- FnExactChunkPages -/
set_option linter.unusedVariables false
set_option linter.unusedSimpArgs false
namespace Go.Law
open Go.Am Go.Fn

theorem fnExactChunkPages (lf : TLeaf) (_ : GoodP (.st (.cons (.int .i64) (.cons (.int .i64) (.cons (.int .i64) .nil)))) lf) (b : List Int) (h : GoodP (.list 0 (.int .u8)) b) (ck : TChunk) (hc : GoodP (.st (.cons (.int .i64) (.cons (.int .i64) (.cons (.int .i64) (.cons (.int .i64) (.cons (.int .i64) (.cons (.list 3 (.int .i64)) .nil))))))) ck) : ∃ k, laws_FnExactChunkPages k lf b ck = some true := by
  have g := goodB h
  have gc := goodChunk_of hc
  clear h hc
  refine ⟨3000000, ?_⟩
  generalize hk : 3000000 = k
  have hk' : 2000000 ≤ k := by omega
  clear hk
  unfold laws_FnExactChunkPages
  by_cases c1 : (b.length : Int) > 1048576
  · rw [decide_eq_true c1]; rfl
  · have ob : okL okByte b := ⟨by omega, g⟩
    rw [decide_eq_false c1]
    simp only [cond_false, xszChunk k hk' ck gc 1048576 (by decide) (by decide), Option.bind_some]
    by_cases c2 : (szChunk ck : Int) ≤ 1048576
    · rw [szOut_pos c2, decide_eq_false (by omega), cond_false]
      have oc : okChunk ck := okChunk_of ck gc (by omega)
      have oi : okL okInt ck.2.2.2.2.2.1 := oc
      obtain ⟨c, P, V, e1, e2, e3, e4⟩ := chunkPages_eq k hk' lf ck b (by omega) g
      have op : okL okInt P := ⟨e3, fun _ _ => trivial⟩
      have ov : okL okVal V := ⟨by omega, fun _ _ => trivial⟩
      have n1 := okL.tot ob cntByte_le
      have n2 := okL.tot oi cntInt_le
      have n3 := okL.tot op cntInt_le
      have n4 := okL.tot ov cntVal_le
      have e1' : impl_ChunkPages k lf b (ck.1, ck.2.1, ck.2.2.1, ck.2.2.2.1, ck.2.2.2.2.1, ck.2.2.2.2.2.1, ()) = some (((), (), c), (P, V)) := e1
      have e2' : spec_ChunkPages k lf b (ck.1, ck.2.1, ck.2.2.1, ck.2.2.2.1, ck.2.2.2.2.1, ck.2.2.2.2.2.1, ()) = some (((), (), c), (P, V)) := e2
      unfold laws_FnExactChunkPages.d7 laws_FnExactChunkPages.d10 laws_FnExactChunkPages.d15 laws_FnExactChunkPages.d34 laws_toChunk laws_markChunk
      have xc := xeqChunk k hk' (ck.1, ck.2.1, ck.2.2.1, ck.2.2.2.1, ck.2.2.2.2.1, ck.2.2.2.2.2.1, ()) oi
      simp only [laws_toLeaf, xtoByteS k hk' b ob, xtoIntS k hk' _ oi, Option.bind_some, e1', e2', xeqIntS k hk' P op, xeqValS k hk' V ov, xeqByteS k hk' b ob, xc, xmarkByteS k hk' b ob 1 (by omega) (by omega), beq_self_eq_true, Bool.not_true, cst, Bool.or_self, bneF rfl, cond_false,
        xmarkIntS k hk' _ oi (1 + (xtot cntByte b : Nat)) (by omega) (by omega), decide_eq_false (show ¬ ((1 : Int) + (xtot cntByte b : Nat) + (xtot cntInt ck.2.2.2.2.2.1 : Nat) < 0) by omega),
        xmarkIntS k hk' P op 1 (by omega) (by omega), xmarkValS k hk' V ov (1 + (xtot cntInt P : Nat)) (by omega) (by omega), xheldIntS k hk' P op 1 (by omega) (by omega), xheldValS k hk' V ov (1 + (xtot cntInt P : Nat)) (by omega) (by omega),
        decide_eq_false (show ¬ ((1 : Int) + (xtot cntInt P : Nat) < 0) by omega), decide_eq_false (show ¬ ((1 : Int) + (xtot cntInt P : Nat) + (xtot cntVal V : Nat) < 0) by omega)]
    · rw [szOut_neg c2]; rfl
end Go.Law
end
