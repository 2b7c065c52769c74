/- Schemas: which are right, by both. -/

import Derived.Test.YtmdmkakkodeniaaLawType
set_option linter.unusedVariables false
set_option linter.unusedSimpArgs false
namespace Go.Law
open Go.Am Go.Fn

/-! ### names -/
def azc (c : UInt8) : Bool := decide (97 ≤ c.toNat) && decide (c.toNat ≤ 122)
def az (s : ByteArray) : Bool := s.data.toList.all azc
def nameOk (s : ByteArray) : Bool := (decide (1 ≤ (s.size : Int)) && decide ((s.size : Int) ≤ 20)) && az s

theorem btS_nat {s : ByteArray} {i : Nat} {c : UInt8} (h : s.data.toList[i]? = some c) : btS s (i : Int) = some (c.toNat : Int) := by
  show (match s.data.toList[i]? with | some b => some (b.toNat : Int) | none => none) = _
  rw [h]

theorem size_len (s : ByteArray) : s.data.toList.length = s.size := by
  rw [Array.length_toList]
  rfl

variable (k : Nat)

theorem l5NameLoop (s : ByteArray) (hs : s.size < 1000000) : ∀ (m n i : Nat), s.size = i + m → m < n → spec_l5Name.l4 k n s (i : Int) = some ((s.data.toList.drop i).all azc) := by
  intro m
  induction m with
  | zero =>
    intro n i hi hn
    obtain ⟨n, rfl⟩ : ∃ j, n = j + 1 := ⟨n - 1, by omega⟩
    simp only [spec_l5Name.l4, decide_eq_false (show ¬ (i : Int) < (s.size : Int) by omega), cond_false]
    rw [List.drop_eq_nil_of_le (by rw [size_len]; omega)]
    rfl
  | succ m ih =>
    intro n i hi hn
    obtain ⟨n, rfl⟩ : ∃ j, n = j + 1 := ⟨n - 1, by omega⟩
    have hlt : i < s.data.toList.length := by rw [size_len]; omega
    have hb := btS_nat (s := s) (i := i) (List.getElem?_eq_getElem hlt)
    have hc := (s.data.toList[i]).toNat_lt
    simp only [spec_l5Name.l4, decide_eq_true (show (i : Int) < (s.size : Int) by omega), cond_true, hb, Option.bind_some, cst]
    rw [List.drop_eq_getElem_cons hlt, List.all_cons, w64 (by omega) (by omega), show ((i : Int) + 1) = ((i + 1 : Nat) : Int) by omega, ih n (i + 1) (by omega) (by omega)]
    unfold azc
    by_cases h : 97 ≤ (s.data.toList[i]).toNat ∧ (s.data.toList[i]).toNat ≤ 122
    · simp only [decide_eq_false (show ¬ (((s.data.toList[i]).toNat : Nat) : Int) < 97 by omega), decide_eq_false (show ¬ (((s.data.toList[i]).toNat : Nat) : Int) > 122 by omega), Bool.or_self, cond_false, decide_eq_true h.1, decide_eq_true h.2, Bool.and_self, Bool.true_and]
    · have h1 : (decide ((((s.data.toList[i]).toNat : Nat) : Int) < 97) || decide ((((s.data.toList[i]).toNat : Nat) : Int) > 122)) = true := by
        simp only [Bool.or_eq_true, decide_eq_true_eq]; omega
      have h2 : (decide (97 ≤ (s.data.toList[i]).toNat) && decide ((s.data.toList[i]).toNat ≤ 122)) = false := by
        rw [Bool.eq_false_iff]; intro hh
        simp only [Bool.and_eq_true, decide_eq_true_eq] at hh
        exact h hh
      simp only [h1, h2, cond_true, Bool.false_and]

theorem l5Name_eq (hk : 100 ≤ k) (s : ByteArray) : spec_l5Name k s = some (nameOk s) := by
  unfold spec_l5Name nameOk
  simp only [l1In_eq, Option.bind_some]
  by_cases h : 1 ≤ s.size ∧ s.size ≤ 20
  · rw [decide_eq_true (show (1 : Int) ≤ (s.size : Int) by omega), decide_eq_true (show (s.size : Int) ≤ 20 by omega)]
    simp only [Bool.and_self, Bool.not_true, cond_false, Bool.true_and]
    exact l5NameLoop k s (by omega) s.size k 0 (by omega) (by omega)
  · have : (decide ((1 : Int) ≤ (s.size : Int)) && decide ((s.size : Int) ≤ 20)) = false := by
      rw [Bool.eq_false_iff]; intro hh
      simp only [Bool.and_eq_true, decide_eq_true_eq] at hh
      omega
    simp only [this, Bool.not_false, cond_true, Bool.false_and]

theorem colNameLoop (s : ByteArray) (hs : s.size < 1000000000) : ∀ (m n i : Nat), s.size = i + m → m < n → impl_isColName.l2 k n s (s.size : Int) (i : Int) = some ((decide (1 ≤ (s.size : Int)) && decide ((s.size : Int) ≤ 20)) && (s.data.toList.drop i).all azc) := by
  intro m
  induction m with
  | zero =>
    intro n i hi hn
    obtain ⟨n, rfl⟩ : ∃ j, n = j + 1 := ⟨n - 1, by omega⟩
    simp only [impl_isColName.l2, decide_eq_false (show ¬ (i : Int) < (s.size : Int) by omega), cond_false, within_eq, Option.bind_some]
    rw [List.drop_eq_nil_of_le (by rw [size_len]; omega)]
    simp
  | succ m ih =>
    intro n i hi hn
    obtain ⟨n, rfl⟩ : ∃ j, n = j + 1 := ⟨n - 1, by omega⟩
    have hlt : i < s.data.toList.length := by rw [size_len]; omega
    have hb := btS_nat (s := s) (i := i) (List.getElem?_eq_getElem hlt)
    have hc := (s.data.toList[i]).toNat_lt
    simp only [impl_isColName.l2, decide_eq_true (show (i : Int) < (s.size : Int) by omega), cond_true, hb, Option.bind_some, within_eq]
    rw [w64 (show -9223372036854775808 ≤ (((s.data.toList[i]).toNat : Nat) : Int) by omega) (by omega)]
    rw [List.drop_eq_getElem_cons hlt, List.all_cons, w64 (by omega) (by omega), show ((i : Int) + 1) = ((i + 1 : Nat) : Int) by omega, ih n (i + 1) (by omega) (by omega)]
    unfold azc
    by_cases h : 97 ≤ (s.data.toList[i]).toNat ∧ (s.data.toList[i]).toNat ≤ 122
    · simp only [decide_eq_true (show (97 : Int) ≤ (((s.data.toList[i]).toNat : Nat) : Int) by omega), decide_eq_true (show (((s.data.toList[i]).toNat : Nat) : Int) ≤ 122 by omega), Bool.not_true, Bool.and_self, cond_false, decide_eq_true h.1, decide_eq_true h.2, Bool.true_and]
    · have h1 : (decide ((97 : Int) ≤ (((s.data.toList[i]).toNat : Nat) : Int)) && decide ((((s.data.toList[i]).toNat : Nat) : Int) ≤ 122)) = false := by
        rw [Bool.eq_false_iff]; intro hh
        simp only [Bool.and_eq_true, decide_eq_true_eq] at hh
        omega
      have h2 : (decide (97 ≤ (s.data.toList[i]).toNat) && decide ((s.data.toList[i]).toNat ≤ 122)) = false := by
        rw [Bool.eq_false_iff]; intro hh
        simp only [Bool.and_eq_true, decide_eq_true_eq] at hh
        exact h hh
      simp only [h1, h2, Bool.not_false, cond_true, Bool.false_and, Bool.and_false]

theorem isColName_eq (s : ByteArray) (hs : s.size < k) (hs2 : s.size < 1000000000) : impl_isColName k s = some (nameOk s) := by
  unfold impl_isColName nameOk
  exact colNameLoop k s hs2 s.size k 0 (by omega) (by omega)

/-! ### cols -/
def colOk (c : TCol) : Bool := ((c.2.1 == 7 && decide (c.2.2.2.1 > 0)) || (tyOk c.2.1 && c.2.2.2.1 == 0)) && (decide (0 ≤ c.2.2.1) && decide (c.2.2.1 ≤ 2))

theorem colOk_eq (c : TCol) : impl_colOk k c = some (colOk c) := by
  unfold impl_colOk colOk
  simp only [within_eq, typeOk_eq, Option.bind_some, csf, cst]

theorem tyOk_7 : tyOk 7 = false := rfl

/-! ### which lists of cols are schemas -/
def PartsC (S : Nat → Nat → Prop) (s : List TCol) : Nat → Nat → List ByteArray → Nat → Prop
  | 0, pos, _, nx => pos = nx
  | c + 1, pos, names, nx => ∃ p mid, s[pos]? = some p ∧ p.1 ∉ names ∧ S pos mid ∧ PartsC S s c mid (names ++ [p.1]) nx

def SubC (s : List TCol) : Nat → Nat → Nat → Prop
  | 0, _, _ => False
  | d + 1, at_, nx => ∃ c, s[at_]? = some c ∧ colOk c = true ∧ (0 < at_ → nameOk c.1 = true) ∧ PartsC (SubC s d) s c.2.2.2.1.toNat (at_ + 1) [] nx

theorem PartsC_le {S : Nat → Nat → Prop} {s : List TCol} (hS : ∀ a b, S a b → a < b) : ∀ (c pos : Nat) (names : List ByteArray) (nx : Nat), PartsC S s c pos names nx → pos + c ≤ nx
  | 0, pos, names, nx, e => by have e : pos = nx := e; omega
  | c + 1, pos, names, nx, ⟨p, mid, _, _, h3, h4⟩ => by
    have := hS _ _ h3
    have := PartsC_le hS c mid _ nx h4
    omega

theorem SubC_lt {s : List TCol} : ∀ (d a b : Nat), SubC s d a b → a < b
  | 0, _, _, h => h.elim
  | d + 1, a, b, ⟨c, _, _, _, h⟩ => by
    have := PartsC_le (SubC_lt d) _ _ _ _ h
    omega

/-- every col within is right -/
theorem SubC_all {s : List TCol} : ∀ (d a b : Nat), SubC s d a b → ∀ i, a ≤ i → i < b → ∃ c, s[i]? = some c ∧ colOk c = true ∧ (0 < i → nameOk c.1 = true)
  | 0, _, _, h => h.elim
  | d + 1, a, b, ⟨c, h1, h2, h3, h4⟩ => by
    have key : ∀ (n pos : Nat) (names : List ByteArray) (nx : Nat), PartsC (SubC s d) s n pos names nx → ∀ i, pos ≤ i → i < nx → ∃ c, s[i]? = some c ∧ colOk c = true ∧ (0 < i → nameOk c.1 = true) := by
      intro n
      induction n with
      | zero => intro pos names nx e i hi1 hi2; have e : pos = nx := e; omega
      | succ n ih =>
        intro pos names nx ⟨p, mid, _, _, hs, hp⟩ i hi1 hi2
        rcases Nat.lt_or_ge i mid with h | h
        · exact SubC_all d pos mid hs i hi1 h
        · exact ih mid _ nx hp i h hi2
    intro i hi1 hi2
    rcases Nat.lt_or_ge a i with h | h
    · exact key _ _ _ _ h4 i (by omega) hi2
    · obtain rfl : i = a := by omega
      exact ⟨c, h1, h2, h3⟩

open Classical in
theorem specNames (S : List TCol → Int → Int → Option Int) (L : List TCol → Int → Int → Int → TCol → List ByteArray → Option Int) (s : List TCol) (deep : Int) (pos : Nat) (i : Int) (c p : TCol) (hp : s[pos]? = some p) (names : List ByteArray) (hn : names.length ≤ 100) :
    ∀ (m n j : Nat), names.length = j + m → m < n → spec_l5Check.l20 k S L n s deep (pos : Int) i (j : Int) c names =
      if p.1 ∈ names.drop j then some (-1) else (S s (pos : Int) (IntKind.wrap .i64 (deep + 1))).bind fun r => cond (decide (r < 0)) (some (-1)) (L s deep r (IntKind.wrap .i64 (i + 1)) c (names ++ [p.1])) := by
  intro m
  induction m with
  | zero =>
    intro n j hj hn'
    obtain ⟨n, rfl⟩ : ∃ q, n = q + 1 := ⟨n - 1, by omega⟩
    simp only [spec_l5Check.l20, decide_eq_false (show ¬ (j : Int) < (names.length : Int) by omega), cond_false, rdL_nat, hp, Option.bind_some]
    rw [lim_ok (by simp; omega), cond_true, List.drop_eq_nil_of_le (by omega)]
    simp
  | succ m ih =>
    intro n j hj hn'
    obtain ⟨n, rfl⟩ : ∃ q, n = q + 1 := ⟨n - 1, by omega⟩
    have hlt : j < names.length := by omega
    simp only [spec_l5Check.l20, decide_eq_true (show (j : Int) < (names.length : Int) by omega), cond_true, rdL_nat, hp, List.getElem?_eq_getElem hlt, Option.bind_some, eqS_iff]
    rw [w64 (by omega) (by omega), show ((j : Int) + 1) = ((j + 1 : Nat) : Int) by omega, ih n (j + 1) (by omega) (by omega), List.drop_eq_getElem_cons hlt]
    by_cases h : names[j] = p.1
    · rw [decide_eq_true h, cond_true, if_pos (by rw [h]; exact List.mem_cons_self ..)]
    · rw [decide_eq_false h, cond_false]
      have : (p.1 ∈ names[j] :: names.drop (j + 1)) ↔ p.1 ∈ names.drop (j + 1) := by
        rw [List.mem_cons]
        exact ⟨fun hh => hh.elim (fun e => absurd e.symm h) id, .inr⟩
      simp only [this]

open Classical in
theorem implNames (S : List TCol → Int → Int → Option Int) (L : List TCol → Int → Int → Int → Int → List ByteArray → Option Int) (s : List TCol) (deep : Int) (pos : Nat) (M i : Int) (p : TCol) (hp : s[pos]? = some p) (names : List ByteArray) (hn : names.length ≤ 100) :
    ∀ (m n j : Nat), names.length = j + m → m < n → impl_colAfter.l10 k S L n s deep (pos : Int) M i (names.length : Int) (j : Int) names =
      if p.1 ∈ names.drop j then some (-1) else (S s (pos : Int) (IntKind.wrap .i64 (deep + 1))).bind fun r => cond (decide (r < 0)) (some (-1)) (L s deep r M (IntKind.wrap .i64 (i + 1)) (names ++ [p.1])) := by
  intro m
  induction m with
  | zero =>
    intro n j hj hn'
    obtain ⟨n, rfl⟩ : ∃ q, n = q + 1 := ⟨n - 1, by omega⟩
    simp only [impl_colAfter.l10, decide_eq_false (show ¬ (j : Int) < (names.length : Int) by omega), cond_false, rdL_nat, hp, Option.bind_some]
    rw [lim_ok (by simp; omega), cond_true, List.drop_eq_nil_of_le (by omega)]
    simp
  | succ m ih =>
    intro n j hj hn'
    obtain ⟨n, rfl⟩ : ∃ q, n = q + 1 := ⟨n - 1, by omega⟩
    have hlt : j < names.length := by omega
    simp only [impl_colAfter.l10, decide_eq_true (show (j : Int) < (names.length : Int) by omega), cond_true, rdL_nat, hp, List.getElem?_eq_getElem hlt, Option.bind_some, eqS_iff]
    rw [w64 (by omega) (by omega), show ((j : Int) + 1) = ((j + 1 : Nat) : Int) by omega, ih n (j + 1) (by omega) (by omega), List.drop_eq_getElem_cons hlt]
    by_cases h : names[j] = p.1
    · rw [decide_eq_true h, cond_true, if_pos (by rw [h]; exact List.mem_cons_self ..)]
    · rw [decide_eq_false h, cond_false]
      have : (p.1 ∈ names[j] :: names.drop (j + 1)) ↔ p.1 ∈ names.drop (j + 1) := by
        rw [List.mem_cons]
        exact ⟨fun hh => hh.elim (fun e => absurd e.symm h) id, .inr⟩
      simp only [this]

theorem schkLoop (hk : 100 ≤ k) (s : List TCol) (hs : s.length ≤ 20) (d D deep : Nat) (hdeep : deep ≤ 6)
    (ih : ∀ at_ : Nat, 0 < at_ → ∃ v, spec_l5Check.rec k D s (at_ : Int) ((deep + 1 : Nat) : Int) = some v ∧ impl_colAfter.rec k D s (at_ : Int) ((deep + 1 : Nat) : Int) = some v ∧ (v = -1 ∨ ∃ nx : Nat, v = nx ∧ SubC s d at_ nx ∧ nx ≤ s.length))
    (c : TCol) (M : Int) (hM : c.2.2.2.1 = M) (hM1 : M < 9223372036854775808) : ∀ (f pos : Nat) (i : Int) (names : List ByteArray), s.length - pos < f → 0 < pos → pos ≤ s.length → 0 ≤ i → i ≤ M → names.length ≤ pos →
      ∃ v, spec_l5Check.l15 k (spec_l5Check.rec k D) f s (deep : Int) (pos : Int) i c names = some v ∧ impl_colAfter.l6 k (impl_colAfter.rec k D) f s (deep : Int) (pos : Int) M i names = some v ∧
        (v = -1 ∨ ∃ nx : Nat, v = nx ∧ PartsC (SubC s d) s (M - i).toNat pos names nx ∧ nx ≤ s.length) := by
  intro f
  induction f with
  | zero => intro pos i names h; omega
  | succ f ihf =>
    intro pos i names hf hpos hpl hi0 hiM hnm
    simp only [spec_l5Check.l15, impl_colAfter.l6, hM]
    by_cases hlt : i < M
    · simp only [decide_eq_true hlt, cond_true]
      by_cases hpe : (pos : Int) ≥ (s.length : Int)
      · simp only [decide_eq_true hpe, cond_true]
        exact ⟨_, rfl, rfl, .inl rfl⟩
      · have hpl' : pos < s.length := by omega
        simp only [decide_eq_false hpe, cond_false]
        have hp := List.getElem?_eq_getElem hpl'
        rw [show (0 : Int) = ((0 : Nat) : Int) from rfl, specNames k _ _ s _ pos i c _ hp names (by omega) names.length k 0 (by omega) (by omega), implNames k _ _ s _ pos M i _ hp names (by omega) names.length k 0 (by omega) (by omega)]
        rw [List.drop_zero]
        by_cases hmem : (s[pos]'hpl').1 ∈ names
        · rw [if_pos hmem, if_pos hmem]
          exact ⟨_, rfl, rfl, .inl rfl⟩
        · rw [if_neg hmem, if_neg hmem]
          have hd1 : IntKind.wrap .i64 ((deep : Int) + 1) = ((deep + 1 : Nat) : Int) := by rw [w64 (by omega) (by omega)]; omega
          rw [hd1]
          obtain ⟨v, s1, s2, s4⟩ := ih pos hpos
          simp only [s1, s2, Option.bind_some]
          rcases s4 with rfl | ⟨mid, rfl, s5, s6⟩
          · simp only [show decide ((-1 : Int) < 0) = true from rfl, cond_true]
            exact ⟨_, rfl, rfl, .inl rfl⟩
          · have hml := SubC_lt _ _ _ s5
            have hm0 : decide ((mid : Int) < 0) = false := decide_eq_false (by omega)
            have hi1 : IntKind.wrap .i64 (i + 1) = i + 1 := w64 (by omega) (by omega)
            simp only [hm0, cond_false, hi1]
            obtain ⟨w, t1, t2, t4⟩ := ihf mid (i + 1) (names ++ [(s[pos]'hpl').1]) (by omega) (by omega) s6 (by omega) (by omega) (by simp; omega)
            refine ⟨w, t1, t2, ?_⟩
            rcases t4 with h | ⟨nx, h1, h2, h3⟩
            · exact .inl h
            · refine .inr ⟨nx, h1, ?_, h3⟩
              rw [show (M - i).toNat = (M - (i + 1)).toNat + 1 by omega]
              exact ⟨_, mid, hp, hmem, s5, h2⟩
    · simp only [decide_eq_false hlt, cond_false]
      refine ⟨_, rfl, rfl, .inr ⟨pos, rfl, ?_, hpl⟩⟩
      rw [show (M - i).toNat = 0 by omega]
      rfl

theorem schk (hk : 100 ≤ k) (s : List TCol) (hs : s.length ≤ 20) (hn : ∀ c, c ∈ s → c.1.size < k ∧ c.1.size < 1000000000 ∧ I64 c.2.2.2.1) (hroot : ∀ c, s[0]? = some c → c.1 = ⟨#[]⟩ ∧ c.2.2.1 = 0 ∧ c.2.1 = 7) :
    ∀ (d D deep at_ : Nat), d + deep = 7 → d < D → ∃ v, spec_l5Check.rec k D s (at_ : Int) (deep : Int) = some v ∧ impl_colAfter.rec k D s (at_ : Int) (deep : Int) = some v ∧ (v = -1 ∨ ∃ nx : Nat, v = nx ∧ SubC s d at_ nx ∧ nx ≤ s.length) := by
  intro d
  induction d with
  | zero =>
    intro D deep at_ hd hD
    obtain ⟨D, rfl⟩ : ∃ m, D = m + 1 := ⟨D - 1, by omega⟩
    obtain rfl : deep = 7 := by omega
    simp only [spec_l5Check.rec, impl_colAfter.rec, spec_l5Check.b, impl_colAfter.b, cst, Option.bind_some, show decide (((7 : Nat) : Int) > 6) = true from rfl, Bool.or_true, cond_true]
    exact ⟨_, rfl, rfl, .inl rfl⟩
  | succ d ih =>
    intro D deep at_ hd hD
    obtain ⟨D, rfl⟩ : ∃ m, D = m + 1 := ⟨D - 1, by omega⟩
    simp only [spec_l5Check.rec, impl_colAfter.rec, spec_l5Check.b, impl_colAfter.b, cst, Option.bind_some]
    by_cases hat : (at_ : Int) ≥ (s.length : Int)
    · simp only [decide_eq_true hat, Bool.true_or, cond_true, Option.bind_some]
      exact ⟨_, rfl, rfl, .inl rfl⟩
    · have hat' : at_ < s.length := by omega
      have hdd : decide ((deep : Int) > 6) = false := decide_eq_false (by omega)
      have hc := List.getElem?_eq_getElem hat'
      generalize hcd : s[at_]'hat' = c at hc
      have hcm : c ∈ s := List.mem_of_getElem? hc
      obtain ⟨n1, n2, n3⟩ := hn c hcm
      simp only [decide_eq_false hat, hdd, Bool.false_or, cond_false, rdL_nat, hc, Option.bind_some, colOk_eq, isColName_eq k c.1 n1 n2, l5Name_eq k hk, l1In_eq, l5Type_eq, csf, cst]
      -- the root, or a name
      have hr0 : (((at_ : Int) == 0) && ((!eqS c.1 ⟨#[]⟩ || c.2.2.1 != 0) || c.2.1 != 7)) = false := by
        by_cases h0 : at_ = 0
        · subst h0
          obtain ⟨r1, r2, r3⟩ := hroot c hc
          rw [r1, r2, r3, eqS_iff]; simp
        · rw [beqF (show ¬ (at_ : Int) = 0 by omega)]; rfl
      simp only [hr0, Bool.false_or]
      generalize hnm : (decide ((at_ : Int) > 0) && !nameOk c.1) = bn
      have hname : bn = false → 0 < at_ → nameOk c.1 = true := by
        intro hb h0
        rw [hb, decide_eq_true (show (at_ : Int) > 0 by omega)] at hnm
        simpa using hnm
      have ha1 : IntKind.wrap .i64 ((at_ : Int) + 1) = ((at_ + 1 : Nat) : Int) := by rw [w64 (by omega) (by omega)]; omega
      cases bn with
      | true =>
        simp only [Bool.true_or, Bool.or_true, cond_true]
        exact ⟨_, rfl, rfl, .inl rfl⟩
      | false =>
        simp only [Bool.false_or, Bool.or_false]
        by_cases hrep : (0 ≤ c.2.2.1 ∧ c.2.2.1 ≤ 2)
        · have er : (decide (0 ≤ c.2.2.1) && decide (c.2.2.1 ≤ 2)) = true := by rw [decide_eq_true hrep.1, decide_eq_true hrep.2]; rfl
          simp only [er, Bool.not_true, cond_false]
          have eco : colOk c = ((c.2.1 == 7 && decide (c.2.2.2.1 > 0)) || (tyOk c.2.1 && c.2.2.2.1 == 0)) := by
            unfold colOk; rw [er, Bool.and_true]
          by_cases h7 : c.2.1 = 7
          · have eco' : colOk c = decide (c.2.2.2.1 > 0) := by rw [eco, h7, tyOk_7]; simp
            simp only [bneF h7, cond_false]
            by_cases hM : c.2.2.2.1 < 1
            · simp only [decide_eq_true hM, cond_true, eco', decide_eq_false (show ¬ c.2.2.2.1 > 0 by omega), Bool.not_false]
              exact ⟨_, rfl, rfl, .inl rfl⟩
            · have hok : colOk c = true := by rw [eco']; exact decide_eq_true (by omega)
              simp only [decide_eq_false hM, cond_false, hok, Bool.not_true, ha1]
              obtain ⟨v, t1, t2, t3⟩ := schkLoop k hk s hs d D deep (by omega) (fun a h0 => ih D (deep + 1) a (by omega) (by omega)) c _ rfl n3.2 k (at_ + 1) 0 [] (by omega) (by omega) (by omega) (by omega) (by omega) (by simp)
              refine ⟨v, t1, t2, ?_⟩
              rcases t3 with h | ⟨nx, h1, h2, h3⟩
              · exact .inl h
              · exact .inr ⟨nx, h1, ⟨c, hc, hok, hname rfl, by simpa using h2⟩, h3⟩
          · have eco' : colOk c = (tyOk c.2.1 && c.2.2.2.1 == 0) := by rw [eco, beqF h7]; simp
            simp only [bneT h7, cond_true]
            by_cases hl : tyOk c.2.1 = true ∧ c.2.2.2.1 = 0
            · have hok : colOk c = true := by rw [eco', hl.1, beqT hl.2]; rfl
              simp only [hl.1, bneF hl.2, Bool.not_true, Bool.or_self, cond_false, hok, ha1]
              obtain ⟨K, hK⟩ : ∃ j, k = j + 1 := ⟨k - 1, by omega⟩
              refine ⟨_, rfl, ?_, .inr ⟨at_ + 1, rfl, ⟨c, hc, hok, hname rfl, ?_⟩, by omega⟩⟩
              · rw [hl.2]
                have : ∀ (j : Nat) (S : List TCol → Int → Int → Option Int), impl_colAfter.l6 k S (j + 1) s (deep : Int) ((at_ + 1 : Nat) : Int) 0 0 [] = some ((at_ + 1 : Nat) : Int) := fun j S => rfl
                have h2 := this K (impl_colAfter.rec k D)
                rw [← hK] at h2
                exact h2
              · rw [hl.2]; rfl
            · have e1 : (!tyOk c.2.1 || c.2.2.2.1 != 0) = true := by
                cases ht : tyOk c.2.1 with
                | false => rfl
                | true => simp only [Bool.not_true, Bool.false_or]; exact bneT fun h => hl ⟨ht, h⟩
              have hok : colOk c = false := by
                rw [eco']
                cases ht : tyOk c.2.1 with
                | false => rfl
                | true => simp only [Bool.true_and]; exact beqF fun h => hl ⟨ht, h⟩
              simp only [e1, hok, cond_true, Bool.not_false]
              exact ⟨_, rfl, rfl, .inl rfl⟩
        · have er : (decide (0 ≤ c.2.2.1) && decide (c.2.2.1 ≤ 2)) = false := by
            rw [Bool.eq_false_iff]; intro hh
            simp only [Bool.and_eq_true, decide_eq_true_eq] at hh
            exact hrep hh
          have hok : colOk c = false := by unfold colOk; rw [er, Bool.and_false]
          simp only [er, hok, Bool.not_false, cond_true]
          exact ⟨_, rfl, rfl, .inl rfl⟩

def WfC (c : TCol) : Prop := c.1.size ≤ 1073741824 ∧ I64 c.2.1 ∧ I64 c.2.2.1 ∧ I64 c.2.2.2.1

/-- a schema that is right -/
def IsSchema (s : List TCol) : Prop := 2 ≤ s.length ∧ s.length ≤ 20 ∧ SubC s 6 0 s.length ∧ ∃ c, s[0]? = some c ∧ c.1 = ⟨#[]⟩ ∧ c.2.2.1 = 0 ∧ c.2.1 = 7

theorem schemaOk_eq (hk : 100 ≤ k) (s : List TCol) (hn : ∀ c, c ∈ s → c.1.size < k ∧ c.1.size < 1000000000 ∧ I64 c.2.2.2.1) :
    ∃ b, spec_SchemaOk k s = some b ∧ impl_SchemaOk k s = some b ∧ (b = true → IsSchema s ∧ impl_colAfter k s 0 1 = some (s.length : Int)) := by
  unfold spec_SchemaOk impl_SchemaOk
  simp only [l1In_eq, within_eq, Option.bind_some]
  by_cases hin : 2 ≤ s.length ∧ s.length ≤ 20
  · have c1 : (decide ((2 : Int) ≤ (s.length : Int)) && decide ((s.length : Int) ≤ 20)) = true := by simp; omega
    obtain ⟨n, hn1, hn2⟩ := rdL_some (xs := s) (i := 0) (by omega) (by omega)
    have hn2 : s[0]? = some n := hn2
    simp only [c1, cond_true, Bool.not_true, cond_false, hn1, Option.bind_some, cst]
    by_cases hr : n.1 = ⟨#[]⟩ ∧ n.2.2.1 = 0 ∧ n.2.1 = 7
    · have e0 : eqS n.1 ⟨#[]⟩ = true := by rw [eqS_iff]; exact decide_eq_true hr.1
      simp only [bneF hr.2.2, bneF hr.2.1, e0, cond_false, Option.bind_some, Bool.or_self, Bool.not_true]
      obtain ⟨v, s1, s2, s4⟩ := schk k hk s hin.2 hn (fun c hc => by rw [hn2] at hc; cases hc; exact hr) 6 k 1 0 (by omega) (by omega)
      have s1 : spec_l5Check k s 0 1 = some v := s1
      have s2 : impl_colAfter k s 0 1 = some v := s2
      simp only [s1, s2, Option.bind_some]
      refine ⟨_, rfl, rfl, fun hb => ?_⟩
      have hv : v = (s.length : Int) := by simpa using hb
      refine ⟨⟨hin.1, hin.2, ?_, n, hn2, hr⟩, by rw [hv]⟩
      rcases s4 with h | ⟨nx, h1, h2, _⟩
      · omega
      · have : nx = s.length := by omega
        rw [← this]; exact h2
    · -- the root is wrong
      have hs : spec_l5Check k s 0 1 = some (-1) := by
        obtain ⟨K, rfl⟩ : ∃ j, k = j + 1 := ⟨k - 1, by omega⟩
        show spec_l5Check.b (K + 1) (spec_l5Check.rec (K + 1) K) s 0 1 = _
        unfold spec_l5Check.b
        have e1 : (cond ((0 : Int) == 0) (some ((!eqS n.1 ⟨#[]⟩ || n.2.2.1 != 0) || n.2.1 != 7)) (some false) : Option Bool) = some true := by
          show some _ = _
          congr 1
          cases he : eqS n.1 ⟨#[]⟩ with
          | false => rfl
          | true =>
            rw [eqS_iff] at he
            have he := of_decide_eq_true he
            simp only [Bool.not_true, Bool.false_or, Bool.or_eq_true, bne_iff_ne]
            exact Classical.byContradiction fun hh => hr ⟨he, Classical.byContradiction fun h => hh (.inl h), Classical.byContradiction fun h => hh (.inr h)⟩
        simp only [decide_eq_false (show ¬ (0 : Int) ≥ (s.length : Int) by omega), cst, Option.bind_some, show decide ((1 : Int) > 6) = false from rfl, Bool.or_self, cond_false, hn1, e1, Bool.true_or, cond_true]
      refine ⟨false, ?_, ?_, fun h => by cases h⟩
      · simp only [hs, Option.bind_some]
        rw [beqF (by omega)]
      · by_cases h7 : n.2.1 = 7
        · by_cases h0 : n.2.2.1 = 0
          · have he : eqS n.1 ⟨#[]⟩ = false := by
              rw [eqS_iff]; exact decide_eq_false fun h => hr ⟨h, h0, h7⟩
            simp only [bneF h7, bneF h0, he, Option.bind_some, cond_false, Bool.or_self, Bool.not_false, Bool.false_or, cond_true]
          · simp only [bneF h7, bneT h0, Option.bind_some, cond_false, Bool.false_or, cond_true, Bool.true_or]
        · simp only [bneT h7, Option.bind_some, cond_true, Bool.true_or]
  · have c1 : (decide ((2 : Int) ≤ (s.length : Int)) && decide ((s.length : Int) ≤ 20)) = false := by
      rw [Bool.eq_false_iff]; intro h
      simp only [Bool.and_eq_true, decide_eq_true_eq] at h
      omega
    simp only [c1, Bool.not_false, cond_true, cond_false, Option.bind_some]
    exact ⟨false, rfl, rfl, fun h => by cases h⟩
end Go.Law
