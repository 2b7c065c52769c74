/- Values: which are right; texts, by their lengths and by what they share. -/
import Derived.Test.YtmdmkakkodeniaaLawType
import Derived.Test.YtmdmkakkodeniaaLawDeltaAll
set_option linter.unusedVariables false
set_option linter.unusedSimpArgs false
namespace Go.Law
open Go.Am Go.Fn
variable (k : Nat)

def vok (t : Int) (v : TVal) : Bool :=
  if t = 0 then (decide (0 ≤ v.1) && decide (v.1 ≤ 1)) && eqS v.2.1 ⟨#[]⟩
  else if t = 1 then (decide (-2147483648 ≤ v.1) && decide (v.1 ≤ 2147483647)) && eqS v.2.1 ⟨#[]⟩
  else if t = 2 ∨ t = 5 then eqS v.2.1 ⟨#[]⟩
  else if t = 6 then v.1 == 0 && decide ((v.2.1.size : Int) ≤ 40)
  else false

theorem valOk_eq (t : Int) (v : TVal) : impl_ValOk k t v = some (vok t v) := by
  unfold impl_ValOk impl_ValOk.c8 impl_isInt32 vok
  by_cases h0 : t = 0
  · subst h0
    simp only [within_eq, beqT rfl, cond_true, Option.bind_some, csf, if_true]
  by_cases h1 : t = 1
  · subst h1
    simp only [within_eq, beqF h0, beqT rfl, cond_true, cond_false, Option.bind_some, csf, if_neg h0, if_true]
  by_cases h2 : t = 2
  · subst h2
    simp only [beqF h0, beqF h1, beqT rfl, cond_true, cond_false, if_neg h0, if_neg h1, true_or, if_true]
  by_cases h5 : t = 5
  · subst h5
    simp only [beqF h0, beqF h1, beqF h2, beqT rfl, cond_true, cond_false, if_neg h0, if_neg h1, or_true, if_true]
  by_cases h6 : t = 6
  · subst h6
    simp only [beqF h0, beqF h1, beqF h2, beqF h5, beqT rfl, cond_true, cond_false, if_neg h0, if_neg h1, Option.bind_some, csf, if_true]
    rw [if_neg (by decide)]
  · simp only [beqF h0, beqF h1, beqF h2, beqF h5, beqF h6, cond_true, cond_false, if_neg h0, if_neg h1, Option.bind_some, csf, if_neg h6]
    rw [if_neg (by omega)]
    rfl

theorem svalOk_eq (t : Int) (v : TVal) : spec_ValOk k t v = some (vok t v) := by
  unfold spec_ValOk spec_ValOk.c8 spec_l4Int vok
  by_cases h0 : t = 0
  · subst h0
    simp only [l1In_eq, beqT rfl, cond_true, Option.bind_some, csf, if_true]
  by_cases h1 : t = 1
  · subst h1
    simp only [l1In_eq, beqF h0, beqT rfl, cond_true, cond_false, Option.bind_some, csf, if_neg h0, if_true]
  by_cases h2 : t = 2
  · subst h2
    simp only [beqF h0, beqF h1, beqT rfl, cond_true, cond_false, if_neg h0, if_neg h1, true_or, if_true]
  by_cases h5 : t = 5
  · subst h5
    simp only [beqF h0, beqF h1, beqF h2, beqT rfl, cond_true, cond_false, if_neg h0, if_neg h1, or_true, if_true]
  by_cases h6 : t = 6
  · subst h6
    simp only [beqF h0, beqF h1, beqF h2, beqF h5, beqT rfl, cond_true, cond_false, if_neg h0, if_neg h1, Option.bind_some, csf, if_true]
    rw [if_neg (by decide)]
  · simp only [beqF h0, beqF h1, beqF h2, beqF h5, beqF h6, cond_true, cond_false, if_neg h0, if_neg h1, Option.bind_some, csf, if_neg h6]
    rw [if_neg (by omega)]

theorem valsLoop (t : Int) (l : List TVal) (hl : l.length < 1000000000) : ∀ (post pre : List TVal) (n n' : Nat), l = pre ++ post → post.length < n → post.length < n' →
    impl_valsOk.l2 k n t l l (l.length : Int) (pre.length : Int) = some (post.all (vok t) && (decide ((l.length : Int) ≤ 2000) && tyOk t)) ∧ spec_l6Vals.l4 k n' t l (pre.length : Int) = some (post.all (vok t)) := by
  intro post
  induction post with
  | nil =>
    intro pre n n' hl' hn hn'
    obtain ⟨n, rfl⟩ : ∃ m, n = m + 1 := ⟨n - 1, by omega⟩
    obtain ⟨n', rfl⟩ : ∃ m, n' = m + 1 := ⟨n' - 1, by omega⟩
    have : l = pre := by simpa using hl'
    subst this
    simp only [impl_valsOk.l2, spec_l6Vals.l4, decide_eq_false (show ¬ (l.length : Int) < (l.length : Int) by omega), cond_false, typeOk_eq, Option.bind_some, csf, List.all_nil, Bool.true_and]
    exact ⟨trivial, trivial⟩
  | cons x post ih =>
    intro pre n n' hl' hn hn'
    simp only [List.length_cons] at hn hn'
    obtain ⟨n, rfl⟩ : ∃ m, n = m + 1 := ⟨n - 1, by omega⟩
    obtain ⟨n', rfl⟩ : ∃ m, n' = m + 1 := ⟨n' - 1, by omega⟩
    have hlen : l.length = pre.length + (post.length + 1) := by rw [hl']; simp
    have hg : rdL l (pre.length : Int) = some x := by rw [hl']; exact getMid _ _ _
    have hi := ih (pre ++ [x]) n n' (by rw [hl']; simp) (by omega) (by omega)
    rw [List.length_append, List.length_singleton] at hi
    simp only [impl_valsOk.l2, spec_l6Vals.l4, decide_eq_true (show (pre.length : Int) < (l.length : Int) by omega), cond_true, hg, Option.bind_some, valOk_eq, svalOk_eq, List.all_cons]
    rw [w64 (by omega) (by omega), show ((pre.length : Int) + 1) = ((pre.length + 1 : Nat) : Int) by omega]
    cases hv : vok t x with
    | false => exact ⟨rfl, rfl⟩
    | true =>
      simp only [Bool.not_true, cond_false, Bool.true_and]
      exact hi

/-- a list of values of a type -/
def vsOk (t : Int) (l : List TVal) : Bool := l.all (vok t) && (decide ((l.length : Int) ≤ 2000) && tyOk t)

theorem vsOk_eq (t : Int) (l : List TVal) (hl : l.length < 1000000000) (hk : l.length < k) : impl_valsOk k t l = some (vsOk t l) ∧ spec_l6Vals k t l = some (vsOk t l) := by
  obtain ⟨h1, h2⟩ := valsLoop k t l hl l [] k k rfl hk hk
  rw [List.length_nil, show ((0 : Nat) : Int) = 0 from rfl] at h1 h2
  unfold impl_valsOk spec_l6Vals vsOk
  refine ⟨h1, ?_⟩
  simp only [l5Type_eq, Option.bind_some, cst]
  by_cases hl2 : (l.length : Int) ≤ 2000
  · rw [decide_eq_false (show ¬ (l.length : Int) > 2000 by omega), decide_eq_true hl2]
    cases tyOk t with
    | false => simp
    | true => simp [h2]
  · rw [decide_eq_true (show (l.length : Int) > 2000 by omega), decide_eq_false hl2]
    simp

/-! ### what two texts share -/
def cpl : List UInt8 → List UInt8 → Nat
  | a :: x, b :: y => if a = b then cpl x y + 1 else 0
  | _, _ => 0

theorem cpl_le : ∀ x y, cpl x y ≤ x.length ∧ cpl x y ≤ y.length
  | [], _ => by simp [cpl]
  | _ :: _, [] => by simp [cpl]
  | a :: x, b :: y => by
    have := cpl_le x y
    simp only [cpl]
    split <;> simp <;> omega

theorem cpl_take : ∀ x y : List UInt8, x.take (cpl x y) = y.take (cpl x y)
  | [], _ => by simp [cpl]
  | _ :: _, [] => by simp [cpl]
  | a :: x, b :: y => by
    have := cpl_take x y
    simp only [cpl]
    split
    · rename_i h; simp [h, this]
    · simp

def comm (a b : ByteArray) : Nat := cpl a.data.toList b.data.toList

theorem dl (s : ByteArray) : s.data.toList.length = s.size := by rw [Array.length_toList]; rfl

theorem btS_get {s : ByteArray} {i : Nat} (h : i < s.size) : btS s (i : Int) = some ((s.data.toList[i]'(by rw [dl]; exact h)).toNat : Int) := by
  show (match s.data.toList[i]? with | some b => some (b.toNat : Int) | none => none) = _
  rw [List.getElem?_eq_getElem (by rw [dl]; exact h)]

theorem commLoop (a b : ByteArray) (ha : a.size < 1000000000) : ∀ (m n i : Nat), i + m = a.size → m < n → i ≤ b.size →
    impl_Common.l2 k n a b (i : Int) = some ((i + cpl (a.data.toList.drop i) (b.data.toList.drop i) : Nat) : Int) ∧ spec_Common.l2 k n a b (i : Int) = some ((i + cpl (a.data.toList.drop i) (b.data.toList.drop i) : Nat) : Int) := by
  intro m
  induction m with
  | zero =>
    intro n i hi hn hb
    obtain ⟨n, rfl⟩ : ∃ m, n = m + 1 := ⟨n - 1, by omega⟩
    have : a.data.toList.drop i = [] := List.drop_of_length_le (by rw [dl]; omega)
    rw [this]
    simp only [impl_Common.l2, spec_Common.l2, decide_eq_false (show ¬ (i : Int) < (a.size : Int) by omega), cond_false, Option.bind_some, cpl, Nat.add_zero]
    exact ⟨trivial, trivial⟩
  | succ m ih =>
    intro n i hi hn hb
    obtain ⟨n, rfl⟩ : ∃ m, n = m + 1 := ⟨n - 1, by omega⟩
    have hda : a.data.toList.drop i = a.data.toList[i]'(by rw [dl]; omega) :: a.data.toList.drop (i + 1) := List.drop_eq_getElem_cons (by rw [dl]; omega)
    by_cases hbi : i < b.size
    · have hdb : b.data.toList.drop i = b.data.toList[i]'(by rw [dl]; omega) :: b.data.toList.drop (i + 1) := List.drop_eq_getElem_cons (by rw [dl]; omega)
      simp only [impl_Common.l2, spec_Common.l2, decide_eq_true (show (i : Int) < (a.size : Int) by omega), decide_eq_true (show (i : Int) < (b.size : Int) by omega), cond_true, Option.bind_some, btS_get (show i < a.size by omega), btS_get hbi]
      rw [hda, hdb]
      by_cases he : a.data.toList[i]'(by rw [dl]; omega) = b.data.toList[i]'(by rw [dl]; omega)
      · have hi' := ih n (i + 1) (by omega) (by omega) (by omega)
        rw [beqT (by rw [he]), cond_true, cond_true, w64 (by omega) (by omega), show ((i : Int) + 1) = ((i + 1 : Nat) : Int) by omega, hi'.1, hi'.2]
        simp only [cpl, he, if_true]
        constructor <;> (congr 2; omega)
      · rw [beqF (fun h => he (by
          have h : (a.data.toList[i]'(by rw [dl]; omega)).toNat = (b.data.toList[i]'(by rw [dl]; omega)).toNat := by omega
          exact UInt8.toNat_inj.1 h)), cond_false, cond_false]
        simp only [cpl, he, if_false, Nat.add_zero]
        exact ⟨trivial, trivial⟩
    · have : b.data.toList.drop i = [] := List.drop_of_length_le (by rw [dl]; omega)
      rw [this, hda]
      simp only [impl_Common.l2, spec_Common.l2, decide_eq_true (show (i : Int) < (a.size : Int) by omega), decide_eq_false (show ¬ (i : Int) < (b.size : Int) by omega), cond_true, cond_false, Option.bind_some, cpl, Nat.add_zero]
      exact ⟨trivial, trivial⟩

theorem comm_eq (a b : ByteArray) (ha : a.size < 1000000000) (hk : a.size < k) : impl_Common k a b = some (comm a b : Int) ∧ spec_Common k a b = some (comm a b : Int) := by
  have := commLoop k a b ha a.size k 0 (by omega) hk (Nat.zero_le _)
  simpa [impl_Common, spec_Common, comm] using this

theorem comm_le (a b : ByteArray) : comm a b ≤ a.size ∧ comm a b ≤ b.size := by
  have := cpl_le a.data.toList b.data.toList
  rw [dl, dl] at this
  exact this

theorem comm_join (a b : ByteArray) : a.extract 0 (comm a b) ++ b.extract (comm a b) b.size = b := by
  apply ByteArray.ext
  apply Array.ext'
  rw [ByteArray.data_append, Array.toList_append, ByteArray.data_extract, ByteArray.data_extract, Array.toList_extract, Array.toList_extract, List.extract_eq_take_drop, List.extract_eq_take_drop, List.drop_zero, Nat.sub_zero]
  have h := cpl_take a.data.toList b.data.toList
  show a.data.toList.take (cpl _ _) ++ _ = _
  rw [h]
  have h2 : (b.data.toList.drop (comm a b)).take (b.size - comm a b) = b.data.toList.drop (comm a b) := List.take_of_length_le (by rw [List.length_drop, dl]; omega)
  rw [h2]
  exact List.take_append_drop _ _

/-! ### texts with their lengths before -/
def lenB (ss : List ByteArray) : List Int := dPack (ss.map fun s => (s.size : Int)) ++ (ss.map strInts).flatten

def vtx (s : ByteArray) : TVal := (0, s, ())

theorem flat_len (ss : List ByteArray) (h : ∀ s, s ∈ ss → s.size ≤ 40) : ((ss.map strInts).flatten).length ≤ 40 * ss.length := by
  induction ss with
  | nil => simp
  | cons s ss ih =>
    have h1 := h s (List.mem_cons_self ..)
    have h2 := ih fun x hx => h x (List.mem_cons_of_mem _ hx)
    rw [List.map_cons, List.flatten_cons, List.length_append, strInts_length, List.length_cons]
    omega

theorem dPack_len (xs : List Int) : (dPack xs).length ≤ 20000 := by
  have u1 := uv_len 128
  have u2 := uv_len 4
  have u3 := uv_len (xs.length : Int)
  have u4 := uv_len (zig (xs.headD 0))
  have h := blocksB_len 16 (difs xs)
  unfold dPack
  simp only [List.length_append]
  omega

theorem sizes_I64 {ss : List ByteArray} (h : ∀ s, s ∈ ss → s.size ≤ 40) : ∀ x, x ∈ ss.map (fun s => (s.size : Int)) → I64 x := by
  intro x hx
  obtain ⟨s, hs, rfl⟩ := List.mem_map.1 hx
  have := h s hs
  exact ⟨by omega, by omega⟩

theorem lengthLoop (hk : 3000 ≤ k) (vs : List TVal) (hvs : vs.length ≤ 2000) (hs : ∀ v, v ∈ vs → v.2.1.size ≤ 40) : ∀ (post pre : List TVal) (n : Nat) (o : List Int), vs = pre ++ post → post.length < n → o.length ≤ 40 * pre.length →
    impl_LengthPack.l6 k n vs (vs.length : Int) (pre.length : Int) (pre.map fun v => (v.2.1.size : Int)) o = some (((), true), dPack (vs.map fun v => (v.2.1.size : Int)) ++ (o ++ (post.map fun v => strInts v.2.1).flatten)) := by
  intro post
  induction post with
  | nil =>
    intro pre n o hl' hn ho
    obtain ⟨n, rfl⟩ : ∃ m, n = m + 1 := ⟨n - 1, by omega⟩
    have : vs = pre := by simpa using hl'
    subst this
    have hd := (deltaPack_eq k hk (vs.map fun v => (v.2.1.size : Int)) (fun x hx => by
      obtain ⟨s, h', rfl⟩ := List.mem_map.1 hx
      have := hs s h'
      exact ⟨by omega, by omega⟩) (by rw [List.length_map]; exact hvs)).1
    have hl := dPack_len (vs.map fun v => (v.2.1.size : Int))
    simp only [impl_LengthPack.l6, decide_eq_false (show ¬ (vs.length : Int) < (vs.length : Int) by omega), cond_false, hd, Option.bind_some, Bool.not_true]
    rw [lim_ok (by omega), cond_true]
    simp
  | cons x post ih =>
    intro pre n o hl' hn ho
    simp only [List.length_cons] at hn
    obtain ⟨n, rfl⟩ : ∃ m, n = m + 1 := ⟨n - 1, by omega⟩
    have hlen : vs.length = pre.length + (post.length + 1) := by rw [hl']; simp
    have hg : rdL vs (pre.length : Int) = some x := by rw [hl']; exact getMid _ _ _
    have hx := hs x (by rw [hl']; simp)
    have hi := ih (pre ++ [x]) n (o ++ strInts x.2.1) (by rw [hl']; simp) (by omega) (by simp [strInts_length]; omega)
    rw [List.length_append, List.length_singleton, List.map_append, List.map_singleton] at hi
    simp only [impl_LengthPack.l6, decide_eq_true (show (pre.length : Int) < (vs.length : Int) by omega), cond_true, hg, Option.bind_some]
    rw [lim_ok (by simp; omega), cond_true, lim_ok (by rw [strInts_length]; omega), cond_true, w64 (by omega) (by omega), show ((pre.length : Int) + 1) = ((pre.length + 1 : Nat) : Int) by omega, hi]
    simp

theorem vsOk_text {vs : List TVal} (h : vsOk 6 vs = true) : vs.length ≤ 2000 ∧ ∀ v, v ∈ vs → v.1 = 0 ∧ v.2.1.size ≤ 40 := by
  unfold vsOk at h
  simp only [Bool.and_eq_true, decide_eq_true_eq, List.all_eq_true] at h
  obtain ⟨h1, h2, _⟩ := h
  refine ⟨by omega, fun v hv => ?_⟩
  have := h1 v hv
  unfold vok at this
  rw [if_neg (by decide), if_neg (by decide), if_neg (by decide), if_pos rfl] at this
  simp only [Bool.and_eq_true, beq_iff_eq, decide_eq_true_eq] at this
  omega

theorem lengthPack_eq (hk : 3000 ≤ k) (vs : List TVal) (hl : vs.length < 1000000000) (hlk : vs.length < k) :
    impl_LengthPack k vs = if vsOk 6 vs then some (((), true), lenB (vs.map fun v => v.2.1)) else some (((), false), []) := by
  unfold impl_LengthPack
  rw [(vsOk_eq k 6 vs hl hlk).1]
  simp only [Option.bind_some]
  by_cases h : vsOk 6 vs = true
  · obtain ⟨h1, h2⟩ := vsOk_text h
    have := lengthLoop k hk vs h1 (fun v hv => (h2 v hv).2) vs [] k [] rfl hlk (by simp)
    rw [if_pos h, h, Bool.not_true, cond_false]
    simp only [List.length_nil, List.map_nil] at this
    have this : impl_LengthPack.l6 k k vs (vs.length : Int) 0 [] [] = _ := this
    rw [this]
    simp [lenB, Function.comp_def]
  · rw [if_neg h, Bool.eq_false_iff.2 h, Bool.not_false, cond_true]
end Go.Law
