/- Numbers by their differences: both write the same. -/
import Derived.Test.YtmdmkakkodeniaaLawDeltaPack
set_option linter.unusedVariables false
set_option linter.unusedSimpArgs false
namespace Go.Law
open Go.Am Go.Fn
variable (k : Nat)

/-! ### the reference's block -/
theorem l1Max_eq (a b : Int) : spec_l1Max k a b = some (if a > b then a else b) := by
  unfold spec_l1Max
  by_cases h : a > b
  · rw [decide_eq_true h, cond_true, if_pos h]
  · rw [decide_eq_false h, cond_false, if_neg h]

theorem l1Min_eq (a b : Int) : spec_l1Min k a b = some (if a < b then a else b) := by
  unfold spec_l1Min
  by_cases h : a < b
  · rw [decide_eq_true h, cond_true, if_pos h]
  · rw [decide_eq_false h, cond_false, if_neg h]

theorem pad_loop (L9 : (List Int) → Int → Int → Int → (List Int) → (List Int) → Option (Unit × (List Int))) (ds : List Int) (m : Int) (j w : Nat) (hw : w ≤ 64) (hk : 100 ≤ k) (o100 o101 : List Int) (h1 : o101.length ≤ 1000000) :
    ∀ (c n : Nat) (vs : List Int), vs.length + c = 32 → c < n → spec_l9Block.l20 k L9 n ds m 32 (j : Int) (w : Int) o100 o101 vs = L9 ds m 32 (IntKind.wrap .i64 ((j : Int) + 1)) o100 (o101 ++ packB w (vs ++ List.replicate c 0)) := by
  intro c
  induction c with
  | zero =>
    intro n vs hv hn
    obtain ⟨n, rfl⟩ : ∃ x, n = x + 1 := ⟨n - 1, by omega⟩
    have hl : (packB w vs).length ≤ 256 := by rw [packB_len, show vs.length = 32 by omega, bytes32 hw]; omega
    simp only [spec_l9Block.l20, decide_eq_false (show ¬ (vs.length : Int) < 32 by omega), cond_false]
    rw [l9Bits_eq k vs w hw (by omega) (by omega) (by omega)]
    simp only [Option.bind_some]
    rw [lim_ok (by omega), cond_true]
    simp [spec_l9Block.c10]
  | succ c ih =>
    intro n vs hv hn
    obtain ⟨n, rfl⟩ : ∃ x, n = x + 1 := ⟨n - 1, by omega⟩
    simp only [spec_l9Block.l20, decide_eq_true (show (vs.length : Int) < 32 by omega), cond_true]
    rw [lim_ok (by simp; omega), cond_true, ih n (vs ++ [0]) (by simp; omega) (by omega)]
    simp [List.replicate_succ]

theorem smini_loop (hk : 100 ≤ k) (L9 : (List Int) → Int → Int → Int → (List Int) → (List Int) → Option (Unit × (List Int))) (ds : List Int) (hds : ds.length ≤ 128) (m : Int) (j : Nat) (hj : j < 4) (o100 o101 : List Int) (h0 : o100.length ≤ 1000000) (h1 : o101.length ≤ 1000000) :
    ∀ (post done : List Int) (n : Nat), (ds.drop (32 * j)).take 32 = done ++ post → post.length < n →
      spec_l9Block.l14 k L9 n ds m 32 (j : Int) (mw (mv m done) : Int) ((32 * j + done.length : Nat) : Int) o100 o101 (mv m done) =
        L9 ds m 32 ((j + 1 : Nat) : Int) (o100 ++ [(mw (mv m (done ++ post)) : Int)]) (o101 ++ mb (mv m (done ++ post))) := by
  intro post
  have hw1 : IntKind.wrap .i64 (((j + 1 : Nat) : Int) * 32) = ((32 * (j + 1) : Nat) : Int) := by
    rw [w64 (by omega) (by omega)]; omega
  have hw2 : IntKind.wrap .i64 ((j : Int) + 1) = ((j + 1 : Nat) : Int) := by rw [w64 (by omega) (by omega)]; omega
  induction post with
  | nil =>
    intro done n hmd hn
    obtain ⟨n, rfl⟩ : ∃ x, n = x + 1 := ⟨n - 1, by omega⟩
    simp only [List.append_nil] at hmd ⊢
    have hlen := congrArg List.length hmd
    rw [List.length_take, List.length_drop] at hlen
    have hb : (cond (decide (((32 * j + done.length : Nat) : Int) < ((32 * (j + 1) : Nat) : Int))) (some (decide (((32 * j + done.length : Nat) : Int) < (ds.length : Int)))) (some false) : Option Bool) = some false := by
      rw [csf]
      congr 1
      rw [Bool.eq_false_iff]
      intro h
      simp only [Bool.and_eq_true, decide_eq_true_eq] at h
      omega
    have hwl := mw_le (mv m done)
    have hml : (mv m done).length = done.length := by simp [mv]
    simp only [spec_l9Block.l14, hw2, hw1, hb, Option.bind_some, cond_false, spec_l9Block.c10]
    rw [lim_ok (by simp; omega), cond_true, w8 (by omega) (by omega)]
    by_cases hd : done = []
    · subst hd
      rw [beqT (by simp [mv]), cond_true]
      simp [mb, mv]
    · have hpos : 0 < done.length := List.length_pos_iff.2 hd
      rw [beqF (show ¬ ((mv m done).length : Int) = 0 by rw [hml]; omega), cond_false]
      rw [pad_loop k L9 ds m j _ hwl hk _ o101 h1 (32 - done.length) k (mv m done) (by rw [hml]; omega) (by omega), hw2]
      unfold mb padV
      rw [if_neg (fun h => by rw [h] at hml; simp at hml; omega), hml]
  | cons x post ih =>
    intro done n hmd hn
    simp only [List.length_cons] at hn
    obtain ⟨n, rfl⟩ : ∃ x, n = x + 1 := ⟨n - 1, by omega⟩
    have hlen := congrArg List.length hmd
    rw [List.length_take, List.length_drop, List.length_append, List.length_cons] at hlen
    have hb : (cond (decide (((32 * j + done.length : Nat) : Int) < ((32 * (j + 1) : Nat) : Int))) (some (decide (((32 * j + done.length : Nat) : Int) < (ds.length : Int)))) (some false) : Option Bool) = some true := by
      rw [csf]
      congr 1
      simp only [Bool.and_eq_true, decide_eq_true_eq]
      omega
    have hml : (mv m done).length = done.length := by simp [mv]
    have hg : rdL ds ((32 * j + done.length : Nat) : Int) = some x := by
      rw [rdL_nat]
      have : ((ds.drop (32 * j)).take 32)[done.length]? = some x := by rw [hmd, List.getElem?_append_right (Nat.le_refl _)]; simp
      rw [List.getElem?_take, if_pos (by omega), List.getElem?_drop] at this
      exact this
    have hi := ih (done ++ [x]) n (by rw [hmd]; simp) (by omega)
    have hmv : mv m (done ++ [x]) = mv m done ++ [IntKind.wrap .i64 (x - m)] := by simp [mv]
    rw [hmv, mw_snoc, List.length_append, List.length_singleton] at hi
    have hmax : (if (mw (mv m done) : Int) > (blen (u64 (IntKind.wrap .i64 (x - m))) : Int) then (mw (mv m done) : Int) else (blen (u64 (IntKind.wrap .i64 (x - m))) : Int)) = ((max (mw (mv m done)) (blen (u64 (IntKind.wrap .i64 (x - m)))) : Nat) : Int) := by
      split <;> omega
    simp only [spec_l9Block.l14, hw2, hw1, hb, Option.bind_some, cond_true, hg, l9Width_eq k hk (IntKind.wrap .i64 (x - m)) ⟨w64_lo _, w64_hi _⟩, l1Max_eq, hmax]
    rw [lim_ok (by simp; omega), cond_true, w64 (x := ((32 * j + done.length : Nat) : Int) + 1) (by omega) (by omega)]
    rw [List.append_assoc] at hi
    exact hi

theorem sblock_loop (hk : 100 ≤ k) (ds : List Int) (hds : ds.length ≤ 128) (m : Int) (hm : I64 m) : ∀ (c j n : Nat) (o100 o101 : List Int), j + c = 4 → c < n → o100.length ≤ 1000 - 100 * c → o101.length ≤ 3000 - 300 * c →
    spec_l9Block.l9 k n ds m 32 (j : Int) o100 o101 = some ((), (uv (zig m) ++ (o100 ++ heads m (minis c (ds.drop (32 * j))))) ++ (o101 ++ body m (minis c (ds.drop (32 * j))))) := by
  intro c
  induction c with
  | zero =>
    intro j n o100 o101 hj hn h0 h1
    obtain ⟨n, rfl⟩ : ∃ x, n = x + 1 := ⟨n - 1, by omega⟩
    have hu := uv_len (zig m)
    simp only [spec_l9Block.l9, decide_eq_false (show ¬ (j : Int) < 4 by omega), cond_false, szigPut k hk m hm, Option.bind_some]
    rw [lim_ok (by omega), cond_true, lim_ok (by simp; omega), cond_true]
    simp [heads, body, minis]
  | succ c ih =>
    intro j n o100 o101 hj hn h0 h1
    obtain ⟨n, rfl⟩ : ∃ x, n = x + 1 := ⟨n - 1, by omega⟩
    have hm := smini_loop k hk (spec_l9Block.l9 k n) ds hds m j (by omega) o100 o101 (by omega) (by omega) ((ds.drop (32 * j)).take 32) [] k rfl (by rw [List.length_take]; omega)
    have hw : IntKind.wrap .i64 ((j : Int) * 32) = ((32 * j + 0 : Nat) : Int) := by rw [w64 (by omega) (by omega)]; omega
    simp only [spec_l9Block.l9, decide_eq_true (show (j : Int) < 4 by omega), cond_true, hw]
    simp only [List.length_nil, List.nil_append] at hm
    have hm : spec_l9Block.l14 k (spec_l9Block.l9 k n) k ds m 32 (j : Int) 0 ((32 * j + 0 : Nat) : Int) o100 o101 [] = _ := hm
    rw [hm]
    have hl := mb_len_le (vs := mv m ((ds.drop (32 * j)).take 32)) (by simp [mv]; omega)
    rw [ih (j + 1) n _ _ (by omega) (by omega) (by simp; omega) (by rw [List.length_append]; omega)]
    simp only [minis, heads, body, List.map_cons, List.flatten_cons, List.drop_drop, List.append_assoc, List.singleton_append, List.cons_append]
    rfl

theorem smin_loop (l : List Int) (hl : l.length < 1000000000) : ∀ (post pre : List Int) (n : Nat) (a : Int), l = pre ++ post → post.length < n → spec_l9Block.l3 k n l a (pre.length : Int) = spec_l9Block.l9 k k l (post.foldl (fun a y => if y < a then y else a) a) 32 0 [] [] := by
  intro post
  induction post with
  | nil =>
    intro pre n a hl' hn
    obtain ⟨n, rfl⟩ : ∃ m, n = m + 1 := ⟨n - 1, by omega⟩
    have : l = pre := by simpa using hl'
    subst this
    simp only [spec_l9Block.l3, decide_eq_false (show ¬ (l.length : Int) < (l.length : Int) by omega), cond_false, List.foldl_nil]
  | cons x post ih =>
    intro pre n a hl' hn
    simp only [List.length_cons] at hn
    obtain ⟨n, rfl⟩ : ∃ m, n = m + 1 := ⟨n - 1, by omega⟩
    have hlen : l.length = pre.length + (post.length + 1) := by rw [hl']; simp
    have hg : rdL l (pre.length : Int) = some x := by rw [hl']; exact getMid _ _ _
    have hs : (if a < x then a else x) = (if x < a then x else a) := by split <;> split <;> omega
    have := ih (pre ++ [x]) n (if x < a then x else a) (by rw [hl']; simp) (by omega)
    rw [List.length_append, List.length_singleton] at this
    simp only [spec_l9Block.l3, decide_eq_true (show (pre.length : Int) < (l.length : Int) by omega), cond_true, hg, Option.bind_some, l1Min_eq, hs]
    rw [w64 (by omega) (by omega)]
    exact this

theorem l9Block_eq (hk : 1000 ≤ k) (ds : List Int) (h0 : 1 ≤ ds.length) (hds : ds.length ≤ 128) (hI : I64 (minL ds)) : spec_l9Block k ds = some ((), blockB ds) := by
  cases ds with
  | nil => simp at h0
  | cons x r =>
    unfold spec_l9Block
    have hg : rdL (x :: r) 0 = some x := rfl
    rw [hg]
    simp only [Option.bind_some]
    have h1 := smin_loop k (x :: r) (by omega) r [x] k x rfl (by simp at hds; omega)
    rw [show (([x] : List Int).length : Int) = 1 from rfl] at h1
    rw [h1]
    have h2 := sblock_loop k (by omega) (x :: r) hds (minL (x :: r)) hI 4 0 k [] [] rfl (by omega) (by simp) (by simp)
    have h2 : spec_l9Block.l9 k k (x :: r) (minL (x :: r)) 32 0 [] [] = _ := h2
    have h3 : minL (x :: r) = r.foldl (fun a y => if y < a then y else a) x := rfl
    rw [h3] at h2
    rw [h2]
    simp [blockB, h3]

/-! ### all blocks -/
def blocksB : Nat → List Int → List Int
  | 0, _ => []
  | f + 1, ds => if ds = [] then [] else blockB (ds.take 128) ++ blocksB f (ds.drop 128)

def dif : Int → List Int → List Int
  | _, [] => []
  | l, x :: r => IntKind.wrap .i64 (x - l) :: dif x r

theorem dif_len : ∀ (l : Int) (r : List Int), (dif l r).length = r.length
  | _, [] => rfl
  | l, x :: r => by simp [dif, dif_len x r]

theorem dif_I64 : ∀ (l : Int) (r : List Int), ∀ d, d ∈ dif l r → I64 d
  | _, [], d, h => (List.not_mem_nil h).elim
  | l, x :: r, d, h => by
    rcases List.mem_cons.1 h with rfl | h
    · exact ⟨w64_lo _, w64_hi _⟩
    · exact dif_I64 x r d h

theorem minL_mem : ∀ (r : List Int) (x : Int), r.foldl (fun a y => if y < a then y else a) x = x ∨ r.foldl (fun a y => if y < a then y else a) x ∈ r
  | [], x => Or.inl rfl
  | y :: r, x => by
    simp only [List.foldl_cons]
    rcases minL_mem r (if y < x then y else x) with h | h
    · by_cases c : y < x
      · rw [if_pos c] at h ⊢
        exact Or.inr (by rw [h]; exact List.mem_cons_self ..)
      · rw [if_neg c] at h ⊢
        exact Or.inl h
    · exact Or.inr (List.mem_cons_of_mem _ h)

theorem minL_I64 {ds : List Int} (h : ∀ d, d ∈ ds → I64 d) : I64 (minL ds) := by
  cases ds with
  | nil => exact ⟨by decide, by decide⟩
  | cons x r =>
    rcases minL_mem r x with e | e
    · show I64 (r.foldl _ x)
      rw [e]; exact h x (List.mem_cons_self ..)
    · exact h _ (List.mem_cons_of_mem _ e)

theorem heads_len (m : Int) : ∀ (c : Nat) (ds : List Int), (heads m (minis c ds)).length = c
  | 0, _ => rfl
  | c + 1, ds => by
    have := heads_len m c (ds.drop 32)
    simp [heads, minis] at this ⊢
    omega

theorem body_len (m : Int) : ∀ (c : Nat) (ds : List Int), (body m (minis c ds)).length ≤ 256 * c
  | 0, _ => by simp [body, minis]
  | c + 1, ds => by
    have h1 := body_len m c (ds.drop 32)
    have h2 := mb_len_le (vs := mv m (ds.take 32)) (by simp [mv]; omega)
    unfold body at h1 ⊢
    simp only [minis, List.map_cons, List.flatten_cons, List.length_append]
    omega

theorem blockB_len (ds : List Int) : (blockB ds).length ≤ 1038 := by
  have h1 := uv_len (zig (minL ds))
  have h2 := heads_len (minL ds) 4 ds
  have h3 := body_len (minL ds) 4 ds
  unfold blockB
  simp only [List.length_append]
  omega

theorem blocksB_len : ∀ (f : Nat) (ds : List Int), (blocksB f ds).length ≤ 1038 * f
  | 0, _ => by simp [blocksB]
  | f + 1, ds => by
    have h1 := blocksB_len f (ds.drop 128)
    have h2 := blockB_len (ds.take 128)
    unfold blocksB
    split
    · simp
    · rw [List.length_append]; omega

theorem packLoop (hk : 1000 ≤ k) : ∀ (f n : Nat) (ds o : List Int), ds.length ≤ 128 * f → f < n → (∀ d, d ∈ ds → I64 d) → o.length + 1038 * f ≤ 1000000 → impl_DeltaPack.l10 k n ds o = some (((), true), o ++ blocksB f ds) := by
  intro f
  induction f with
  | zero =>
    intro n ds o hd hn _ _
    obtain ⟨n, rfl⟩ : ∃ m, n = m + 1 := ⟨n - 1, by omega⟩
    simp only [impl_DeltaPack.l10, decide_eq_false (show ¬ (ds.length : Int) > 0 by omega), cond_false]
    simp [blocksB]
  | succ f ih =>
    intro n ds o hd hn hI ho
    obtain ⟨n, rfl⟩ : ∃ m, n = m + 1 := ⟨n - 1, by omega⟩
    by_cases h0 : ds = []
    · subst h0
      simp only [impl_DeltaPack.l10, decide_eq_false (show ¬ ((([] : List Int).length : Int) > 0) by simp), cond_false]
      simp [blocksB]
    · have hpos : 0 < ds.length := List.length_pos_iff.2 h0
      have hn8 : (if (ds.length : Int) < 128 then (ds.length : Int) else 128) = ((min 128 ds.length : Nat) : Int) := by split <;> omega
      have hc1 : cutL ds 0 ((min 128 ds.length : Nat) : Int) = ds.take 128 := by
        unfold cutL
        rw [Int.toNat_natCast]
        simp only [Int.toNat_zero, List.drop_zero]
        rcases Nat.le_total 128 ds.length with h | h
        · rw [Nat.min_eq_left h]
        · rw [Nat.min_eq_right h, List.take_length, List.take_of_length_le h]
      have hc2 : cutL ds ((min 128 ds.length : Nat) : Int) (ds.length : Int) = ds.drop 128 := by
        unfold cutL
        rw [Int.toNat_natCast, Int.toNat_natCast, List.take_length]
        rcases Nat.le_total 128 ds.length with h | h
        · rw [Nat.min_eq_left h]
        · rw [Nat.min_eq_right h, List.drop_length, List.drop_of_length_le h]
      have hb := blockB_len (ds.take 128)
      simp only [impl_DeltaPack.l10, decide_eq_true (show (ds.length : Int) > 0 by omega), cond_true, hn8, hc1, hc2]
      rw [inSl_ok (by omega) (by omega) (by omega), cond_true, blockOf_eq k hk _ (by rw [List.length_take]; omega) (by rw [List.length_take]; omega) (minL_I64 fun d hd => hI d (List.mem_of_mem_take hd))]
      simp only [Option.bind_some]
      rw [lim_ok (by omega), cond_true, inSl_ok (by omega) (by omega) (by omega), cond_true, ih n _ _ (by rw [List.length_drop]; omega) (by omega) (fun d hd => hI d (List.mem_of_mem_drop hd)) (by rw [List.length_append]; omega)]
      simp [blocksB, h0]

theorem spackLoop (hk : 1000 ≤ k) (ds : List Int) (hds : ds.length ≤ 2000) (hI : ∀ d, d ∈ ds → I64 d) : ∀ (f n p : Nat) (o : List Int), (ds.drop p).length ≤ 128 * f → f < n → p ≤ 3000 → o.length + 1038 * f ≤ 1000000 → spec_DeltaPack.l11 k n (p : Int) o ds = some (((), true), o ++ blocksB f (ds.drop p)) := by
  intro f
  induction f with
  | zero =>
    intro n p o hd hn hp ho
    obtain ⟨n, rfl⟩ : ∃ m, n = m + 1 := ⟨n - 1, by omega⟩
    rw [List.length_drop] at hd
    simp only [spec_DeltaPack.l11, decide_eq_false (show ¬ (p : Int) < (ds.length : Int) by omega), cond_false]
    simp [blocksB]
  | succ f ih =>
    intro n p o hd hn hp ho
    obtain ⟨n, rfl⟩ : ∃ m, n = m + 1 := ⟨n - 1, by omega⟩
    rw [List.length_drop] at hd
    by_cases h0 : ds.length ≤ p
    · simp only [spec_DeltaPack.l11, decide_eq_false (show ¬ (p : Int) < (ds.length : Int) by omega), cond_false]
      rw [List.drop_of_length_le h0]
      simp [blocksB]
    · have hw : IntKind.wrap .i64 ((p : Int) + 128) = ((p + 128 : Nat) : Int) := by rw [w64 (by omega) (by omega)]; omega
      have hmn : (if ((p + 128 : Nat) : Int) < (ds.length : Int) then ((p + 128 : Nat) : Int) else (ds.length : Int)) = ((min (p + 128) ds.length : Nat) : Int) := by split <;> omega
      have hc1 : cutL ds (p : Int) ((min (p + 128) ds.length : Nat) : Int) = (ds.drop p).take 128 := by
        unfold cutL
        rw [Int.toNat_natCast, Int.toNat_natCast, List.drop_take]
        rcases Nat.le_total (p + 128) ds.length with h | h
        · rw [Nat.min_eq_left h]; congr 1; omega
        · rw [Nat.min_eq_right h, List.take_of_length_le (by rw [List.length_drop]; omega), List.take_of_length_le (by rw [List.length_drop]; omega)]
      have hne : ds.drop p ≠ [] := fun e => by
        have := congrArg List.length e
        rw [List.length_drop] at this
        simp at this; omega
      have hb := blockB_len ((ds.drop p).take 128)
      simp only [spec_DeltaPack.l11, decide_eq_true (show (p : Int) < (ds.length : Int) by omega), cond_true, hw, l1Min_eq, hmn, Option.bind_some, hc1]
      rw [inSl_ok (by omega) (by omega) (by omega), cond_true, l9Block_eq k hk _ (by rw [List.length_take, List.length_drop]; omega) (by rw [List.length_take]; omega) (minL_I64 fun d hd => hI d (List.mem_of_mem_drop (List.mem_of_mem_take hd)))]
      simp only [Option.bind_some]
      rw [lim_ok (by omega), cond_true, ih n (p + 128) _ (by rw [List.length_drop]; omega) (by omega) (by omega) (by rw [List.length_append]; omega)]
      simp [blocksB, hne]

/-! ### differences -/
theorem diff_loop (l : List Int) (hl : l.length ≤ 100000) : ∀ (post pre : List Int) (y : Int) (n : Nat) (o : List Int), l = pre ++ y :: post → post.length < n → o.length ≤ pre.length →
    impl_Differences.l3 k n l ((pre.length + 1 : Nat) : Int) o = some ((), o ++ dif y post) ∧ spec_Differences.l3 k n l ((pre.length + 1 : Nat) : Int) o = some ((), o ++ dif y post) := by
  intro post
  induction post with
  | nil =>
    intro pre y n o hl' hn ho
    obtain ⟨n, rfl⟩ : ∃ m, n = m + 1 := ⟨n - 1, by omega⟩
    have hlen : l.length = pre.length + 1 := by rw [hl']; simp
    simp only [impl_Differences.l3, spec_Differences.l3, decide_eq_false (show ¬ ((pre.length + 1 : Nat) : Int) < (l.length : Int) by omega), cond_false]
    simp [dif]
  | cons x post ih =>
    intro pre y n o hl' hn ho
    simp only [List.length_cons] at hn
    obtain ⟨n, rfl⟩ : ∃ m, n = m + 1 := ⟨n - 1, by omega⟩
    have hlen : l.length = pre.length + 1 + (post.length + 1) := by rw [hl']; simp; omega
    have hg1 : rdL l (pre.length : Int) = some y := by rw [hl']; exact getMid _ _ _
    have hg2 : rdL l ((pre.length + 1 : Nat) : Int) = some x := by
      have := getMid (pre ++ [y]) post x
      rw [List.length_append, List.length_singleton] at this
      rw [hl', midSnoc]
      exact this
    have hw1 : IntKind.wrap .i64 (((pre.length + 1 : Nat) : Int) - 1) = (pre.length : Int) := by rw [w64 (by omega) (by omega)]; omega
    have hw2 : IntKind.wrap .i64 (((pre.length + 1 : Nat) : Int) + 1) = ((pre.length + 1 + 1 : Nat) : Int) := by rw [w64 (by omega) (by omega)]; omega
    have hi := ih (pre ++ [y]) x n (o ++ [IntKind.wrap .i64 (x - y)]) (by rw [hl']; simp) (by omega) (by simp; omega)
    rw [List.length_append, List.length_singleton] at hi
    simp only [impl_Differences.l3, spec_Differences.l3, impl_Differences.d5, spec_Differences.d5, decide_eq_true (show ((pre.length + 1 : Nat) : Int) < (l.length : Int) by omega), cond_true, hg1, hg2, hw1, hw2, Option.bind_some]
    rw [lim_ok (by simp; omega), cond_true, cond_true, hi.1, hi.2]
    simp [dif]

def difs : List Int → List Int
  | [] => []
  | x :: r => dif x r

theorem difs_eq (l : List Int) (hl : l.length ≤ 100000) (hk : l.length < k) : impl_Differences k l = some ((), difs l) ∧ spec_Differences k l = some ((), difs l) := by
  unfold impl_Differences spec_Differences
  cases l with
  | nil =>
    obtain ⟨n, rfl⟩ : ∃ m, k = m + 1 := ⟨k - 1, by omega⟩
    exact ⟨rfl, rfl⟩
  | cons x r =>
    have := diff_loop k (x :: r) hl r [] x k [] rfl (by simp at hk; omega) (by simp)
    exact this

/-! ### the whole -/
def dPack (xs : List Int) : List Int := (((uv 128 ++ uv 4) ++ uv (xs.length : Int)) ++ uv (zig (xs.headD 0))) ++ blocksB 16 (difs xs)

theorem difs_len (xs : List Int) : (difs xs).length ≤ xs.length := by
  cases xs with
  | nil => exact Nat.le_refl _
  | cons x r => simp [difs, dif_len]

theorem difs_I64 (xs : List Int) : ∀ d, d ∈ difs xs → I64 d := by
  cases xs with
  | nil => intro d hd; cases hd
  | cons x r => exact dif_I64 x r

theorem deltaPack_eq (hk : 3000 ≤ k) (xs : List Int) (hI : ∀ x, x ∈ xs → I64 x) (hl : xs.length ≤ 2000) : impl_DeltaPack k xs = some (((), true), dPack xs) ∧ spec_DeltaPack k xs = some (((), true), dPack xs) := by
  have key : ∀ x0 : Int, I64 x0 → xs.headD 0 = x0 → impl_DeltaPack.c6 k xs x0 = some (((), true), dPack xs) ∧ spec_DeltaPack.c6 k xs x0 = some (((), true), dPack xs) := by
    intro x0 h0 he
    have u1 := uv_len 128
    have u2 := uv_len 4
    have u3 := uv_len (xs.length : Int)
    have u4 := uv_len (zig x0)
    have hdl := difs_len xs
    obtain ⟨d1, d2⟩ := difs_eq k xs (by omega) (by omega)
    unfold impl_DeltaPack.c6 spec_DeltaPack.c6
    simp only [uvarPut k (by omega), suvarPut k (by omega) 128 ⟨by decide, by decide⟩, suvarPut k (by omega) 4 ⟨by decide, by decide⟩, suvarPut k (by omega) (xs.length : Int) ⟨by omega, by omega⟩, zigPut k (by omega) x0 h0.1 h0.2, szigPut k (by omega) x0 h0, Option.bind_some, d1, d2]
    rw [lim_ok (by omega), cond_true, cond_true, lim_ok (by simp; omega), cond_true, cond_true, lim_ok (by simp; omega), cond_true, cond_true]
    have p1 := packLoop k (by omega) 16 k (difs xs) (((uv 128 ++ uv 4) ++ uv (xs.length : Int)) ++ uv (zig x0)) (by omega) (by omega) (difs_I64 xs) (by simp; omega)
    have p2 := spackLoop k (by omega) (difs xs) (by omega) (difs_I64 xs) 16 k 0 (((uv 128 ++ uv 4) ++ uv (xs.length : Int)) ++ uv (zig x0)) (by simp; omega) (by omega) (by omega) (by simp; omega)
    rw [show ((0 : Nat) : Int) = 0 from rfl, List.drop_zero] at p2
    rw [p1, p2]
    unfold dPack
    rw [he]
    exact ⟨rfl, rfl⟩
  unfold impl_DeltaPack spec_DeltaPack
  rw [decide_eq_false (show ¬ (xs.length : Int) > 2000 by omega), cond_false, cond_false]
  cases xs with
  | nil => exact key 0 ⟨by decide, by decide⟩ rfl
  | cons x r =>
    have hg : rdL (x :: r) 0 = some x := rfl
    rw [decide_eq_true (show (((x :: r).length : Int) > 0) by simp), cond_true, cond_true, hg]
    exact key x (hI x (List.mem_cons_self ..)) rfl
end Go.Law
