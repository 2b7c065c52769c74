/- Numbers by their differences: what is written, by both. -/
import Derived.Test.YtmdmkakkodeniaaLawDelta
import Derived.Test.YtmdmkakkodeniaaLawBase
set_option linter.unusedVariables false
set_option linter.unusedSimpArgs false
namespace Go.Law
open Go.Am Go.Fn
variable (k : Nat)

/-! ### the reference's varints -/
theorem down7 (v : Int) : spec_l2Down k v 7 = some ((u64 v / 128 : Nat) : Int) := by
  unfold spec_l2Down
  rw [beqF (by decide), cond_false, decide_eq_true (by decide), cond_true, show IntKind.wrap .i64 (64 - 7) = 57 by decide, decide_eq_true (by decide), cond_true]
  have h1 : shrI .i64 v 7 = v / 128 := shrI_eq .i64 v 7 (by decide)
  have h2 : IntKind.wrap .i64 (shlI .i64 1 57 - 1) = 2 ^ 57 - 1 := by decide
  rw [h1, h2, and_mask_i64 _ 57 (by decide)]
  congr 1
  have := u64_cast v
  omega

theorem put2 : ∀ (f n : Nat) (v : Int) (acc : List Int), I64 v → u64 v < 128 ^ (f + 1) → f < n → acc.length + f ≤ 4294967000 → spec_UvarPut.l2 k n v acc = some ((), acc ++ uvB f (u64 v)) := by
  intro f
  induction f with
  | zero =>
    intro n v acc hv h hn hl
    obtain ⟨n, rfl⟩ : ∃ m, n = m + 1 := ⟨n - 1, by omega⟩
    have h : u64 v < 128 := by simpa using h
    have hc := u64_cast v
    obtain ⟨v0, v1⟩ := hv
    simp only [spec_UvarPut.l2, down7, Option.bind_some]
    rw [bneF (by omega), cond_false, lim_ok (by simp; omega), cond_true, w8 (by omega) (by omega)]
    have hvu : (u64 v : Int) = v := by omega
    simp only [uvB, hvu]
  | succ f ih =>
    intro n v acc hv h hn hl
    obtain ⟨n, rfl⟩ : ∃ m, n = m + 1 := ⟨n - 1, by omega⟩
    have hc := u64_cast v
    have hlt := u64_lt v
    obtain ⟨v0, v1⟩ := hv
    simp only [spec_UvarPut.l2, down7, Option.bind_some]
    by_cases ht : 127 < u64 v
    · have ha : bits .and .i64 v 127 = v % 128 := and_mask_i64 v 7 (by decide)
      have h' : u64 v / 128 < 128 ^ (f + 1) := by rw [Nat.pow_succ] at h; exact Nat.div_lt_of_lt_mul (by rw [Nat.mul_comm]; exact h)
      have hu6 : u64 ((u64 v / 128 : Nat) : Int) = u64 v / 128 := by have := u64_small (v := ((u64 v / 128 : Nat) : Int)) (by omega) (by omega); omega
      have hi := ih n ((u64 v / 128 : Nat) : Int) (acc ++ [((u64 v % 128 + 128 : Nat) : Int)]) ⟨by omega, by omega⟩ (by rw [hu6]; exact h') (by omega) (by simp; omega)
      rw [hu6] at hi
      have hb : IntKind.wrap .u8 (IntKind.wrap .i64 (bits .and .i64 v 127 + 128)) = ((u64 v % 128 + 128 : Nat) : Int) := by
        rw [ha, w64 (by omega) (by omega), w8 (by omega) (by omega)]; omega
      rw [hb, bneT (by omega), cond_true, lim_ok (by simp; omega), cond_true, hi]
      simp only [uvB, if_pos ht, List.append_assoc]
      rfl
    · rw [bneF (by omega), cond_false, lim_ok (by simp; omega), cond_true, w8 (by omega) (by omega)]
      simp only [uvB, if_neg ht]
      congr 4
      omega

theorem suvarPut (hk : 100 ≤ k) (x : Int) (hx : I64 x) : spec_UvarPut k x = some ((), uv x) := by
  unfold spec_UvarPut
  have := put2 k 9 k x [] hx (by have := u64_lt x; omega) (by omega) (by simp)
  rw [this]
  rfl

theorem szigPut (hk : 100 ≤ k) (x : Int) (hx : I64 x) : spec_ZigPut k x = some ((), uv (zig x)) := by
  have hz : spec_Zig k x = some (zig x) := by
    unfold spec_Zig zig
    have e : shlI .i64 x 1 = IntKind.wrap .i64 (x * 2) := by
      unfold shlI
      simp [IntKind.bits]
    rw [e]
    by_cases h : x < 0
    · rw [decide_eq_true h, cond_true, if_neg (by omega)]
      congr 1
      have hc : ∀ a b : Int, bits .xor .i64 a b = bits .xor .i64 b a := fun a b => by simp only [bits, BitVec.xor_comm]
      rw [hc, xor_ones _ (w64_lo _) (w64_hi _)]
    · rw [decide_eq_false h, cond_false, if_pos (by omega)]
  unfold spec_ZigPut
  rw [hz]
  simp only [Option.bind_some, suvarPut k hk _ (show I64 (zig x) from zig_range x)]

/-! ### a block -/
def minL : List Int → Int
  | [] => 0
  | x :: r => r.foldl (fun a y => if y < a then y else a) x

theorem min_loop (l : List Int) (hl : l.length < 1000000000) : ∀ (post pre : List Int) (n : Nat) (a : Int), l = pre ++ post → post.length < n → slices_Min_int_int.l5 k n l a (pre.length : Int) = some (post.foldl (fun a y => if y < a then y else a) a) := by
  intro post
  induction post with
  | nil =>
    intro pre n a hl' hn
    obtain ⟨n, rfl⟩ : ∃ m, n = m + 1 := ⟨n - 1, by omega⟩
    have : l = pre := by simpa using hl'
    subst this
    simp only [slices_Min_int_int.l5, decide_eq_false (show ¬ (l.length : Int) < (l.length : Int) by omega), cond_false, List.foldl_nil]
  | cons x post ih =>
    intro pre n a hl' hn
    simp only [List.length_cons] at hn
    obtain ⟨n, rfl⟩ : ∃ m, n = m + 1 := ⟨n - 1, by omega⟩
    have hlen : l.length = pre.length + (post.length + 1) := by rw [hl']; simp
    have hg : rdL l (pre.length : Int) = some x := by rw [hl']; exact getMid _ _ _
    have := ih (pre ++ [x]) n (if x < a then x else a) (by rw [hl']; simp) (by omega)
    rw [List.length_append, List.length_singleton] at this
    simp only [slices_Min_int_int.l5, decide_eq_true (show (pre.length : Int) < (l.length : Int) by omega), cond_true, hg, Option.bind_some]
    rw [w64 (by omega) (by omega)]
    exact this

theorem min_eq (hk : 1 ≤ k) (l : List Int) (h0 : 1 ≤ l.length) (hl : l.length < 1000000000) (hlk : l.length < k) : slices_Min_int_int k l = some (minL l) := by
  cases l with
  | nil => simp at h0
  | cons x r =>
    unfold slices_Min_int_int slices_Min_int_int.c3
    rw [decide_eq_false (show ¬ (((x :: r).length : Int) < 1) by omega), cond_false]
    have hg : rdL (x :: r) 0 = some x := rfl
    rw [hg]
    simp only [Option.bind_some]
    exact min_loop k (x :: r) hl r [x] k x rfl (by simp at hlk; omega)

def mv (m : Int) (md : List Int) : List Int := md.map fun d => IntKind.wrap .i64 (d - m)
def mw (vs : List Int) : Nat := vs.foldl (fun a v => max a (blen (u64 v))) 0
def padV (vs : List Int) : List Int := vs ++ List.replicate (32 - vs.length) 0
def mb (vs : List Int) : List Int := if vs = [] then [] else packB (mw vs) (padV vs)

theorem mw_snoc (vs : List Int) (v : Int) : mw (vs ++ [v]) = max (mw vs) (blen (u64 v)) := by simp [mw]

theorem mw_fold : ∀ (vs : List Int) (a : Nat), a ≤ 64 → vs.foldl (fun a v => max a (blen (u64 v))) a ≤ 64 ∧ a ≤ vs.foldl (fun a v => max a (blen (u64 v))) a ∧ ∀ v, v ∈ vs → blen (u64 v) ≤ vs.foldl (fun a v => max a (blen (u64 v))) a
  | [], a, h => ⟨h, Nat.le_refl _, fun v hv => (List.not_mem_nil hv).elim⟩
  | x :: r, a, h => by
    have hb := blen_le (u64 x)
    obtain ⟨h1, h2, h3⟩ := mw_fold r (max a (blen (u64 x))) (by omega)
    refine ⟨h1, by simp only [List.foldl_cons]; omega, fun v hv => ?_⟩
    rcases List.mem_cons.1 hv with rfl | hv
    · simp only [List.foldl_cons]; omega
    · exact h3 v hv

theorem mw_le (vs : List Int) : mw vs ≤ 64 := (mw_fold vs 0 (by omega)).1
theorem mw_lt {vs : List Int} {v : Int} (h : v ∈ vs) : u64 v < 2 ^ mw vs :=
  Nat.lt_of_lt_of_le (blen_lt (u64_lt v)) (Nat.pow_le_pow_right (by decide) ((mw_fold vs 0 (by omega)).2.2 v h))

theorem padV_len {vs : List Int} (h : vs.length ≤ 32) : (padV vs).length = 32 := by simp [padV]; omega

theorem packB_len (w : Nat) (vs : List Int) : (packB w vs).length = bytesOf vs.length w := leB_len _ _

theorem bytes32 {w : Nat} (h : w ≤ 64) : bytesOf 32 w = 4 * w := by unfold bytesOf; omega

theorem mb_len {vs : List Int} (h : vs.length ≤ 32) : (mb vs).length = if vs = [] then 0 else 4 * mw vs := by
  unfold mb
  split
  · rfl
  · rw [packB_len, padV_len h, bytes32 (mw_le vs)]

theorem mb_len_le {vs : List Int} (h : vs.length ≤ 32) : (mb vs).length ≤ 256 := by
  rw [mb_len h]
  have := mw_le vs
  split <;> omega

def minis : Nat → List Int → List (List Int)
  | 0, _ => []
  | c + 1, ds => ds.take 32 :: minis c (ds.drop 32)

def heads (m : Int) (mds : List (List Int)) : List Int := mds.map fun md => (mw (mv m md) : Int)
def body (m : Int) (mds : List (List Int)) : List Int := (mds.map fun md => mb (mv m md)).flatten

def blockB (ds : List Int) : List Int := uv (zig (minL ds)) ++ (heads (minL ds) (minis 4 ds) ++ body (minL ds) (minis 4 ds))

theorem mini_loop (hk : 100 ≤ k) (L5 : (List Int) → Int → Int → (List Int) → (List Int) → Option (Unit × (List Int))) (ds : List Int) (hds : ds.length ≤ 128) (m : Int) (j : Nat) (hj : j < 4) (o100 o101 : List Int) (h0 : o100.length ≤ 1000000) (h1 : o101.length ≤ 1000000) :
    ∀ (post done : List Int) (n : Nat), (ds.drop (32 * j)).take 32 = done ++ post → post.length < n →
      impl_blockOf.l11 k L5 n ds m (j : Int) (done.length : Int) (mw (mv m done) : Int) ((32 * j + done.length : Nat) : Int) (j : Int) o100 o101 (mv m done ++ List.replicate (32 - done.length) 0) =
        L5 ds m ((j + 1 : Nat) : Int) (o100 ++ [(mw (mv m (done ++ post)) : Int)]) (o101 ++ mb (mv m (done ++ post))) := by
  intro post
  have hw1 : IntKind.wrap .i64 (((j + 1 : Nat) : Int) * 32) = ((32 * (j + 1) : Nat) : Int) := by
    rw [w64 (by omega) (by omega)]; omega
  have hw2 : IntKind.wrap .i64 ((j : Int) + 1) = ((j + 1 : Nat) : Int) := by rw [w64 (by omega) (by omega)]; omega
  induction post with
  | nil =>
    intro done n hmd hn
    obtain ⟨n, rfl⟩ : ∃ x, n = x + 1 := ⟨n - 1, by omega⟩
    simp only [List.append_nil] at hmd ⊢
    have hlen := congrArg List.length hmd
    rw [List.length_take, List.length_drop] at hlen
    have hb : (cond (decide (((32 * j + done.length : Nat) : Int) < ((32 * (j + 1) : Nat) : Int))) (some (decide (((32 * j + done.length : Nat) : Int) < (ds.length : Int)))) (some false) : Option Bool) = some false := by
      rw [csf]
      congr 1
      rw [Bool.eq_false_iff]
      intro h
      simp only [Bool.and_eq_true, decide_eq_true_eq] at h
      omega
    have hwl := mw_le (mv m done)
    have hml : (mv m done).length = done.length := by simp [mv]
    simp only [impl_blockOf.l11, hw1, hb, Option.bind_some, cond_false, impl_blockOf.c19, hw2]
    rw [lim_ok (by simp; omega), cond_true, w8 (by omega) (by omega)]
    by_cases hd : done = []
    · subst hd
      rw [decide_eq_false (by simp), cond_false]
      simp [mb, mv]
    · have hpos : 0 < done.length := List.length_pos_iff.2 hd
      have hp : mv m done ++ List.replicate (32 - done.length) 0 = padV (mv m done) := by unfold padV; rw [hml]
      have hmb : mb (mv m done) = packB (mw (mv m done)) (padV (mv m done)) := by
        unfold mb; rw [if_neg (fun h => by rw [h] at hml; simp at hml; omega)]
      have hpl := mb_len_le (vs := mv m done) (by rw [hml]; omega)
      rw [hmb] at hpl
      rw [decide_eq_true (show ((done.length : Nat) : Int) > 0 by omega), cond_true, hp, packed_eq k _ _ hwl (by rw [padV_len (by omega)]; omega) (by rw [padV_len (by omega)]; omega) (by omega)]
      simp only [Option.bind_some]
      rw [lim_ok (by omega), cond_true, hmb]
  | cons x post ih =>
    intro done n hmd hn
    simp only [List.length_cons] at hn
    obtain ⟨n, rfl⟩ : ∃ x, n = x + 1 := ⟨n - 1, by omega⟩
    have hlen := congrArg List.length hmd
    rw [List.length_take, List.length_drop, List.length_append, List.length_cons] at hlen
    have hb : (cond (decide (((32 * j + done.length : Nat) : Int) < ((32 * (j + 1) : Nat) : Int))) (some (decide (((32 * j + done.length : Nat) : Int) < (ds.length : Int)))) (some false) : Option Bool) = some true := by
      rw [csf]
      congr 1
      simp only [Bool.and_eq_true, decide_eq_true_eq]
      omega
    have hml : (mv m done).length = done.length := by simp [mv]
    have hg : rdL ds ((32 * j + done.length : Nat) : Int) = some x := by
      rw [rdL_nat]
      have : ((ds.drop (32 * j)).take 32)[done.length]? = some x := by rw [hmd, List.getElem?_append_right (Nat.le_refl _)]; simp
      rw [List.getElem?_take, if_pos (by omega), List.getElem?_drop] at this
      exact this
    have hrep : List.replicate (32 - done.length) (0 : Int) = 0 :: List.replicate (32 - (done.length + 1)) 0 := by
      rw [← List.replicate_succ]
      congr 1
      omega
    have hi := ih (done ++ [x]) n (by rw [hmd]; simp) (by omega)
    have hmv : mv m (done ++ [x]) = mv m done ++ [IntKind.wrap .i64 (x - m)] := by simp [mv]
    rw [hmv, mw_snoc, List.length_append, List.length_singleton] at hi
    have g1 : ∀ y : Int, rdL (mv m done ++ y :: List.replicate (32 - (done.length + 1)) 0) (done.length : Int) = some y := by
      intro y
      rw [← hml]
      exact getMid _ _ _
    have g2 : List.set (mv m done ++ 0 :: List.replicate (32 - (done.length + 1)) 0) (Int.toNat (done.length : Int)) (IntKind.wrap .i64 (x - m)) = mv m done ++ IntKind.wrap .i64 (x - m) :: List.replicate (32 - (done.length + 1)) 0 := by
      have := setMid (mv m done) (List.replicate (32 - (done.length + 1)) 0) (0 : Int) (IntKind.wrap .i64 (x - m))
      rw [hml] at this
      exact this
    have hmax : (if (blen (u64 (IntKind.wrap .i64 (x - m))) : Int) > (mw (mv m done) : Int) then (blen (u64 (IntKind.wrap .i64 (x - m))) : Int) else (mw (mv m done) : Int)) = ((max (mw (mv m done)) (blen (u64 (IntKind.wrap .i64 (x - m)))) : Nat) : Int) := by
      split <;> omega
    rw [hrep]
    simp only [impl_blockOf.l11, hw2, hw1, hb, Option.bind_some, cond_true, hg, g1, g2, widthOf_eq, hmax]
    rw [w64 (x := (done.length : Int) + 1) (by omega) (by omega), w64 (x := ((32 * j + done.length : Nat) : Int) + 1) (by omega) (by omega)]
    rw [List.append_assoc, List.append_assoc] at hi
    exact hi

theorem block_loop (hk : 100 ≤ k) (ds : List Int) (hds : ds.length ≤ 128) (m : Int) : ∀ (c j n : Nat) (o100 o101 : List Int), j + c = 4 → c < n → o100.length ≤ 1000 - 100 * c → o101.length ≤ 3000 - 300 * c →
    impl_blockOf.l5 k n ds m (j : Int) o100 o101 = some ((), (o100 ++ heads m (minis c (ds.drop (32 * j)))) ++ (o101 ++ body m (minis c (ds.drop (32 * j))))) := by
  intro c
  induction c with
  | zero =>
    intro j n o100 o101 hj hn h0 h1
    obtain ⟨n, rfl⟩ : ∃ x, n = x + 1 := ⟨n - 1, by omega⟩
    simp only [impl_blockOf.l5, decide_eq_false (show ¬ (j : Int) < 4 by omega), cond_false]
    rw [lim_ok (by omega), cond_true]
    simp [heads, body, minis]
  | succ c ih =>
    intro j n o100 o101 hj hn h0 h1
    obtain ⟨n, rfl⟩ : ∃ x, n = x + 1 := ⟨n - 1, by omega⟩
    have hm := mini_loop k hk (impl_blockOf.l5 k n) ds hds m j (by omega) o100 o101 (by omega) (by omega) ((ds.drop (32 * j)).take 32) [] k rfl (by rw [List.length_take]; omega)
    have hw : IntKind.wrap .i64 ((j : Int) * 32) = ((32 * j + 0 : Nat) : Int) := by rw [w64 (by omega) (by omega)]; omega
    simp only [impl_blockOf.l5, decide_eq_true (show (j : Int) < 4 by omega), cond_true, okLen_ok (show (0 : Int) ≤ 32 by omega) (by omega), hw]
    simp only [List.length_nil, List.nil_append] at hm
    have hm : impl_blockOf.l11 k (impl_blockOf.l5 k n) k ds m (j : Int) 0 0 ((32 * j + 0 : Nat) : Int) (j : Int) o100 o101 (List.replicate (Int.toNat 32) 0) = _ := hm
    rw [hm]
    have hl := mb_len_le (vs := mv m ((ds.drop (32 * j)).take 32)) (by simp [mv]; omega)
    rw [ih (j + 1) n _ _ (by omega) (by omega) (by simp; omega) (by rw [List.length_append]; omega)]
    simp only [minis, heads, body, List.map_cons, List.flatten_cons, List.drop_drop, List.append_assoc, List.singleton_append]
    rfl

theorem blockOf_eq (hk : 1000 ≤ k) (ds : List Int) (h0 : 1 ≤ ds.length) (hds : ds.length ≤ 128) (hI : I64 (minL ds)) : impl_blockOf k ds = some ((), blockB ds) := by
  unfold impl_blockOf
  rw [min_eq k (by omega) ds h0 (by omega) (by omega)]
  simp only [Option.bind_some]
  rw [zigPut k (by omega) _ hI.1 hI.2]
  simp only [Option.bind_some]
  have hu := uv_len (zig (minL ds))
  have := block_loop k (by omega) ds hds (minL ds) 4 0 k (uv (zig (minL ds))) [] rfl (by omega) (by omega) (by simp)
  rw [show ((0 : Nat) : Int) = 0 from rfl] at this
  rw [this]
  simp [blockB]
end Go.Law
