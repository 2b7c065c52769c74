/- Numbers by their differences: what was written is read. -/
import Derived.Test.YtmdmkakkodeniaaLawDeltaAll
import Derived.Test.YtmdmkakkodeniaaLawBase
set_option linter.unusedVariables false
set_option linter.unusedSimpArgs false
namespace Go.Law
open Go.Am Go.Fn
variable (k : Nat)

abbrev dr (b : List Int) (p : Nat) : TDeltaReaderB := (b, (p : Int), false, (), ())

theorem deltaUvar (hk : 100 ≤ k) (b : List Int) (p : Nat) (x : Int) (rest : List Int) (hb : b.length < 4611686018427387904) (hd : b.drop p = uv x ++ rest) (hx : I64 x) (o : List Int) :
    impl_deltaReader_uvar k (dr b p) o = some (x, (dr b (p + (uv x).length), o)) := by
  unfold impl_deltaReader_uvar
  rw [uvarGet k hk b p x rest hb hd hx.1 hx.2]
  rfl

theorem drop_pos {b x r : List Int} {p : Nat} (h : b.drop p = x ++ r) (hx : 0 < x.length) : p + x.length ≤ b.length := by
  have := congrArg List.length h
  rw [List.length_drop, List.length_append] at this
  omega

theorem drop_next {b x r : List Int} {p : Nat} (h : b.drop p = x ++ r) : b.drop (p + x.length) = r := by
  rw [← List.drop_drop, h, List.drop_left]

theorem deltaTake (b : List Int) (p n : Nat) (h : p + n ≤ b.length) (hb : b.length < 4611686018427387904) (o : List Int) :
    impl_deltaReader_take k (n : Int) (dr b p) o = some ((p : Int), (dr b (p + n), o)) := by
  unfold impl_deltaReader_take
  have h1 : IntKind.wrap .i64 ((b.length : Int) - (p : Int)) = ((b.length - p : Nat) : Int) := by rw [w64 (by omega) (by omega)]; omega
  have h2 : IntKind.wrap .i64 ((p : Int) + (n : Int)) = ((p + n : Nat) : Int) := by rw [w64 (by omega) (by omega)]; omega
  have h3 : IntKind.wrap .i64 (((p + n : Nat) : Int) - (n : Int)) = (p : Int) := by rw [w64 (by omega) (by omega)]; omega
  simp only [cond_false, h1, h2, h3, Option.bind_some, decide_eq_false (show ¬ ((n : Int) > ((b.length - p : Nat) : Int)) by omega)]

def lst : Int → List Int → Int
  | l, [] => l
  | _, x :: r => lst x r

theorem dif_append : ∀ (l : Int) (a b : List Int), dif l (a ++ b) = dif l a ++ dif (lst l a) b
  | _, [], _ => rfl
  | l, x :: a, b => by simp [dif, lst, dif_append x a b]

theorem dif_take (l : Int) (r : List Int) (n : Nat) : (dif l r).take n = dif l (r.take n) := by
  conv => lhs; rw [← List.take_append_drop n r, dif_append]
  rcases Nat.le_total n r.length with h | h
  · rw [List.take_append_of_le_length (by rw [dif_len, List.length_take]; omega), List.take_of_length_le (by rw [dif_len, List.length_take]; omega)]
  · rw [List.drop_of_length_le h]
    simp only [dif, List.append_nil]
    rw [List.take_of_length_le (by rw [dif_len, List.length_take]; omega)]

theorem dif_drop (l : Int) (r : List Int) (n : Nat) : (dif l r).drop n = dif (lst l (r.take n)) (r.drop n) := by
  conv => lhs; rw [← List.take_append_drop n r, dif_append]
  rcases Nat.le_total n r.length with h | h
  · rw [List.drop_append_of_le_length (by rw [dif_len, List.length_take]; omega), List.drop_of_length_le (by rw [dif_len, List.length_take]; omega)]
    rfl
  · rw [List.drop_of_length_le h]
    simp only [dif, List.append_nil]
    rw [List.drop_of_length_le (by rw [dif_len, List.length_take]; omega)]

theorem last_app : ∀ (md A : List Int) (l : Int), A.getLast? = some l → (A ++ md).getLast? = some (lst l md)
  | [], A, l, h => by simpa [lst] using h
  | x :: md, A, l, h => by
    have := last_app md (A ++ [x]) x (by simp)
    simpa [lst] using this

theorem read_back {x l m : Int} (hx : I64 x) : IntKind.wrap .i64 (IntKind.wrap .i64 (l + IntKind.wrap .i64 (IntKind.wrap .i64 (x - l) - m)) + m) = x := by
  obtain ⟨h0, h1⟩ := hx
  simp only [IntKind.wrap_i64]
  omega

theorem last_rd {A : List Int} {l : Int} (h : A.getLast? = some l) (hA : A.length < 1000000000) : rdL A (IntKind.wrap .i64 ((A.length : Int) - 1)) = some l := by
  have hne : A ≠ [] := fun e => by rw [e] at h; cases h
  have := List.length_pos_iff.2 hne
  rw [List.getLast?_eq_getElem?] at h
  rw [w64 (by omega) (by omega), show ((A.length : Int) - 1) = ((A.length - 1 : Nat) : Int) by omega, rdL_nat]
  exact h

theorem addLoop (o0 : TDeltaReaderB) (m : Int) (vs : List Int) (hvs : vs.length ≤ 1000) : ∀ (md pre A : List Int) (l : Int) (n : Nat), vs = pre ++ mv m (dif l md) → md.length < n → (∀ x, x ∈ md → I64 x) → A.getLast? = some l → A.length + md.length ≤ 100000 →
    impl_deltaReader_mini.l5 k n m (vs.length : Int) (pre.length : Int) o0 vs A = some ((), (o0, A ++ md)) := by
  intro md
  induction md with
  | nil =>
    intro pre A l n hv hn _ _ _
    obtain ⟨n, rfl⟩ : ∃ x, n = x + 1 := ⟨n - 1, by omega⟩
    have : vs = pre := by simpa [dif, mv] using hv
    subst this
    simp only [impl_deltaReader_mini.l5, decide_eq_false (show ¬ (vs.length : Int) < (vs.length : Int) by omega), cond_false, List.append_nil]
  | cons x md ih =>
    intro pre A l n hv hn hI hA hl
    simp only [List.length_cons] at hn hl
    obtain ⟨n, rfl⟩ : ∃ x, n = x + 1 := ⟨n - 1, by omega⟩
    have hv' : vs = pre ++ IntKind.wrap .i64 (IntKind.wrap .i64 (x - l) - m) :: mv m (dif x md) := by rw [hv]; rfl
    have hlen : vs.length = pre.length + (md.length + 1) := by rw [hv']; simp [mv, dif_len]
    have hg : rdL vs (pre.length : Int) = some (IntKind.wrap .i64 (IntKind.wrap .i64 (x - l) - m)) := by rw [hv']; exact getMid _ _ _
    have hi := ih (pre ++ [IntKind.wrap .i64 (IntKind.wrap .i64 (x - l) - m)]) (A ++ [x]) x n (by rw [hv']; simp) (by omega) (fun y hy => hI y (List.mem_cons_of_mem _ hy)) (by simp) (by simp; omega)
    rw [List.length_append, List.length_singleton] at hi
    simp only [impl_deltaReader_mini.l5, decide_eq_true (show (pre.length : Int) < (vs.length : Int) by omega), cond_true, hg, Option.bind_some, impl_deltaReader_mini.d7, last_rd hA (by omega), read_back (hI x (List.mem_cons_self ..))]
    rw [lim_ok (by simp; omega), cond_true, w64 (by omega) (by omega)]
    have e : ((pre.length : Int) + 1) = ((pre.length + 1 : Nat) : Int) := by omega
    rw [e, hi]
    simp

theorem mini_read (hk : 1000 ≤ k) (b : List Int) (at_ : Nat) (m : Int) (md A : List Int) (l : Int) (left : Nat) (rest : List Int) (hmd : md.length ≤ 32) (hm0 : md ≠ []) (hleft : min left 32 = md.length) (hI : ∀ x, x ∈ md → I64 x) (hA : A.getLast? = some l) (hl : A.length ≤ 90000) (hb : b.length < 1000000000000000)
    (hat0 : at_ ≤ b.length) (hd : b.drop at_ = mb (mv m (dif l md)) ++ rest) :
    impl_deltaReader_mini k 32 (mw (mv m (dif l md)) : Int) m (left : Int) (dr b at_) A = some ((), (dr b (at_ + (mb (mv m (dif l md))).length), A ++ md)) := by
  have hvl : (mv m (dif l md)).length = md.length := by simp [mv, dif_len]
  have hpos := List.length_pos_iff.2 hm0
  have hne : ¬ mv m (dif l md) = [] := fun h => by rw [h] at hvl; simp at hvl; omega
  have hmb : mb (mv m (dif l md)) = packB (mw (mv m (dif l md))) (padV (mv m (dif l md))) := by
    unfold mb; rw [if_neg hne]
  have hml : (mb (mv m (dif l md))).length = 4 * mw (mv m (dif l md)) := by
    rw [mb_len (by omega), if_neg hne]
  have hpl : (padV (mv m (dif l md))).length = 32 := padV_len (by omega)
  have hat : at_ + 4 * mw (mv m (dif l md)) ≤ b.length := by
    have := congrArg List.length hd
    rw [List.length_drop, List.length_append, hml] at this
    omega
  have hlt : ∀ v, v ∈ padV (mv m (dif l md)) → I64 v ∧ u64 v < 2 ^ mw (mv m (dif l md)) := by
    intro v hv
    unfold padV at hv
    rcases List.mem_append.1 hv with hv | hv
    · refine ⟨?_, mw_lt hv⟩
      unfold mv at hv
      obtain ⟨d, _, rfl⟩ := List.mem_map.1 hv
      exact ⟨w64_lo _, w64_hi _⟩
    · have := List.eq_of_mem_replicate hv
      subst this
      exact ⟨⟨by decide, by decide⟩, by rw [u64_zero]; exact Nat.two_pow_pos _⟩
  have hbs : b = b.take at_ ++ (leB (4 * mw (mv m (dif l md))) (packV (mw (mv m (dif l md))) (padV (mv m (dif l md)))) ++ rest) := by
    have h1 : packB (mw (mv m (dif l md))) (padV (mv m (dif l md))) = leB (4 * mw (mv m (dif l md))) (packV (mw (mv m (dif l md))) (padV (mv m (dif l md)))) := by
      unfold packB; rw [hpl, bytes32 (mw_le _)]
    conv => lhs; rw [← List.take_append_drop at_ b]
    rw [hd, hmb, h1]
  have htl : (b.take at_).length = at_ := by rw [List.length_take]; omega
  have hun := unpacked_eq k (b.take at_) rest (4 * mw (mv m (dif l md))) (packV (mw (mv m (dif l md))) (padV (mv m (dif l md)))) (mw (mv m (dif l md))) md.length (mw_le _)
    (by have : md.length * mw (mv m (dif l md)) ≤ 32 * mw (mv m (dif l md)) := Nat.mul_le_mul_right _ hmd
        omega) (by rw [htl]; omega) (by omega) (by have := mw_le (mv m (dif l md)); omega) (by omega)
  rw [← hbs, htl, unpack_all _ _ hlt _ (by rw [hpl]; omega)] at hun
  have htk : (padV (mv m (dif l md))).take md.length = mv m (dif l md) := by
    unfold padV
    rw [← hvl, List.take_left]
  rw [htk] at hun
  rw [hml]
  have hw := mw_le (mv m (dif l md))
  have hadd := addLoop k (dr b (at_ + 4 * mw (mv m (dif l md)))) m (mv m (dif l md)) (by omega) md [] A l k rfl (by omega) hI hA (by omega)
  generalize mw (mv m (dif l md)) = w at *
  unfold impl_deltaReader_mini impl_deltaReader_mini.c2
  have e1 : IntKind.wrap .i64 (Int.tdiv (IntKind.wrap .i64 (32 * (w : Int))) 8) = ((4 * w : Nat) : Int) := by
    rw [w64 (x := 32 * (w : Int)) (by omega) (by omega), tdiv8 (by omega), w64 (by omega) (by omega)]; omega
  have e2 : (if (left : Int) < 32 then (left : Int) else 32) = (md.length : Int) := by split <;> omega
  rw [decide_eq_false (show ¬ (w : Int) > 64 by omega), cond_false, e1, deltaTake k b at_ (4 * w) (by omega) (by omega)]
  simp only [Option.bind_some, cond_false, e2, hun]
  exact hadd

theorem minis_nil : ∀ (c : Nat) (m : Int), body m (minis c []) = []
  | 0, _ => rfl
  | c + 1, m => by
    have := minis_nil c m
    unfold body at this ⊢
    simp only [minis, List.map_cons, List.flatten_cons, List.take_nil, List.drop_nil, this]
    rfl

theorem minisLoop (hk : 1000 ≤ k) (L16 : (List Int) → Int → Int → Int → TDeltaReaderB → (List Int) → Option ((Unit × Int × Bool) × (List Int))) (b : List Int) (hb : b.length < 100000000000000) (m : Int) (total t14 : Nat) (r2 : List Int) (ht : total ≤ 2000) :
    ∀ (c j n at_ : Nat) (rj A X rest : List Int) (l : Int), j + c = 4 → c < n → rj.length ≤ 32 * c → (r2 = [] ∨ rj.length = 32 * c) → A.getLast? = some l → total = A.length + rj.length + r2.length → (∀ x, x ∈ rj → I64 x) →
      b.drop (t14 + j) = heads m (minis c (dif l rj)) ++ X → t14 + 4 ≤ b.length → at_ ≤ b.length → b.drop at_ = body m (minis c (dif l rj)) ++ rest →
      impl_DeltaRead.l20 k L16 n b 4 (total : Int) 32 m (t14 : Int) (j : Int) (dr b at_) A = L16 b 4 (total : Int) 32 (dr b (at_ + (body m (minis c (dif l rj))).length)) (A ++ rj) := by
  intro c
  induction c with
  | zero =>
    intro j n at_ rj A X rest l hj hn hr h2 hA htot hI hh ht14 hat hd
    obtain ⟨n, rfl⟩ : ∃ x, n = x + 1 := ⟨n - 1, by omega⟩
    have : rj = [] := List.eq_nil_of_length_eq_zero (by omega)
    subst this
    simp only [impl_DeltaRead.l20, decide_eq_false (show ¬ (j : Int) < 4 by omega), cond_false, Option.bind_some, body, minis, List.map_nil, List.flatten_nil, List.length_nil, Nat.add_zero, List.append_nil]
  | succ c ih =>
    intro j n at_ rj A X rest l hj hn hr h2 hA htot hI hh ht14 hat hd
    obtain ⟨n, rfl⟩ : ∃ x, n = x + 1 := ⟨n - 1, by omega⟩
    by_cases h0 : rj = []
    · subst h0
      have hr2 : r2 = [] := by
        rcases h2 with h2 | h2
        · exact h2
        · simp at h2
      subst hr2
      simp only [List.length_nil, Nat.add_zero] at htot
      simp only [dif, minis_nil, List.length_nil, Nat.add_zero, List.append_nil]
      simp only [impl_DeltaRead.l20, decide_eq_true (show (j : Int) < 4 by omega), cond_true, cond_false, Option.bind_some, decide_eq_false (show ¬ (A.length : Int) < (total : Int) by omega)]
    · have hpos := List.length_pos_iff.2 h0
      have hmd0 : rj.take 32 ≠ [] := fun e => by
        have := congrArg List.length e
        rw [List.length_take] at this
        simp only [List.length_nil] at this; omega
      have hsplit : (dif l rj).take 32 = dif l (rj.take 32) := dif_take l rj 32
      have hsplit2 : (dif l rj).drop 32 = dif (lst l (rj.take 32)) (rj.drop 32) := dif_drop l rj 32
      have hh' : b.drop (t14 + j) = (mw (mv m (dif l (rj.take 32))) : Int) :: (heads m (minis c (dif (lst l (rj.take 32)) (rj.drop 32))) ++ X) := by
        rw [hh]; simp [heads, minis, hsplit, hsplit2]
      obtain ⟨q1, q2, q3⟩ := drop_get hh'
      have hd' : b.drop at_ = mb (mv m (dif l (rj.take 32))) ++ (body m (minis c (dif (lst l (rj.take 32)) (rj.drop 32))) ++ rest) := by
        rw [hd]; simp [body, minis, hsplit, hsplit2]
      have hg : rdL b (IntKind.wrap .i64 ((t14 : Int) + (j : Int))) = some (mw (mv m (dif l (rj.take 32))) : Int) := by
        rw [w64 (by omega) (by omega), show ((t14 : Int) + (j : Int)) = ((t14 + j : Nat) : Int) by omega]
        exact q1
      have hw := mw_le (mv m (dif l (rj.take 32)))
      have hleft : IntKind.wrap .i64 ((total : Int) - (A.length : Int)) = ((total - A.length : Nat) : Int) := by rw [w64 (by omega) (by omega)]; omega
      have hmr := mini_read k hk b at_ m (rj.take 32) A l (total - A.length) _ (by rw [List.length_take]; omega) hmd0 (by
        rw [List.length_take]
        rcases h2 with h2 | h2
        · subst h2; simp only [List.length_nil, Nat.add_zero] at htot; omega
        · omega) (fun x hx => hI x (List.mem_of_mem_take hx)) hA (by omega) (by omega) hat hd'
      have hat2 : at_ + (mb (mv m (dif l (rj.take 32)))).length ≤ b.length := by
        have := congrArg List.length hd'
        rw [List.length_drop, List.length_append] at this
        omega
      have hi := ih (j + 1) n (at_ + (mb (mv m (dif l (rj.take 32)))).length) (rj.drop 32) (A ++ rj.take 32) X rest (lst l (rj.take 32)) (by omega) (by omega) (by rw [List.length_drop]; omega)
        (by rcases h2 with h2 | h2
            · exact Or.inl h2
            · exact Or.inr (by rw [List.length_drop]; omega)) (last_app _ _ _ hA) (by rw [List.length_append, List.length_take, List.length_drop]; omega) (fun x hx => hI x (List.mem_of_mem_drop hx)) q3 ht14 hat2 (drop_next hd')
      simp only [impl_DeltaRead.l20, decide_eq_true (show (j : Int) < 4 by omega), cond_true, Option.bind_some, decide_eq_true (show (A.length : Int) < (total : Int) by omega), Bool.not_false, impl_DeltaRead.d22, hg, hleft]
      rw [w64 (x := ((mw (mv m (dif l (rj.take 32))) : Nat) : Int)) (by omega) (by omega), hmr]
      simp only [Option.bind_some]
      rw [w64 (by omega) (by omega), show ((j : Int) + 1) = ((j + 1 : Nat) : Int) by omega, hi]
      simp only [body, minis, List.map_cons, List.flatten_cons, List.length_append, hsplit, hsplit2, List.append_assoc, List.take_append_drop]
      rw [Nat.add_assoc]

theorem blocksRead (hk : 1000 ≤ k) (b : List Int) (hb : b.length < 10000000000000) (total : Nat) (ht : total ≤ 2000) : ∀ (f n at_ : Nat) (r A rest : List Int) (l : Int), r.length ≤ 128 * f → f < n → A.getLast? = some l → total = A.length + r.length → (∀ x, x ∈ r → I64 x) → at_ ≤ b.length → b.drop at_ = blocksB f (dif l r) ++ rest →
    impl_DeltaRead.l16 k n b 4 (total : Int) 32 (dr b at_) A = some (((), ((at_ + (blocksB f (dif l r)).length : Nat) : Int), true), A ++ r) := by
  intro f
  induction f with
  | zero =>
    intro n at_ r A rest l hr hn hA htot hI hat hd
    obtain ⟨n, rfl⟩ : ∃ x, n = x + 1 := ⟨n - 1, by omega⟩
    have : r = [] := List.eq_nil_of_length_eq_zero (by omega)
    subst this
    simp only [List.length_nil, Nat.add_zero] at htot
    simp only [impl_DeltaRead.l16, decide_eq_false (show ¬ (A.length : Int) < (total : Int) by omega), cond_false, Option.bind_some, blocksB, List.length_nil, Nat.add_zero, List.append_nil]
  | succ f ih =>
    intro n at_ r A rest l hr hn hA htot hI hat hd
    obtain ⟨n, rfl⟩ : ∃ x, n = x + 1 := ⟨n - 1, by omega⟩
    by_cases h0 : r = []
    · subst h0
      simp only [List.length_nil, Nat.add_zero] at htot
      simp only [impl_DeltaRead.l16, decide_eq_false (show ¬ (A.length : Int) < (total : Int) by omega), cond_false, Option.bind_some, blocksB, dif, if_true, List.length_nil, Nat.add_zero, List.append_nil]
    · have hpos := List.length_pos_iff.2 h0
      have hne : dif l r ≠ [] := fun e => by
        have := congrArg List.length e
        rw [dif_len] at this
        simp only [List.length_nil] at this; omega
      have hsp1 := dif_take l r 128
      have hsp2 := dif_drop l r 128
      have hbl : blocksB (f + 1) (dif l r) = blockB (dif l (r.take 128)) ++ blocksB f (dif (lst l (r.take 128)) (r.drop 128)) := by
        simp only [blocksB, hne, if_false, hsp1, hsp2]
      rw [hbl] at hd ⊢
      have hm : I64 (minL (dif l (r.take 128))) := minL_I64 (dif_I64 _ _)
      generalize hmm : minL (dif l (r.take 128)) = m at hm
      have hB : blockB (dif l (r.take 128)) = uv (zig m) ++ (heads m (minis 4 (dif l (r.take 128))) ++ body m (minis 4 (dif l (r.take 128)))) := by
        unfold blockB; rw [hmm]
      have hd1 : b.drop at_ = uv (zig m) ++ (heads m (minis 4 (dif l (r.take 128))) ++ (body m (minis 4 (dif l (r.take 128))) ++ (blocksB f (dif (lst l (r.take 128)) (r.drop 128)) ++ rest))) := by
        rw [hd, hB]; simp
      have hu := uv_len (zig m)
      have hd2 := drop_next hd1
      have hhl := heads_len m 4 (dif l (r.take 128))
      have hp1 := drop_pos hd1 (by omega)
      have hp2 := drop_pos hd2 (by omega)
      have hd3 := drop_next hd2
      rw [hhl] at hd3 hp2
      have hdu := deltaUvar k (by omega) b at_ (zig m) _ (by omega) hd1 (zig_range m) A
      have hzz := zag_zig k m hm.1 hm.2
      have htk := deltaTake k b (at_ + (uv (zig m)).length) 4 (by omega) (by omega) A
      rw [show ((4 : Nat) : Int) = 4 from rfl] at htk
      have hml := minisLoop k hk (impl_DeltaRead.l16 k n) b (by omega) m total (at_ + (uv (zig m)).length) (r.drop 128) ht 4 0 k (at_ + (uv (zig m)).length + 4) (r.take 128) A _ _ l rfl (by omega) (by rw [List.length_take]; omega)
        (by rw [List.length_take]
            rcases Nat.le_total 128 r.length with h | h
            · exact Or.inr (by omega)
            · exact Or.inl (List.drop_of_length_le h)) hA (by rw [List.length_take, List.length_drop]; omega) (fun x hx => hI x (List.mem_of_mem_take hx)) (by rw [Nat.add_zero]; exact hd2) (by omega) (by omega) hd3
      rw [show ((0 : Nat) : Int) = 0 from rfl] at hml
      have hat3 : at_ + (uv (zig m)).length + 4 + (body m (minis 4 (dif l (r.take 128)))).length ≤ b.length := by
        have := congrArg List.length hd3
        rw [List.length_drop, List.length_append] at this
        omega
      have hi := ih n (at_ + (uv (zig m)).length + 4 + (body m (minis 4 (dif l (r.take 128)))).length) (r.drop 128) (A ++ r.take 128) rest (lst l (r.take 128)) (by rw [List.length_drop]; omega) (by omega) (last_app _ _ _ hA) (by rw [List.length_append, List.length_take, List.length_drop]; omega) (fun x hx => hI x (List.mem_of_mem_drop hx)) hat3 (drop_next hd3)
      simp only [impl_DeltaRead.l16, decide_eq_true (show (A.length : Int) < (total : Int) by omega), cond_true, Bool.not_false, Option.bind_some, hdu, hzz, htk, hml, hi]
      rw [List.append_assoc, List.take_append_drop, hB]
      simp only [List.length_append, hhl]
      congr 5
      omega

theorem deltaRead_eq (hk : 1000 ≤ k) (b : List Int) (hb : b.length < 10000000000000) (p : Nat) (xs rest : List Int) (hl : xs.length ≤ 2000) (hI : ∀ x, x ∈ xs → I64 x) (hd : b.drop p = dPack xs ++ rest) :
    impl_DeltaRead k b (p : Int) = some (((), ((p + (dPack xs).length : Nat) : Int), true), xs) := by
  have u1 := uv_len 128
  have u2 := uv_len 4
  have u3 := uv_len (xs.length : Int)
  have u4 := uv_len (zig (xs.headD 0))
  have hx0 : I64 (xs.headD 0) := by
    cases xs with
    | nil => exact ⟨by decide, by decide⟩
    | cons x r => exact hI x (List.mem_cons_self ..)
  have hd1 : b.drop p = uv 128 ++ (uv 4 ++ (uv (xs.length : Int) ++ (uv (zig (xs.headD 0)) ++ (blocksB 16 (difs xs) ++ rest)))) := by rw [hd]; unfold dPack; simp
  have hd2 := drop_next hd1
  have hd3 := drop_next hd2
  have hd4 := drop_next hd3
  have hd5 := drop_next hd4
  have p1 := drop_pos hd1 (by omega)
  have p2 := drop_pos hd2 (by omega)
  have p3 := drop_pos hd3 (by omega)
  have p4 := drop_pos hd4 (by omega)
  have r1 := deltaUvar k (by omega) b p 128 _ (by omega) hd1 ⟨by decide, by decide⟩ []
  have r2 := deltaUvar k (by omega) b _ 4 _ (by omega) hd2 ⟨by decide, by decide⟩ []
  have r3 := deltaUvar k (by omega) b _ (xs.length : Int) _ (by omega) hd3 ⟨by omega, by omega⟩ []
  have r4 := deltaUvar k (by omega) b _ (zig (xs.headD 0)) _ (by omega) hd4 (zig_range _) []
  have hz := zag_zig k (xs.headD 0) hx0.1 hx0.2
  have c1 : (decide ((0 : Int) ≤ (p : Int)) && decide ((p : Int) ≤ (b.length : Int))) = true := by simp; omega
  have c2 : (decide ((128 : Int) ≤ 128) && decide ((128 : Int) ≤ 1024)) = true := by decide
  have c3 : (decide ((1 : Int) ≤ 4) && decide ((4 : Int) ≤ 128)) = true := by decide
  have c4 : (decide ((0 : Int) ≤ (xs.length : Int)) && decide ((xs.length : Int) ≤ 2000)) = true := by simp; omega
  have c5 : (Int.tmod 128 128 != 0) = false := by decide
  have c6 : (Int.tmod 128 4 != 0) = false := by decide
  have c7 : (Int.tmod (IntKind.wrap .i64 (Int.tdiv 128 4)) 32 != 0) = false := by decide
  have c8 : decide ((4 : Int) ≠ 0) = true := by decide
  have c9 : IntKind.wrap .i64 (Int.tdiv 128 4) = 32 := by decide
  unfold impl_DeltaRead
  simp only [within_eq, c1, Option.bind_some, Bool.not_true, cond_false, r1, r2, r3, r4, hz, c2, c3, c4, c5, c6, c7, c8, c9, cond_true]
  cases xs with
  | nil =>
    have hb0 : blocksB 16 (difs []) = [] := by simp [difs, blocksB]
    rw [beqT (by simp), cond_true]
    unfold dPack
    rw [hb0]
    simp only [List.length_append, List.length_nil, Nat.add_zero]
    congr 5
  | cons x r =>
    rw [beqF (by simp; omega), cond_false]
    have := blocksRead k hk b hb (x :: r).length hl 16 k (p + (uv 128).length + (uv 4).length + (uv ((x :: r).length : Int)).length + (uv (zig ((x :: r).headD 0))).length) r [x] rest x (by simp at hl; omega) (by omega) rfl (by simp; omega) (fun y hy => hI y (List.mem_cons_of_mem _ hy)) (by omega) hd5
    have this : impl_DeltaRead.l16 k k b 4 ((x :: r).length : Int) 32 _ [(x :: r).headD 0] = _ := this
    rw [this]
    have e : dif x r = difs (x :: r) := rfl
    rw [e]
    unfold dPack
    simp only [List.length_append, List.singleton_append]
    refine congrArg (fun z : Nat => some (((), (z : Int), true), x :: r)) ?_
    omega
end Go.Law
