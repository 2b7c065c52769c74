/- Texts: what was written is read. -/
import Derived.Test.YtmdmkakkodeniaaLawVals
import Derived.Test.YtmdmkakkodeniaaLawDeltaRead
set_option linter.unusedVariables false
set_option linter.unusedSimpArgs false
namespace Go.Law
open Go.Am Go.Fn
variable (k : Nat)

/-! ### the reference's texts with lengths -/
theorem l10Bytes (ss : List ByteArray) (hs : ss.length ≤ 2000) (h40 : ∀ s, s ∈ ss → s.size ≤ 40) : ∀ (post pre : List ByteArray) (n : Nat) (o : List Int), ss = pre ++ post → post.length < n → o.length ≤ 20000 + 40 * pre.length →
    spec_l10Pack.l10 k n ss (pre.length : Int) o = some (((), true), o ++ (post.map strInts).flatten) := by
  intro post
  induction post with
  | nil =>
    intro pre n o hl' hn ho
    obtain ⟨n, rfl⟩ : ∃ m, n = m + 1 := ⟨n - 1, by omega⟩
    have : ss = pre := by simpa using hl'
    subst this
    simp only [spec_l10Pack.l10, decide_eq_false (show ¬ (ss.length : Int) < (ss.length : Int) by omega), cond_false]
    simp
  | cons x post ih =>
    intro pre n o hl' hn ho
    simp only [List.length_cons] at hn
    obtain ⟨n, rfl⟩ : ∃ m, n = m + 1 := ⟨n - 1, by omega⟩
    have hlen : ss.length = pre.length + (post.length + 1) := by rw [hl']; simp
    have hg : rdL ss (pre.length : Int) = some x := by rw [hl']; exact getMid _ _ _
    have hx := h40 x (by rw [hl']; simp)
    have hi := ih (pre ++ [x]) n (o ++ strInts x) (by rw [hl']; simp) (by omega) (by simp [strInts_length]; omega)
    rw [List.length_append, List.length_singleton] at hi
    simp only [spec_l10Pack.l10, decide_eq_true (show (pre.length : Int) < (ss.length : Int) by omega), cond_true, hg, Option.bind_some]
    rw [lim_ok (by rw [strInts_length]; omega), cond_true, w64 (by omega) (by omega), show ((pre.length : Int) + 1) = ((pre.length + 1 : Nat) : Int) by omega, hi]
    simp

theorem l10Sizes (hk : 3000 ≤ k) (ss : List ByteArray) (hs : ss.length ≤ 2000) (h40 : ∀ s, s ∈ ss → s.size ≤ 40) : ∀ (post pre : List ByteArray) (n : Nat), ss = pre ++ post → post.length < n →
    spec_l10Pack.l3 k n ss (pre.length : Int) (pre.map fun s => (s.size : Int)) = some (((), true), lenB ss) := by
  intro post
  induction post with
  | nil =>
    intro pre n hl' hn
    obtain ⟨n, rfl⟩ : ∃ m, n = m + 1 := ⟨n - 1, by omega⟩
    have : ss = pre := by simpa using hl'
    subst this
    have hd := (deltaPack_eq k hk (ss.map fun s => (s.size : Int)) (sizes_I64 h40) (by rw [List.length_map]; exact hs)).2
    have hl := dPack_len (ss.map fun s => (s.size : Int))
    have hb := l10Bytes k ss hs h40 ss [] k (dPack (ss.map fun s => (s.size : Int))) rfl (by omega) (by simp; omega)
    rw [List.length_nil, show ((0 : Nat) : Int) = 0 from rfl] at hb
    simp only [spec_l10Pack.l3, decide_eq_false (show ¬ (ss.length : Int) < (ss.length : Int) by omega), cond_false, hd, Option.bind_some, Bool.not_true, hb]
    rfl
  | cons x post ih =>
    intro pre n hl' hn
    simp only [List.length_cons] at hn
    obtain ⟨n, rfl⟩ : ∃ m, n = m + 1 := ⟨n - 1, by omega⟩
    have hlen : ss.length = pre.length + (post.length + 1) := by rw [hl']; simp
    have hg : rdL ss (pre.length : Int) = some x := by rw [hl']; exact getMid _ _ _
    have hi := ih (pre ++ [x]) n (by rw [hl']; simp) (by omega)
    rw [List.length_append, List.length_singleton, List.map_append, List.map_singleton] at hi
    simp only [spec_l10Pack.l3, decide_eq_true (show (pre.length : Int) < (ss.length : Int) by omega), cond_true, hg, Option.bind_some]
    rw [lim_ok (by simp; omega), cond_true, w64 (by omega) (by omega), show ((pre.length : Int) + 1) = ((pre.length + 1 : Nat) : Int) by omega, hi]

theorem l10Pack_eq (hk : 3000 ≤ k) (ss : List ByteArray) (hs : ss.length ≤ 2000) (h40 : ∀ s, s ∈ ss → s.size ≤ 40) : spec_l10Pack k ss = some (((), true), lenB ss) := by
  have := l10Sizes k hk ss hs h40 ss [] k rfl (by omega)
  simpa [spec_l10Pack] using this

/-! ### reading texts with lengths -/
theorem lenReadLoop (b : List Int) (hb : b.length < 1000000000000) (ss : List ByteArray) (hs : ss.length ≤ 2000) (h40 : ∀ s, s ∈ ss → s.size ≤ 40) (rest : List Int) : ∀ (post pre : List ByteArray) (n at_ : Nat), ss = pre ++ post → post.length < n → at_ ≤ b.length → b.drop at_ = (post.map strInts).flatten ++ rest →
    impl_LengthRead.l6 k n b (at_ : Int) ((ss.map fun s => (s.size : Int)).length : Int) (pre.length : Int) (pre.map vtx) (ss.map fun s => (s.size : Int)) = some (((), ((at_ + ((post.map strInts).flatten).length : Nat) : Int), true), ss.map vtx) := by
  intro post
  rw [List.length_map]
  induction post with
  | nil =>
    intro pre n at_ hl' hn hat hd
    obtain ⟨n, rfl⟩ : ∃ m, n = m + 1 := ⟨n - 1, by omega⟩
    have : ss = pre := by simpa using hl'
    subst this
    simp only [impl_LengthRead.l6, decide_eq_false (show ¬ (ss.length : Int) < (ss.length : Int) by omega), cond_false]
    simp
  | cons x post ih =>
    intro pre n at_ hl' hn hat hd
    simp only [List.length_cons] at hn
    obtain ⟨n, rfl⟩ : ∃ m, n = m + 1 := ⟨n - 1, by omega⟩
    have hlen : ss.length = pre.length + (post.length + 1) := by rw [hl']; simp
    have hx := h40 x (by rw [hl']; simp)
    have hg : rdL (ss.map fun s => (s.size : Int)) (pre.length : Int) = some (x.size : Int) := by
      rw [hl', List.map_append, List.map_cons]
      have := getMid (pre.map fun s => (s.size : Int)) (post.map fun s => (s.size : Int)) (x.size : Int)
      rw [List.length_map] at this
      exact this
    rw [List.map_cons, List.flatten_cons, List.append_assoc] at hd
    have hp := congrArg List.length hd
    rw [List.length_drop, List.length_append, strInts_length] at hp
    have hd2 := drop_next hd
    rw [strInts_length] at hd2
    have hcut : cutL b (at_ : Int) ((at_ + x.size : Nat) : Int) = strInts x := by
      unfold cutL
      rw [Int.toNat_natCast, Int.toNat_natCast, List.drop_take, hd, Nat.add_sub_cancel_left, ← strInts_length x, List.take_left]
    have c1 : (decide ((0 : Int) ≤ (x.size : Int)) && decide ((x.size : Int) ≤ 40)) = true := by simp; omega
    have w1 : IntKind.wrap .i64 ((b.length : Int) - (at_ : Int)) = ((b.length - at_ : Nat) : Int) := by rw [w64 (by omega) (by omega)]; omega
    have w2 : IntKind.wrap .i64 ((at_ : Int) + (x.size : Int)) = ((at_ + x.size : Nat) : Int) := by rw [w64 (by omega) (by omega)]; omega
    have hi := ih (pre ++ [x]) n (at_ + x.size) (by rw [hl']; simp) (by omega) (by omega) hd2
    rw [List.length_append, List.length_singleton, List.map_append, List.map_singleton] at hi
    simp only [impl_LengthRead.l6, decide_eq_true (show (pre.length : Int) < (ss.length : Int) by omega), cond_true, hg, Option.bind_some, within_eq, c1, Bool.not_true, cond_false, w1, w2,
      decide_eq_false (show ¬ ((x.size : Int) > ((b.length - at_ : Nat) : Int)) by omega), hcut, intsStr_strInts]
    rw [inSl_ok (by omega) (by omega) (by omega), cond_true, lim_ok (by simp; omega), cond_true, w64 (by omega) (by omega), show ((pre.length : Int) + 1) = ((pre.length + 1 : Nat) : Int) by omega]
    have e : ((0, x, ()) : TVal) = vtx x := rfl
    rw [e, hi, List.map_cons, List.flatten_cons, List.length_append, strInts_length, Nat.add_assoc]

theorem dPack_pos (xs : List Int) : 0 < (dPack xs).length := by
  have := uv_len 128
  unfold dPack
  rw [List.length_append, List.length_append, List.length_append, List.length_append]
  omega

theorem lengthRead_eq (hk : 3000 ≤ k) (b : List Int) (hb : b.length < 1000000000000) (p : Nat) (ss : List ByteArray) (rest : List Int) (hs : ss.length ≤ 2000) (h40 : ∀ s, s ∈ ss → s.size ≤ 40) (hd : b.drop p = lenB ss ++ rest) :
    impl_LengthRead k b (p : Int) = some (((), ((p + (lenB ss).length : Nat) : Int), true), ss.map vtx) := by
  unfold lenB at hd
  rw [List.append_assoc] at hd
  have hr := deltaRead_eq k (by omega) b (by omega) p (ss.map fun s => (s.size : Int)) ((ss.map strInts).flatten ++ rest) (by rw [List.length_map]; exact hs) (sizes_I64 h40) hd
  have hd2 := drop_next hd
  have hp := drop_pos hd (dPack_pos _)
  have hl := lenReadLoop k b hb ss hs h40 rest ss [] k _ rfl (by omega) hp hd2
  unfold impl_LengthRead
  simp only [hr, Option.bind_some, Bool.not_true, cond_false]
  rw [List.length_nil, List.map_nil, show ((0 : Nat) : Int) = 0 from rfl] at hl
  rw [hl]
  unfold lenB
  rw [List.length_append, Nat.add_assoc]

/-! ### texts by what they share with the one before -/
def frP : ByteArray → List ByteArray → List Int
  | _, [] => []
  | p, s :: r => (comm p s : Int) :: frP s r

def frS : ByteArray → List ByteArray → List ByteArray
  | _, [] => []
  | p, s :: r => s.extract (comm p s) s.size :: frS s r

theorem frP_len : ∀ (p : ByteArray) (ss : List ByteArray), (frP p ss).length = ss.length
  | _, [] => rfl
  | p, s :: r => by simp [frP, frP_len s r]
theorem frS_len : ∀ (p : ByteArray) (ss : List ByteArray), (frS p ss).length = ss.length
  | _, [] => rfl
  | p, s :: r => by simp [frS, frS_len s r]

theorem frP_bound : ∀ (p : ByteArray) (ss : List ByteArray), (∀ s, s ∈ ss → s.size ≤ 40) → ∀ x, x ∈ frP p ss → 0 ≤ x ∧ x ≤ 40
  | _, [], _, x, hx => (List.not_mem_nil hx).elim
  | p, s :: r, h, x, hx => by
    rcases List.mem_cons.1 hx with rfl | hx
    · have := comm_le p s
      have := h s (List.mem_cons_self ..)
      omega
    · exact frP_bound s r (fun y hy => h y (List.mem_cons_of_mem _ hy)) x hx

theorem frS_bound : ∀ (p : ByteArray) (ss : List ByteArray), (∀ s, s ∈ ss → s.size ≤ 40) → ∀ x, x ∈ frS p ss → x.size ≤ 40
  | _, [], _, x, hx => (List.not_mem_nil hx).elim
  | p, s :: r, h, x, hx => by
    rcases List.mem_cons.1 hx with rfl | hx
    · have := h s (List.mem_cons_self ..)
      rw [ByteArray.size_extract]
      omega
    · exact frS_bound s r (fun y hy => h y (List.mem_cons_of_mem _ hy)) x hx

def frontB (ss : List ByteArray) : List Int := dPack (frP ⟨#[]⟩ ss) ++ lenB (frS ⟨#[]⟩ ss)

theorem lenB_len (ss : List ByteArray) (hs : ss.length ≤ 2000) (h : ∀ s, s ∈ ss → s.size ≤ 40) : (lenB ss).length ≤ 100000 := by
  have h1 := dPack_len (ss.map fun s => (s.size : Int))
  have h2 := flat_len ss h
  unfold lenB
  rw [List.length_append]
  omega

theorem vsOk_vtx {ss : List ByteArray} (hs : ss.length ≤ 2000) (h : ∀ s, s ∈ ss → s.size ≤ 40) : vsOk 6 (ss.map vtx) = true := by
  unfold vsOk
  simp only [Bool.and_eq_true, List.all_eq_true, decide_eq_true_eq, List.length_map]
  refine ⟨fun v hv => ?_, by omega, rfl⟩
  obtain ⟨s, hs', rfl⟩ := List.mem_map.1 hv
  have := h s hs'
  unfold vok vtx
  rw [if_neg (by decide), if_neg (by decide), if_neg (by decide), if_pos rfl]
  simp; omega

theorem frontLoop (hk : 3000 ≤ k) (vs : List TVal) (hvs : vs.length ≤ 2000) (h40 : ∀ v, v ∈ vs → v.2.1.size ≤ 40) : ∀ (post pre : List TVal) (n : Nat) (p : ByteArray) (P : List Int) (S : List ByteArray), vs = pre ++ post → post.length < n → p.size ≤ 40 → P.length = pre.length → S.length = pre.length →
    (∀ x, x ∈ P → 0 ≤ x ∧ x ≤ 40) → (∀ s, s ∈ S → s.size ≤ 40) →
    impl_FrontPack.l7 k n p vs (vs.length : Int) (pre.length : Int) P (S.map vtx) = some (((), true), dPack (P ++ frP p (post.map fun v => v.2.1)) ++ lenB (S ++ frS p (post.map fun v => v.2.1))) ∧
    spec_FrontPack.l6 k n vs p (pre.length : Int) P S = some (((), true), dPack (P ++ frP p (post.map fun v => v.2.1)) ++ lenB (S ++ frS p (post.map fun v => v.2.1))) := by
  intro post
  induction post with
  | nil =>
    intro pre n p P S hl' hn hp hP hS hPb hSb
    obtain ⟨n, rfl⟩ : ∃ m, n = m + 1 := ⟨n - 1, by omega⟩
    have : vs = pre := by simpa using hl'
    subst this
    obtain ⟨d1, d2⟩ := deltaPack_eq k hk P (fun x hx => by have := hPb x hx; exact ⟨by omega, by omega⟩) (by omega)
    have e1 := lengthPack_eq k hk (S.map vtx) (by rw [List.length_map]; omega) (by rw [List.length_map]; omega)
    rw [vsOk_vtx (by omega) hSb, if_pos rfl, List.map_map, show ((fun v : TVal => v.2.1) ∘ vtx) = id from rfl, List.map_id] at e1
    have e2 := l10Pack_eq k hk S (by omega) hSb
    have b1 := dPack_len P
    have b2 := lenB_len S (by omega) hSb
    simp only [impl_FrontPack.l7, spec_FrontPack.l6, decide_eq_false (show ¬ (vs.length : Int) < (vs.length : Int) by omega), cond_false, d1, d2, e1, e2, Option.bind_some, Bool.not_true]
    rw [lim_ok (by omega), cond_true]
    simp [frP, frS]
  | cons x post ih =>
    intro pre n p P S hl' hn hp hP hS hPb hSb
    simp only [List.length_cons] at hn
    obtain ⟨n, rfl⟩ : ∃ m, n = m + 1 := ⟨n - 1, by omega⟩
    have hlen : vs.length = pre.length + (post.length + 1) := by rw [hl']; simp
    have hg : rdL vs (pre.length : Int) = some x := by rw [hl']; exact getMid _ _ _
    have hx := h40 x (by rw [hl']; simp)
    obtain ⟨c1, c2⟩ := comm_eq k p x.2.1 (by omega) (by omega)
    have hc := comm_le p x.2.1
    have hi := ih (pre ++ [x]) n x.2.1 (P ++ [(comm p x.2.1 : Int)]) (S ++ [x.2.1.extract (comm p x.2.1) x.2.1.size]) (by rw [hl']; simp) (by omega) hx (by simp; omega) (by simp; omega)
      (fun y hy => by
        rcases List.mem_append.1 hy with hy | hy
        · exact hPb y hy
        · simp at hy; omega)
      (fun y hy => by
        rcases List.mem_append.1 hy with hy | hy
        · exact hSb y hy
        · simp only [List.mem_singleton] at hy
          rw [hy, ByteArray.size_extract]; omega)
    rw [List.length_append, List.length_singleton, List.map_append, List.map_singleton] at hi
    simp only [impl_FrontPack.l7, spec_FrontPack.l6, decide_eq_true (show (pre.length : Int) < (vs.length : Int) by omega), cond_true, hg, Option.bind_some, c1, c2, Int.toNat_natCast]
    rw [lim_ok (by simp; omega), cond_true, cond_true, inSl_ok (by omega) (by omega) (by omega), cond_true, cond_true, lim_ok (by simp; omega), cond_true, lim_ok (by simp; omega), cond_true, w64 (by omega) (by omega), show ((pre.length : Int) + 1) = ((pre.length + 1 : Nat) : Int) by omega]
    have e : ((0, x.2.1.extract (comm p x.2.1) x.2.1.size, ()) : TVal) = vtx (x.2.1.extract (comm p x.2.1) x.2.1.size) := rfl
    rw [e, hi.1, hi.2]
    simp [frP, frS]

theorem frontPack_eq (hk : 3000 ≤ k) (vs : List TVal) (hl : vs.length < 1000000000) (hlk : vs.length < k) :
    impl_FrontPack k vs = (if vsOk 6 vs then some (((), true), frontB (vs.map fun v => v.2.1)) else some (((), false), [])) ∧
    spec_FrontPack k vs = (if vsOk 6 vs then some (((), true), frontB (vs.map fun v => v.2.1)) else some (((), false), [])) := by
  unfold impl_FrontPack spec_FrontPack
  rw [(vsOk_eq k 6 vs hl hlk).1, (vsOk_eq k 6 vs hl hlk).2]
  simp only [Option.bind_some]
  by_cases h : vsOk 6 vs = true
  · obtain ⟨h1, h2⟩ := vsOk_text h
    have := frontLoop k hk vs h1 (fun v hv => (h2 v hv).2) vs [] k ⟨#[]⟩ [] [] rfl hlk (by decide) rfl rfl (fun x hx => (List.not_mem_nil hx).elim) (fun x hx => (List.not_mem_nil hx).elim)
    rw [List.length_nil, List.map_nil, show ((0 : Nat) : Int) = 0 from rfl, List.nil_append, List.nil_append] at this
    rw [if_pos h, h, Bool.not_true, cond_false, cond_false]
    exact this
  · rw [if_neg h, Bool.eq_false_iff.2 h, Bool.not_false, cond_true, cond_true]
    exact ⟨rfl, rfl⟩

theorem frontReadLoop (hk : 3000 ≤ k) (end_ : Int) (ss : List ByteArray) (hs : ss.length ≤ 2000) (h40 : ∀ s, s ∈ ss → s.size ≤ 40) : ∀ (post pre : List ByteArray) (n : Nat) (p : ByteArray) (P : List Int) (S : List TVal), ss = pre ++ post → post.length < n → p.size ≤ 40 → P.length = pre.length → S.length = pre.length →
    impl_FrontRead.l10 k n end_ p ((ss.length : Nat) : Int) (pre.length : Int) (S ++ (frS p post).map vtx) (pre.map vtx) (P ++ frP p post) = some (((), end_, true), ss.map vtx) := by
  intro post
  induction post with
  | nil =>
    intro pre n p P S hl' hn hp hP hS
    obtain ⟨n, rfl⟩ : ∃ m, n = m + 1 := ⟨n - 1, by omega⟩
    have : ss = pre := by simpa using hl'
    subst this
    simp only [impl_FrontRead.l10, decide_eq_false (show ¬ (ss.length : Int) < (ss.length : Int) by omega), cond_false]
  | cons x post ih =>
    intro pre n p P S hl' hn hp hP hS
    simp only [List.length_cons] at hn
    obtain ⟨n, rfl⟩ : ∃ m, n = m + 1 := ⟨n - 1, by omega⟩
    have hlen : ss.length = pre.length + (post.length + 1) := by rw [hl']; simp
    have hx := h40 x (by rw [hl']; simp)
    have hc := comm_le p x
    have hg1 : rdL (P ++ frP p (x :: post)) (pre.length : Int) = some (comm p x : Int) := by
      rw [← hP]; exact getMid _ _ _
    have hg2 : rdL (S ++ (frS p (x :: post)).map vtx) (pre.length : Int) = some (vtx (x.extract (comm p x) x.size)) := by
      rw [← hS]; exact getMid _ _ _
    have hi := ih (pre ++ [x]) n x (P ++ [(comm p x : Int)]) (S ++ [vtx (x.extract (comm p x) x.size)]) (by rw [hl']; simp) (by omega) hx (by simp; omega) (by simp; omega)
    rw [List.length_append, List.length_singleton, List.map_append, List.map_singleton, List.append_assoc, List.append_assoc] at hi
    have hi : impl_FrontRead.l10 k n end_ x ((ss.length : Nat) : Int) ((pre.length + 1 : Nat) : Int) (S ++ (frS p (x :: post)).map vtx) (pre.map vtx ++ [vtx x]) (P ++ frP p (x :: post)) = _ := hi
    have c1 : (decide ((0 : Int) ≤ (comm p x : Int)) && decide ((comm p x : Int) ≤ (p.size : Int))) = true := by simp; omega
    have hsz : (vtx (x.extract (comm p x) x.size)).2.1.size = x.size - comm p x := by show (x.extract (comm p x) x.size).size = _; rw [ByteArray.size_extract]; omega
    have w1 : IntKind.wrap .i64 ((comm p x : Int) + ((x.size - comm p x : Nat) : Int)) = (x.size : Int) := by rw [w64 (by omega) (by omega)]; omega
    have hj : p.extract 0 (comm p x) ++ (vtx (x.extract (comm p x) x.size)).2.1 = x := comm_join p x
    simp only [impl_FrontRead.l10, decide_eq_true (show (pre.length : Int) < ((ss.length : Nat) : Int) by omega), cond_true, hg1, hg2, Option.bind_some, within_eq, c1, Bool.not_true, cond_false, hsz, w1, decide_eq_false (show ¬ ((x.size : Int) > 40) by omega), Int.toNat_natCast, Int.toNat_zero, hj]
    rw [inSl_ok (by omega) (by omega) (by omega), cond_true, lim_ok (by rw [ByteArray.size_extract]; omega), cond_true, lim_ok (by simp; omega), cond_true, w64 (by omega) (by omega), show ((pre.length : Int) + 1) = ((pre.length + 1 : Nat) : Int) by omega]
    exact hi

theorem frontRead_eq (hk : 3000 ≤ k) (b : List Int) (hb : b.length < 1000000000000) (p : Nat) (ss : List ByteArray) (rest : List Int) (hs : ss.length ≤ 2000) (h40 : ∀ s, s ∈ ss → s.size ≤ 40) (hd : b.drop p = frontB ss ++ rest) :
    impl_FrontRead k b (p : Int) = some (((), ((p + (frontB ss).length : Nat) : Int), true), ss.map vtx) := by
  unfold frontB at hd
  rw [List.append_assoc] at hd
  have hr := deltaRead_eq k (by omega) b (by omega) p (frP ⟨#[]⟩ ss) _ (by rw [frP_len]; exact hs) (fun x hx => by have := frP_bound _ ss h40 x hx; exact ⟨by omega, by omega⟩) hd
  have hd2 := drop_next hd
  have hl := lengthRead_eq k hk b hb _ (frS ⟨#[]⟩ ss) rest (by rw [frS_len]; exact hs) (frS_bound _ ss h40) hd2
  have hf := frontReadLoop k hk ((p + (dPack (frP ⟨#[]⟩ ss)).length + (lenB (frS ⟨#[]⟩ ss)).length : Nat) : Int) ss hs h40 ss [] k ⟨#[]⟩ [] [] rfl (by omega) (by decide) rfl rfl
  rw [List.length_nil, List.map_nil, show ((0 : Nat) : Int) = 0 from rfl, List.nil_append, List.nil_append] at hf
  unfold impl_FrontRead
  simp only [hr, hl, Option.bind_some, Bool.not_true, cond_false]
  rw [List.length_map, frS_len, frP_len, bneF rfl]
  simp only [Option.bind_some, cond_false, hf]
  unfold frontB
  rw [List.length_append, Nat.add_assoc]
end Go.Law
