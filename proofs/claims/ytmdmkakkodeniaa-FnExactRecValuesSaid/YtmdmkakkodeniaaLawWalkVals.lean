/- A record is walked through: the values of one leaf. -/
import Derived.Test.YtmdmkakkodeniaaLawCols
import Derived.Test.YtmdmkakkodeniaaLawVok
set_option linter.unusedVariables false
set_option linter.unusedSimpArgs false
set_option linter.unusedSectionVars false
namespace Go.Law
open Go.Am Go.Fn
variable (k : Nat)

/-- the walker -/
abbrev wk (s : List TCol) (vals : List TVal) (bad : Bool) : TWalkerB := (s, vals, bad, ((), (), (), ()), (), ())

/-- a number of parts that is none -/
def cbad (v : TVal) (most : Int) : Bool := !eqS v.2.1 ⟨#[]⟩ || !(decide (0 ≤ v.1) && decide (v.1 ≤ most))
theorem cbad_false {v : TVal} {most : Int} (h : cbad v most = false) : 0 ≤ v.1 ∧ v.1 ≤ most := by
  unfold cbad at h
  simp only [Bool.or_eq_false_iff, Bool.not_eq_false', Bool.and_eq_true, decide_eq_true_eq] at h
  exact h.2

theorem scount_eq (v : TVal) (most : Int) : spec_l13Count k v most = some (if cbad v most then -1 else v.1) := by
  unfold spec_l13Count cbad
  simp only [l1In_eq, Option.bind_some, cst]
  generalize (!eqS v.2.1 ⟨#[]⟩ || !(decide (0 ≤ v.1) && decide (v.1 ≤ most))) = b
  cases b <;> rfl

section
variable (s : List TCol) (hs : s.length ≤ 20) (hn : ∀ c, c ∈ s → c.1.size < k ∧ c.1.size < 1000000000 ∧ I64 c.2.2.2.1)
variable (V : List TVal) (hV : V.length ≤ 1048576) (lv : List Int) (li : Int) (L : Int) (hL : rdL lv li = some L) (hk : 2000000 ≤ k)
include hs hn hV hL hk

theorem next_ok (pos : Nat) (v : TVal) (hv : V[pos]? = some v) (acc : List TVal) :
    impl_walker_next_of_RecValues_1_RecValues_2 k (wk s (V.drop pos) false) () lv li () acc = some (v, (wk s (V.drop (pos + 1)) false, (), lv, li, (), acc)) := by
  have hp : pos < V.length := (List.getElem?_eq_some_iff.1 hv).1
  have hd : V.drop pos = v :: V.drop (pos + 1) := by
    rw [List.drop_eq_getElem_cons hp]
    congr 1
    exact (List.getElem?_eq_some_iff.1 hv).2
  unfold impl_walker_next_of_RecValues_1_RecValues_2
  have hl : (V.drop pos).length = V.length - pos := by rw [List.length_drop]
  have hcut : cutL (V.drop pos) 1 ((V.drop pos).length : Int) = V.drop (pos + 1) := by
    unfold cutL
    rw [Int.toNat_natCast, List.take_length, show (1 : Int).toNat = 1 from rfl, List.drop_drop]
  have hr : rdL (V.drop pos) 0 = some v := by rw [hd]; rfl
  have hz : (((V.drop pos).length : Int) == 0) = false := beqF (by rw [hl]; omega)
  simp only [cond_false, hz, Option.bind_some, hr, hcut]
  rw [inSl_ok (by omega) (by rw [hl]; omega) (by omega), cond_true]

theorem next_end (acc : List TVal) (pos : Nat) (h : V.length ≤ pos) :
    impl_walker_next_of_RecValues_1_RecValues_2 k (wk s (V.drop pos) false) () lv li () acc = some ((0, ⟨#[]⟩, ()), (wk s (V.drop pos) true, (), lv, li, (), acc)) := by
  unfold impl_walker_next_of_RecValues_1_RecValues_2
  have hz : (((V.drop pos).length : Int) == 0) = true := beqT (by rw [List.length_drop]; omega)
  simp only [cond_false, hz, Option.bind_some, cond_true]

theorem missing_ok (d at_ nx : Nat) (h : SubC s d at_ nx) (hd : d ≤ 6) (hnx : nx ≤ s.length) (rep def_ : Int) (vals : List TVal) (bad : Bool) (acc : List TVal) :
    impl_walker_missing_of_RecValues_1_RecValues_2 k (at_ : Int) rep def_ (wk s vals bad) () lv li () acc = some ((nx : Int), (wk s vals bad, (), lv, li, (), acc)) := by
  have key : ∀ (m n i : Nat), i + m = nx → m < n → impl_walker_missing_of_RecValues_1_RecValues_2.l3 k n rep def_ (nx : Int) (i : Int) (wk s vals bad) () lv li () acc = some ((nx : Int), (wk s vals bad, (), lv, li, (), acc)) := by
    intro m
    induction m with
    | zero =>
      intro n i hi hn
      obtain ⟨n, rfl⟩ : ∃ j, n = j + 1 := ⟨n - 1, by omega⟩
      simp only [impl_walker_missing_of_RecValues_1_RecValues_2.l3, decide_eq_false (show ¬ (i : Int) < (nx : Int) by omega), cond_false]
    | succ m ih =>
      intro n i hi hn
      obtain ⟨n, rfl⟩ : ∃ j, n = j + 1 := ⟨n - 1, by omega⟩
      obtain ⟨c, hc, _⟩ := rdL_some (xs := s) (i := (i : Int)) (by omega) (by omega)
      have hi1 : IntKind.wrap .i64 ((i : Int) + 1) = ((i + 1 : Nat) : Int) := by rw [w64 (by omega) (by omega)]; omega
      simp only [impl_walker_missing_of_RecValues_1_RecValues_2.l3, decide_eq_true (show (i : Int) < (nx : Int) by omega), cond_true, hc, Option.bind_some, impl_walker_missing_of_RecValues_1_RecValues_2.c4, hi1, impl_RecValues_2]
      have := ih n (i + 1) (by omega) (by omega)
      cases c.2.1 != 7 <;> exact this
  unfold impl_walker_missing_of_RecValues_1_RecValues_2
  have hlt := SubC_lt _ _ _ h
  have hca := colAfter_sub k s hs hn (by omega) h hd hnx
  simp only [hca, Option.bind_some]
  exact key (nx - at_) k at_ (by omega) (by omega)

/-- what one going through a col's content comes to -/
def ContentOk (D E at_ nx pos : Nat) : Prop :=
  ∃ v : Int, (spec_l13Content.rec k D).1 s (at_ : Int) V (pos : Int) = some v ∧
    ((v = -1 ∧ ∀ (rep def_ deep : Int) (acc : List TVal), acc.length ≤ pos → ∃ nx' vals' acc', (impl_walker_body_of_RecValues_1_RecValues_2.rec k D).1 (at_ : Int) rep def_ deep (wk s (V.drop pos) false) () lv li () acc = some (nx', (wk s vals' true, (), lv, li, (), acc'))) ∨
     (∃ (p : Nat) (X : List TVal), v = p ∧ pos + X.length ≤ p ∧ p ≤ V.length ∧
       (∀ (rep def_ deep : Int) (acc : List TVal), acc.length ≤ pos → (impl_walker_body_of_RecValues_1_RecValues_2.rec k D).1 (at_ : Int) rep def_ deep (wk s (V.drop pos) false) () lv li () acc = some ((nx : Int), (wk s (V.drop p) false, (), lv, li, (), acc ++ X))) ∧
       (∀ (n i : Int) (f : Nat) (out : List TVal), i < n → 0 ≤ i → n ≤ 1000000 → out.length ≤ pos → spec_l13Values.l6 k (spec_l13Values.rec k E) (f + 1) s (at_ : Int) V (pos : Int) L n i out = spec_l13Values.l6 k (spec_l13Values.rec k E) f s (at_ : Int) V (p : Int) L n (i + 1) (out ++ X))))

def PartOk (D E at_ nx pos : Nat) : Prop :=
  ∃ v : Int, (spec_l13Content.rec k D).2 s (at_ : Int) V (pos : Int) = some v ∧
    ((v = -1 ∧ ∀ (rep def_ deep : Int) (acc : List TVal), acc.length ≤ pos → ∃ nx' vals' acc', (impl_walker_body_of_RecValues_1_RecValues_2.rec k D).2 (at_ : Int) rep def_ deep (wk s (V.drop pos) false) () lv li () acc = some (nx', (wk s vals' true, (), lv, li, (), acc'))) ∨
     (∃ (p : Nat) (X : List TVal), v = p ∧ pos + X.length ≤ p ∧ p ≤ V.length ∧
       (∀ (rep def_ deep : Int) (acc : List TVal), acc.length ≤ pos → (impl_walker_body_of_RecValues_1_RecValues_2.rec k D).2 (at_ : Int) rep def_ deep (wk s (V.drop pos) false) () lv li () acc = some ((nx : Int), (wk s (V.drop p) false, (), lv, li, (), acc ++ X))) ∧
       (∀ out : List TVal, out.length ≤ pos → (spec_l13Values.rec k E) s (at_ : Int) false V (pos : Int) L out = some (((), (p : Int)), out ++ X))))

theorem leaf_ok (at_ : Nat) (rep def_ : Int) (v : TVal) (acc : List TVal) (ha : acc.length ≤ 1048576) :
    impl_RecValues_1 k (at_ : Int) rep def_ v () li () lv acc = some ((), ((), li, (), lv, acc ++ (if (at_ : Int) = L then [v] else []))) := by
  unfold impl_RecValues_1
  simp only [hL, Option.bind_some]
  by_cases h : (at_ : Int) = L
  · rw [beqT h, cond_true, lim_ok (by simp; omega), cond_true, if_pos h]
  · rw [beqF h, cond_false, if_neg h, List.append_nil]

/-- one that is no group -/
theorem content_leaf (D E at_ pos : Nat) (c : TCol) (hc : s[at_]? = some c) (h7 : c.2.1 ≠ 7) (hat : at_ < s.length) (hpos : pos ≤ V.length) (hm : c.2.2.2.1 ≤ 0) : ContentOk k s V lv li L (D + 1) E at_ (at_ + 1) pos := by
  unfold ContentOk
  have ha1 : IntKind.wrap .i64 ((at_ : Int) + 1) = ((at_ + 1 : Nat) : Int) := by rw [w64 (by omega) (by omega)]; omega
  have hp1 : IntKind.wrap .i64 ((pos : Int) + 1) = ((pos + 1 : Nat) : Int) := by rw [w64 (by omega) (by omega)]; omega
  simp only [spec_l13Content.rec, impl_walker_body_of_RecValues_1_RecValues_2.rec, spec_l13Content.b, impl_walker_body_of_RecValues_1_RecValues_2.b, rdL_nat, hc, Option.bind_some, bneT h7, cond_true, ha1, hp1]
  by_cases hlt : pos < V.length
  · obtain ⟨v, hv⟩ : ∃ v, V[pos]? = some v := ⟨_, List.getElem?_eq_getElem hlt⟩
    have hnx := next_ok k s hs hn V hV lv li L hL hk pos v hv
    simp only [decide_eq_false (show ¬ (pos : Int) ≥ (V.length : Int) by omega), cond_false, hv, svalOk_eq, Option.bind_some, hnx, impl_walker_body_of_RecValues_1_RecValues_2.d3, valOk_eq, rdL_nat, hc, Bool.not_false, cond_true]
    cases hvo : vok c.2.1 v with
    | false =>
      refine ⟨-1, rfl, .inl ⟨rfl, fun rep def_ deep acc ha => ?_⟩⟩
      simp only [Bool.not_false, cond_true, impl_walker_body_of_RecValues_1_RecValues_2.c5, Bool.not_true, cond_false, impl_walker_body_of_RecValues_1_RecValues_2.c7]
      exact ⟨_, _, _, rfl⟩
    | true =>
      refine ⟨_, rfl, .inr ⟨pos + 1, if (at_ : Int) = L then [v] else [], rfl, ?_, by omega, fun rep def_ deep acc ha => ?_, fun n i f out hi h0 hn1 hout => ?_⟩⟩
      · split <;> simp
      · simp only [Bool.not_true, cond_false, impl_walker_body_of_RecValues_1_RecValues_2.c5, Bool.not_false, cond_true, leaf_ok k s hs hn V hV lv li L hL hk at_ rep def_ v acc (by omega), Option.bind_some, impl_walker_body_of_RecValues_1_RecValues_2.c7, ha1]
      · have hi1 : IntKind.wrap .i64 (i + 1) = i + 1 := w64 (by omega) (by omega)
        simp only [spec_l13Values.l6, decide_eq_true hi, cond_true, rdL_nat, hc, Option.bind_some, bneT h7, hv, spec_l13Values.c11, spec_l13Values.c7, hp1, hi1]
        by_cases h : (at_ : Int) = L
        · rw [beqT h, cond_true, lim_ok (by simp; omega), cond_true, if_pos h]
        · rw [beqF h, cond_false, if_neg h, List.append_nil]
  · have hnx := next_end k s hs hn V hV lv li L hL hk
    have hnx := fun acc => hnx acc pos (by omega)
    simp only [decide_eq_true (show (pos : Int) ≥ (V.length : Int) by omega), cond_true, Option.bind_some, hnx, impl_walker_body_of_RecValues_1_RecValues_2.d3, Bool.not_true, cond_false, impl_walker_body_of_RecValues_1_RecValues_2.c5, impl_walker_body_of_RecValues_1_RecValues_2.c7]
    exact ⟨-1, rfl, .inl ⟨rfl, fun rep def_ deep acc ha => ⟨_, _, _, rfl⟩⟩⟩

theorem times_ok (d D E at_ nx : Nat) (h : SubC s d at_ nx) (hd : d ≤ 6) (hnx : nx ≤ s.length) (P : ∀ pos, pos ≤ V.length → ContentOk k s V lv li L D E at_ nx pos) (n : Nat) (hn100 : n ≤ 100) :
    ∀ (m j pos : Nat), n = j + m → 1 ≤ j → pos ≤ V.length →
      ∃ v : Int, (∀ f, m < f → spec_l13Part.l13 k (spec_l13Content.rec k D).1 f s (at_ : Int) V (pos : Int) (n : Int) (j : Int) = some v) ∧
        ((v = -1 ∧ ∀ (f : Nat) (def_ deep : Int) (acc : List TVal), m < f → acc.length ≤ pos → ∃ nx' vals' acc', impl_walker_col_of_RecValues_1_RecValues_2.l14 k (impl_walker_body_of_RecValues_1_RecValues_2.rec k D).1 f (at_ : Int) def_ deep (n : Int) (j : Int) (wk s (V.drop pos) false) () lv li () acc = some (nx', (wk s vals' true, (), lv, li, (), acc'))) ∨
         (∃ (p : Nat) (X : List TVal), v = p ∧ pos + X.length ≤ p ∧ p ≤ V.length ∧
           (∀ (f : Nat) (def_ deep : Int) (acc : List TVal), m < f → acc.length ≤ pos → impl_walker_col_of_RecValues_1_RecValues_2.l14 k (impl_walker_body_of_RecValues_1_RecValues_2.rec k D).1 f (at_ : Int) def_ deep (n : Int) (j : Int) (wk s (V.drop pos) false) () lv li () acc = some ((nx : Int), (wk s (V.drop p) false, (), lv, li, (), acc ++ X))) ∧
           (∀ (f : Nat) (out : List TVal), m < f → out.length ≤ pos → spec_l13Values.l6 k (spec_l13Values.rec k E) f s (at_ : Int) V (pos : Int) L (n : Int) (j : Int) out = some (((), (p : Int)), out ++ X)))) := by
  have hlt := SubC_lt _ _ _ h
  have hca := colAfter_sub k s hs hn (by omega) h hd hnx
  obtain ⟨c, hc, _⟩ := rdL_some (xs := s) (i := (at_ : Int)) (by omega) (by omega)
  intro m
  induction m with
  | zero =>
    intro j pos hj h1 hpos
    refine ⟨(pos : Int), fun f hf => ?_, .inr ⟨pos, [], rfl, by simp, hpos, fun f def_ deep acc hf ha => ?_, fun f out hf ho => ?_⟩⟩
    · obtain ⟨f, rfl⟩ : ∃ q, f = q + 1 := ⟨f - 1, by omega⟩
      simp only [spec_l13Part.l13, decide_eq_false (show ¬ (j : Int) < (n : Int) by omega), cond_false]
    · obtain ⟨f, rfl⟩ : ∃ q, f = q + 1 := ⟨f - 1, by omega⟩
      simp only [impl_walker_col_of_RecValues_1_RecValues_2.l14, decide_eq_false (show ¬ (j : Int) < (n : Int) by omega), cond_false, Option.bind_some, hca, List.append_nil]
    · obtain ⟨f, rfl⟩ : ∃ q, f = q + 1 := ⟨f - 1, by omega⟩
      simp only [spec_l13Values.l6, decide_eq_false (show ¬ (j : Int) < (n : Int) by omega), cond_false, List.append_nil]
  | succ m ih =>
    intro j pos hj h1 hpos
    have hj1 : IntKind.wrap .i64 ((j : Int) + 1) = ((j + 1 : Nat) : Int) := by rw [w64 (by omega) (by omega)]; omega
    obtain ⟨v1, g1, g2⟩ := P pos hpos
    rcases g2 with ⟨rfl, g2⟩ | ⟨p, X, rfl, q1, q2, q3, q4⟩
    · refine ⟨-1, fun f hf => ?_, .inl ⟨rfl, fun f def_ deep acc hf ha => ?_⟩⟩
      · obtain ⟨f, rfl⟩ : ∃ q, f = q + 1 := ⟨f - 1, by omega⟩
        simp only [spec_l13Part.l13, decide_eq_true (show (j : Int) < (n : Int) by omega), cond_true, g1, Option.bind_some, decide_eq_true (show (-1 : Int) < 0 by omega)]
      · obtain ⟨f, rfl⟩ : ∃ q, f = q + 2 := ⟨f - 2, by omega⟩
        obtain ⟨nx', vals', acc', e⟩ := g2 deep (IntKind.wrap .i64 (def_ + 1)) deep acc ha
        rw [show f + 2 = (f + 1) + 1 by rfl]
        simp only [impl_walker_col_of_RecValues_1_RecValues_2.l14, decide_eq_true (show (j : Int) < (n : Int) by omega), cond_true, Bool.not_false, Option.bind_some, e, Bool.not_true, cond_false, csf, Bool.and_false, hca]
        exact ⟨_, _, _, rfl⟩
    · obtain ⟨v, r1, r2⟩ := ih (j + 1) p (by omega) (by omega) q2
      refine ⟨v, fun f hf => ?_, ?_⟩
      · obtain ⟨f, rfl⟩ : ∃ q, f = q + 1 := ⟨f - 1, by omega⟩
        simp only [spec_l13Part.l13, decide_eq_true (show (j : Int) < (n : Int) by omega), cond_true, g1, Option.bind_some, decide_eq_false (show ¬ ((p : Int) < 0) by omega), cond_false, hj1]
        exact r1 f (by omega)
      · rcases r2 with ⟨rfl, r2⟩ | ⟨p2, X2, rfl, t1, t2, t3, t4⟩
        · refine .inl ⟨rfl, fun f def_ deep acc hf ha => ?_⟩
          obtain ⟨f, rfl⟩ : ∃ q, f = q + 1 := ⟨f - 1, by omega⟩
          simp only [impl_walker_col_of_RecValues_1_RecValues_2.l14, decide_eq_true (show (j : Int) < (n : Int) by omega), cond_true, Bool.not_false, Option.bind_some, q3 deep (IntKind.wrap .i64 (def_ + 1)) deep acc ha, hj1]
          exact r2 f def_ deep (acc ++ X) (by omega) (by simp; omega)
        · refine .inr ⟨p2, X ++ X2, rfl, by simp; omega, t2, fun f def_ deep acc hf ha => ?_, fun f out hf ho => ?_⟩
          · obtain ⟨f, rfl⟩ : ∃ q, f = q + 1 := ⟨f - 1, by omega⟩
            simp only [impl_walker_col_of_RecValues_1_RecValues_2.l14, decide_eq_true (show (j : Int) < (n : Int) by omega), cond_true, Bool.not_false, Option.bind_some, q3 deep (IntKind.wrap .i64 (def_ + 1)) deep acc ha, hj1]
            have := t3 f def_ deep (acc ++ X) (by omega) (by simp; omega)
            rw [List.append_assoc] at this
            exact this
          · obtain ⟨f, rfl⟩ : ∃ q, f = q + 1 := ⟨f - 1, by omega⟩
            rw [q4 (n : Int) (j : Int) f out (by omega) (by omega) (by omega) ho]
            have := t4 f (out ++ X) (by omega) (by simp; omega)
            rw [List.append_assoc] at this
            exact this

theorem count_eq (pos : Nat) (v : TVal) (hv : V[pos]? = some v) (most : Int) (acc : List TVal) :
    impl_walker_count_of_RecValues_1_RecValues_2 k most (wk s (V.drop pos) false) () lv li () acc = some (if cbad v most then 0 else v.1, (wk s (V.drop (pos + 1)) (cbad v most), (), lv, li, (), acc)) := by
  unfold impl_walker_count_of_RecValues_1_RecValues_2 cbad
  have e := next_ok k s hs hn V hV lv li L hL hk pos v hv acc
  have e : impl_walker_next_of_RecValues_1_RecValues_2 k (s, V.drop pos, false, ((), (), (), ()), (), ()) () lv li () acc = _ := e
  simp only [e, Option.bind_some, within_eq, cst]
  generalize (!eqS v.2.1 ⟨#[]⟩ || !(decide (0 ≤ v.1) && decide (v.1 ≤ most))) = b
  cases b <;> rfl

theorem count_end (pos : Nat) (h : V.length ≤ pos) (most : Int) (hm : 0 ≤ most) (acc : List TVal) :
    impl_walker_count_of_RecValues_1_RecValues_2 k most (wk s (V.drop pos) false) () lv li () acc = some (0, (wk s (V.drop pos) true, (), lv, li, (), acc)) := by
  unfold impl_walker_count_of_RecValues_1_RecValues_2
  have e := next_end k s hs hn V hV lv li L hL hk acc pos h
  have e : impl_walker_next_of_RecValues_1_RecValues_2 k (s, V.drop pos, false, ((), (), (), ()), (), ()) () lv li () acc = _ := e
  have hz : eqS (⟨#[]⟩ : ByteArray) ⟨#[]⟩ = true := by rw [eqS_iff]; simp
  have hw : (decide ((0 : Int) ≤ 0) && decide ((0 : Int) ≤ most)) = true := by simp; omega
  simp only [e, Option.bind_some, within_eq, hz, hw, Bool.not_true, cond_false]

theorem once_part (D E at_ nx : Nat) (P : ∀ pos, pos ≤ V.length → ContentOk k s V lv li L D E at_ nx pos) (c : TCol) (hc : s[at_]? = some c) (pos : Nat) (hpos : pos ≤ V.length) :
    ∃ v : Int, spec_l13Part.l13 k (spec_l13Content.rec k D).1 k s (at_ : Int) V (pos : Int) 1 0 = some v ∧
      ((v = -1 ∧ ∀ (rep def_ deep : Int) (acc : List TVal), acc.length ≤ pos → ∃ nx' vals' acc', (impl_walker_body_of_RecValues_1_RecValues_2.rec k D).1 (at_ : Int) rep def_ deep (wk s (V.drop pos) false) () lv li () acc = some (nx', (wk s vals' true, (), lv, li, (), acc'))) ∨
       (∃ (p : Nat) (X : List TVal), v = p ∧ pos + X.length ≤ p ∧ p ≤ V.length ∧
         (∀ (rep def_ deep : Int) (acc : List TVal), acc.length ≤ pos → (impl_walker_body_of_RecValues_1_RecValues_2.rec k D).1 (at_ : Int) rep def_ deep (wk s (V.drop pos) false) () lv li () acc = some ((nx : Int), (wk s (V.drop p) false, (), lv, li, (), acc ++ X))) ∧
         (∀ out : List TVal, out.length ≤ pos → spec_l13Values.l6 k (spec_l13Values.rec k E) k s (at_ : Int) V (pos : Int) L 1 0 out = some (((), (p : Int)), out ++ X)))) := by
  obtain ⟨k', hk'⟩ : ∃ q, k = q + 2 := ⟨k - 2, by omega⟩
  have h01 : IntKind.wrap .i64 ((0 : Int) + 1) = 1 := by decide
  obtain ⟨v1, g1, g2⟩ := P pos hpos
  rcases g2 with ⟨rfl, g2⟩ | ⟨p, X, rfl, q1, q2, q3, q4⟩
  · refine ⟨-1, ?_, .inl ⟨rfl, g2⟩⟩
    conv => lhs; arg 3; rw [hk']
    simp only [spec_l13Part.l13, decide_eq_true (show (0 : Int) < 1 by omega), cond_true, g1, Option.bind_some, decide_eq_true (show (-1 : Int) < 0 by omega)]
  · refine ⟨p, ?_, .inr ⟨p, X, rfl, q1, q2, q3, fun out ho => ?_⟩⟩
    · conv => lhs; arg 3; rw [hk']
      simp only [spec_l13Part.l13, decide_eq_true (show (0 : Int) < 1 by omega), cond_true, g1, Option.bind_some, decide_eq_false (show ¬ ((p : Int) < 0) by omega), cond_false, h01, decide_eq_false (show ¬ ((1 : Int) < 1) by omega)]
    · conv => lhs; arg 3; rw [hk']
      rw [q4 1 0 (k' + 1) out (by omega) (by omega) (by omega) ho]
      simp only [spec_l13Values.l6, Int.zero_add, decide_eq_false (show ¬ ((1 : Int) < 1) by omega), cond_false]

theorem part_ok (d D E at_ nx : Nat) (h : SubC s d at_ nx) (hd : d ≤ 6) (hnx : nx ≤ s.length) (P : ∀ pos, pos ≤ V.length → ContentOk k s V lv li L D E at_ nx pos) (pos : Nat) (hpos : pos ≤ V.length) : PartOk k s V lv li L (D + 1) (E + 1) at_ nx pos := by
  unfold PartOk
  have hlt := SubC_lt _ _ _ h
  have hmiss := missing_ok k s hs hn V hV lv li L hL hk d at_ nx h hd hnx
  have htimes := times_ok k s hs hn V hV lv li L hL hk d D E at_ nx h hd hnx P
  have honce := once_part k s hs hn V hV lv li L hL hk D E at_ nx P
  have hca := colAfter_sub k s hs hn (by omega) h hd hnx
  have hbad : ∀ (def_ deep n : Int) (vals acc : List TVal), impl_walker_col_of_RecValues_1_RecValues_2.l14 k (impl_walker_body_of_RecValues_1_RecValues_2.rec k D).1 k (at_ : Int) def_ deep n 1 (wk s vals true) () lv li () acc = some ((nx : Int), (wk s vals true, (), lv, li, (), acc)) := by
    intro def_ deep n vals acc
    obtain ⟨k', hk'⟩ : ∃ q, k = q + 1 := ⟨k - 1, by omega⟩
    conv => lhs; arg 3; rw [hk']
    simp only [impl_walker_col_of_RecValues_1_RecValues_2.l14, csf, Bool.not_true, Bool.and_false, Option.bind_some, cond_false, hca]
  obtain ⟨d, rfl⟩ : ∃ q, d = q + 1 := ⟨d - 1, by cases d with
    | zero => exact h.elim
    | succ d => omega⟩
  obtain ⟨c, hc, hco, _, _⟩ := h
  have hrep : c.2.2.1 = 0 ∨ c.2.2.1 = 1 ∨ c.2.2.1 = 2 := by
    unfold colOk at hco
    simp only [Bool.and_eq_true, decide_eq_true_eq] at hco
    omega
  have hp1 : IntKind.wrap .i64 ((pos : Int) + 1) = ((pos + 1 : Nat) : Int) := by rw [w64 (by omega) (by omega)]; omega
  simp only [spec_l13Content.rec, impl_walker_body_of_RecValues_1_RecValues_2.rec, spec_l13Values.rec, spec_l13Part.b, impl_walker_col_of_RecValues_1_RecValues_2.b, spec_l13Values.b, rdL_nat, hc, Option.bind_some, Bool.not_false, cond_true]
  rcases hrep with hr | hr | hr
  · -- Required
    simp only [bneF hr, beqF (show ¬ c.2.2.1 = 1 by omega), beqF (show ¬ c.2.2.1 = 2 by omega), cond_false, spec_l13Part.c12, impl_walker_col_of_RecValues_1_RecValues_2.c18, spec_l13Values.c5]
    obtain ⟨v, g1, g2⟩ := honce c hc pos hpos
    refine ⟨v, g1, ?_⟩
    rcases g2 with ⟨rfl, g2⟩ | ⟨p, X, rfl, q1, q2, q3, q4⟩
    · refine .inl ⟨rfl, fun rep def_ deep acc ha => ?_⟩
      obtain ⟨nx', vals', acc', e⟩ := g2 rep def_ deep acc ha
      simp only [e, Option.bind_some]
      exact ⟨_, _, _, rfl⟩
    · refine .inr ⟨p, X, rfl, q1, q2, fun rep def_ deep acc ha => ?_, fun out ho => q4 out ho⟩
      simp only [q3 rep def_ deep acc ha, Option.bind_some]
  · -- Optional
    simp only [bneT (show ¬ c.2.2.1 = 0 by omega), beqT hr, beqF (show ¬ c.2.2.1 = 2 by omega), cond_false, cond_true, spec_l13Part.c6, spec_l13Part.c12, impl_walker_col_of_RecValues_1_RecValues_2.c18, spec_l13Values.c5]
    by_cases hlt' : pos < V.length
    · obtain ⟨v, hv⟩ : ∃ v, V[pos]? = some v := ⟨_, List.getElem?_eq_getElem hlt'⟩
      have hv' : rdL V (pos : Int) = some v := hv
      have hce := count_eq k s hs hn V hV lv li L hL hk pos v hv 1
      simp only [decide_eq_false (show ¬ (pos : Int) ≥ (V.length : Int) by omega), cond_false, hv', hv, Option.bind_some, hp1, scount_eq, hce]
      cases hb : cbad v 1 with
      | true =>
        simp only [if_true, decide_eq_true (show (-1 : Int) < 0 by omega), cond_true, beqT (show (0 : Int) = 0 from rfl), hmiss, Option.bind_some]
        exact ⟨-1, rfl, .inl ⟨rfl, fun rep def_ deep acc ha => ⟨_, _, _, rfl⟩⟩⟩
      | false =>
        have hcb := cbad_false hb
        simp only [Bool.false_eq_true, if_false, decide_eq_false (show ¬ (v.1 < 0) by omega), cond_false]
        by_cases hv0 : v.1 = 0
        · rw [hv0]
          obtain ⟨k', hk'⟩ : ∃ q, k = q + 1 := ⟨k - 1, by omega⟩
          have e1 : spec_l13Part.l13 k (spec_l13Content.rec k D).1 k s (at_ : Int) V ((pos + 1 : Nat) : Int) 0 0 = some ((pos + 1 : Nat) : Int) := by
            conv => lhs; arg 3; rw [hk']
            simp only [spec_l13Part.l13, decide_eq_false (show ¬ ((0 : Int) < 0) by omega), cond_false]
          have e2 : ∀ out, spec_l13Values.l6 k (spec_l13Values.rec k E) k s (at_ : Int) V ((pos + 1 : Nat) : Int) L 0 0 out = some (((), ((pos + 1 : Nat) : Int)), out) := by
            intro out
            conv => lhs; arg 3; rw [hk']
            simp only [spec_l13Values.l6, decide_eq_false (show ¬ ((0 : Int) < 0) by omega), cond_false]
          simp only [e1, e2, beqT (show (0 : Int) = 0 from rfl), cond_true, hmiss, Option.bind_some]
          exact ⟨_, rfl, .inr ⟨pos + 1, [], rfl, by simp, by omega, fun rep def_ deep acc ha => by simp, fun out ho => by simp⟩⟩
        · have hv1 : v.1 = 1 := by omega
          simp only [beqF hv0, cond_false]
          rw [hv1]
          obtain ⟨w, g1, g2⟩ := honce c hc (pos + 1) (by omega)
          refine ⟨w, g1, ?_⟩
          rcases g2 with ⟨rfl, g2⟩ | ⟨p, X, rfl, q1, q2, q3, q4⟩
          · refine .inl ⟨rfl, fun rep def_ deep acc ha => ?_⟩
            obtain ⟨nx', vals', acc', e⟩ := g2 rep (IntKind.wrap .i64 (def_ + 1)) deep acc (by omega)
            simp only [e, Option.bind_some]
            exact ⟨_, _, _, rfl⟩
          · refine .inr ⟨p, X, rfl, by omega, q2, fun rep def_ deep acc ha => ?_, fun out ho => q4 out (by omega)⟩
            simp only [q3 rep (IntKind.wrap .i64 (def_ + 1)) deep acc (by omega), Option.bind_some]
    · have hce := count_end k s hs hn V hV lv li L hL hk pos (by omega) 1 (by omega)
      simp only [decide_eq_true (show (pos : Int) ≥ (V.length : Int) by omega), cond_true, hce, Option.bind_some, beqT (show (0 : Int) = 0 from rfl), hmiss]
      exact ⟨-1, rfl, .inl ⟨rfl, fun rep def_ deep acc ha => ⟨_, _, _, rfl⟩⟩⟩
  · -- Repeated
    simp only [bneT (show ¬ c.2.2.1 = 0 by omega), beqF (show ¬ c.2.2.1 = 1 by omega), beqT hr, cond_false, cond_true, spec_l13Part.c6, spec_l13Part.c12, spec_l13Values.c5]
    by_cases hlt' : pos < V.length
    · obtain ⟨v, hv⟩ : ∃ v, V[pos]? = some v := ⟨_, List.getElem?_eq_getElem hlt'⟩
      have hv' : rdL V (pos : Int) = some v := hv
      have hce := count_eq k s hs hn V hV lv li L hL hk pos v hv 20
      simp only [decide_eq_false (show ¬ (pos : Int) ≥ (V.length : Int) by omega), cond_false, hv', hv, Option.bind_some, hp1, scount_eq, hce]
      cases hb : cbad v 20 with
      | true =>
        simp only [if_true, decide_eq_true (show (-1 : Int) < 0 by omega), cond_true, beqT (show (0 : Int) = 0 from rfl), hmiss, Option.bind_some]
        exact ⟨-1, rfl, .inl ⟨rfl, fun rep def_ deep acc ha => ⟨_, _, _, rfl⟩⟩⟩
      | false =>
        have hcb := cbad_false hb
        simp only [Bool.false_eq_true, if_false, decide_eq_false (show ¬ (v.1 < 0) by omega), cond_false]
        obtain ⟨k', hk'⟩ : ∃ q, k = q + 1 := ⟨k - 1, by omega⟩
        by_cases hv0 : v.1 = 0
        · rw [hv0]
          have e1 : spec_l13Part.l13 k (spec_l13Content.rec k D).1 k s (at_ : Int) V ((pos + 1 : Nat) : Int) 0 0 = some ((pos + 1 : Nat) : Int) := by
            conv => lhs; arg 3; rw [hk']
            simp only [spec_l13Part.l13, decide_eq_false (show ¬ ((0 : Int) < 0) by omega), cond_false]
          have e2 : ∀ out, spec_l13Values.l6 k (spec_l13Values.rec k E) k s (at_ : Int) V ((pos + 1 : Nat) : Int) L 0 0 out = some (((), ((pos + 1 : Nat) : Int)), out) := by
            intro out
            conv => lhs; arg 3; rw [hk']
            simp only [spec_l13Values.l6, decide_eq_false (show ¬ ((0 : Int) < 0) by omega), cond_false]
          simp only [e1, e2, beqT (show (0 : Int) = 0 from rfl), cond_true, hmiss, Option.bind_some]
          exact ⟨_, rfl, .inr ⟨pos + 1, [], rfl, by simp, by omega, fun rep def_ deep acc ha => by simp, fun out ho => by simp⟩⟩
        · obtain ⟨N, hN⟩ : ∃ N : Nat, v.1 = (N : Int) := ⟨v.1.toNat, by omega⟩
          simp only [beqF hv0, cond_false]
          rw [hN]
          have h01 : IntKind.wrap .i64 ((0 : Int) + 1) = ((1 : Nat) : Int) := by decide
          obtain ⟨v1, g1, g2⟩ := P (pos + 1) (by omega)
          rcases g2 with ⟨rfl, g2⟩ | ⟨p, X, rfl, q1, q2, q3, q4⟩
          · refine ⟨-1, ?_, .inl ⟨rfl, fun rep def_ deep acc ha => ?_⟩⟩
            · conv => lhs; arg 3; rw [hk']
              simp only [spec_l13Part.l13, decide_eq_true (show (0 : Int) < (N : Int) by omega), cond_true, g1, Option.bind_some, decide_eq_true (show (-1 : Int) < 0 by omega)]
            · obtain ⟨nx', vals', acc', e⟩ := g2 rep (IntKind.wrap .i64 (def_ + 1)) (IntKind.wrap .i64 (deep + 1)) acc (by omega)
              simp only [e, Option.bind_some, hbad]
              exact ⟨_, _, _, rfl⟩
          · obtain ⟨w, r1, r2⟩ := htimes N (by omega) (N - 1) 1 p (by omega) (by omega) q2
            refine ⟨w, ?_, ?_⟩
            · conv => lhs; arg 3; rw [hk']
              simp only [spec_l13Part.l13, decide_eq_true (show (0 : Int) < (N : Int) by omega), cond_true, g1, Option.bind_some, decide_eq_false (show ¬ ((p : Int) < 0) by omega), cond_false, h01]
              exact r1 k' (by omega)
            · rcases r2 with ⟨rfl, r2⟩ | ⟨p2, X2, rfl, t1, t2, t3, t4⟩
              · refine .inl ⟨rfl, fun rep def_ deep acc ha => ?_⟩
                simp only [q3 rep (IntKind.wrap .i64 (def_ + 1)) (IntKind.wrap .i64 (deep + 1)) acc (by omega), Option.bind_some]
                exact r2 k def_ (IntKind.wrap .i64 (deep + 1)) (acc ++ X) (by omega) (by simp; omega)
              · refine .inr ⟨p2, X ++ X2, rfl, by simp; omega, t2, fun rep def_ deep acc ha => ?_, fun out ho => ?_⟩
                · simp only [q3 rep (IntKind.wrap .i64 (def_ + 1)) (IntKind.wrap .i64 (deep + 1)) acc (by omega), Option.bind_some]
                  have := t3 k def_ (IntKind.wrap .i64 (deep + 1)) (acc ++ X) (by omega) (by simp; omega)
                  rw [List.append_assoc] at this
                  exact this
                · conv => lhs; arg 3; rw [hk']
                  rw [q4 (N : Int) 0 k' out (by omega) (by omega) (by omega) (by omega)]
                  have := t4 k' (out ++ X) (by omega) (by simp; omega)
                  rw [List.append_assoc] at this
                  exact this
    · have hce := count_end k s hs hn V hV lv li L hL hk pos (by omega) 20 (by omega)
      simp only [decide_eq_true (show (pos : Int) ≥ (V.length : Int) by omega), cond_true, hce, Option.bind_some, beqT (show (0 : Int) = 0 from rfl), hmiss]
      exact ⟨-1, rfl, .inl ⟨rfl, fun rep def_ deep acc ha => ⟨_, _, _, rfl⟩⟩⟩

theorem parts_ok (d D E at_ nx : Nat) (hd : d ≤ 6) (hnx : nx ≤ s.length) (c : TCol) (hc : s[at_]? = some c) (hcm : c.2.2.2.1 ≤ 1000000)
    (Q : ∀ pl mid, SubC s d pl mid → mid ≤ s.length → ∀ pos, pos ≤ V.length → PartOk k s V lv li L D E pl mid pos) :
    ∀ (m pl pos : Nat) (i : Int) (names : List ByteArray), PartsC (SubC s d) s m pl names nx → c.2.2.2.1 - i = m → 0 ≤ i → pos ≤ V.length →
      ∃ v : Int, (∀ f, m < f → spec_l13Content.l7 k (spec_l13Content.rec k D).2 f s (at_ : Int) V (pos : Int) (pl : Int) i = some v) ∧
        ((v = -1 ∧ ∀ (f : Nat) (rep def_ deep : Int) (acc : List TVal), m < f → acc.length ≤ pos → ∃ nx' vals' acc', impl_walker_body_of_RecValues_1_RecValues_2.l10 k (impl_walker_body_of_RecValues_1_RecValues_2.rec k D).2 f rep def_ deep (pl : Int) c.2.2.2.1 i (wk s (V.drop pos) false) () lv li () acc = some (nx', (wk s vals' true, (), lv, li, (), acc'))) ∨
         (∃ (p : Nat) (X : List TVal), v = p ∧ pos + X.length ≤ p ∧ p ≤ V.length ∧
           (∀ (f : Nat) (rep def_ deep : Int) (acc : List TVal), m < f → acc.length ≤ pos → impl_walker_body_of_RecValues_1_RecValues_2.l10 k (impl_walker_body_of_RecValues_1_RecValues_2.rec k D).2 f rep def_ deep (pl : Int) c.2.2.2.1 i (wk s (V.drop pos) false) () lv li () acc = some ((nx : Int), (wk s (V.drop p) false, (), lv, li, (), acc ++ X))) ∧
           (∀ (L6 : (List TCol) → Int → (List TVal) → Int → Int → Int → Int → (List TVal) → Option ((Unit × Int) × (List TVal))) (f : Nat) (n it : Int) (out : List TVal), m < f → out.length ≤ pos →
             spec_l13Values.l14 k (spec_l13Values.rec k E) L6 f s (at_ : Int) V (pos : Int) L n it (pl : Int) i out = L6 s (at_ : Int) V (p : Int) L n (IntKind.wrap .i64 (it + 1)) (out ++ X)))) := by
  intro m
  induction m with
  | zero =>
    intro pl pos i names hp hi h0 hpos
    have hp : pl = nx := hp
    subst hp
    refine ⟨(pos : Int), fun f hf => ?_, .inr ⟨pos, [], rfl, by simp, hpos, fun f rep def_ deep acc hf ha => ?_, fun L6 f n it out hf ho => ?_⟩⟩
    · obtain ⟨f, rfl⟩ : ∃ q, f = q + 1 := ⟨f - 1, by omega⟩
      simp only [spec_l13Content.l7, rdL_nat, hc, Option.bind_some, decide_eq_false (show ¬ (i < c.2.2.2.1) by omega), cond_false]
    · obtain ⟨f, rfl⟩ : ∃ q, f = q + 1 := ⟨f - 1, by omega⟩
      simp only [impl_walker_body_of_RecValues_1_RecValues_2.l10, decide_eq_false (show ¬ (i < c.2.2.2.1) by omega), cond_false, impl_walker_body_of_RecValues_1_RecValues_2.c14, List.append_nil]
    · obtain ⟨f, rfl⟩ : ∃ q, f = q + 1 := ⟨f - 1, by omega⟩
      simp only [spec_l13Values.l14, rdL_nat, hc, Option.bind_some, decide_eq_false (show ¬ (i < c.2.2.2.1) by omega), cond_false, spec_l13Values.c7, List.append_nil]
  | succ m ih =>
    intro pl pos i names hp hi h0 hpos
    obtain ⟨q, mid, q1, q2, q3, q4⟩ := hp
    have hmn := PartsC_nx (SubC_lt d) _ _ _ _ q4
    have hi1 : IntKind.wrap .i64 (i + 1) = i + 1 := w64 (by omega) (by omega)
    have haf := l5After_sub k s hs hn (by omega) q3 hd (by omega)
    obtain ⟨v1, g1, g2⟩ := Q pl mid q3 (by omega) pos hpos
    rcases g2 with ⟨rfl, g2⟩ | ⟨p, X, rfl, r1, r2, r3, r4⟩
    · refine ⟨-1, fun f hf => ?_, .inl ⟨rfl, fun f rep def_ deep acc hf ha => ?_⟩⟩
      · obtain ⟨f, rfl⟩ : ∃ q, f = q + 1 := ⟨f - 1, by omega⟩
        simp only [spec_l13Content.l7, rdL_nat, hc, Option.bind_some, decide_eq_true (show i < c.2.2.2.1 by omega), cond_true, g1, decide_eq_true (show (-1 : Int) < 0 by omega)]
      · obtain ⟨f, rfl⟩ : ∃ q, f = q + 2 := ⟨f - 2, by omega⟩
        obtain ⟨nx', vals', acc', e⟩ := g2 rep def_ deep acc ha
        rw [show f + 2 = (f + 1) + 1 by rfl]
        simp only [impl_walker_body_of_RecValues_1_RecValues_2.l10, decide_eq_true (show i < c.2.2.2.1 by omega), cond_true, cond_false, e, Option.bind_some, impl_walker_body_of_RecValues_1_RecValues_2.c14, hi1]
        by_cases h2 : i + 1 < c.2.2.2.1
        · rw [decide_eq_true h2, cond_true]
          exact ⟨_, _, _, rfl⟩
        · rw [decide_eq_false h2, cond_false]
          exact ⟨_, _, _, rfl⟩
    · obtain ⟨v, s1, s2⟩ := ih mid p (i + 1) _ q4 (by omega) (by omega) r2
      refine ⟨v, fun f hf => ?_, ?_⟩
      · obtain ⟨f, rfl⟩ : ∃ q, f = q + 1 := ⟨f - 1, by omega⟩
        simp only [spec_l13Content.l7, rdL_nat, hc, Option.bind_some, decide_eq_true (show i < c.2.2.2.1 by omega), cond_true, g1, decide_eq_false (show ¬ ((p : Int) < 0) by omega), cond_false, haf, hi1]
        exact s1 f (by omega)
      · rcases s2 with ⟨rfl, s2⟩ | ⟨p2, X2, rfl, t1, t2, t3, t4⟩
        · refine .inl ⟨rfl, fun f rep def_ deep acc hf ha => ?_⟩
          obtain ⟨f, rfl⟩ : ∃ q, f = q + 1 := ⟨f - 1, by omega⟩
          simp only [impl_walker_body_of_RecValues_1_RecValues_2.l10, decide_eq_true (show i < c.2.2.2.1 by omega), cond_true, cond_false, r3 rep def_ deep acc ha, Option.bind_some, hi1]
          exact s2 f rep def_ deep (acc ++ X) (by omega) (by simp; omega)
        · refine .inr ⟨p2, X ++ X2, rfl, by simp; omega, t2, fun f rep def_ deep acc hf ha => ?_, fun L6 f n it out hf ho => ?_⟩
          · obtain ⟨f, rfl⟩ : ∃ q, f = q + 1 := ⟨f - 1, by omega⟩
            simp only [impl_walker_body_of_RecValues_1_RecValues_2.l10, decide_eq_true (show i < c.2.2.2.1 by omega), cond_true, cond_false, r3 rep def_ deep acc ha, Option.bind_some, hi1]
            have := t3 f rep def_ deep (acc ++ X) (by omega) (by simp; omega)
            rw [List.append_assoc] at this
            exact this
          · obtain ⟨f, rfl⟩ : ∃ q, f = q + 1 := ⟨f - 1, by omega⟩
            simp only [spec_l13Values.l14, rdL_nat, hc, Option.bind_some, decide_eq_true (show i < c.2.2.2.1 by omega), cond_true, r4 out ho, haf, hi1]
            have := t4 L6 f n it (out ++ X) (by omega) (by simp; omega)
            rw [List.append_assoc] at this
            exact this

/-- a col's content, whatever the values -/
theorem content_ok : ∀ (d D E at_ nx : Nat), SubC s d at_ nx → d ≤ 6 → 2 * d ≤ D → d ≤ E + 1 → nx ≤ s.length → ∀ pos, pos ≤ V.length → ContentOk k s V lv li L D E at_ nx pos := by
  intro d
  induction d with
  | zero => intro D E at_ nx h; exact h.elim
  | succ d ih =>
    intro D E at_ nx h hd hD hE hnx pos hpos
    have hlt := SubC_lt _ _ _ h
    obtain ⟨c, hc, hco, hnm, hp⟩ := h
    have hn3 := (hn c (List.mem_of_getElem? hc)).2.2
    have hle := PartsC_le (SubC_lt d) _ _ _ _ hp
    obtain ⟨D, rfl⟩ : ∃ q, D = q + 1 := ⟨D - 1, by omega⟩
    by_cases h7 : c.2.1 = 7
    · have hm0 : 0 < c.2.2.2.1 := by
        unfold colOk at hco
        rw [h7, tyOk_7] at hco
        simp at hco
        exact hco.1
      have hd0 : 0 < d := by
        rcases Nat.eq_zero_or_pos d with h0 | h0
        · subst h0
          rw [show c.2.2.2.1.toNat = (c.2.2.2.1.toNat - 1) + 1 by omega] at hp
          obtain ⟨_, _, _, _, q, _⟩ := hp
          exact q.elim
        · exact h0
      obtain ⟨E', rfl⟩ : ∃ q, E = q + 1 := ⟨E - 1, by omega⟩
      obtain ⟨D', rfl⟩ : ∃ q, D = q + 1 := ⟨D - 1, by omega⟩
      have Q : ∀ pl mid, SubC s d pl mid → mid ≤ s.length → ∀ pos, pos ≤ V.length → PartOk k s V lv li L (D' + 1) (E' + 1) pl mid pos := fun pl mid hs' hm' pos' hp' =>
        part_ok k s hs hn V hV lv li L hL hk d D' E' pl mid hs' (by omega) hm' (fun q hq => ih D' E' pl mid hs' (by omega) (by omega) (by omega) hm' q hq) pos' hp'
      have ha1 : IntKind.wrap .i64 ((at_ : Int) + 1) = ((at_ + 1 : Nat) : Int) := by rw [w64 (by omega) (by omega)]; omega
      obtain ⟨v, g1, g2⟩ := parts_ok k s hs hn V hV lv li L hL hk d (D' + 1) (E' + 1) at_ nx (by omega) hnx c hc (by omega) Q c.2.2.2.1.toNat (at_ + 1) pos 0 [] hp (by omega) (by omega) hpos
      have hmk : c.2.2.2.1.toNat < k := by omega
      unfold ContentOk
      have e1 : (spec_l13Content.rec k (D' + 1 + 1)).1 s (at_ : Int) V (pos : Int) = some v := by
        show spec_l13Content.b k (spec_l13Content.rec k (D' + 1)).1 (spec_l13Content.rec k (D' + 1)).2 s (at_ : Int) V (pos : Int) = some v
        simp only [spec_l13Content.b, rdL_nat, hc, Option.bind_some, bneF h7, cond_false, ha1]
        exact g1 k hmk
      have e2 : ∀ (rep def_ deep : Int) (acc : List TVal), (impl_walker_body_of_RecValues_1_RecValues_2.rec k (D' + 1 + 1)).1 (at_ : Int) rep def_ deep (wk s (V.drop pos) false) () lv li () acc = impl_walker_body_of_RecValues_1_RecValues_2.l10 k (impl_walker_body_of_RecValues_1_RecValues_2.rec k (D' + 1)).2 k rep def_ deep ((at_ + 1 : Nat) : Int) c.2.2.2.1 0 (wk s (V.drop pos) false) () lv li () acc := by
        intro rep def_ deep acc
        show impl_walker_body_of_RecValues_1_RecValues_2.b k (impl_walker_body_of_RecValues_1_RecValues_2.rec k (D' + 1)).1 (impl_walker_body_of_RecValues_1_RecValues_2.rec k (D' + 1)).2 (at_ : Int) rep def_ deep (wk s (V.drop pos) false) () lv li () acc = _
        simp only [impl_walker_body_of_RecValues_1_RecValues_2.b, rdL_nat, hc, Option.bind_some, bneF h7, cond_false, ha1]
      refine ⟨v, e1, ?_⟩
      rcases g2 with ⟨rfl, g2⟩ | ⟨p, X, rfl, q1, q2, q3, q4⟩
      · exact .inl ⟨rfl, fun rep def_ deep acc ha => by rw [e2]; exact g2 k rep def_ deep acc hmk ha⟩
      · refine .inr ⟨p, X, rfl, q1, q2, fun rep def_ deep acc ha => by rw [e2]; exact q3 k rep def_ deep acc hmk ha, fun n i f out hi h0 hn1 hout => ?_⟩
        have hi1 : IntKind.wrap .i64 (i + 1) = i + 1 := w64 (by omega) (by omega)
        have := q4 (spec_l13Values.l6 k (spec_l13Values.rec k (E' + 1)) f) k n i out hmk hout
        rw [hi1] at this
        rw [← this]
        simp only [spec_l13Values.l6, decide_eq_true hi, cond_true, rdL_nat, hc, Option.bind_some, bneF h7, cond_false, ha1]
    · have hm0 : c.2.2.2.1 = 0 := by
        unfold colOk at hco
        simp only [Bool.and_eq_true, Bool.or_eq_true, beq_iff_eq, decide_eq_true_eq] at hco
        rcases hco.1 with q | q
        · exact absurd q.1 h7
        · exact q.2
      rw [hm0] at hp
      have hp : at_ + 1 = nx := hp
      subst hp
      exact content_leaf k s hs hn V hV lv li L hL hk D E at_ pos c hc h7 (by omega) hpos (by omega)
end
end Go.Law
