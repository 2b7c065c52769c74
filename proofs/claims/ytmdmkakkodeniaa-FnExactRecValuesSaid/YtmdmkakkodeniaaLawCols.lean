/- Schemas: where a col ends; the leaves. -/
import Derived.Test.YtmdmkakkodeniaaLawSchema
set_option linter.unusedVariables false
set_option linter.unusedSimpArgs false
set_option linter.unusedSectionVars false
namespace Go.Law
open Go.Am Go.Fn
variable (k : Nat)

theorem PartsC_nx {S : Nat → Nat → Prop} {s : List TCol} (hS : ∀ a b, S a b → a < b) : ∀ (c pos : Nat) (names : List ByteArray) (nx : Nat), PartsC S s c pos names nx → pos ≤ nx
  | c, pos, names, nx, h => by have := PartsC_le hS c pos names nx h; omega

section
variable (s : List TCol) (hs : s.length ≤ 20) (hn : ∀ c, c ∈ s → c.1.size < k ∧ c.1.size < 1000000000 ∧ I64 c.2.2.2.1)
include hs hn

theorem colAfter_loop (hk : 100 ≤ k) (d D deep : Nat) (hdeep : deep ≤ 6) (M : Int) (hM : M < 9223372036854775808)
    (ih : ∀ at_ nx : Nat, SubC s d at_ nx → nx ≤ s.length → impl_colAfter.rec k D s (at_ : Int) ((deep + 1 : Nat) : Int) = some (nx : Int)) :
    ∀ (c f pos : Nat) (i : Int) (names : List ByteArray) (nx : Nat), PartsC (SubC s d) s c pos names nx → c < f → M - i = c → 0 ≤ i → nx ≤ s.length → names.length ≤ pos →
      impl_colAfter.l6 k (impl_colAfter.rec k D) f s (deep : Int) (pos : Int) M i names = some (nx : Int) := by
  intro c
  induction c with
  | zero =>
    intro f pos i names nx hp hf hi h0 hnx hnm
    obtain ⟨f, rfl⟩ : ∃ m, f = m + 1 := ⟨f - 1, by omega⟩
    have hp : pos = nx := hp
    subst hp
    simp only [impl_colAfter.l6, decide_eq_false (show ¬ i < M by omega), cond_false]
  | succ c ihc =>
    intro f pos i names nx hp hf hi h0 hnx hnm
    obtain ⟨f, rfl⟩ : ∃ m, f = m + 1 := ⟨f - 1, by omega⟩
    obtain ⟨p, mid, p1, p2, p3, p4⟩ := hp
    have hlt := SubC_lt _ _ _ p3
    have hmn := PartsC_nx (SubC_lt d) _ _ _ _ p4
    have hd1 : IntKind.wrap .i64 ((deep : Int) + 1) = ((deep + 1 : Nat) : Int) := by rw [w64 (by omega) (by omega)]; omega
    have hi1 : IntKind.wrap .i64 (i + 1) = i + 1 := w64 (by omega) (by omega)
    simp only [impl_colAfter.l6, decide_eq_true (show i < M by omega), cond_true, decide_eq_false (show ¬ (pos : Int) ≥ (s.length : Int) by omega), cond_false]
    rw [show (0 : Int) = ((0 : Nat) : Int) from rfl, implNames k _ _ s _ pos M i _ p1 names (by omega) names.length k 0 (by omega) (by omega), List.drop_zero, if_neg p2, hd1, ih pos mid p3 (by omega)]
    simp only [Option.bind_some, decide_eq_false (show ¬ ((mid : Int) < 0) by omega), cond_false, hi1]
    exact ihc f mid (i + 1) (names ++ [p.1]) nx p4 (by omega) (by omega) (by omega) hnx (by simp; omega)

theorem colAfter_rec (hk : 100 ≤ k) : ∀ (d D deep at_ nx : Nat), SubC s d at_ nx → d + deep ≤ 7 → d < D → nx ≤ s.length → impl_colAfter.rec k D s (at_ : Int) (deep : Int) = some (nx : Int) := by
  intro d
  induction d with
  | zero => intro D deep at_ nx h; exact h.elim
  | succ d ih =>
    intro D deep at_ nx h hd hD hnx
    obtain ⟨D, rfl⟩ : ∃ m, D = m + 1 := ⟨D - 1, by omega⟩
    have hlt := SubC_lt _ _ _ h
    obtain ⟨c, h1, h2, h3, h4⟩ := h
    have hcm : c ∈ s := List.mem_of_getElem? h1
    obtain ⟨n1, n2, n3⟩ := hn c hcm
    have hle := PartsC_le (SubC_lt d) _ _ _ _ h4
    have ha1 : IntKind.wrap .i64 ((at_ : Int) + 1) = ((at_ + 1 : Nat) : Int) := by rw [w64 (by omega) (by omega)]; omega
    have hm0 : 0 ≤ c.2.2.2.1 := by
      unfold colOk at h2
      simp only [Bool.and_eq_true, Bool.or_eq_true, beq_iff_eq, decide_eq_true_eq] at h2
      omega
    have hname : (decide ((at_ : Int) > 0) && !nameOk c.1) = false := by
      by_cases h0 : 0 < at_
      · rw [h3 h0]; simp
      · rw [decide_eq_false (show ¬ (at_ : Int) > 0 by omega)]; rfl
    simp only [impl_colAfter.rec, impl_colAfter.b, cst, csf, decide_eq_false (show ¬ (at_ : Int) ≥ (s.length : Int) by omega), decide_eq_false (show ¬ (deep : Int) > 6 by omega), Bool.false_or, Option.bind_some, cond_false, rdL_nat, h1, colOk_eq, h2, Bool.not_true, isColName_eq k c.1 n1 n2, hname, ha1]
    have := colAfter_loop k s hs hn hk d D deep (by omega) c.2.2.2.1 n3.2 (fun a b hab hb => ih D (deep + 1) a b hab (by omega) (by omega) hb) c.2.2.2.1.toNat k (at_ + 1) 0 [] nx h4 (by omega) (by omega) (by omega) hnx (by simp)
    exact this

theorem colAfter_sub (hk : 100 ≤ k) {d at_ nx : Nat} (h : SubC s d at_ nx) (hd : d ≤ 6) (hnx : nx ≤ s.length) : impl_colAfter k s (at_ : Int) 1 = some (nx : Int) :=
  colAfter_rec k s hs hn hk d k 1 at_ nx h (by omega) (by omega) hnx

theorem l5After_rec (hk : 100 ≤ k) : ∀ (d D at_ nx : Nat), SubC s d at_ nx → d < D → nx ≤ s.length → spec_l5After.rec k D s (at_ : Int) = some (nx : Int) := by
  intro d
  induction d with
  | zero => intro D at_ nx h; exact h.elim
  | succ d ih =>
    intro D at_ nx h hD hnx
    obtain ⟨D, rfl⟩ : ∃ m, D = m + 1 := ⟨D - 1, by omega⟩
    have hlt := SubC_lt _ _ _ h
    obtain ⟨c, h1, h2, h3, h4⟩ := h
    obtain ⟨n1, n2, n3⟩ := hn c (List.mem_of_getElem? h1)
    have hle := PartsC_le (SubC_lt d) _ _ _ _ h4
    have ha1 : IntKind.wrap .i64 ((at_ : Int) + 1) = ((at_ + 1 : Nat) : Int) := by rw [w64 (by omega) (by omega)]; omega
    have hm0 : 0 ≤ c.2.2.2.1 := by
      unfold colOk at h2
      simp only [Bool.and_eq_true, Bool.or_eq_true, beq_iff_eq, decide_eq_true_eq] at h2
      omega
    have key : ∀ (m f pos : Nat) (i : Int) (names : List ByteArray), PartsC (SubC s d) s m pos names nx → m < f → c.2.2.2.1 - i = m → 0 ≤ i → spec_l5After.l3 k (spec_l5After.rec k D) f s (at_ : Int) (pos : Int) i = some (nx : Int) := by
      intro m
      induction m with
      | zero =>
        intro f pos i names hp hf hi h0
        obtain ⟨f, rfl⟩ : ∃ m, f = m + 1 := ⟨f - 1, by omega⟩
        have hp : pos = nx := hp
        subst hp
        simp only [spec_l5After.l3, rdL_nat, h1, Option.bind_some, decide_eq_false (show ¬ i < c.2.2.2.1 by omega), cond_false]
      | succ m ihm =>
        intro f pos i names hp hf hi h0
        obtain ⟨f, rfl⟩ : ∃ m, f = m + 1 := ⟨f - 1, by omega⟩
        obtain ⟨p, mid, p1, p2, p3, p4⟩ := hp
        have hmn := PartsC_nx (SubC_lt d) _ _ _ _ p4
        have hi1 : IntKind.wrap .i64 (i + 1) = i + 1 := w64 (by omega) (by obtain ⟨_, q⟩ := n3; omega)
        simp only [spec_l5After.l3, rdL_nat, h1, Option.bind_some, decide_eq_true (show i < c.2.2.2.1 by omega), cond_true, ih D pos mid p3 (by omega) (by omega), hi1]
        exact ihm f mid (i + 1) _ p4 (by omega) (by omega) (by omega)
    simp only [spec_l5After.rec, spec_l5After.b, ha1]
    exact key c.2.2.2.1.toNat k (at_ + 1) 0 [] h4 (by omega) (by omega) (by omega)

theorem l5After_sub (hk : 100 ≤ k) {d at_ nx : Nat} (h : SubC s d at_ nx) (hd : d ≤ 6) (hnx : nx ≤ s.length) : spec_l5After k s (at_ : Int) = some (nx : Int) :=
  l5After_rec k s hs hn hk d k at_ nx h (by omega) hnx
end

/-- the leaves' places -/
def leavesFrom : Nat → List TCol → List Int
  | _, [] => []
  | i, c :: r => if c.2.1 = 7 then leavesFrom (i + 1) r else (i : Int) :: leavesFrom (i + 1) r

theorem leavesFrom_len : ∀ (i : Nat) (s : List TCol), (leavesFrom i s).length ≤ s.length
  | _, [] => Nat.le_refl _
  | i, c :: r => by
    have := leavesFrom_len (i + 1) r
    simp only [leavesFrom]
    split <;> simp <;> omega

theorem leaves_loop (s : List TCol) (hs : s.length ≤ 1000) : ∀ (post pre : List TCol) (n : Nat) (o : List Int), s = pre ++ post → post.length < n → o.length ≤ pre.length →
    impl_leavesOf.l3 k n s (s.length : Int) (pre.length : Int) o = some ((), o ++ leavesFrom pre.length post) ∧ spec_l5Leaves.l3 k n s (pre.length : Int) o = some ((), o ++ leavesFrom pre.length post) := by
  intro post
  induction post with
  | nil =>
    intro pre n o hsp hn ho
    obtain ⟨n, rfl⟩ : ∃ j, n = j + 1 := ⟨n - 1, by omega⟩
    have : s = pre := by simpa using hsp
    subst this
    simp only [impl_leavesOf.l3, spec_l5Leaves.l3, decide_eq_false (show ¬ (s.length : Int) < (s.length : Int) by omega), cond_false]
    simp [leavesFrom]
  | cons x post ih =>
    intro pre n o hsp hn ho
    simp only [List.length_cons] at hn
    obtain ⟨n, rfl⟩ : ∃ j, n = j + 1 := ⟨n - 1, by omega⟩
    have hlen : s.length = pre.length + (post.length + 1) := by rw [hsp]; simp
    have hg : rdL s (pre.length : Int) = some x := by rw [hsp]; exact getMid _ _ _
    have hi1 : IntKind.wrap .i64 ((pre.length : Int) + 1) = ((pre.length + 1 : Nat) : Int) := by rw [w64 (by omega) (by omega)]; omega
    simp only [impl_leavesOf.l3, spec_l5Leaves.l3, decide_eq_true (show (pre.length : Int) < (s.length : Int) by omega), cond_true, hg, Option.bind_some, impl_leavesOf.c7, spec_l5Leaves.c4, hi1, leavesFrom]
    by_cases h7 : x.2.1 = 7
    · have hi := ih (pre ++ [x]) n o (by rw [hsp]; simp) (by omega) (by simp; omega)
      rw [List.length_append, List.length_singleton] at hi
      rw [bneF h7, cond_false, cond_false, if_pos h7]
      exact hi
    · have hi := ih (pre ++ [x]) n (o ++ [(pre.length : Int)]) (by rw [hsp]; simp) (by omega) (by simp; omega)
      rw [List.length_append, List.length_singleton, List.append_assoc, List.singleton_append] at hi
      rw [bneT h7, cond_true, cond_true, if_neg h7, lim_ok (by simp; omega), cond_true, cond_true]
      exact hi

theorem leaves_eq (hk : 2000 ≤ k) (s : List TCol) (hs : s.length ≤ 1000) : impl_leavesOf k s = some ((), leavesFrom 0 s) ∧ spec_l5Leaves k s = some ((), leavesFrom 0 s) := by
  have := leaves_loop k s hs s [] k [] rfl (by omega) (by simp)
  exact this
end Go.Law
