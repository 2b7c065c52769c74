/- Lists of nodes that are built as trees are right. -/
import Derived.Test.YtmdmkakkodeniaaLawTree
set_option linter.unusedVariables false
set_option linter.unusedSimpArgs false
namespace Go.Law
open Go.Am Go.Fn
variable (k : Nat)

/-- so many parts, one behind the other -/
def EncP (E : List TNode → Prop) (n : TNode) : Nat → Int → List TNode → Prop
  | 0, _, X => X = []
  | c + 1, last, X => ∃ p Y Z, X = (p :: Y) ++ Z ∧ (n.1 = 9 → p.1 = n.2.2.1 ∧ p.2.1 = 0) ∧ (n.1 = 12 → last + 1 ≤ p.2.1 ∧ p.2.1 ≤ 1000) ∧ E (p :: Y) ∧ EncP E n c p.2.1 Z

/-- a node with all its parts -/
def Enc : Nat → List TNode → Prop
  | 0, _ => False
  | _ + 1, [] => False
  | d + 1, n :: X => nok n = true ∧ EncP (Enc d) n n.2.2.2.2.1.toNat 0 X

theorem EncP_len {E : List TNode → Prop} {n : TNode} : ∀ (c : Nat) (last : Int) (X : List TNode), EncP E n c last X → c ≤ X.length
  | 0, _, _, _ => Nat.zero_le _
  | c + 1, _, X, ⟨p, Y, Z, e, _, _, _, h⟩ => by
    have := EncP_len c _ _ h
    subst e
    simp
    omega

theorem nok_many' {n : TNode} (h : nok n = true) : 0 ≤ n.2.2.2.2.1 := by
  unfold nok at h
  repeat' split at h
  all_goals simp only [Bool.and_eq_true, beq_iff_eq, decide_eq_true_eq, Bool.or_eq_true] at h
  all_goals omega

theorem getMid' {α : Type} (pre post : List α) (x : α) : rdL (pre ++ x :: post) (pre.length : Int) = some x := by
  rw [rdL_nat, List.getElem?_append_right (Nat.le_refl _)]; simp

theorem checkEnc (hk : 2000 ≤ k) : ∀ (d D deep : Nat) (pre B post : List TNode), d + deep ≤ 13 → d < D → Enc d B → pre.length + B.length + post.length ≤ 1500 →
    spec_l4Check.rec k D (pre ++ (B ++ post)) (pre.length : Int) (deep : Int) = some ((pre.length + B.length : Nat) : Int) := by
  intro d
  induction d with
  | zero => intro D deep pre B post _ _ h; exact h.elim
  | succ d ih =>
    intro D deep pre B post hdd hD hB hlen
    obtain ⟨D, rfl⟩ : ∃ j, D = j + 1 := ⟨D - 1, by omega⟩
    cases B with
    | nil => exact hB.elim
    | cons n X =>
      obtain ⟨hok, hP⟩ := hB
      have hm0 := nok_many' hok
      have hcl := EncP_len _ _ _ hP
      simp only [List.length_cons] at hlen
      generalize hL : pre ++ (n :: X ++ post) = L
      have hLlen : L.length = pre.length + (X.length + 1) + post.length := by rw [← hL]; simp; omega
      have hget : rdL L (pre.length : Int) = some n := by rw [← hL]; exact getMid' pre (X ++ post) n
      simp only [spec_l4Check.rec, spec_l4Check.b, cst, Option.bind_some, decide_eq_false (show ¬ (pre.length : Int) ≥ (L.length : Int) by omega), decide_eq_false (show ¬ (deep : Int) > 12 by omega), Bool.or_self, cond_false, hget, plain_eq, hok, Bool.not_true]
      rw [w64 (by omega) (by omega), show ((pre.length : Int) + 1) = ((pre.length + 1 : Nat) : Int) by omega]
      have loop : ∀ (c : Nat) (last : Int) (f : Nat) (i : Int) (Q Z : List TNode), EncP (Enc d) n c last Z → pre ++ (n :: X) = Q ++ Z → c < f → n.2.2.2.2.1 - i = c → 0 ≤ i → n.2.2.2.2.1 ≤ 2000 →
          spec_l4Check.l7 k (spec_l4Check.rec k D) f L (deep : Int) (Q.length : Int) last i n = some ((pre.length + (X.length + 1) : Nat) : Int) := by
        intro c
        induction c with
        | zero =>
          intro last f i Q Z hZ hQ hf hi hi0 hi2
          obtain ⟨f, rfl⟩ : ∃ j, f = j + 1 := ⟨f - 1, by omega⟩
          have hZ : Z = [] := hZ
          subst hZ
          have := congrArg List.length hQ
          simp at this
          simp only [spec_l4Check.l7, decide_eq_false (show ¬ i < n.2.2.2.2.1 by omega), cond_false]
          congr 1
          omega
        | succ c ihc =>
          intro last f i Q Z ⟨p, Y, Z', hZ, h9, h12, hE, hZP⟩ hQ hf hi hi0 hi2
          obtain ⟨f, rfl⟩ : ∃ j, f = j + 1 := ⟨f - 1, by omega⟩
          have hLQ : L = Q ++ ((p :: Y) ++ (Z' ++ post)) := by
            rw [← hL, ← List.append_assoc, hQ, hZ]; simp
          have hQl := congrArg List.length hQ
          rw [hZ] at hQl
          simp at hQl
          have hp : rdL L (Q.length : Int) = some p := by rw [hLQ]; exact getMid' Q (Y ++ (Z' ++ post)) p
          have e1 : (n.1 == 9 && (p.1 != n.2.2.1 || p.2.1 != 0)) = false := by
            rw [Bool.eq_false_iff]; intro h
            simp only [Bool.and_eq_true, Bool.or_eq_true, beq_iff_eq, bne_iff_ne] at h
            have := h9 h.1
            omega
          have e2 : (n.1 == 12 && (decide (p.2.1 ≤ last) || decide (p.2.1 > 1000))) = false := by
            rw [Bool.eq_false_iff]; intro h
            simp only [Bool.and_eq_true, Bool.or_eq_true, beq_iff_eq, decide_eq_true_eq] at h
            have := h12 h.1
            omega
          have := ih D (deep + 1) Q (p :: Y) (Z' ++ post) (by omega) (by omega) hE (by simp; omega)
          rw [← hLQ] at this
          simp only [spec_l4Check.l7, decide_eq_true (show i < n.2.2.2.2.1 by omega), cond_true, decide_eq_false (show ¬ (Q.length : Int) ≥ (L.length : Int) by omega), cond_false, hp, Option.bind_some, csf, cst, e1, e2, Bool.or_self]
          rw [w64 (show -9223372036854775808 ≤ (deep : Int) + 1 by omega) (by omega), show ((deep : Int) + 1) = ((deep + 1 : Nat) : Int) by omega, this]
          simp only [Option.bind_some]
          rw [decide_eq_false (by omega), cond_false, w64 (by omega) (by omega)]
          have hr := ihc p.2.1 f (i + 1) (Q ++ (p :: Y)) Z' hZP (by rw [hQ, hZ]; simp) (by omega) (by omega) (by omega) hi2
          rw [List.length_append] at hr
          exact hr
      have hr := loop _ 0 k 0 (pre ++ [n]) X hP (by simp) (by omega) (by omega) (by omega) (by omega)
      simp only [List.length_append, List.length_singleton] at hr
      rw [hr]
      simp

/-- a built tree is right -/
theorem treeOkEnc (hk : 2000 ≤ k) (n : TNode) (X : List TNode) (h : Enc 12 (n :: X)) (hlen : (n :: X).length ≤ 1500) (h12 : n.1 = 12) (h0 : n.2.1 = 0) : spec_TreeOk k (n :: X) = some true := by
  unfold spec_TreeOk
  have c1 : (decide ((1 : Int) ≤ ((n :: X).length : Int)) && decide (((n :: X).length : Int) ≤ 1500)) = true := by simp; simp at hlen; omega
  have hc := checkEnc k hk 12 k 1 [] (n :: X) [] (by omega) (by omega) h (by simpa using hlen)
  simp only [List.nil_append, List.append_nil, List.length_nil, Nat.zero_add] at hc
  have hc : spec_l4Check k (n :: X) 0 1 = some (((n :: X).length : Nat) : Int) := hc
  have hr : rdL (n :: X) 0 = some n := rfl
  simp only [l1In_eq, c1, Option.bind_some, Bool.not_true, cond_false, hr, bneF h12, bneF h0, hc, beqT rfl]
end Go.Law
