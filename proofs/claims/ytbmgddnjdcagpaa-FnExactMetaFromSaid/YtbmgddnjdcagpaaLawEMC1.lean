import Derived.Test.YtbmgddnjdcagpaaLawEMC0
import Derived.Test.YtbmgddnjdcagpaaEMCF0
import Derived.Test.YtbmgddnjdcagpaaAmRow
set_option linter.unnecessarySimpa false
set_option linter.unusedSimpArgs false
set_option linter.unusedVariables false
set_option linter.unusedSectionVars false
section
/- Which feet are right: the program's MetaOk and the reference's. -/
set_option linter.unusedVariables false
set_option linter.unusedSimpArgs false
set_option linter.unusedSectionVars false
namespace Go.Law
open Go.Am Go.Fn

section
variable (k : Nat)

theorem encs_loop (c : TChunk) (hc : c.2.2.2.2.2.1.length < k) (hl : c.2.2.2.2.2.1.length < 4294967296) : ∀ (m f f' i : Nat), i + m = c.2.2.2.2.2.1.length → m < f → m < f' →
    ∃ b, spec_l18Chunk.l4 k f (i : Int) c = some b ∧ impl_encsRight.l2 k f' c.2.2.2.2.2.1 c.2.2.2.2.2.1 (c.2.2.2.2.2.1.length : Int) (i : Int) = some (b && (decide ((1 : Int) ≤ (c.2.2.2.2.2.1.length : Int)) && decide ((c.2.2.2.2.2.1.length : Int) ≤ 5))) := by
  intro m
  induction m with
  | zero =>
    intro f f' i hi hf hf'
    obtain ⟨f, rfl⟩ : ∃ q, f = q + 1 := ⟨f - 1, by omega⟩
    obtain ⟨f', rfl⟩ : ∃ q, f' = q + 1 := ⟨f' - 1, by omega⟩
    simp only [spec_l18Chunk.l4, impl_encsRight.l2, decide_eq_false (show ¬ ((i : Int) < (c.2.2.2.2.2.1.length : Int)) by omega), cond_false, within_eq, Option.bind_some]
    exact ⟨true, rfl, by rw [Bool.true_and]⟩
  | succ m ih =>
    intro f f' i hi hf hf'
    obtain ⟨f, rfl⟩ : ∃ q, f = q + 1 := ⟨f - 1, by omega⟩
    obtain ⟨f', rfl⟩ : ∃ q, f' = q + 1 := ⟨f' - 1, by omega⟩
    obtain ⟨x, hx, _⟩ := rdL_some (xs := c.2.2.2.2.2.1) (i := (i : Int)) (by omega) (by omega)
    have hi1 : IntKind.wrap .i64 ((i : Int) + 1) = ((i + 1 : Nat) : Int) := by rw [w64 (by omega) (by omega)]; omega
    obtain ⟨b, g1, g2⟩ := ih f f' (i + 1) (by omega) (by omega) (by omega)
    simp only [spec_l18Chunk.l4, impl_encsRight.l2, decide_eq_true (show (i : Int) < (c.2.2.2.2.2.1.length : Int) by omega), cond_true, spec_l18Chunk.d6, hx, Option.bind_some, within_eq, l1In_eq, hi1, g1, g2]
    cases (decide ((0 : Int) ≤ x) && decide (x ≤ 9)) with
    | false =>
      simp only [Bool.not_false, cond_true, Option.bind_some]
      exact ⟨false, rfl, by rw [Bool.false_and]⟩
    | true =>
      simp only [Bool.not_true, cond_false]
      by_cases h0 : (i : Int) > 0
      · obtain ⟨y, hy, _⟩ := rdL_some (xs := c.2.2.2.2.2.1) (i := (i : Int) - 1) (by omega) (by omega)
        have hm1 : IntKind.wrap .i64 ((i : Int) - 1) = (i : Int) - 1 := w64 (by omega) (by omega)
        simp only [decide_eq_true h0, cond_true, hm1, hy, Option.bind_some]
        cases decide (y ≥ x) with
        | true =>
          simp only [cond_true]
          exact ⟨false, rfl, by rw [Bool.false_and]⟩
        | false =>
          simp only [cond_false]
          exact ⟨b, rfl, rfl⟩
      · simp only [decide_eq_false h0, cond_false, Option.bind_some]
        exact ⟨b, rfl, rfl⟩

theorem chunk_eq (c : TChunk) (hc : c.2.2.2.2.2.1.length < k) (hl : c.2.2.2.2.2.1.length < 4294967296) (leaf : Int) : ∃ b, spec_l18Chunk k c leaf = some b ∧ impl_chunkOk k c leaf = some b ∧ (b = true → -1 ≤ c.2.2.1) := by
  obtain ⟨b, g1, g2⟩ := encs_loop k c hc hl c.2.2.2.2.2.1.length k k 0 (by omega) hc hc
  rw [show ((0 : Nat) : Int) = 0 from rfl] at g1 g2
  unfold spec_l18Chunk impl_chunkOk impl_encsRight
  simp only [l1In_eq, within_eq, Option.bind_some, cst, csf, g1, g2]
  generalize h2 : (decide ((0 : Int) ≤ c.2.1) && decide (c.2.1 ≤ 60000)) = x2
  generalize h3 : (decide ((-1 : Int) ≤ c.2.2.1) && decide (c.2.2.1 ≤ 60000)) = x3
  generalize (decide ((1 : Int) ≤ c.2.2.2.1) && decide (c.2.2.2.1 ≤ 2000)) = x4
  generalize (decide ((0 : Int) ≤ c.2.2.2.2.1) && decide (c.2.2.2.2.1 ≤ 60000)) = x5
  generalize (decide ((1 : Int) ≤ (c.2.2.2.2.2.1.length : Int)) && decide ((c.2.2.2.2.2.1.length : Int) ≤ 5)) = x6
  simp only [bne]
  generalize (c.1 == leaf) = x1
  have hd : x3 = true → -1 ≤ c.2.2.1 := fun h => by
    rw [h] at h3
    simp only [Bool.and_eq_true, decide_eq_true_eq] at h3
    exact h3.1
  clear g1 g2 h2 h3
  cases x1 <;> cases x2 <;> cases x3 <;> cases x4 <;> cases x5 <;> cases x6 <;> cases b <;> first | exact ⟨_, rfl, rfl, fun _ => hd rfl⟩ | exact ⟨_, rfl, rfl, fun h => Bool.noConfusion h⟩
end

/-- what is known of groups that are right -/
def GoodGroups (n : Nat) (G : List TGroupMeta) : Prop := ∀ g, g ∈ G → g.2.1.length = n ∧ ∀ c, c ∈ g.2.1 → -1 ≤ c.2.2.1

/-- rows that are not too long for the reckoning -/
def Fit (k : Nat) (G : List TGroupMeta) : Prop := ∀ g, g ∈ G → g.2.1.length < k ∧ g.2.1.length < 4294967296 ∧ ∀ c, c ∈ g.2.1 → c.2.2.2.2.2.1.length < k ∧ c.2.2.2.2.2.1.length < 4294967296

section
variable (k : Nat) (hk : 2000 ≤ k) (s : List TCol) (hok : spec_SchemaOk k s = some true) (hok2 : impl_SchemaOk k s = some true) (hs : s.length ≤ 1000)
include hk hok hok2 hs

theorem chunks_loop (m : TMeta) (g : TGroupMeta) (L6 : Int → Int → TMeta → List Int → Option Bool) (L5 : Int → List TGroupMeta → Int → Int → TMeta → Option Bool) (hfit : g.2.1.length < 4294967296 ∧ ∀ c, c ∈ g.2.1 → c.2.2.2.2.2.1.length < k ∧ c.2.2.2.2.2.1.length < 4294967296)
    (t4 t5 : Int) (o101 : List Int) (t3 : Int) (t19 : List TGroupMeta) (t20 t21 : Int) (x y : Bool) (h6 : L6 t4 (IntKind.wrap .i64 (t5 + 1)) m o101 = some x) (h5 : L5 (IntKind.wrap .i64 (t3 + g.1)) t19 t20 (IntKind.wrap .i64 (t21 + 1)) m = some y) :
    ∀ (post pre : List TChunk) (f f' : Nat), g.2.1 = pre ++ post → post.length < f → post.length < f' →
    ∃ b, spec_MetaOk.l13 k L6 f t4 t5 (pre.length : Int) m o101 g = some (b && x) ∧ impl_MetaOk.l10 k L5 f' t3 t19 t20 t21 g.2.1 (g.2.1.length : Int) (pre.length : Int) m g = some (b && y) ∧ (b = true → ∀ c, c ∈ post → -1 ≤ c.2.2.1) := by
  intro post
  induction post with
  | nil =>
    intro pre f f' h hf hf'
    obtain ⟨f, rfl⟩ : ∃ q, f = q + 1 := ⟨f - 1, by omega⟩
    obtain ⟨f', rfl⟩ : ∃ q, f' = q + 1 := ⟨f' - 1, by omega⟩
    have hlen : g.2.1.length = pre.length := by rw [h]; simp
    simp only [spec_MetaOk.l13, impl_MetaOk.l10, decide_eq_false (show ¬ ((pre.length : Int) < (g.2.1.length : Int)) by omega), cond_false, h6, h5]
    exact ⟨true, by simp, by simp, fun _ c hc => by cases hc⟩
  | cons c post ih =>
    intro pre f f' h hf hf'
    simp only [List.length_cons] at hf hf'
    obtain ⟨f, rfl⟩ : ∃ q, f = q + 1 := ⟨f - 1, by omega⟩
    obtain ⟨f', rfl⟩ : ∃ q, f' = q + 1 := ⟨f' - 1, by omega⟩
    have hlen : g.2.1.length = pre.length + (post.length + 1) := by rw [h]; simp
    have hg : rdL g.2.1 (pre.length : Int) = some c := by rw [h]; exact getMid _ _ _
    have hi1 : IntKind.wrap .i64 ((pre.length : Int) + 1) = ((pre.length + 1 : Nat) : Int) := by rw [w64 (by omega) (by omega)]; omega
    have hcm : c ∈ g.2.1 := by rw [h]; simp
    obtain ⟨b, e1, e2, e3⟩ := chunk_eq k c (hfit.2 c hcm).1 (hfit.2 c hcm).2 (pre.length : Int)
    obtain ⟨b', i1, i2, i3⟩ := ih (pre ++ [c]) f f' (by rw [h]; simp) (by omega) (by omega)
    rw [List.length_append, List.length_singleton] at i1 i2
    simp only [spec_MetaOk.l13, impl_MetaOk.l10, decide_eq_true (show (pre.length : Int) < (g.2.1.length : Int) by omega), cond_true, hg, Option.bind_some, e1, e2, hi1, i1, i2]
    cases b with
    | false => exact ⟨false, rfl, rfl, fun h => by cases h⟩
    | true =>
      refine ⟨b', rfl, rfl, fun hb c' hc' => ?_⟩
      rcases List.mem_cons.1 hc' with rfl | hc'
      · exact e3 rfl
      · exact i3 hb c' hc'

theorem groups_loop (m : TMeta) (hm : m.1 = s) (hfit : Fit k m.2.2.1) (hG : m.2.2.1.length ≤ 40) : ∀ (post pre : List TGroupMeta) (f f' : Nat) (R : Int), m.2.2.1 = pre ++ post → post.length < f → post.length < f' → 0 ≤ R → R ≤ 200 * pre.length →
    ∃ b, spec_MetaOk.l6 k f R (pre.length : Int) m (leavesFrom 0 s) = some b ∧ impl_MetaOk.l5 k f' R m.2.2.1 (m.2.2.1.length : Int) (pre.length : Int) m = some (b && decide (m.2.1 ≤ 200)) ∧ (b = true → 0 ≤ m.2.1 ∧ GoodGroups (leavesFrom 0 s).length post) := by
  obtain ⟨v1, v2⟩ := leaves_eq k hk s hs
  intro post
  induction post with
  | nil =>
    intro pre f f' R h hf hf' h0 hR
    obtain ⟨f, rfl⟩ : ∃ q, f = q + 1 := ⟨f - 1, by omega⟩
    obtain ⟨f', rfl⟩ : ∃ q, f' = q + 1 := ⟨f' - 1, by omega⟩
    have hlen : m.2.2.1.length = pre.length := by rw [h]; simp
    simp only [spec_MetaOk.l6, impl_MetaOk.l5, decide_eq_false (show ¬ ((pre.length : Int) < (m.2.2.1.length : Int)) by omega), cond_false, csf, Option.bind_some]
    refine ⟨_, rfl, ?_, fun hb => ⟨?_, fun g hg => by cases hg⟩⟩
    · by_cases he : R = m.2.1
      · rw [beqT he, he]
      · rw [beqF he]; rfl
    · simp only [beq_iff_eq] at hb
      omega
  | cons g post ih =>
    intro pre f f' R h hf hf' h0 hR
    simp only [List.length_cons] at hf hf'
    obtain ⟨f, rfl⟩ : ∃ q, f = q + 1 := ⟨f - 1, by omega⟩
    obtain ⟨f', rfl⟩ : ∃ q, f' = q + 1 := ⟨f' - 1, by omega⟩
    have hlen : m.2.2.1.length = pre.length + (post.length + 1) := by rw [h]; simp
    have hg : rdL m.2.2.1 (pre.length : Int) = some g := by rw [h]; exact getMid _ _ _
    have hgm : g ∈ m.2.2.1 := by rw [h]; simp
    have hi1 : IntKind.wrap .i64 ((pre.length : Int) + 1) = ((pre.length + 1 : Nat) : Int) := by rw [w64 (by omega) (by omega)]; omega
    simp only [spec_MetaOk.l6, impl_MetaOk.l5, decide_eq_true (show (pre.length : Int) < (m.2.2.1.length : Int) by omega), cond_true, hg, Option.bind_some, l1In_eq, cst, impl_MetaOk.d7, within_eq, hm, v1]
    by_cases hr : 1 ≤ g.1 ∧ g.1 ≤ 200
    · have hw : (decide ((1 : Int) ≤ g.1) && decide (g.1 ≤ 200)) = true := by simp; omega
      have hR1 : IntKind.wrap .i64 (R + g.1) = R + g.1 := w64 (by omega) (by omega)
      simp only [hw, Bool.not_true, Bool.false_or, cond_false, Option.bind_some]
      by_cases hn : g.2.1.length = (leavesFrom 0 s).length
      · rw [bneF (show ((g.2.1.length : Int)) = ((leavesFrom 0 s).length : Int) by omega), cond_false, cond_false]
        obtain ⟨b', i1, i2, i3⟩ := ih (pre ++ [g]) f f' (R + g.1) (by rw [h]; simp) (by omega) (by omega) (by omega) (by simp; omega)
        rw [List.length_append, List.length_singleton] at i1 i2
        obtain ⟨b, c1, c2, c3⟩ := chunks_loop k hk s hok hok2 hs m g (spec_MetaOk.l6 k f) (impl_MetaOk.l5 k f') (hfit g hgm).2 (IntKind.wrap .i64 (R + g.1)) (pre.length : Int) (leavesFrom 0 s) R m.2.2.1 (m.2.2.1.length : Int) (pre.length : Int) b' (b' && decide (m.2.1 ≤ 200)) (by rw [hR1, hi1]; exact i1) (by rw [hR1, hi1]; exact i2) g.2.1 [] k k rfl (hfit g hgm).1 (hfit g hgm).1
        rw [List.length_nil, show ((0 : Nat) : Int) = 0 from rfl] at c1 c2
        rw [c1, c2]
        refine ⟨_, rfl, by rw [Bool.and_assoc], fun hb => ?_⟩
        simp only [Bool.and_eq_true] at hb
        obtain ⟨q1, q2⟩ := i3 hb.2
        refine ⟨q1, fun g' hg' => ?_⟩
        rcases List.mem_cons.1 hg' with rfl | hg'
        · exact ⟨hn, c3 hb.1⟩
        · exact q2 g' hg'
      · rw [bneT (show ¬ ((g.2.1.length : Int)) = ((leavesFrom 0 s).length : Int) by omega), cond_true, cond_true]
        exact ⟨false, rfl, rfl, fun h => by cases h⟩
    · have hw : (decide ((1 : Int) ≤ g.1) && decide (g.1 ≤ 200)) = false := by
        rw [Bool.eq_false_iff]; intro q
        simp only [Bool.and_eq_true, decide_eq_true_eq] at q
        exact hr q
      simp only [hw, Bool.not_false, Bool.true_or, cond_true]
      exact ⟨false, rfl, rfl, fun h => by cases h⟩

theorem metaOk_eq (rows : Int) (G : List TGroupMeta) (hfit : Fit k G) : ∃ b, spec_MetaOk k (s, rows, G, ()) = some b ∧ impl_MetaOk k (s, rows, G, ()) = some b ∧ (b = true → G.length ≤ 40 ∧ 0 ≤ rows ∧ rows ≤ 200 ∧ GoodGroups (leavesFrom 0 s).length G) := by
  obtain ⟨v1, v2⟩ := leaves_eq k hk s hs
  unfold spec_MetaOk impl_MetaOk spec_SchemaLeaves
  simp only [hok, hok2, v2, Option.bind_some, Bool.not_true, cond_false, cst, Bool.false_or, l1In_eq]
  by_cases hG : G.length ≤ 40
  · rw [decide_eq_false (show ¬ ((G.length : Int) > 40) by omega)]
    obtain ⟨b, e1, e2, e3⟩ := groups_loop k hk s hok hok2 hs (s, rows, G, ()) rfl hfit hG G [] k k 0 rfl (by omega) (by omega) (by omega) (by simp)
    have e1 : spec_MetaOk.l6 k k 0 0 (s, rows, G, ()) (leavesFrom 0 s) = some b := e1
    have e2 : impl_MetaOk.l5 k k 0 G (G.length : Int) 0 (s, rows, G, ()) = some (b && decide (rows ≤ 200)) := e2
    simp only [Bool.false_or, cond_false, e2]
    by_cases hr : 0 ≤ rows ∧ rows ≤ 200
    · rw [show (decide ((0 : Int) ≤ rows) && decide (rows ≤ 200)) = true by simp; omega, decide_eq_true hr.2]
      simp only [Bool.not_true, cond_false, Bool.and_true, e1]
      exact ⟨b, rfl, rfl, fun h => ⟨hG, hr.1, hr.2, (e3 h).2⟩⟩
    · rw [show (decide ((0 : Int) ≤ rows) && decide (rows ≤ 200)) = false by rw [Bool.eq_false_iff]; intro q; simp only [Bool.and_eq_true, decide_eq_true_eq] at q; exact hr q]
      simp only [Bool.not_false, cond_true]
      refine ⟨false, rfl, ?_, fun h => by cases h⟩
      cases b with
      | false => rfl
      | true =>
        have := (e3 rfl).1
        have this : 0 ≤ rows := this
        rw [decide_eq_false (show ¬ rows ≤ 200 by omega)]; rfl
  · rw [decide_eq_true (show ((G.length : Int) > 40) by omega)]
    exact ⟨false, rfl, rfl, fun h => by cases h⟩
end
end Go.Law
end

section
/- MetaFrom, the program's and the reference's. -/
set_option linter.unusedVariables false
set_option linter.unusedSimpArgs false
set_option linter.unusedSectionVars false
namespace Go.Law
open Go.Am Go.Fn

def chsI (k : Nat) (l : List TNode) (s : List TCol) (strict : Bool) : Nat → List Int → Bool
  | _, [] => true
  | j, p :: r => chI k l s strict p j && chsI k l s strict (j + 1) r
def chsV (k : Nat) (l : List TNode) : Nat → List Int → List TChunk
  | _, [] => []
  | j, p :: r => chV k l p j :: chsV k l (j + 1) r

theorem chsV_len (k : Nat) (l : List TNode) : ∀ (r : List Int) (j : Nat), (chsV k l j r).length = r.length
  | [], _ => rfl
  | p :: r, j => by simp [chsV, chsV_len k l r (j + 1)]

/-- is a group's struct as told, by the program -/
def grI (k : Nat) (l : List TNode) (s : List TCol) (a : Int) : Bool := (nV k l a 3).2 && (pV k l a 1 12).1 && (chsI k l s false 0 (pV k l a 1 12).2 && decide ((pV k l a 1 12).2.length ≤ 20))
/-- and by the reference -/
def grS (k : Nat) (l : List TNode) (s : List TCol) (a : Int) : Bool := (nV k l a 3).2 && (pV k l a 1 12).1 && (decide ((pV k l a 1 12).2.length = (leavesFrom 0 s).length) && chsI k l s true 0 (pV k l a 1 12).2)
def grV (k : Nat) (l : List TNode) (a : Int) : TGroupMeta := ((nV k l a 3).1, chsV k l 0 (pV k l a 1 12).2, ())

abbrev noMeta : ((Unit × Int × Unit × Unit) × Bool) × (List TCol) × (List TGroupMeta) := ((((), 0, (), ()), false), ([], []))

section
variable (k : Nat) (hk : 2000000 ≤ k) {l : List TNode} {af : List Int} (h : TreeFacts l af)
variable (s : List TCol) (hn : ∀ c, c ∈ s → c.1.size < k ∧ c.1.size < 1000000000 ∧ I64 c.2.2.2.1) (hS : IsSchema s) (hok : spec_SchemaOk k s = some true) (hok2 : impl_SchemaOk k s = some true)
include hk h hn hS hok hok2

theorem igroup_loop (o100 o101 : Int × Unit × Unit) (ps : List Int) (hps : ps.length ≤ 1500) (hm : ∀ p, p ∈ ps → 0 ≤ p ∧ p < (l.length : Int)) (o103 : List TChunk) : ∀ (post pre : List Int) (f : Nat) (b : Bool) (acc : List TChunk), ps = pre ++ post → post.length < f → acc.length ≤ pre.length → (b = false → pre.length ≤ 20) →
    ∃ acc', impl_metaReader_group.l4 k f (ps.length : Int) (pre.length : Int) (mR b) (tB l) af s o100 o101 ps o103 acc = some (o101, (mR (b || !(chsI k l s false pre.length post && decide (ps.length ≤ 20))), tB l, af, s, acc')) ∧ ((b || !(chsI k l s false pre.length post && decide (ps.length ≤ 20))) = false → acc' = acc ++ chsV k l pre.length post) := by
  intro post
  induction post with
  | nil =>
    intro pre f b acc h' hf ha hb
    obtain ⟨f, rfl⟩ : ∃ q, f = q + 1 := ⟨f - 1, by omega⟩
    have hlen : ps.length = pre.length := by rw [h']; simp
    simp only [impl_metaReader_group.l4, decide_eq_false (show ¬ ((pre.length : Int) < (ps.length : Int)) by omega), cond_false, impl_metaReader_group.c11, chsI, chsV, List.append_nil, Bool.true_and]
    cases b with
    | true => exact ⟨_, rfl, fun h => by cases h⟩
    | false =>
      have := hb rfl
      rw [decide_eq_true (show ps.length ≤ 20 by omega)]
      exact ⟨_, rfl, fun _ => rfl⟩
  | cons x post ih =>
    intro pre f b acc h' hf ha hb
    simp only [List.length_cons] at hf
    obtain ⟨f, rfl⟩ : ∃ q, f = q + 1 := ⟨f - 1, by omega⟩
    have hlen : ps.length = pre.length + (post.length + 1) := by rw [h']; simp
    have hg : rdL ps (pre.length : Int) = some x := by rw [h']; exact getMid _ _ _
    have hi1 : IntKind.wrap .i64 ((pre.length : Int) + 1) = ((pre.length + 1 : Nat) : Int) := by rw [w64 (by omega) (by omega)]; omega
    obtain ⟨x0, x1⟩ := hm x (by rw [h']; simp)
    obtain ⟨a, rfl⟩ := Int.eq_ofNat_of_zero_le x0
    simp only [impl_metaReader_group.l4, decide_eq_true (show (pre.length : Int) < (ps.length : Int) by omega), cond_true, hg, Option.bind_some, cst, impl_metaReader_group.c11]
    cases b with
    | true =>
      simp only [Bool.true_or, cond_true]
      exact ⟨_, rfl, fun h => by cases h⟩
    | false =>
      simp only [Bool.false_or]
      by_cases h20 : 20 ≤ pre.length
      · rw [decide_eq_true (show (pre.length : Int) ≥ 20 by omega), cond_true, decide_eq_false (show ¬ ps.length ≤ 20 by omega), Bool.and_false]
        exact ⟨_, rfl, fun h => by cases h⟩
      · rw [decide_eq_false (show ¬ (pre.length : Int) ≥ 20 by omega), cond_false, ichunk k hk h s hn hS hok hok2 a (by omega) (pre.length : Int) false]
        simp only [Option.bind_some, hi1, Bool.false_or]
        rw [lim_ok (by simp; omega), cond_true]
        obtain ⟨acc', e1, e2⟩ := ih (pre ++ [(a : Int)]) f (!chI k l s false a pre.length) (acc ++ [chV k l a pre.length]) (by rw [h']; simp) (by omega) (by simp; omega) (fun _ => by simp; omega)
        rw [List.length_append, List.length_singleton] at e1 e2
        have hb' : ((!chI k l s false (a : Int) (pre.length : Int)) || !(chsI k l s false (pre.length + 1) post && decide (ps.length ≤ 20))) = !(chsI k l s false pre.length ((a : Int) :: post) && decide (ps.length ≤ 20)) := by
          simp only [chsI]
          cases chI k l s false (a : Int) (pre.length : Int) <;> rfl
        rw [hb'] at e1 e2
        refine ⟨acc', e1, fun hh => ?_⟩
        rw [e2 hh]
        simp [chsV]

theorem igroup (a : Nat) (ha : a < l.length) (b : Bool) : ∃ C, impl_metaReader_group k (a : Int) (mR b) (tB l) af s = some (((nV k l a 3).1, (), ()), (mR (b || !grI k l s a), tB l, af, s, C)) ∧ ((b || !grI k l s a) = false → C = chsV k l 0 (pV k l a 1 12).2) := by
  have hk2 : 2000 ≤ k := by omega
  obtain ⟨_, _, m1, m2⟩ := parts_val k hk2 h a ha 1 12
  unfold impl_metaReader_group
  simp only [mnum k hk2 h a ha, mlist k hk2 h a ha, Option.bind_some]
  obtain ⟨C, e1, e2⟩ := igroup_loop k hk h s hn hS hok hok2 (0, (), ()) ((nV k l a 3).1, (), ()) (pV k l a 1 12).2 m1 m2 [] (pV k l a 1 12).2 [] k (b || !(nV k l a 3).2 || !(pV k l a 1 12).1) [] rfl (by omega) (by simp) (fun _ => by simp)
  rw [List.length_nil, show ((0 : Nat) : Int) = 0 from rfl] at e1
  rw [List.length_nil] at e2
  have hb : (b || !(nV k l a 3).2 || !(pV k l a 1 12).1 || !(chsI k l s false 0 (pV k l a 1 12).2 && decide ((pV k l a 1 12).2.length ≤ 20))) = (b || !grI k l s a) := by
    unfold grI
    cases b <;> cases (nV k l a 3).2 <;> cases (pV k l a 1 12).1 <;> rfl
  rw [hb] at e1 e2
  exact ⟨C, e1, fun hh => by rw [e2 hh]; rfl⟩

theorem igroups_loop (o100 o101 : Unit × Int × Unit × Unit) (gs : List Int) (hgs : gs.length ≤ 1500) (hm : ∀ p, p ∈ gs → 0 ≤ p ∧ p < (l.length : Int)) (o104 : List TCol) (o105 : List TGroupMeta) : ∀ (post pre : List Int) (f : Nat) (b : Bool) (G : List TGroupMeta), gs = pre ++ post → post.length < f → G.length ≤ pre.length →
    impl_MetaFrom.l11 k f (gs.length : Int) (pre.length : Int) o100 o101 (mR b) gs o104 o105 s G (tB l) af = if (b || !post.all (grI k l s)) = true then some noMeta else (impl_MetaOk k (s, o101.2.1, G ++ post.map (grV k l), ())).bind fun r => cond (!r) (some noMeta) (some ((o101, true), (s, G ++ post.map (grV k l)))) := by
  -- once bad, always
  have bad : ∀ (post pre : List Int) (f : Nat) (G : List TGroupMeta), gs = pre ++ post → post.length < f → G.length ≤ pre.length → impl_MetaFrom.l11 k f (gs.length : Int) (pre.length : Int) o100 o101 (mR true) gs o104 o105 s G (tB l) af = some noMeta := by
    intro post
    induction post with
    | nil =>
      intro pre f G h' hf hG
      obtain ⟨f, rfl⟩ : ∃ q, f = q + 1 := ⟨f - 1, by omega⟩
      have hlen : gs.length = pre.length := by rw [h']; simp
      simp only [impl_MetaFrom.l11, decide_eq_false (show ¬ ((pre.length : Int) < (gs.length : Int)) by omega), cond_false, cond_true, Option.bind_some]
    | cons x post ih =>
      intro pre f G h' hf hG
      simp only [List.length_cons] at hf
      obtain ⟨f, rfl⟩ : ∃ q, f = q + 1 := ⟨f - 1, by omega⟩
      have hlen : gs.length = pre.length + (post.length + 1) := by rw [h']; simp
      have hg : rdL gs (pre.length : Int) = some x := by rw [h']; exact getMid _ _ _
      have hi1 : IntKind.wrap .i64 ((pre.length : Int) + 1) = ((pre.length + 1 : Nat) : Int) := by rw [w64 (by omega) (by omega)]; omega
      obtain ⟨x0, x1⟩ := hm x (by rw [h']; simp)
      obtain ⟨a, rfl⟩ := Int.eq_ofNat_of_zero_le x0
      obtain ⟨C, e1, _⟩ := igroup k hk h s hn hS hok hok2 a (by omega) true
      simp only [impl_MetaFrom.l11, decide_eq_true (show (pre.length : Int) < (gs.length : Int) by omega), cond_true, hg, Option.bind_some, e1, hi1, Bool.true_or]
      rw [lim_ok (by simp; omega), cond_true]
      have := ih (pre ++ [(a : Int)]) f (G ++ [((nV k l a 3).1, C, ())]) (by rw [h']; simp) (by omega) (by simp; omega)
      rw [List.length_append, List.length_singleton] at this
      exact this
  intro post
  induction post with
  | nil =>
    intro pre f b G h' hf hG
    cases b with
    | true => rw [bad [] pre f G h' hf hG]; rfl
    | false =>
      obtain ⟨f, rfl⟩ : ∃ q, f = q + 1 := ⟨f - 1, by omega⟩
      have hlen : gs.length = pre.length := by rw [h']; simp
      simp only [impl_MetaFrom.l11, decide_eq_false (show ¬ ((pre.length : Int) < (gs.length : Int)) by omega), cond_false, List.all_nil, Bool.not_true, Bool.or_self, Bool.false_eq_true, if_false, List.map_nil, List.append_nil]
      cases impl_MetaOk k (s, o101.2.1, G, ()) with
      | none => rfl
      | some r => rfl
  | cons x post ih =>
    intro pre f b G h' hf hG
    cases b with
    | true => rw [bad (x :: post) pre f G h' hf hG]; rfl
    | false =>
      simp only [List.length_cons] at hf
      obtain ⟨f, rfl⟩ : ∃ q, f = q + 1 := ⟨f - 1, by omega⟩
      have hlen : gs.length = pre.length + (post.length + 1) := by rw [h']; simp
      have hg : rdL gs (pre.length : Int) = some x := by rw [h']; exact getMid _ _ _
      have hi1 : IntKind.wrap .i64 ((pre.length : Int) + 1) = ((pre.length + 1 : Nat) : Int) := by rw [w64 (by omega) (by omega)]; omega
      obtain ⟨x0, x1⟩ := hm x (by rw [h']; simp)
      obtain ⟨a, rfl⟩ := Int.eq_ofNat_of_zero_le x0
      obtain ⟨C, e1, e2⟩ := igroup k hk h s hn hS hok hok2 a (by omega) false
      simp only [impl_MetaFrom.l11, decide_eq_true (show (pre.length : Int) < (gs.length : Int) by omega), cond_true, hg, Option.bind_some, e1, hi1, Bool.false_or]
      rw [lim_ok (by simp; omega), cond_true]
      have := ih (pre ++ [(a : Int)]) f (!grI k l s a) (G ++ [((nV k l a 3).1, C, ())]) (by rw [h']; simp) (by omega) (by simp; omega)
      rw [List.length_append, List.length_singleton] at this
      rw [this]
      simp only [List.all_cons, List.map_cons]
      cases hgr : grI k l s (a : Int) with
      | false => rfl
      | true =>
        have hC := e2 (by rw [hgr]; rfl)
        subst hC
        simp only [Bool.not_true, Bool.false_or, Bool.true_and, List.append_assoc, List.singleton_append]
        rfl

theorem sgroup_loop (L11 : (List TNode) → Int → (Unit × Int × Unit × Unit) → (Unit × Int × Unit × Unit) → (List TCol) → (List Int) → (Unit × Int × Unit × Unit) → (List TCol) → (List TGroupMeta) → (List TCol) → (List TGroupMeta) → (List TGroupMeta) → Option (((Unit × Int × Unit × Unit) × Bool) × (List TCol) × (List TGroupMeta)))
    (t12 : Int) (o100 : Unit × Int × Unit × Unit) (gs : List Int) (o104 : Unit × Int × Unit × Unit) (ps : List Int) (hps : ps.length = (leavesFrom 0 s).length) (hps2 : ps.length ≤ 1500) (hm : ∀ p, p ∈ ps → 0 ≤ p ∧ p < (l.length : Int)) (rows : Int) (o107 : List TCol) (o108 : List TGroupMeta) (G : List TGroupMeta) (hG : G.length ≤ 10000) :
    ∀ (post pre : List Int) (f : Nat) (acc : List TChunk), ps = pre ++ post → post.length < f → acc.length ≤ pre.length →
    spec_MetaFrom.l19 k L11 f l t12 (pre.length : Int) o100 ((), 0, (), ()) s gs o104 ps (rows, (), ()) o107 o108 [] [] G acc = if chsI k l s true pre.length post = true then L11 l (IntKind.wrap .i64 (t12 + 1)) o100 ((), 0, (), ()) s gs o104 o107 o108 [] [] (G ++ [(rows, acc ++ chsV k l pre.length post, ())]) else some noMeta := by
  intro post
  induction post with
  | nil =>
    intro pre f acc h' hf ha
    obtain ⟨f, rfl⟩ : ∃ q, f = q + 1 := ⟨f - 1, by omega⟩
    have hlen : ps.length = pre.length := by rw [h']; simp
    simp only [spec_MetaFrom.l19, decide_eq_false (show ¬ ((pre.length : Int) < (ps.length : Int)) by omega), cond_false, chsI, chsV, List.append_nil, if_true]
    rw [lim_ok (by simp; omega), cond_true]
  | cons x post ih =>
    intro pre f acc h' hf ha
    simp only [List.length_cons] at hf
    obtain ⟨f, rfl⟩ : ∃ q, f = q + 1 := ⟨f - 1, by omega⟩
    have hlen : ps.length = pre.length + (post.length + 1) := by rw [h']; simp
    have hg : rdL ps (pre.length : Int) = some x := by rw [h']; exact getMid _ _ _
    have hi1 : IntKind.wrap .i64 ((pre.length : Int) + 1) = ((pre.length + 1 : Nat) : Int) := by rw [w64 (by omega) (by omega)]; omega
    obtain ⟨x0, x1⟩ := hm x (by rw [h']; simp)
    obtain ⟨a, rfl⟩ := Int.eq_ofNat_of_zero_le x0
    obtain ⟨hd, E, e1, e2⟩ := schunk k hk h s hn hS hok hok2 a (by omega) pre.length (by omega)
    simp only [spec_MetaFrom.l19, decide_eq_true (show (pre.length : Int) < (ps.length : Int) by omega), cond_true, hg, Option.bind_some, e1, hi1, chsI]
    by_cases hc : chI k l s true (a : Int) (pre.length : Int) = true
    · obtain ⟨rfl, rfl⟩ := e2 hc
      simp only [hc, Bool.not_true, cond_false, Bool.true_and]
      rw [lim_ok (by simp; omega), cond_true]
      have := ih (pre ++ [(a : Int)]) f (acc ++ [chV k l a pre.length]) (by rw [h']; simp) (by omega) (by simp; omega)
      rw [List.length_append, List.length_singleton] at this
      refine this.trans ?_
      simp only [chsV, List.append_assoc, List.singleton_append]
    · have hc := Bool.eq_false_iff.2 hc
      simp only [hc, Bool.not_false, cond_true, Bool.false_and, Bool.false_eq_true, if_false]

theorem sgroups_loop (o100 : Unit × Int × Unit × Unit) (gs : List Int) (hgs : gs.length ≤ 1500) (hm : ∀ p, p ∈ gs → 0 ≤ p ∧ p < (l.length : Int)) (o104 : Unit × Int × Unit × Unit) (o105 : List TCol) (o106 : List TGroupMeta) : ∀ (post pre : List Int) (f : Nat) (G : List TGroupMeta), gs = pre ++ post → post.length < f → G.length ≤ pre.length →
    spec_MetaFrom.l11 k f l (pre.length : Int) o100 ((), 0, (), ()) s gs o104 o105 o106 [] [] G = if post.all (grS k l s) = true then (spec_MetaOk k (s, o104.2.1, G ++ post.map (grV k l), ())).bind fun r => cond (!r) (some noMeta) (some ((o104, true), (s, G ++ post.map (grV k l)))) else some noMeta := by
  have hk2 : 2000 ≤ k := by omega
  obtain ⟨_, v2⟩ := leaves_eq k hk2 s (by have := hS.2.1; omega)
  intro post
  induction post with
  | nil =>
    intro pre f G h' hf hG
    obtain ⟨f, rfl⟩ : ∃ q, f = q + 1 := ⟨f - 1, by omega⟩
    have hlen : gs.length = pre.length := by rw [h']; simp
    simp only [spec_MetaFrom.l11, decide_eq_false (show ¬ ((pre.length : Int) < (gs.length : Int)) by omega), cond_false, List.all_nil, if_true, List.map_nil, List.append_nil]
  | cons x post ih =>
    intro pre f G h' hf hG
    simp only [List.length_cons] at hf
    obtain ⟨f, rfl⟩ : ∃ q, f = q + 1 := ⟨f - 1, by omega⟩
    have hlen : gs.length = pre.length + (post.length + 1) := by rw [h']; simp
    have hg : rdL gs (pre.length : Int) = some x := by rw [h']; exact getMid _ _ _
    have hi1 : IntKind.wrap .i64 ((pre.length : Int) + 1) = ((pre.length + 1 : Nat) : Int) := by rw [w64 (by omega) (by omega)]; omega
    obtain ⟨x0, x1⟩ := hm x (by rw [h']; simp)
    obtain ⟨a, rfl⟩ := Int.eq_ofNat_of_zero_le x0
    obtain ⟨n1, _⟩ := num_val k hk2 h a (by omega) 3
    obtain ⟨b1, _, m1, m2⟩ := parts_val k hk2 h a (by omega) 1 12
    simp only [spec_MetaFrom.l11, decide_eq_true (show (pre.length : Int) < (gs.length : Int) by omega), cond_true, hg, Option.bind_some, n1, b1, v2, cst]
    have hgr : grS k l s (a : Int) = ((nV k l a 3).2 && (pV k l a 1 12).1 && (decide ((pV k l a 1 12).2.length = (leavesFrom 0 s).length) && chsI k l s true 0 (pV k l a 1 12).2)) := rfl
    simp only [List.all_cons, hgr]
    cases (nV k l a 3).2 with
    | false => rfl
    | true =>
      cases (pV k l a 1 12).1 with
      | false => rfl
      | true =>
        simp only [Bool.not_true, Bool.or_self, cond_false, Bool.true_and]
        by_cases hl : (pV k l a 1 12).2.length = (leavesFrom 0 s).length
        · rw [bneF (show ((pV k l a 1 12).2.length : Int) = ((leavesFrom 0 s).length : Int) by omega), decide_eq_true hl]
          simp only [Option.bind_some, cond_false, Bool.true_and, Bool.false_or]
          have := sgroup_loop k hk h s hn hS hok hok2 (spec_MetaFrom.l11 k f) (pre.length : Int) o100 gs o104 (pV k l a 1 12).2 hl m1 m2 (nV k l a 3).1 o105 o106 G (by omega) (pV k l a 1 12).2 [] k [] rfl (by omega) (by simp)
          rw [List.length_nil, show ((0 : Nat) : Int) = 0 from rfl] at this
          rw [this]
          cases chsI k l s true 0 (pV k l a 1 12).2 with
          | false => rfl
          | true =>
            rw [if_pos rfl, hi1]
            have := ih (pre ++ [(a : Int)]) f (G ++ [grV k l a]) (by rw [h']; simp) (by omega) (by simp; omega)
            rw [List.length_append, List.length_singleton] at this
            refine this.trans ?_
            simp only [Bool.true_and, List.map_cons, List.append_assoc, List.singleton_append]
        · rw [bneT (show ¬ ((pV k l a 1 12).2.length : Int) = ((leavesFrom 0 s).length : Int) by omega), decide_eq_false hl]
          rfl

theorem chs_weak : ∀ (r : List Int) (j : Nat), chsI k l s true j r = true → chsI k l s false j r = true := by
  intro r
  induction r with
  | nil => intro j _; rfl
  | cons p r ih =>
    intro j hh
    simp only [chsI, Bool.and_eq_true] at hh ⊢
    refine ⟨?_, ih _ hh.2⟩
    have h1 := hh.1
    unfold chI at h1 ⊢
    split at h1
    · cases h1
    · rename_i ho
      rw [if_neg ho]
      simp only [Bool.and_eq_true] at h1 ⊢
      refine ⟨h1.1, ?_⟩
      have h2 := h1.2
      split at h2
      · rename_i hf
        rw [if_pos hf]
      · rename_i hf
        rw [if_neg hf]
        simp only [if_true, Bool.and_eq_true, decide_eq_true_eq] at h2
        simp only [Bool.false_eq_true, if_false, Bool.and_eq_true, bne_iff_ne, ne_eq]
        exact ⟨h2.1, by omega⟩

theorem chs_strong : ∀ (r : List Int) (j : Nat), chsI k l s false j r = true → (∀ c, c ∈ chsV k l j r → -1 ≤ c.2.2.1) → chsI k l s true j r = true := by
  intro r
  induction r with
  | nil => intro j _ _; rfl
  | cons p r ih =>
    intro j hh hc
    simp only [chsI, Bool.and_eq_true] at hh ⊢
    refine ⟨?_, ih _ hh.2 (fun c hcm => hc c (by simp [chsV, hcm]))⟩
    have h1 := hh.1
    have hd := hc (chV k l p j) (by simp [chsV])
    unfold chI at h1 ⊢
    unfold chV at hd
    split at h1
    · cases h1
    · rename_i ho
      rw [if_neg ho] at hd ⊢
      simp only [Bool.and_eq_true] at h1 ⊢
      refine ⟨h1.1, ?_⟩
      have h2 := h1.2
      split at h2
      · rename_i hf
        rw [if_pos hf]
      · rename_i hf
        rw [if_neg hf]
        simp only [if_neg hf] at hd
        simp only [Bool.false_eq_true, if_false, Bool.and_eq_true, bne_iff_ne, ne_eq] at h2
        simp only [if_true, Bool.and_eq_true, decide_eq_true_eq]
        exact ⟨h2.1, by omega⟩
end

/-- both find the same foot in a list of nodes -/
theorem metaFrom_eq (k : Nat) (hk : 2000000 ≤ k) (l : List TNode) (hw : ∀ n, n ∈ l → WfN n) (hlen : l.length < 4294967296) : ∃ r, spec_MetaFrom k l = some r ∧ impl_MetaFrom k l = some r ∧ (r.1.2 = false → r = noMeta) ∧ r.2.1.length ≤ 20 ∧ r.2.2.length ≤ 40 ∧ ∀ g, g ∈ r.2.2 → g.2.1.length ≤ 1500 ∧ ∀ c, c ∈ g.2.1 → c.2.2.2.2.2.1.length ≤ 1500 := by
  have hk2 : 2000 ≤ k := by omega
  obtain ⟨b, h1, h2⟩ := treeOf_eq k hk2 l hw hlen
  unfold spec_MetaFrom impl_MetaFrom
  simp only [h1, Option.bind_some]
  rcases h2 with ⟨rfl, x, hx⟩ | ⟨rfl, hl, hl1, af, hx, hSb, _⟩
  · simp only [hx, Option.bind_some, Bool.not_false, cond_true]
    exact ⟨_, rfl, rfl, fun _ => rfl, by simp, by simp, fun g hg => by cases hg⟩
  · have h : TreeFacts l af := ⟨hl, hl1, hSb, hw⟩
    obtain ⟨c, s, g1, g2, g3, _⟩ := of_eq k hk2 h 0 hl1
    obtain ⟨n1, _⟩ := num_val k hk2 h 0 hl1 3
    obtain ⟨b1, _, m1, m2⟩ := parts_val k hk2 h 0 hl1 4 12
    have z : ((0 : Nat) : Int) = 0 := rfl
    rw [z] at g1 g2 n1 b1 m1 m2
    simp only [hx, Option.bind_some, Bool.not_true, cond_false, g1, g2, n1, b1, cst]
    cases c with
    | false =>
      simp only [Bool.not_false, cond_true, Bool.true_or]
      exact ⟨_, rfl, rfl, fun _ => rfl, by simp, by simp, fun g hg => by cases hg⟩
    | true =>
      obtain ⟨hS, ok1, ok2, hn⟩ := g3 rfl
      have hs20 := hS.2.1
      have mn := mnum k hk2 h 0 hl1 3 false
      have ml := mlist k hk2 h 0 hl1 4 12 (!(nV k l 0 3).2)
      rw [z] at mn ml
      rw [Bool.false_or] at mn
      have mn : impl_metaReader_number k 0 3 ((), false, ()) (tB l) af = _ := mn
      simp only [Bool.not_true, cond_false, mn, ml, Option.bind_some, Bool.false_or]
      have hI := igroups_loop k hk h s hn hS ok1 ok2 ((), 0, (), ()) ((), (nV k l 0 3).1, (), ()) (pV k l 0 4 12).2 m1 m2 [] [] (pV k l 0 4 12).2 [] k (!(nV k l 0 3).2 || !(pV k l 0 4 12).1) [] rfl (by omega) (by simp)
      have hSp := sgroups_loop k hk h s hn hS ok1 ok2 ((), 0, (), ()) (pV k l 0 4 12).2 m1 m2 ((), (nV k l 0 3).1, (), ()) [] [] (pV k l 0 4 12).2 [] k [] rfl (by omega) (by simp)
      rw [List.length_nil, z] at hI hSp
      rw [hI, List.nil_append]
      have hfit1 : ∀ g, g ∈ (pV k l 0 4 12).2.map (grV k l) → g.2.1.length ≤ 1500 ∧ ∀ c, c ∈ g.2.1 → c.2.2.2.2.2.1.length ≤ 1500 := by
        intro g hg
        obtain ⟨p, hp, rfl⟩ := List.mem_map.1 hg
        obtain ⟨p0, p1⟩ := m2 p hp
        obtain ⟨a, rfl⟩ := Int.eq_ofNat_of_zero_le p0
        obtain ⟨_, _, q1, q2⟩ := parts_val k hk2 h a (by omega) 1 12
        have hlen : (grV k l (a : Int)).2.1.length = (pV k l a 1 12).2.length := chsV_len k l _ _
        refine ⟨by omega, ?_⟩
        have key : ∀ (r : List Int) (j : Nat), (∀ p, p ∈ r → 0 ≤ p ∧ p < (l.length : Int)) → ∀ c, c ∈ chsV k l j r → c.2.2.2.2.2.1.length ≤ 1500 := by
          intro r
          induction r with
          | nil => intro j _ c hc; cases hc
          | cons p r ih =>
            intro j hr c hc
            simp only [chsV, List.mem_cons] at hc
            rcases hc with rfl | hc
            · obtain ⟨p0, p1⟩ := hr p (by simp)
              obtain ⟨a, rfl⟩ := Int.eq_ofNat_of_zero_le p0
              unfold chV
              rcases own_eq k hk h a (by omega) with ⟨ho, _⟩ | ⟨q, ho, _, q2, _⟩
              · rw [ho, if_pos (by omega)]
                simp
              · rw [ho, if_neg (by omega)]
                obtain ⟨_, _, w1, _⟩ := parts_val k hk2 h q q2 2 5
                simp only [List.length_map]
                omega
            · exact ih (j + 1) (fun p hp => hr p (by simp [hp])) c hc
        exact key _ 0 q2
      have hfit : Fit k ((pV k l 0 4 12).2.map (grV k l)) := fun g hg => by
        obtain ⟨f1, f2⟩ := hfit1 g hg
        exact ⟨by omega, by omega, fun c hc => by have := f2 c hc; omega⟩
      obtain ⟨mb, o1, o2, o3⟩ := metaOk_eq k hk2 s ok1 ok2 (by omega) (nV k l 0 3).1 ((pV k l 0 4 12).2.map (grV k l)) hfit
      have hmI : impl_MetaOk k (s, (((), (nV k l 0 3).1, (), ()) : Unit × Int × Unit × Unit).2.1, (pV k l 0 4 12).2.map (grV k l), ()) = some mb := o2
      rw [hmI]
      -- the two ways of looking at groups are the same where MetaOk is
      have same : (((pV k l 0 4 12).2.all (grI k l s)) && mb) = (((pV k l 0 4 12).2.all (grS k l s)) && mb) := by
        cases hmb : mb with
        | false => simp
        | true =>
          obtain ⟨_, _, _, hGG⟩ := o3 hmb
          rw [Bool.and_true, Bool.and_true, Bool.eq_iff_iff, List.all_eq_true, List.all_eq_true]
          constructor
          · intro hh p hp
            have hI := hh p hp
            obtain ⟨q1, q2⟩ := hGG (grV k l p) (List.mem_map_of_mem hp)
            have q1 : (chsV k l 0 (pV k l p 1 12).2).length = (leavesFrom 0 s).length := q1
            rw [chsV_len] at q1
            unfold grI at hI
            unfold grS
            simp only [Bool.and_eq_true, decide_eq_true_eq] at hI ⊢
            exact ⟨hI.1, q1, chs_strong k hk h s hn hS ok1 ok2 _ 0 hI.2.1 q2⟩
          · intro hh p hp
            have hI := hh p hp
            have hll := leavesFrom_len 0 s
            unfold grS at hI
            unfold grI
            simp only [Bool.and_eq_true, decide_eq_true_eq] at hI ⊢
            exact ⟨hI.1, chs_weak k hk h s hn hS ok1 ok2 _ 0 hI.2.2, by omega⟩
      cases hn3 : (nV k l 0 3).2 with
      | false =>
        simp only [Bool.not_false, Bool.true_or, cond_true, if_true]
        exact ⟨_, rfl, rfl, fun _ => rfl, by simp, by simp, fun g hg => by cases hg⟩
      | true =>
        cases hp4 : (pV k l 0 4 12).1 with
        | false =>
          simp only [Bool.not_true, Bool.not_false, Bool.or_true, Bool.true_or, cond_true, if_true]
          exact ⟨_, rfl, rfl, fun _ => rfl, by simp, by simp, fun g hg => by cases hg⟩
        | true =>
          have hmS : spec_MetaOk k (s, (((), (nV k l 0 3).1, (), ()) : Unit × Int × Unit × Unit).2.1, [] ++ (pV k l 0 4 12).2.map (grV k l), ()) = some mb := o1
          simp only [Bool.not_true, Bool.or_self, cond_false, Bool.false_or]
          rw [hSp, hmS]
          simp only [Option.bind_some, List.nil_append]
          cases mb with
          | false =>
            simp only [Bool.not_false, cond_true, ite_self]
            exact ⟨_, rfl, rfl, fun _ => rfl, by simp, by simp, fun g hg => by cases hg⟩
          | true =>
            rw [Bool.and_true, Bool.and_true] at same
            rw [same]
            simp only [Bool.not_true, cond_false]
            cases (pV k l 0 4 12).2.all (grS k l s) with
            | false =>
              simp only [Bool.not_false, if_true, Bool.false_eq_true, if_false]
              exact ⟨_, rfl, rfl, fun _ => rfl, by simp, by simp, fun g hg => by cases hg⟩
            | true =>
              simp only [Bool.not_true, if_true, Bool.false_eq_true, if_false]
              exact ⟨_, rfl, rfl, (fun h => by cases h), hs20, (o3 rfl).1, hfit1⟩
end Go.Law
end

section
/- What the exact laws do around a call: copies, marks, and looks. -/
set_option linter.unusedVariables false
set_option linter.unusedSimpArgs false
namespace Go.Law
open Go.Am Go.Fn
variable (k : Nat)


theorem w1 {x : Int} {c : Int} (h : I64 x) (hc : 0 ≤ c) (hb : x + c < 9223372036854775808) : IntKind.wrap .i64 (x + c) = x + c := w64 (by have := h.1; omega) hb

/-! ### the text of a mark -/
theorem markTextLoop : ∀ (f n : Nat) (t : Int) (acc : ByteArray), t < 10 ^ f → f < n → acc.size + f ≤ 1000 → t < 9223372036854775808 → ∃ s, laws_markText.l4 k n t acc = some s ∧ s.size ≤ 1001 := by
  intro f
  induction f with
  | zero =>
    intro n t acc ht hn ha h64
    obtain ⟨n, rfl⟩ : ∃ j, n = j + 1 := ⟨n - 1, by omega⟩
    have ht : t < 1 := by simpa using ht
    simp only [laws_markText.l4, decide_eq_false (show ¬ t > 0 by omega), cond_false]
    rw [lim_ok (by show 1 + acc.size ≤ _; omega), cond_true]
    exact ⟨_, rfl, by rw [ByteArray.size_append]; show 1 + acc.size ≤ _; omega⟩
  | succ f ih =>
    intro n t acc ht hn ha h64
    obtain ⟨n, rfl⟩ : ∃ j, n = j + 1 := ⟨n - 1, by omega⟩
    by_cases h : t > 0
    · simp only [laws_markText.l4, decide_eq_true h, cond_true]
      rw [lim_ok (by rw [intsStr_size]; simp; omega), cond_true, Int.tdiv_eq_ediv_of_nonneg (by omega), w64 (show -9223372036854775808 ≤ t / 10 by omega) (by omega)]
      refine ih n (t / 10) _ ?_ (by omega) (by rw [ByteArray.size_append, intsStr_size]; simp; omega) (by omega)
      have hp : (10 : Int) ^ (f + 1) = 10 ^ f * 10 := Int.pow_succ 10 f
      omega
    · simp only [laws_markText.l4, decide_eq_false h, cond_false]
      rw [lim_ok (by show 1 + acc.size ≤ _; omega), cond_true]
      exact ⟨_, rfl, by rw [ByteArray.size_append]; show 1 + acc.size ≤ _; omega⟩

theorem markText_ok (hk : 100 ≤ k) (t : Int) (h : t < 9223372036854775808) : ∃ s, laws_markText k t = some s := by
  unfold laws_markText
  by_cases h0 : t ≤ 0
  · simp only [decide_eq_true h0, cond_true]
    exact ⟨_, rfl⟩
  · simp only [decide_eq_false h0, cond_false]
    obtain ⟨s, hs, _⟩ := markTextLoop k 19 k t ⟨#[]⟩ (by omega) (by omega) (by decide) h
    exact ⟨s, hs⟩

def mtx (t : Int) : ByteArray := (laws_markText k t).getD ⟨#[]⟩
theorem mtx_eq (hk : 100 ≤ k) (t : Int) (h : t < 9223372036854775808) : laws_markText k t = some (mtx k t) := by
  obtain ⟨s, hs⟩ := markText_ok k hk t h
  unfold mtx
  rw [hs]; rfl
end Go.Law
end

section
/- What the exact laws do around a call: rows of anything. -/
set_option linter.unusedVariables false
set_option linter.unusedSimpArgs false
namespace Go.Law
open Go.Am Go.Fn

def xtot {α : Type} (f : α → Nat) : List α → Nat
  | [] => 0
  | x :: r => f x + xtot f r
theorem xtot_le {α : Type} {f : α → Nat} {C : Nat} : ∀ (l : List α), (∀ x, x ∈ l → f x ≤ C) → xtot f l ≤ C * l.length
  | [], _ => Nat.zero_le _
  | x :: r, h => by
    have h1 := h x (List.mem_cons_self ..)
    have h2 := xtot_le r (fun y hy => h y (List.mem_cons_of_mem _ hy))
    simp only [xtot, List.length_cons, Nat.mul_add, Nat.mul_one]
    omega
theorem xtot_mem {α : Type} {f : α → Nat} : ∀ (l : List α) (x : α), x ∈ l → f x ≤ xtot f l
  | y :: r, x, h => by
    simp only [xtot]
    rcases List.mem_cons.1 h with rfl | h
    · omega
    · have := xtot_mem (f := f) r x h; omega

/-- a row of which no more is known than that it is not too long -/
def okL {α : Type} (P : α → Prop) (l : List α) : Prop := l.length ≤ 1048576 ∧ ∀ x, x ∈ l → P x
theorem okL.tot {α : Type} {P : α → Prop} {l : List α} (h : okL P l) {f : α → Nat} {C : Nat} (hc : ∀ x, P x → f x ≤ C) : xtot f l ≤ C * 1048576 := by
  have := xtot_le l (f := f) (C := C) (fun x hx => hc x (h.2 x hx))
  exact Nat.le_trans this (Nat.mul_le_mul_left _ h.1)

/-- a marked row -/
def mkL {α : Type} (mk : α → Int → α) (cnt : α → Nat) : List α → Int → List α
  | [], _ => []
  | x :: r, m => mk x m :: mkL mk cnt r (m + cnt x)
theorem mkL_len {α : Type} (mk : α → Int → α) (cnt : α → Nat) : ∀ (l : List α) (m : Int), (mkL mk cnt l m).length = l.length
  | [], _ => rfl
  | x :: r, m => by simp [mkL, mkL_len mk cnt r]

theorem nat1 {α : Type} (pre : List α) (h : pre.length ≤ 1048576) : IntKind.wrap .i64 ((pre.length : Int) + 1) = ((pre.length + 1 : Nat) : Int) := by rw [w64 (by omega) (by omega)]; omega
theorem ltMid {α : Type} (pre post : List α) (x : α) : decide ((pre.length : Int) < ((pre ++ x :: post).length : Int)) = true := decide_eq_true (by simp; omega)
theorem ltEnd {α : Type} (l : List α) : decide ((l.length : Int) < (l.length : Int)) = false := decide_eq_false (by omega)

theorem xto_gen {α : Type} (F : Nat → List α → Int → List α → Option (Unit × List α)) (z : α) (P : α → Prop)
    (h0 : ∀ n l o, F (n + 1) l (l.length : Int) o = some ((), o))
    (h1 : ∀ n pre x post o, P x → pre.length ≤ 1048576 → F (n + 1) (pre ++ x :: post) (pre.length : Int) (pre ++ z :: o) = F n (pre ++ x :: post) ((pre.length + 1 : Nat) : Int) (pre ++ x :: o)) :
    ∀ (post pre : List α) (n : Nat), post.length < n → pre.length + post.length ≤ 1048576 → (∀ x, x ∈ post → P x) → F n (pre ++ post) (pre.length : Int) (pre ++ List.replicate post.length z) = some ((), pre ++ post) := by
  intro post
  induction post with
  | nil =>
    intro pre n hn hl hP
    obtain ⟨n, rfl⟩ : ∃ j, n = j + 1 := ⟨n - 1, by omega⟩
    simp only [List.append_nil, List.length_nil, List.replicate_zero]
    exact h0 n pre pre
  | cons x post ih =>
    intro pre n hn hl hP
    obtain ⟨n, rfl⟩ : ∃ j, n = j + 1 := ⟨n - 1, by omega⟩
    simp only [List.length_cons] at hn hl
    have := ih (pre ++ [x]) n (by omega) (by simp; omega) (fun y hy => hP y (List.mem_cons_of_mem _ hy))
    rw [List.length_cons, List.replicate_succ, h1 n pre x post _ (hP x (List.mem_cons_self ..)) (by omega)]
    rw [List.length_append, List.length_singleton, List.append_assoc, List.singleton_append, List.append_assoc, List.singleton_append] at this
    exact this

theorem xeq_gen {α : Type} (F : Nat → List α → List α → Int → Option Bool) (P : α → Prop)
    (h0 : ∀ n l, F (n + 1) l l (l.length : Int) = some true)
    (h1 : ∀ n pre x post, P x → pre.length ≤ 1048576 → F (n + 1) (pre ++ x :: post) (pre ++ x :: post) (pre.length : Int) = F n (pre ++ x :: post) (pre ++ x :: post) ((pre.length + 1 : Nat) : Int)) :
    ∀ (post pre : List α) (n : Nat), post.length < n → pre.length + post.length ≤ 1048576 → (∀ x, x ∈ post → P x) → F n (pre ++ post) (pre ++ post) (pre.length : Int) = some true := by
  intro post
  induction post with
  | nil =>
    intro pre n hn hl hP
    obtain ⟨n, rfl⟩ : ∃ j, n = j + 1 := ⟨n - 1, by omega⟩
    simp only [List.append_nil]
    exact h0 n pre
  | cons x post ih =>
    intro pre n hn hl hP
    obtain ⟨n, rfl⟩ : ∃ j, n = j + 1 := ⟨n - 1, by omega⟩
    simp only [List.length_cons] at hn hl
    have := ih (pre ++ [x]) n (by omega) (by simp; omega) (fun y hy => hP y (List.mem_cons_of_mem _ hy))
    rw [h1 n pre x post (hP x (List.mem_cons_self ..)) (by omega)]
    rw [List.length_append, List.length_singleton, List.append_assoc, List.singleton_append] at this
    exact this

theorem xmark_gen {α : Type} (F : Nat → Int → Int → List α → Option (Int × List α)) (mk : α → Int → α) (cnt : α → Nat) (C : Nat) (P : α → Prop) (B : Int) (hC : ∀ x, P x → cnt x ≤ C)
    (h0 : ∀ n m l, F (n + 1) m (l.length : Int) l = some (m, l))
    (h1 : ∀ n m pre x post, P x → 0 ≤ m → m + cnt x ≤ B → pre.length ≤ 1048576 → F (n + 1) m (pre.length : Int) (pre ++ x :: post) = F n (m + cnt x) ((pre.length + 1 : Nat) : Int) (pre ++ mk x m :: post)) :
    ∀ (post pre : List α) (n : Nat) (m : Int), post.length < n → pre.length + post.length ≤ 1048576 → (∀ x, x ∈ post → P x) → 0 ≤ m → m + xtot cnt post ≤ B → F n m (pre.length : Int) (pre ++ post) = some (m + xtot cnt post, pre ++ mkL mk cnt post m) := by
  intro post
  induction post with
  | nil =>
    intro pre n m hn hl hP hm hB
    obtain ⟨n, rfl⟩ : ∃ j, n = j + 1 := ⟨n - 1, by omega⟩
    simp only [List.append_nil, xtot, mkL]
    rw [h0 n m pre]
    simp
  | cons x post ih =>
    intro pre n m hn hl hP hm hB
    obtain ⟨n, rfl⟩ : ∃ j, n = j + 1 := ⟨n - 1, by omega⟩
    simp only [List.length_cons, xtot] at hn hl hB
    have := ih (pre ++ [mk x m]) n (m + cnt x) (by omega) (by simp; omega) (fun y hy => hP y (List.mem_cons_of_mem _ hy)) (by omega) (by omega)
    rw [h1 n m pre x post (hP x (List.mem_cons_self ..)) hm (by omega) (by omega)]
    rw [List.length_append, List.length_singleton, List.append_assoc, List.singleton_append, List.append_assoc, List.singleton_append] at this
    rw [this]
    simp only [xtot, mkL]
    congr 2
    omega

theorem xheld_gen {α : Type} (F : Nat → List α → Int → Int → Option Int) (mk : α → Int → α) (cnt : α → Nat) (P : α → Prop) (B : Int)
    (h0 : ∀ n m l, F (n + 1) l m (l.length : Int) = some m)
    (h1 : ∀ n m pre x post, P x → 0 ≤ m → m + cnt x ≤ B → pre.length ≤ 1048576 → F (n + 1) (pre ++ mk x m :: post) m (pre.length : Int) = F n (pre ++ mk x m :: post) (m + cnt x) ((pre.length + 1 : Nat) : Int)) :
    ∀ (post pre : List α) (n : Nat) (m : Int), post.length < n → pre.length + post.length ≤ 1048576 → (∀ x, x ∈ post → P x) → 0 ≤ m → m + xtot cnt post ≤ B → F n (pre ++ mkL mk cnt post m) m (pre.length : Int) = some (m + xtot cnt post) := by
  intro post
  induction post with
  | nil =>
    intro pre n m hn hl hP hm hB
    obtain ⟨n, rfl⟩ : ∃ j, n = j + 1 := ⟨n - 1, by omega⟩
    simp only [List.append_nil, xtot, mkL]
    rw [h0 n m pre]
    simp
  | cons x post ih =>
    intro pre n m hn hl hP hm hB
    obtain ⟨n, rfl⟩ : ∃ j, n = j + 1 := ⟨n - 1, by omega⟩
    simp only [List.length_cons, xtot] at hn hl hB
    have := ih (pre ++ [mk x m]) n (m + cnt x) (by omega) (by simp; omega) (fun y hy => hP y (List.mem_cons_of_mem _ hy)) (by omega) (by omega)
    simp only [mkL, xtot]
    rw [h1 n m pre x _ (hP x (List.mem_cons_self ..)) hm (by omega) (by omega)]
    rw [List.length_append, List.length_singleton, List.append_assoc, List.singleton_append] at this
    rw [this]
    congr 1
    omega

/-- what is left of a measure -/
def szOut (s : Nat) (m : Int) : Int := if (s : Int) ≤ m then m - (s : Int) else -1
theorem szOut_pos {s : Nat} {m : Int} (h : (s : Int) ≤ m) : szOut s m = m - s := if_pos h
theorem szOut_neg {s : Nat} {m : Int} (h : ¬ (s : Int) ≤ m) : szOut s m = -1 := if_neg h
theorem szOut_zero {m : Int} (h : 0 ≤ m) : szOut 0 m = m := by rw [szOut_pos (by omega)]; omega
theorem szOut_add {s t : Nat} {m : Int} (h : (s : Int) ≤ m) : szOut t (m - s) = szOut (s + t) m := by
  unfold szOut
  split <;> split <;> omega

theorem xsz_gen {α : Type} (F : Nat → List α → Int → Int → Option Int) (sz : α → Nat) (P : α → Prop)
    (h0 : ∀ n m l, F (n + 1) l m (l.length : Int) = some m)
    (h1 : ∀ n m pre x post, P x → 0 ≤ m → m ≤ 1048576 → pre.length ≤ 1048576 → F (n + 1) (pre ++ x :: post) m (pre.length : Int) = cond (decide (szOut (sz x) m < 0)) (some (-1)) (F n (pre ++ x :: post) (szOut (sz x) m) ((pre.length + 1 : Nat) : Int))) :
    ∀ (post pre : List α) (n : Nat) (m : Int), post.length < n → pre.length + post.length ≤ 1048576 → (∀ x, x ∈ post → P x) → 0 ≤ m → m ≤ 1048576 → F n (pre ++ post) m (pre.length : Int) = some (szOut (xtot sz post) m) := by
  intro post
  induction post with
  | nil =>
    intro pre n m hn hl hP hm hB
    obtain ⟨n, rfl⟩ : ∃ j, n = j + 1 := ⟨n - 1, by omega⟩
    simp only [List.append_nil, xtot]
    rw [h0 n m pre, szOut_zero hm]
  | cons x post ih =>
    intro pre n m hn hl hP hm hB
    obtain ⟨n, rfl⟩ : ∃ j, n = j + 1 := ⟨n - 1, by omega⟩
    simp only [List.length_cons] at hn hl
    rw [h1 n m pre x post (hP x (List.mem_cons_self ..)) hm hB (by omega)]
    simp only [xtot]
    by_cases hx : (sz x : Int) ≤ m
    · have := ih (pre ++ [x]) n (m - sz x) (by omega) (by simp; omega) (fun y hy => hP y (List.mem_cons_of_mem _ hy)) (by omega) (by omega)
      rw [List.length_append, List.length_singleton, List.append_assoc, List.singleton_append] at this
      rw [szOut_pos hx, decide_eq_false (by omega), cond_false, this, szOut_add hx]
    · rw [szOut_neg hx, show decide ((-1 : Int) < 0) = true from rfl, cond_true, szOut_neg (by omega)]

/-- the size of a row: a step for each, and what is within -/
theorem xsz_top {α : Type} (G : List α → Int → Option Int) (F : Nat → List α → Int → Int → Option Int) (k : Nat) (sz : α → Nat) (hk : 2000000 ≤ k) (hG : ∀ l m, G l m = cond (decide (IntKind.wrap .i64 (m - (l.length : Int)) < 0)) (some (-1)) (F k l (IntKind.wrap .i64 (m - (l.length : Int))) 0))
    (l : List α) (m : Int) (h0 : 0 ≤ m) (h1 : m ≤ 1048576) (hl : l.length ≤ 9223372036854775807)
    (hF : l.length ≤ 1048576 → ∀ m, 0 ≤ m → m ≤ 1048576 → F k l m 0 = some (szOut (xtot sz l) m)) :
    G l m = some (szOut (l.length + xtot sz l) m) := by
  rw [hG, w64 (show -9223372036854775808 ≤ m - (l.length : Int) by omega) (by omega)]
  by_cases h : (l.length : Int) ≤ m
  · rw [decide_eq_false (by omega), cond_false, hF (by omega) _ (by omega) (by omega), szOut_add h]
  · rw [decide_eq_true (by omega), cond_true, szOut_neg (by omega)]

theorem i64_wf' {x : Int} (h : (Lit.int .i64 x).wf = true) : I64 x := by
  simp only [Lit.wf, Bool.and_eq_true, decide_eq_true_eq] at h
  have h1 : IntKind.min .i64 = -9223372036854775808 := by decide
  have h2 : IntKind.max .i64 = 9223372036854775807 := by decide
  rw [h1, h2] at h
  exact ⟨by omega, by omega⟩
end Go.Law
end

section
/- Copies, marks and looks. Printed by program. -/
set_option linter.unusedVariables false
set_option linter.unusedSimpArgs false
set_option maxRecDepth 4000
namespace Go.Law
open Go.Am Go.Fn
variable (k : Nat)

def okByte (x : Int) : Prop := 0 ≤ x ∧ x < 256

def goodByte (x : Int) : Prop := 0 ≤ x ∧ x < 256
def cntByte (x : Int) : Nat := 1
def mkByte (k : Nat) (x : Int) (m : Int) : Int := IntKind.wrap .u8 m
def szByte (x : Int) : Nat := 0
theorem cntByte_le (x : Int) (h : okByte x) : cntByte x ≤ 1 := Nat.le_refl _
theorem okByte_of (x : Int) (hg : goodByte x) (h : szByte x ≤ 1048576) : okByte x := hg

theorem xtoByteS (hk : 2000000 ≤ k) (l : List Int) (hl : okL okByte l) : laws_toByteS k l = some ((), l) := by
  unfold laws_toByteS
  have h := hl.1
  rw [okLen_ok (by omega) (by omega), cond_true]
  refine xto_gen (laws_toByteS.l3 k) (0 : Int) okByte ?_ ?_ l [] k (by omega) (by simpa using h) hl.2
  · intro n l o
    simp only [laws_toByteS.l3, ltEnd, cond_false]
  · intro n pre x post o hx hp
    simp only [laws_toByteS.l3, ltMid, cond_true, getMid, Option.bind_some, laws_toLeaf, laws_toNode, laws_toVal, setMid, nat1 pre hp]

theorem xeqByteS (hk : 2000000 ≤ k) (l : List Int) (hl : okL okByte l) : laws_eqByteS k l l = some true := by
  unfold laws_eqByteS
  have h := hl.1
  simp only [bneF rfl, cond_false]
  refine xeq_gen (laws_eqByteS.l4 k) okByte ?_ ?_ l [] k (by omega) (by simpa using h) hl.2
  · intro n l
    simp only [laws_eqByteS.l4, ltEnd, cond_false]
  · intro n pre x post hx hp
    simp only [laws_eqByteS.l4, ltMid, cond_true, getMid, Option.bind_some, bneF rfl, eqS_iff, decide_true, Bool.not_true, cond_false, nat1 pre hp]

theorem xmarkByteS (hk : 2000000 ≤ k) (l : List Int) (hl : okL okByte l) (m : Int) (h0 : 0 ≤ m) (hm : m + (xtot cntByte l : Nat) ≤ 4611686018427387904) : laws_markByteS k m l = some (m + (xtot cntByte l : Nat), mkL (mkByte k) cntByte l m) := by
  unfold laws_markByteS
  have h := hl.1
  refine xmark_gen (laws_markByteS.l2 k) (mkByte k) cntByte 1 okByte 4611686018427387904 cntByte_le ?_ ?_ l [] k m (by omega) (by simpa using h) hl.2 h0 hm
  · intro n m l
    simp only [laws_markByteS.l2, ltEnd, cond_false]
  · intro n m pre x post hx h0 hm hp
    simp only [cntByte] at hm
    have e0 : IntKind.wrap .i64 (m + 1) = m + 1 := w64 (by omega) (by omega)
    have eN : m + 1 = m + (cntByte x : Nat) := by simp only [cntByte] <;> omega
    simp only [laws_markByteS.l2, ltMid, cond_true, getMid, Option.bind_some, setMid, e0, laws_markMeta, nat1 pre hp]
    rw [eN]
    rfl

def okInt (x : Int) : Prop := True

def goodInt (x : Int) : Prop := I64 x
def cntInt (x : Int) : Nat := 1
def mkInt (k : Nat) (x : Int) (m : Int) : Int := m
def szInt (x : Int) : Nat := 0
theorem cntInt_le (x : Int) (h : okInt x) : cntInt x ≤ 1 := Nat.le_refl _
theorem okInt_of (x : Int) (hg : goodInt x) (h : szInt x ≤ 1048576) : okInt x := trivial

theorem xeqIntS (hk : 2000000 ≤ k) (l : List Int) (hl : okL okInt l) : laws_eqIntS k l l = some true := by
  unfold laws_eqIntS
  have h := hl.1
  simp only [bneF rfl, cond_false]
  refine xeq_gen (laws_eqIntS.l4 k) okInt ?_ ?_ l [] k (by omega) (by simpa using h) hl.2
  · intro n l
    simp only [laws_eqIntS.l4, ltEnd, cond_false]
  · intro n pre x post hx hp
    simp only [laws_eqIntS.l4, ltMid, cond_true, getMid, Option.bind_some, bneF rfl, eqS_iff, decide_true, Bool.not_true, cond_false, nat1 pre hp]

theorem xmarkIntS (hk : 2000000 ≤ k) (l : List Int) (hl : okL okInt l) (m : Int) (h0 : 0 ≤ m) (hm : m + (xtot cntInt l : Nat) ≤ 4611686018427387904) : laws_markIntS k m l = some (m + (xtot cntInt l : Nat), mkL (mkInt k) cntInt l m) := by
  unfold laws_markIntS
  have h := hl.1
  refine xmark_gen (laws_markIntS.l2 k) (mkInt k) cntInt 1 okInt 4611686018427387904 cntInt_le ?_ ?_ l [] k m (by omega) (by simpa using h) hl.2 h0 hm
  · intro n m l
    simp only [laws_markIntS.l2, ltEnd, cond_false]
  · intro n m pre x post hx h0 hm hp
    simp only [cntInt] at hm
    have e0 : IntKind.wrap .i64 (m + 1) = m + 1 := w64 (by omega) (by omega)
    have eN : m + 1 = m + (cntInt x : Nat) := by simp only [cntInt] <;> omega
    simp only [laws_markIntS.l2, ltMid, cond_true, getMid, Option.bind_some, setMid, e0, laws_markMeta, nat1 pre hp]
    rw [eN]
    rfl

theorem xheldIntS (hk : 2000000 ≤ k) (l : List Int) (hl : okL okInt l) (m : Int) (h0 : 0 ≤ m) (hm : m + (xtot cntInt l : Nat) ≤ 4611686018427387904) : laws_heldIntS k (mkL (mkInt k) cntInt l m) m = some (m + (xtot cntInt l : Nat)) := by
  unfold laws_heldIntS
  have h := hl.1
  refine xheld_gen (laws_heldIntS.l2 k) (mkInt k) cntInt okInt 4611686018427387904 ?_ ?_ l [] k m (by omega) (by simpa using h) hl.2 h0 hm
  · intro n m l
    simp only [laws_heldIntS.l2, ltEnd, cond_false]
  · intro n m pre x post hx h0 hm hp
    simp only [cntInt] at hm
    have e0 : IntKind.wrap .i64 (m + 1) = m + 1 := w64 (by omega) (by omega)
    have eN : m + 1 = m + (cntInt x : Nat) := by simp only [cntInt] <;> omega
    simp only [laws_heldIntS.l2, ltMid, cond_true]
    simp only [mkInt, getMid, Option.bind_some, eqS_iff, decide_true, Bool.not_true, cond_false, bneF rfl, bne_self_eq_false, e0, laws_heldMeta, nat1 pre hp]
    rw [eN]

def okChunk (x : TChunk) : Prop := okL okInt x.2.2.2.2.2.1
def goodChunk (x : TChunk) : Prop := I64 x.1 ∧ I64 x.2.1 ∧ I64 x.2.2.1 ∧ I64 x.2.2.2.1 ∧ I64 x.2.2.2.2.1 ∧ (x.2.2.2.2.2.1.length ≤ 9223372036854775807 ∧ ∀ y, y ∈ x.2.2.2.2.2.1 → goodInt y)
def cntChunk (x : TChunk) : Nat := 1 + 1 + 1 + 1 + 1 + xtot cntInt x.2.2.2.2.2.1
def szChunk (x : TChunk) : Nat := (x.2.2.2.2.2.1.length + xtot szInt x.2.2.2.2.2.1) + 0
def mkChunk (k : Nat) (x : TChunk) (m : Int) : TChunk := (m, m + 1, m + 1 + 1, m + 1 + 1 + 1, m + 1 + 1 + 1 + 1, mkL (mkInt k) cntInt x.2.2.2.2.2.1 (m + 1 + 1 + 1 + 1 + 1), ())
theorem cntChunk_le (x : TChunk) (h : okChunk x) : cntChunk x ≤ 1048581 := by
  have h0 : okL okInt x.2.2.2.2.2.1 := h
  have g5 := okL.tot h0 cntInt_le
  unfold cntChunk
  omega
theorem okChunk_of (x : TChunk) (hg : goodChunk x) (h : szChunk x ≤ 1048576) : okChunk x := by
  obtain ⟨g0, g1, g2, g3, g4, g5⟩ := hg
  unfold szChunk at h
  exact ⟨by omega, fun y hy => okInt_of y (g5.2 y hy) (by have := xtot_mem (f := szInt) _ _ hy; omega)⟩
theorem goodChunk_of {e1 : TypeId} {x : TChunk} (h : GoodP (.st (.cons (.int .i64) (.cons (.int .i64) (.cons (.int .i64) (.cons (.int .i64) (.cons (.int .i64) (.cons (.list e1 (.int .i64)) .nil))))))) x) : goodChunk x := by
  have hm : maxLen ≤ 9223372036854775807 := by decide
  obtain ⟨q0, q1, q2, q3, q4, q5, _⟩ := h
  exact ⟨i64_wf' q0, i64_wf' q1, i64_wf' q2, i64_wf' q3, i64_wf' q4, ⟨Nat.le_trans q5.1 hm, fun y hy => i64_wf' (q5.2 y hy)⟩⟩

theorem xeqChunk (hk : 2000000 ≤ k) (x : TChunk) (hx : okChunk x) : laws_eqChunk k x x = some true := by
  have o0 : okL okInt x.2.2.2.2.2.1 := hx
  have k_o0 : okL okInt x.2.2.2.2.2.1 := o0
  simp only [bneF rfl, eqS_iff, decide_true, Bool.not_true, cond_false, Option.bind_some, bne_self_eq_false, beq_self_eq_true, laws_eqChunk, laws_eqCol, laws_eqGroupMeta, laws_eqHead, laws_eqMeta, laws_eqNode, laws_eqStats, laws_eqVal, xeqIntS k hk _ k_o0]

theorem xeqChunkS (hk : 2000000 ≤ k) (l : List TChunk) (hl : okL okChunk l) : laws_eqChunkS k l l = some true := by
  unfold laws_eqChunkS
  have h := hl.1
  simp only [bneF rfl, cond_false]
  refine xeq_gen (laws_eqChunkS.l4 k) okChunk ?_ ?_ l [] k (by omega) (by simpa using h) hl.2
  · intro n l
    simp only [laws_eqChunkS.l4, ltEnd, cond_false]
  · intro n pre x post hx hp
    simp only [laws_eqChunkS.l4, ltMid, cond_true, getMid, Option.bind_some, xeqChunk k hk x hx, Bool.not_true, cond_false, nat1 pre hp]

theorem xmarkChunkS (hk : 2000000 ≤ k) (l : List TChunk) (hl : okL okChunk l) (m : Int) (h0 : 0 ≤ m) (hm : m + (xtot cntChunk l : Nat) ≤ 4611686018427387904) : laws_markChunkS k m l = some (m + (xtot cntChunk l : Nat), mkL (mkChunk k) cntChunk l m) := by
  unfold laws_markChunkS
  have h := hl.1
  refine xmark_gen (laws_markChunkS.l2 k) (mkChunk k) cntChunk 1048581 okChunk 4611686018427387904 cntChunk_le ?_ ?_ l [] k m (by omega) (by simpa using h) hl.2 h0 hm
  · intro n m l
    simp only [laws_markChunkS.l2, ltEnd, cond_false]
  · intro n m pre x post hx h0 hm hp
    simp only [cntChunk] at hm
    have o0 : okL okInt x.2.2.2.2.2.1 := hx
    have k_o0 : okL okInt x.2.2.2.2.2.1 := o0
    have p5 : (0 : Int) ≤ (xtot cntInt x.2.2.2.2.2.1 : Nat) := Int.natCast_nonneg _
    have e0 : IntKind.wrap .i64 (m + 1) = m + 1 := w64 (by omega) (by omega)
    have e1 : IntKind.wrap .i64 (m + 1 + 1) = m + 1 + 1 := w64 (by omega) (by omega)
    have e2 : IntKind.wrap .i64 (m + 1 + 1 + 1) = m + 1 + 1 + 1 := w64 (by omega) (by omega)
    have e3 : IntKind.wrap .i64 (m + 1 + 1 + 1 + 1) = m + 1 + 1 + 1 + 1 := w64 (by omega) (by omega)
    have e4 : IntKind.wrap .i64 (m + 1 + 1 + 1 + 1 + 1) = m + 1 + 1 + 1 + 1 + 1 := w64 (by omega) (by omega)
    have r5 := xmarkIntS k hk x.2.2.2.2.2.1 k_o0 (m + 1 + 1 + 1 + 1 + 1) (by omega) (by omega)
    have eN : m + 1 + 1 + 1 + 1 + 1 + (xtot cntInt x.2.2.2.2.2.1 : Nat) = m + (cntChunk x : Nat) := by simp only [cntChunk] <;> omega
    simp only [laws_markChunkS.l2, ltMid, cond_true, getMid, Option.bind_some, setMid, e0, e1, e2, e3, e4, r5, laws_markMeta, nat1 pre hp]
    rw [eN]
    rfl

theorem xheldChunkS (hk : 2000000 ≤ k) (l : List TChunk) (hl : okL okChunk l) (m : Int) (h0 : 0 ≤ m) (hm : m + (xtot cntChunk l : Nat) ≤ 4611686018427387904) : laws_heldChunkS k (mkL (mkChunk k) cntChunk l m) m = some (m + (xtot cntChunk l : Nat)) := by
  unfold laws_heldChunkS
  have h := hl.1
  refine xheld_gen (laws_heldChunkS.l2 k) (mkChunk k) cntChunk okChunk 4611686018427387904 ?_ ?_ l [] k m (by omega) (by simpa using h) hl.2 h0 hm
  · intro n m l
    simp only [laws_heldChunkS.l2, ltEnd, cond_false]
  · intro n m pre x post hx h0 hm hp
    simp only [cntChunk] at hm
    have o0 : okL okInt x.2.2.2.2.2.1 := hx
    have k_o0 : okL okInt x.2.2.2.2.2.1 := o0
    have p5 : (0 : Int) ≤ (xtot cntInt x.2.2.2.2.2.1 : Nat) := Int.natCast_nonneg _
    have e0 : IntKind.wrap .i64 (m + 1) = m + 1 := w64 (by omega) (by omega)
    have e1 : IntKind.wrap .i64 (m + 1 + 1) = m + 1 + 1 := w64 (by omega) (by omega)
    have e2 : IntKind.wrap .i64 (m + 1 + 1 + 1) = m + 1 + 1 + 1 := w64 (by omega) (by omega)
    have e3 : IntKind.wrap .i64 (m + 1 + 1 + 1 + 1) = m + 1 + 1 + 1 + 1 := w64 (by omega) (by omega)
    have e4 : IntKind.wrap .i64 (m + 1 + 1 + 1 + 1 + 1) = m + 1 + 1 + 1 + 1 + 1 := w64 (by omega) (by omega)
    have r5 := xheldIntS k hk x.2.2.2.2.2.1 k_o0 (m + 1 + 1 + 1 + 1 + 1) (by omega) (by omega)
    have eN : m + 1 + 1 + 1 + 1 + 1 + (xtot cntInt x.2.2.2.2.2.1 : Nat) = m + (cntChunk x : Nat) := by simp only [cntChunk] <;> omega
    simp only [laws_heldChunkS.l2, ltMid, cond_true]
    simp only [mkChunk, getMid, Option.bind_some, eqS_iff, decide_true, Bool.not_true, cond_false, bneF rfl, bne_self_eq_false, e0, e1, e2, e3, e4, r5, decide_eq_false (show ¬ (m + 1 + 1 + 1 + 1 + 1 + (xtot cntInt x.2.2.2.2.2.1 : Nat) < 0) by omega), laws_heldMeta, nat1 pre hp]
    rw [eN]

def okCol (x : TCol) : Prop := True
def goodCol (x : TCol) : Prop := x.1.size ≤ 9223372036854775807 ∧ I64 x.2.1 ∧ I64 x.2.2.1 ∧ I64 x.2.2.2.1
def cntCol (x : TCol) : Nat := 1 + 1 + 1 + 1
def szCol (x : TCol) : Nat := x.1.size + 0
def mkCol (k : Nat) (x : TCol) (m : Int) : TCol := (mtx k (m), m + 1, m + 1 + 1, m + 1 + 1 + 1, ())
theorem cntCol_le (x : TCol) (h : okCol x) : cntCol x ≤ 4 := by
  unfold cntCol
  omega
theorem okCol_of (x : TCol) (hg : goodCol x) (h : szCol x ≤ 1048576) : okCol x := by
  trivial
theorem goodCol_of {x : TCol} (h : GoodP (.st (.cons .str (.cons (.int .i64) (.cons (.int .i64) (.cons (.int .i64) .nil))))) x) : goodCol x := by
  have hm : maxLen ≤ 9223372036854775807 := by decide
  obtain ⟨q0, q1, q2, q3, _⟩ := h
  exact ⟨Nat.le_trans q0 hm, i64_wf' q1, i64_wf' q2, i64_wf' q3⟩

theorem xeqCol (hk : 2000000 ≤ k) (x : TCol) (hx : okCol x) : laws_eqCol k x x = some true := by
  simp only [bneF rfl, eqS_iff, decide_true, Bool.not_true, cond_false, Option.bind_some, bne_self_eq_false, beq_self_eq_true, laws_eqChunk, laws_eqCol, laws_eqGroupMeta, laws_eqHead, laws_eqMeta, laws_eqNode, laws_eqStats, laws_eqVal]

theorem xeqColS (hk : 2000000 ≤ k) (l : List TCol) (hl : okL okCol l) : laws_eqColS k l l = some true := by
  unfold laws_eqColS
  have h := hl.1
  simp only [bneF rfl, cond_false]
  refine xeq_gen (laws_eqColS.l4 k) okCol ?_ ?_ l [] k (by omega) (by simpa using h) hl.2
  · intro n l
    simp only [laws_eqColS.l4, ltEnd, cond_false]
  · intro n pre x post hx hp
    simp only [laws_eqColS.l4, ltMid, cond_true, getMid, Option.bind_some, xeqCol k hk x hx, Bool.not_true, cond_false, nat1 pre hp]

theorem xmarkColS (hk : 2000000 ≤ k) (l : List TCol) (hl : okL okCol l) (m : Int) (h0 : 0 ≤ m) (hm : m + (xtot cntCol l : Nat) ≤ 4611686018427387904) : laws_markColS k m l = some (m + (xtot cntCol l : Nat), mkL (mkCol k) cntCol l m) := by
  unfold laws_markColS
  have h := hl.1
  refine xmark_gen (laws_markColS.l2 k) (mkCol k) cntCol 4 okCol 4611686018427387904 cntCol_le ?_ ?_ l [] k m (by omega) (by simpa using h) hl.2 h0 hm
  · intro n m l
    simp only [laws_markColS.l2, ltEnd, cond_false]
  · intro n m pre x post hx h0 hm hp
    simp only [cntCol] at hm
    have e0 : IntKind.wrap .i64 (m + 1) = m + 1 := w64 (by omega) (by omega)
    have e1 : IntKind.wrap .i64 (m + 1 + 1) = m + 1 + 1 := w64 (by omega) (by omega)
    have e2 : IntKind.wrap .i64 (m + 1 + 1 + 1) = m + 1 + 1 + 1 := w64 (by omega) (by omega)
    have e3 : IntKind.wrap .i64 (m + 1 + 1 + 1 + 1) = m + 1 + 1 + 1 + 1 := w64 (by omega) (by omega)
    have eN : m + 1 + 1 + 1 + 1 = m + (cntCol x : Nat) := by simp only [cntCol] <;> omega
    simp only [laws_markColS.l2, ltMid, cond_true, getMid, Option.bind_some, setMid, e0, mtx_eq k (by omega) (m) (by omega), e1, e2, e3, laws_markMeta, nat1 pre hp]
    rw [eN]
    rfl

theorem xheldColS (hk : 2000000 ≤ k) (l : List TCol) (hl : okL okCol l) (m : Int) (h0 : 0 ≤ m) (hm : m + (xtot cntCol l : Nat) ≤ 4611686018427387904) : laws_heldColS k (mkL (mkCol k) cntCol l m) m = some (m + (xtot cntCol l : Nat)) := by
  unfold laws_heldColS
  have h := hl.1
  refine xheld_gen (laws_heldColS.l2 k) (mkCol k) cntCol okCol 4611686018427387904 ?_ ?_ l [] k m (by omega) (by simpa using h) hl.2 h0 hm
  · intro n m l
    simp only [laws_heldColS.l2, ltEnd, cond_false]
  · intro n m pre x post hx h0 hm hp
    simp only [cntCol] at hm
    have e0 : IntKind.wrap .i64 (m + 1) = m + 1 := w64 (by omega) (by omega)
    have e1 : IntKind.wrap .i64 (m + 1 + 1) = m + 1 + 1 := w64 (by omega) (by omega)
    have e2 : IntKind.wrap .i64 (m + 1 + 1 + 1) = m + 1 + 1 + 1 := w64 (by omega) (by omega)
    have e3 : IntKind.wrap .i64 (m + 1 + 1 + 1 + 1) = m + 1 + 1 + 1 + 1 := w64 (by omega) (by omega)
    have eN : m + 1 + 1 + 1 + 1 = m + (cntCol x : Nat) := by simp only [cntCol] <;> omega
    simp only [laws_heldColS.l2, ltMid, cond_true]
    simp only [mkCol, laws_heldColS.d4, getMid, Option.bind_some, eqS_iff, decide_true, Bool.not_true, cond_false, bneF rfl, bne_self_eq_false, e0, mtx_eq k (by omega) (m) (by omega), e1, e2, e3, laws_heldMeta, nat1 pre hp]
    rw [eN]

def okGroupMeta (x : TGroupMeta) : Prop := okL okChunk x.2.1
def goodGroupMeta (x : TGroupMeta) : Prop := I64 x.1 ∧ (x.2.1.length ≤ 9223372036854775807 ∧ ∀ y, y ∈ x.2.1 → goodChunk y)
def cntGroupMeta (x : TGroupMeta) : Nat := 1 + xtot cntChunk x.2.1
def szGroupMeta (x : TGroupMeta) : Nat := (x.2.1.length + xtot szChunk x.2.1) + 0
def mkGroupMeta (k : Nat) (x : TGroupMeta) (m : Int) : TGroupMeta := (m, mkL (mkChunk k) cntChunk x.2.1 (m + 1), ())
theorem cntGroupMeta_le (x : TGroupMeta) (h : okGroupMeta x) : cntGroupMeta x ≤ 1099516870657 := by
  have h0 : okL okChunk x.2.1 := h
  have g1 := okL.tot h0 cntChunk_le
  unfold cntGroupMeta
  omega
theorem okGroupMeta_of (x : TGroupMeta) (hg : goodGroupMeta x) (h : szGroupMeta x ≤ 1048576) : okGroupMeta x := by
  obtain ⟨g0, g1⟩ := hg
  unfold szGroupMeta at h
  exact ⟨by omega, fun y hy => okChunk_of y (g1.2 y hy) (by have := xtot_mem (f := szChunk) _ _ hy; omega)⟩
theorem goodGroupMeta_of {e1 : TypeId} {e2 : TypeId} {x : TGroupMeta} (h : GoodP (.st (.cons (.int .i64) (.cons (.list e1 (.st (.cons (.int .i64) (.cons (.int .i64) (.cons (.int .i64) (.cons (.int .i64) (.cons (.int .i64) (.cons (.list e2 (.int .i64)) .nil)))))))) .nil))) x) : goodGroupMeta x := by
  have hm : maxLen ≤ 9223372036854775807 := by decide
  obtain ⟨q0, q1, _⟩ := h
  exact ⟨i64_wf' q0, ⟨Nat.le_trans q1.1 hm, fun y hy => goodChunk_of (q1.2 y hy)⟩⟩

theorem xeqGroupMeta (hk : 2000000 ≤ k) (x : TGroupMeta) (hx : okGroupMeta x) : laws_eqGroupMeta k x x = some true := by
  have o0 : okL okChunk x.2.1 := hx
  have k_o0 : okL okChunk x.2.1 := o0
  simp only [bneF rfl, eqS_iff, decide_true, Bool.not_true, cond_false, Option.bind_some, bne_self_eq_false, beq_self_eq_true, laws_eqChunk, laws_eqCol, laws_eqGroupMeta, laws_eqHead, laws_eqMeta, laws_eqNode, laws_eqStats, laws_eqVal, xeqChunkS k hk _ k_o0]

theorem xeqGroupMetaS (hk : 2000000 ≤ k) (l : List TGroupMeta) (hl : okL okGroupMeta l) : laws_eqGroupMetaS k l l = some true := by
  unfold laws_eqGroupMetaS
  have h := hl.1
  simp only [bneF rfl, cond_false]
  refine xeq_gen (laws_eqGroupMetaS.l4 k) okGroupMeta ?_ ?_ l [] k (by omega) (by simpa using h) hl.2
  · intro n l
    simp only [laws_eqGroupMetaS.l4, ltEnd, cond_false]
  · intro n pre x post hx hp
    simp only [laws_eqGroupMetaS.l4, ltMid, cond_true, getMid, Option.bind_some, xeqGroupMeta k hk x hx, Bool.not_true, cond_false, nat1 pre hp]

theorem xmarkGroupMetaS (hk : 2000000 ≤ k) (l : List TGroupMeta) (hl : okL okGroupMeta l) (m : Int) (h0 : 0 ≤ m) (hm : m + (xtot cntGroupMeta l : Nat) ≤ 4611686018427387904) : laws_markGroupMetaS k m l = some (m + (xtot cntGroupMeta l : Nat), mkL (mkGroupMeta k) cntGroupMeta l m) := by
  unfold laws_markGroupMetaS
  have h := hl.1
  refine xmark_gen (laws_markGroupMetaS.l2 k) (mkGroupMeta k) cntGroupMeta 1099516870657 okGroupMeta 4611686018427387904 cntGroupMeta_le ?_ ?_ l [] k m (by omega) (by simpa using h) hl.2 h0 hm
  · intro n m l
    simp only [laws_markGroupMetaS.l2, ltEnd, cond_false]
  · intro n m pre x post hx h0 hm hp
    simp only [cntGroupMeta] at hm
    have o0 : okL okChunk x.2.1 := hx
    have k_o0 : okL okChunk x.2.1 := o0
    have p1 : (0 : Int) ≤ (xtot cntChunk x.2.1 : Nat) := Int.natCast_nonneg _
    have e0 : IntKind.wrap .i64 (m + 1) = m + 1 := w64 (by omega) (by omega)
    have r1 := xmarkChunkS k hk x.2.1 k_o0 (m + 1) (by omega) (by omega)
    have eN : m + 1 + (xtot cntChunk x.2.1 : Nat) = m + (cntGroupMeta x : Nat) := by simp only [cntGroupMeta] <;> omega
    simp only [laws_markGroupMetaS.l2, ltMid, cond_true, getMid, Option.bind_some, setMid, e0, r1, laws_markMeta, nat1 pre hp]
    rw [eN]
    rfl

theorem xheldGroupMetaS (hk : 2000000 ≤ k) (l : List TGroupMeta) (hl : okL okGroupMeta l) (m : Int) (h0 : 0 ≤ m) (hm : m + (xtot cntGroupMeta l : Nat) ≤ 4611686018427387904) : laws_heldGroupMetaS k (mkL (mkGroupMeta k) cntGroupMeta l m) m = some (m + (xtot cntGroupMeta l : Nat)) := by
  unfold laws_heldGroupMetaS
  have h := hl.1
  refine xheld_gen (laws_heldGroupMetaS.l2 k) (mkGroupMeta k) cntGroupMeta okGroupMeta 4611686018427387904 ?_ ?_ l [] k m (by omega) (by simpa using h) hl.2 h0 hm
  · intro n m l
    simp only [laws_heldGroupMetaS.l2, ltEnd, cond_false]
  · intro n m pre x post hx h0 hm hp
    simp only [cntGroupMeta] at hm
    have o0 : okL okChunk x.2.1 := hx
    have k_o0 : okL okChunk x.2.1 := o0
    have p1 : (0 : Int) ≤ (xtot cntChunk x.2.1 : Nat) := Int.natCast_nonneg _
    have e0 : IntKind.wrap .i64 (m + 1) = m + 1 := w64 (by omega) (by omega)
    have r1 := xheldChunkS k hk x.2.1 k_o0 (m + 1) (by omega) (by omega)
    have eN : m + 1 + (xtot cntChunk x.2.1 : Nat) = m + (cntGroupMeta x : Nat) := by simp only [cntGroupMeta] <;> omega
    simp only [laws_heldGroupMetaS.l2, ltMid, cond_true]
    simp only [mkGroupMeta, getMid, Option.bind_some, eqS_iff, decide_true, Bool.not_true, cond_false, bneF rfl, bne_self_eq_false, e0, r1, decide_eq_false (show ¬ (m + 1 + (xtot cntChunk x.2.1 : Nat) < 0) by omega), laws_heldMeta, nat1 pre hp]
    rw [eN]

def okNode (x : TNode) : Prop := True
def goodNode (x : TNode) : Prop := I64 x.1 ∧ I64 x.2.1 ∧ I64 x.2.2.1 ∧ x.2.2.2.1.size ≤ 9223372036854775807 ∧ I64 x.2.2.2.2.1
def cntNode (x : TNode) : Nat := 1 + 1 + 1 + 1 + 1
def szNode (x : TNode) : Nat := x.2.2.2.1.size + 0
def mkNode (k : Nat) (x : TNode) (m : Int) : TNode := (m, m + 1, m + 1 + 1, mtx k (m + 1 + 1 + 1), m + 1 + 1 + 1 + 1, ())
theorem cntNode_le (x : TNode) (h : okNode x) : cntNode x ≤ 5 := by
  unfold cntNode
  omega
theorem okNode_of (x : TNode) (hg : goodNode x) (h : szNode x ≤ 1048576) : okNode x := by
  trivial
theorem goodNode_of {x : TNode} (h : GoodP (.st (.cons (.int .i64) (.cons (.int .i64) (.cons (.int .i64) (.cons .str (.cons (.int .i64) .nil)))))) x) : goodNode x := by
  have hm : maxLen ≤ 9223372036854775807 := by decide
  obtain ⟨q0, q1, q2, q3, q4, _⟩ := h
  exact ⟨i64_wf' q0, i64_wf' q1, i64_wf' q2, Nat.le_trans q3 hm, i64_wf' q4⟩

theorem xtoNodeS (hk : 2000000 ≤ k) (l : List TNode) (hl : okL okNode l) : laws_toNodeS k l = some ((), l) := by
  unfold laws_toNodeS
  have h := hl.1
  rw [okLen_ok (by omega) (by omega), cond_true]
  refine xto_gen (laws_toNodeS.l3 k) ((0, 0, 0, (⟨#[]⟩ : ByteArray), 0, ()) : TNode) okNode ?_ ?_ l [] k (by omega) (by simpa using h) hl.2
  · intro n l o
    simp only [laws_toNodeS.l3, ltEnd, cond_false]
  · intro n pre x post o hx hp
    simp only [laws_toNodeS.l3, ltMid, cond_true, getMid, Option.bind_some, laws_toLeaf, laws_toNode, laws_toVal, setMid, nat1 pre hp]

theorem xeqNode (hk : 2000000 ≤ k) (x : TNode) (hx : okNode x) : laws_eqNode k x x = some true := by
  simp only [bneF rfl, eqS_iff, decide_true, Bool.not_true, cond_false, Option.bind_some, bne_self_eq_false, beq_self_eq_true, laws_eqChunk, laws_eqCol, laws_eqGroupMeta, laws_eqHead, laws_eqMeta, laws_eqNode, laws_eqStats, laws_eqVal]

theorem xeqNodeS (hk : 2000000 ≤ k) (l : List TNode) (hl : okL okNode l) : laws_eqNodeS k l l = some true := by
  unfold laws_eqNodeS
  have h := hl.1
  simp only [bneF rfl, cond_false]
  refine xeq_gen (laws_eqNodeS.l4 k) okNode ?_ ?_ l [] k (by omega) (by simpa using h) hl.2
  · intro n l
    simp only [laws_eqNodeS.l4, ltEnd, cond_false]
  · intro n pre x post hx hp
    simp only [laws_eqNodeS.l4, ltMid, cond_true, getMid, Option.bind_some, xeqNode k hk x hx, Bool.not_true, cond_false, nat1 pre hp]

theorem xmarkNodeS (hk : 2000000 ≤ k) (l : List TNode) (hl : okL okNode l) (m : Int) (h0 : 0 ≤ m) (hm : m + (xtot cntNode l : Nat) ≤ 4611686018427387904) : laws_markNodeS k m l = some (m + (xtot cntNode l : Nat), mkL (mkNode k) cntNode l m) := by
  unfold laws_markNodeS
  have h := hl.1
  refine xmark_gen (laws_markNodeS.l2 k) (mkNode k) cntNode 5 okNode 4611686018427387904 cntNode_le ?_ ?_ l [] k m (by omega) (by simpa using h) hl.2 h0 hm
  · intro n m l
    simp only [laws_markNodeS.l2, ltEnd, cond_false]
  · intro n m pre x post hx h0 hm hp
    simp only [cntNode] at hm
    have e0 : IntKind.wrap .i64 (m + 1) = m + 1 := w64 (by omega) (by omega)
    have e1 : IntKind.wrap .i64 (m + 1 + 1) = m + 1 + 1 := w64 (by omega) (by omega)
    have e2 : IntKind.wrap .i64 (m + 1 + 1 + 1) = m + 1 + 1 + 1 := w64 (by omega) (by omega)
    have e3 : IntKind.wrap .i64 (m + 1 + 1 + 1 + 1) = m + 1 + 1 + 1 + 1 := w64 (by omega) (by omega)
    have e4 : IntKind.wrap .i64 (m + 1 + 1 + 1 + 1 + 1) = m + 1 + 1 + 1 + 1 + 1 := w64 (by omega) (by omega)
    have eN : m + 1 + 1 + 1 + 1 + 1 = m + (cntNode x : Nat) := by simp only [cntNode] <;> omega
    simp only [laws_markNodeS.l2, ltMid, cond_true, getMid, Option.bind_some, setMid, e0, e1, e2, e3, mtx_eq k (by omega) (m + 1 + 1 + 1) (by omega), e4, laws_markMeta, nat1 pre hp]
    rw [eN]
    rfl

theorem xszNode (hk : 2000000 ≤ k) (x : TNode) (hg : goodNode x) (m : Int) (h0 : 0 ≤ m) (h1 : m ≤ 1048576) : laws_szNode k x m = some (szOut (szNode x) m) := by
  obtain ⟨g0, g1, g2, g3, g4⟩ := hg
  unfold laws_szNode szNode
  rw [w64 (show -9223372036854775808 ≤ m - (x.2.2.2.1.size : Int) by omega) (by omega)]
  by_cases c0 : ((x.2.2.2.1.size : Nat) : Int) ≤ m
  rotate_left
  · rw [decide_eq_true (by omega), cond_true, szOut_neg (by omega)]
  rw [decide_eq_false (by omega), cond_false]
  rw [szOut_pos (by omega)]; congr 1 <;> omega

theorem xszNodeS (hk : 2000000 ≤ k) (l : List TNode) (hl : l.length ≤ 9223372036854775807) (hg : ∀ y, y ∈ l → goodNode y) (m : Int) (h0 : 0 ≤ m) (h1 : m ≤ 1048576) : laws_szNodeS k l m = some (szOut (l.length + xtot szNode l) m) := by
  refine xsz_top (laws_szNodeS k) (laws_szNodeS.l5 k) k szNode hk (fun l m => rfl) l m h0 h1 hl (fun hl m h0 h1 => ?_)
  refine xsz_gen (laws_szNodeS.l5 k) szNode goodNode ?_ ?_ l [] k m (by omega) (by simpa using hl) hg h0 h1
  · intro n m l
    simp only [laws_szNodeS.l5, ltEnd, cond_false]
  · intro n m pre x post hx h0 h1 hp
    simp only [laws_szNodeS.l5, ltMid, cond_true, getMid, Option.bind_some, nat1 pre hp]
    rw [xszNode k hk x hx m h0 h1]; rfl

def okVal (x : TVal) : Prop := True
def goodVal (x : TVal) : Prop := I64 x.1 ∧ x.2.1.size ≤ 9223372036854775807
def cntVal (x : TVal) : Nat := 1 + 1
def szVal (x : TVal) : Nat := x.2.1.size + 0
def mkVal (k : Nat) (x : TVal) (m : Int) : TVal := (m, mtx k (m + 1), ())
theorem cntVal_le (x : TVal) (h : okVal x) : cntVal x ≤ 2 := by
  unfold cntVal
  omega
theorem okVal_of (x : TVal) (hg : goodVal x) (h : szVal x ≤ 1048576) : okVal x := by
  trivial
theorem goodVal_of {x : TVal} (h : GoodP (.st (.cons (.int .i64) (.cons .str .nil))) x) : goodVal x := by
  have hm : maxLen ≤ 9223372036854775807 := by decide
  obtain ⟨q0, q1, _⟩ := h
  exact ⟨i64_wf' q0, Nat.le_trans q1 hm⟩

theorem xtoValS (hk : 2000000 ≤ k) (l : List TVal) (hl : okL okVal l) : laws_toValS k l = some ((), l) := by
  unfold laws_toValS
  have h := hl.1
  rw [okLen_ok (by omega) (by omega), cond_true]
  refine xto_gen (laws_toValS.l3 k) ((0, (⟨#[]⟩ : ByteArray), ()) : TVal) okVal ?_ ?_ l [] k (by omega) (by simpa using h) hl.2
  · intro n l o
    simp only [laws_toValS.l3, ltEnd, cond_false]
  · intro n pre x post o hx hp
    simp only [laws_toValS.l3, ltMid, cond_true, getMid, Option.bind_some, laws_toLeaf, laws_toNode, laws_toVal, setMid, nat1 pre hp]

theorem xeqVal (hk : 2000000 ≤ k) (x : TVal) (hx : okVal x) : laws_eqVal k x x = some true := by
  simp only [bneF rfl, eqS_iff, decide_true, Bool.not_true, cond_false, Option.bind_some, bne_self_eq_false, beq_self_eq_true, laws_eqChunk, laws_eqCol, laws_eqGroupMeta, laws_eqHead, laws_eqMeta, laws_eqNode, laws_eqStats, laws_eqVal]

theorem xeqValS (hk : 2000000 ≤ k) (l : List TVal) (hl : okL okVal l) : laws_eqValS k l l = some true := by
  unfold laws_eqValS
  have h := hl.1
  simp only [bneF rfl, cond_false]
  refine xeq_gen (laws_eqValS.l4 k) okVal ?_ ?_ l [] k (by omega) (by simpa using h) hl.2
  · intro n l
    simp only [laws_eqValS.l4, ltEnd, cond_false]
  · intro n pre x post hx hp
    simp only [laws_eqValS.l4, ltMid, cond_true, getMid, Option.bind_some, xeqVal k hk x hx, Bool.not_true, cond_false, nat1 pre hp]

theorem xmarkValS (hk : 2000000 ≤ k) (l : List TVal) (hl : okL okVal l) (m : Int) (h0 : 0 ≤ m) (hm : m + (xtot cntVal l : Nat) ≤ 4611686018427387904) : laws_markValS k m l = some (m + (xtot cntVal l : Nat), mkL (mkVal k) cntVal l m) := by
  unfold laws_markValS
  have h := hl.1
  refine xmark_gen (laws_markValS.l2 k) (mkVal k) cntVal 2 okVal 4611686018427387904 cntVal_le ?_ ?_ l [] k m (by omega) (by simpa using h) hl.2 h0 hm
  · intro n m l
    simp only [laws_markValS.l2, ltEnd, cond_false]
  · intro n m pre x post hx h0 hm hp
    simp only [cntVal] at hm
    have e0 : IntKind.wrap .i64 (m + 1) = m + 1 := w64 (by omega) (by omega)
    have e1 : IntKind.wrap .i64 (m + 1 + 1) = m + 1 + 1 := w64 (by omega) (by omega)
    have eN : m + 1 + 1 = m + (cntVal x : Nat) := by simp only [cntVal] <;> omega
    simp only [laws_markValS.l2, ltMid, cond_true, getMid, Option.bind_some, setMid, e0, e1, mtx_eq k (by omega) (m + 1) (by omega), laws_markMeta, nat1 pre hp]
    rw [eN]
    rfl

theorem xheldValS (hk : 2000000 ≤ k) (l : List TVal) (hl : okL okVal l) (m : Int) (h0 : 0 ≤ m) (hm : m + (xtot cntVal l : Nat) ≤ 4611686018427387904) : laws_heldValS k (mkL (mkVal k) cntVal l m) m = some (m + (xtot cntVal l : Nat)) := by
  unfold laws_heldValS
  have h := hl.1
  refine xheld_gen (laws_heldValS.l2 k) (mkVal k) cntVal okVal 4611686018427387904 ?_ ?_ l [] k m (by omega) (by simpa using h) hl.2 h0 hm
  · intro n m l
    simp only [laws_heldValS.l2, ltEnd, cond_false]
  · intro n m pre x post hx h0 hm hp
    simp only [cntVal] at hm
    have e0 : IntKind.wrap .i64 (m + 1) = m + 1 := w64 (by omega) (by omega)
    have e1 : IntKind.wrap .i64 (m + 1 + 1) = m + 1 + 1 := w64 (by omega) (by omega)
    have eN : m + 1 + 1 = m + (cntVal x : Nat) := by simp only [cntVal] <;> omega
    simp only [laws_heldValS.l2, ltMid, cond_true]
    simp only [mkVal, laws_heldValS.d7, getMid, Option.bind_some, eqS_iff, decide_true, Bool.not_true, cond_false, bneF rfl, bne_self_eq_false, e0, e1, mtx_eq k (by omega) (m + 1) (by omega), laws_heldMeta, nat1 pre hp]
    rw [eN]

theorem xszVal (hk : 2000000 ≤ k) (x : TVal) (hg : goodVal x) (m : Int) (h0 : 0 ≤ m) (h1 : m ≤ 1048576) : laws_szVal k x m = some (szOut (szVal x) m) := by
  obtain ⟨g0, g1⟩ := hg
  unfold laws_szVal szVal
  rw [w64 (show -9223372036854775808 ≤ m - (x.2.1.size : Int) by omega) (by omega)]
  by_cases c0 : ((x.2.1.size : Nat) : Int) ≤ m
  rotate_left
  · rw [decide_eq_true (by omega), cond_true, szOut_neg (by omega)]
  rw [decide_eq_false (by omega), cond_false]
  rw [szOut_pos (by omega)]; congr 1 <;> omega

theorem xszValS (hk : 2000000 ≤ k) (l : List TVal) (hl : l.length ≤ 9223372036854775807) (hg : ∀ y, y ∈ l → goodVal y) (m : Int) (h0 : 0 ≤ m) (h1 : m ≤ 1048576) : laws_szValS k l m = some (szOut (l.length + xtot szVal l) m) := by
  refine xsz_top (laws_szValS k) (laws_szValS.l5 k) k szVal hk (fun l m => rfl) l m h0 h1 hl (fun hl m h0 h1 => ?_)
  refine xsz_gen (laws_szValS.l5 k) szVal goodVal ?_ ?_ l [] k m (by omega) (by simpa using hl) hg h0 h1
  · intro n m l
    simp only [laws_szValS.l5, ltEnd, cond_false]
  · intro n m pre x post hx h0 h1 hp
    simp only [laws_szValS.l5, ltMid, cond_true, getMid, Option.bind_some, nat1 pre hp]
    rw [xszVal k hk x hx m h0 h1]; rfl

def okStats (x : TStats) : Prop := okVal x.2.2.1 ∧ okVal x.2.2.2.1
def goodStats (x : TStats) : Prop := I64 x.1 ∧ goodVal x.2.2.1 ∧ goodVal x.2.2.2.1
def cntStats (x : TStats) : Nat := 1 + 1 + cntVal x.2.2.1 + cntVal x.2.2.2.1
def szStats (x : TStats) : Nat := szVal x.2.2.1 + (szVal x.2.2.2.1 + 0)
def mkStats (k : Nat) (x : TStats) (m : Int) : TStats := (m, (Int.tmod (m + 1) 3 == 0), (m + 1 + 1, mtx k (m + 1 + 1 + 1), ()), (m + 1 + 1 + 1 + 1, mtx k (m + 1 + 1 + 1 + 1 + 1), ()), ())
theorem cntStats_le (x : TStats) (h : okStats x) : cntStats x ≤ 6 := by
  obtain ⟨h0, h1⟩ := h
  have g2 := cntVal_le x.2.2.1 h0
  have g3 := cntVal_le x.2.2.2.1 h1
  unfold cntStats
  omega
theorem okStats_of (x : TStats) (hg : goodStats x) (h : szStats x ≤ 1048576) : okStats x := by
  obtain ⟨g0, g2, g3⟩ := hg
  unfold szStats at h
  exact ⟨okVal_of _ g2 (by omega), okVal_of _ g3 (by omega)⟩
theorem goodStats_of {x : TStats} (h : GoodP (.st (.cons (.int .i64) (.cons .bool (.cons (.st (.cons (.int .i64) (.cons .str .nil))) (.cons (.st (.cons (.int .i64) (.cons .str .nil))) .nil))))) x) : goodStats x := by
  have hm : maxLen ≤ 9223372036854775807 := by decide
  obtain ⟨q0, q1, q2, q3, _⟩ := h
  exact ⟨i64_wf' q0, goodVal_of q2, goodVal_of q3⟩

theorem xeqStats (hk : 2000000 ≤ k) (x : TStats) (hx : okStats x) : laws_eqStats k x x = some true := by
  simp only [bneF rfl, eqS_iff, decide_true, Bool.not_true, cond_false, Option.bind_some, bne_self_eq_false, beq_self_eq_true, laws_eqChunk, laws_eqCol, laws_eqGroupMeta, laws_eqHead, laws_eqMeta, laws_eqNode, laws_eqStats, laws_eqVal]

def okHead (x : THead) : Prop := okStats x.2.2.2.2.2.2.2.2.2.2.2.1
def goodHead (x : THead) : Prop := I64 x.1 ∧ I64 x.2.1 ∧ I64 x.2.2.1 ∧ I64 x.2.2.2.1 ∧ I64 x.2.2.2.2.1 ∧ I64 x.2.2.2.2.2.1 ∧ I64 x.2.2.2.2.2.2.1 ∧ I64 x.2.2.2.2.2.2.2.1 ∧ I64 x.2.2.2.2.2.2.2.2.2.1 ∧ goodStats x.2.2.2.2.2.2.2.2.2.2.2.1 ∧ I64 x.2.2.2.2.2.2.2.2.2.2.2.2.1
def cntHead (x : THead) : Nat := 1 + 1 + 1 + 1 + 1 + 1 + 1 + 1 + 1 + 1 + 1 + cntStats x.2.2.2.2.2.2.2.2.2.2.2.1 + 1
def szHead (x : THead) : Nat := szStats x.2.2.2.2.2.2.2.2.2.2.2.1 + 0
def mkHead (k : Nat) (x : THead) (m : Int) : THead := (m, m + 1, m + 1 + 1, m + 1 + 1 + 1, m + 1 + 1 + 1 + 1, m + 1 + 1 + 1 + 1 + 1, m + 1 + 1 + 1 + 1 + 1 + 1, m + 1 + 1 + 1 + 1 + 1 + 1 + 1, (Int.tmod (m + 1 + 1 + 1 + 1 + 1 + 1 + 1 + 1) 3 == 0), m + 1 + 1 + 1 + 1 + 1 + 1 + 1 + 1 + 1, (Int.tmod (m + 1 + 1 + 1 + 1 + 1 + 1 + 1 + 1 + 1 + 1) 3 == 0), (m + 1 + 1 + 1 + 1 + 1 + 1 + 1 + 1 + 1 + 1 + 1, (Int.tmod (m + 1 + 1 + 1 + 1 + 1 + 1 + 1 + 1 + 1 + 1 + 1 + 1) 3 == 0), (m + 1 + 1 + 1 + 1 + 1 + 1 + 1 + 1 + 1 + 1 + 1 + 1 + 1, mtx k (m + 1 + 1 + 1 + 1 + 1 + 1 + 1 + 1 + 1 + 1 + 1 + 1 + 1 + 1), ()), (m + 1 + 1 + 1 + 1 + 1 + 1 + 1 + 1 + 1 + 1 + 1 + 1 + 1 + 1 + 1, mtx k (m + 1 + 1 + 1 + 1 + 1 + 1 + 1 + 1 + 1 + 1 + 1 + 1 + 1 + 1 + 1 + 1), ()), ()), m + 1 + 1 + 1 + 1 + 1 + 1 + 1 + 1 + 1 + 1 + 1 + 1 + 1 + 1 + 1 + 1 + 1, ())
theorem cntHead_le (x : THead) (h : okHead x) : cntHead x ≤ 18 := by
  have h0 : okStats x.2.2.2.2.2.2.2.2.2.2.2.1 := h
  have g11 := cntStats_le x.2.2.2.2.2.2.2.2.2.2.2.1 h0
  unfold cntHead
  omega
theorem okHead_of (x : THead) (hg : goodHead x) (h : szHead x ≤ 1048576) : okHead x := by
  obtain ⟨g0, g1, g2, g3, g4, g5, g6, g7, g9, g11, g12⟩ := hg
  unfold szHead at h
  exact okStats_of _ g11 (by omega)
theorem goodHead_of {x : THead} (h : GoodP (.st (.cons (.int .i64) (.cons (.int .i64) (.cons (.int .i64) (.cons (.int .i64) (.cons (.int .i64) (.cons (.int .i64) (.cons (.int .i64) (.cons (.int .i64) (.cons .bool (.cons (.int .i64) (.cons .bool (.cons (.st (.cons (.int .i64) (.cons .bool (.cons (.st (.cons (.int .i64) (.cons .str .nil))) (.cons (.st (.cons (.int .i64) (.cons .str .nil))) .nil))))) (.cons (.int .i64) .nil)))))))))))))) x) : goodHead x := by
  have hm : maxLen ≤ 9223372036854775807 := by decide
  obtain ⟨q0, q1, q2, q3, q4, q5, q6, q7, q8, q9, q10, q11, q12, _⟩ := h
  exact ⟨i64_wf' q0, i64_wf' q1, i64_wf' q2, i64_wf' q3, i64_wf' q4, i64_wf' q5, i64_wf' q6, i64_wf' q7, i64_wf' q9, goodStats_of q11, i64_wf' q12⟩

theorem xeqHead (hk : 2000000 ≤ k) (x : THead) (hx : okHead x) : laws_eqHead k x x = some true := by
  simp only [bneF rfl, eqS_iff, decide_true, Bool.not_true, cond_false, Option.bind_some, bne_self_eq_false, beq_self_eq_true, laws_eqChunk, laws_eqCol, laws_eqGroupMeta, laws_eqHead, laws_eqMeta, laws_eqNode, laws_eqStats, laws_eqVal]

def okMeta (x : TMeta) : Prop := okL okCol x.1 ∧ okL okGroupMeta x.2.2.1
def goodMeta (x : TMeta) : Prop := (x.1.length ≤ 9223372036854775807 ∧ ∀ y, y ∈ x.1 → goodCol y) ∧ I64 x.2.1 ∧ (x.2.2.1.length ≤ 9223372036854775807 ∧ ∀ y, y ∈ x.2.2.1 → goodGroupMeta y)
def cntMeta (x : TMeta) : Nat := xtot cntCol x.1 + 1 + xtot cntGroupMeta x.2.2.1
def szMeta (x : TMeta) : Nat := (x.1.length + xtot szCol x.1) + ((x.2.2.1.length + xtot szGroupMeta x.2.2.1) + 0)
def mkMeta (k : Nat) (x : TMeta) (m : Int) : TMeta := (mkL (mkCol k) cntCol x.1 (m), m + (xtot cntCol x.1 : Nat), mkL (mkGroupMeta k) cntGroupMeta x.2.2.1 (m + (xtot cntCol x.1 : Nat) + 1), ())
theorem cntMeta_le (x : TMeta) (h : okMeta x) : cntMeta x ≤ 1152927002170228737 := by
  obtain ⟨h0, h1⟩ := h
  have g0 := okL.tot h0 cntCol_le
  have g2 := okL.tot h1 cntGroupMeta_le
  unfold cntMeta
  omega
theorem okMeta_of (x : TMeta) (hg : goodMeta x) (h : szMeta x ≤ 1048576) : okMeta x := by
  obtain ⟨g0, g1, g2⟩ := hg
  unfold szMeta at h
  exact ⟨⟨by omega, fun y hy => okCol_of y (g0.2 y hy) (by have := xtot_mem (f := szCol) _ _ hy; omega)⟩, ⟨by omega, fun y hy => okGroupMeta_of y (g2.2 y hy) (by have := xtot_mem (f := szGroupMeta) _ _ hy; omega)⟩⟩
theorem goodMeta_of {e1 : TypeId} {e2 : TypeId} {e3 : TypeId} {e4 : TypeId} {x : TMeta} (h : GoodP (.st (.cons (.list e1 (.st (.cons .str (.cons (.int .i64) (.cons (.int .i64) (.cons (.int .i64) .nil)))))) (.cons (.int .i64) (.cons (.list e2 (.st (.cons (.int .i64) (.cons (.list e3 (.st (.cons (.int .i64) (.cons (.int .i64) (.cons (.int .i64) (.cons (.int .i64) (.cons (.int .i64) (.cons (.list e4 (.int .i64)) .nil)))))))) .nil)))) .nil)))) x) : goodMeta x := by
  have hm : maxLen ≤ 9223372036854775807 := by decide
  obtain ⟨q0, q1, q2, _⟩ := h
  exact ⟨⟨Nat.le_trans q0.1 hm, fun y hy => goodCol_of (q0.2 y hy)⟩, i64_wf' q1, ⟨Nat.le_trans q2.1 hm, fun y hy => goodGroupMeta_of (q2.2 y hy)⟩⟩

theorem xeqMeta (hk : 2000000 ≤ k) (x : TMeta) (hx : okMeta x) : laws_eqMeta k x x = some true := by
  obtain ⟨o0, o1⟩ := hx
  have k_o0 : okL okCol x.1 := o0
  have k_o1 : okL okGroupMeta x.2.2.1 := o1
  simp only [bneF rfl, eqS_iff, decide_true, Bool.not_true, cond_false, Option.bind_some, bne_self_eq_false, beq_self_eq_true, laws_eqChunk, laws_eqCol, laws_eqGroupMeta, laws_eqHead, laws_eqMeta, laws_eqNode, laws_eqStats, laws_eqVal, xeqColS k hk _ k_o0, xeqGroupMetaS k hk _ k_o1]

def okLeaf (x : TLeaf) : Prop := True
def goodLeaf (x : TLeaf) : Prop := I64 x.1 ∧ I64 x.2.1 ∧ I64 x.2.2.1
def cntLeaf (x : TLeaf) : Nat := 1 + 1 + 1
def szLeaf (x : TLeaf) : Nat := 0
def mkLeaf (k : Nat) (x : TLeaf) (m : Int) : TLeaf := (m, m + 1, m + 1 + 1, ())
theorem cntLeaf_le (x : TLeaf) (h : okLeaf x) : cntLeaf x ≤ 3 := by
  unfold cntLeaf
  omega
theorem okLeaf_of (x : TLeaf) (hg : goodLeaf x) (h : szLeaf x ≤ 1048576) : okLeaf x := by
  trivial
theorem goodLeaf_of {x : TLeaf} (h : GoodP (.st (.cons (.int .i64) (.cons (.int .i64) (.cons (.int .i64) .nil)))) x) : goodLeaf x := by
  have hm : maxLen ≤ 9223372036854775807 := by decide
  obtain ⟨q0, q1, q2, _⟩ := h
  exact ⟨i64_wf' q0, i64_wf' q1, i64_wf' q2⟩

end Go.Law
end

section
/- Small facts that the exact laws share. -/
set_option linter.unusedVariables false
set_option linter.unusedSimpArgs false
namespace Go.Law
open Go.Am Go.Fn

/-- what is good in a row of arguments -/
theorem goodL {t : Ty} {e : TypeId} {P : t.Den → Prop} (hP : ∀ x, GoodP t x → P x) {l : List t.Den} (h : GoodP (.list e t) l) : l.length ≤ 9223372036854775807 ∧ ∀ x, x ∈ l → P x :=
  ⟨Nat.le_trans h.1 (by decide), fun x hx => hP x (h.2 x hx)⟩

theorem goodCols {s : List TCol} (hg : ∀ x, x ∈ s → goodCol x) {k : Nat} (hk : 2000000 ≤ k) (hsz : xtot szCol s ≤ 1048576) : ∀ c, c ∈ s → c.1.size < k ∧ c.1.size < 1000000000 ∧ I64 c.2.2.2.1 := by
  intro c hc
  have h1 := xtot_mem (f := szCol) s c hc
  obtain ⟨_, _, _, h2⟩ := hg c hc
  have h3 : szCol c = c.1.size + 0 := rfl
  exact ⟨by omega, by omega, h2⟩
end Go.Law
end

section
/- FnExactMetaFrom -/
set_option linter.unusedVariables false
set_option linter.unusedSimpArgs false
namespace Go.Law
open Go.Am Go.Fn

theorem okMetaParts {r : ((Unit × Int × Unit × Unit) × Bool) × (List TCol) × (List TGroupMeta)} (h1 : r.2.1.length ≤ 20) (h2 : r.2.2.length ≤ 40) (h3 : ∀ g, g ∈ r.2.2 → g.2.1.length ≤ 1500 ∧ ∀ c, c ∈ g.2.1 → c.2.2.2.2.2.1.length ≤ 1500) : okL okCol r.2.1 ∧ okL okGroupMeta r.2.2 := by
  refine ⟨⟨by omega, fun _ _ => trivial⟩, ⟨by omega, fun g hg => ?_⟩⟩
  obtain ⟨g1, g2⟩ := h3 g hg
  refine ⟨by omega, fun c hc => ?_⟩
  have := g2 c hc
  exact ⟨by omega, fun _ _ => trivial⟩

theorem fnExactMetaFrom (l : List TNode) (h : GoodP (.list 0 (.st (.cons (.int .i64) (.cons (.int .i64) (.cons (.int .i64) (.cons .str (.cons (.int .i64) .nil))))))) l) :
    ∃ k, laws_FnExactMetaFrom k l = some true := by
  have g := goodL (P := goodNode) (fun x hx => goodNode_of hx) h
  clear h
  refine ⟨3000000, ?_⟩
  generalize hk : 3000000 = k
  have hk' : 2000000 ≤ k := by omega
  clear hk
  unfold laws_FnExactMetaFrom
  rw [xszNodeS k hk' l g.1 g.2 1048576 (by omega) (by omega)]
  simp only [Option.bind_some]
  by_cases c1 : ((l.length + xtot szNode l : Nat) : Int) ≤ 1048576
  · rw [szOut_pos c1, decide_eq_false (by omega), cond_false]
    have ol : okL okNode l := ⟨by omega, fun _ _ => trivial⟩
    have hw : ∀ n, n ∈ l → WfN n := fun n hn => by
      obtain ⟨a, b, c, d, e⟩ := g.2 n hn
      have := xtot_mem (f := szNode) l n hn
      have hsz : szNode n = n.2.2.2.1.size + 0 := rfl
      exact ⟨a, b, c, e, by omega⟩
    obtain ⟨r, e1, e2, e3, e4, e5, e6⟩ := metaFrom_eq k hk' l hw (by omega)
    obtain ⟨ob, og⟩ := okMetaParts e4 e5 e6
    have om : okMeta (r.2.1, r.1.1.2.1, r.2.2, ()) := ⟨ob, og⟩
    have n1 := okL.tot ol cntNode_le
    have n2 := okL.tot ob cntCol_le
    have n3 : xtot cntGroupMeta r.2.2 ≤ 1000000000000 := by
      have : ∀ x, x ∈ r.2.2 → cntGroupMeta x ≤ 20000000 := fun x hx => by
        obtain ⟨q1, q2⟩ := e6 x hx
        unfold cntGroupMeta
        have : xtot cntChunk x.2.1 ≤ 1505 * x.2.1.length := xtot_le x.2.1 (fun c hc => by
          have := q2 c hc
          unfold cntChunk
          have : xtot cntInt c.2.2.2.2.2.1 ≤ 1 * c.2.2.2.2.2.1.length := xtot_le _ (fun y hy => cntInt_le y trivial)
          omega)
        omega
      have := xtot_le r.2.2 this
      omega
    simp only [xtoNodeS k hk' l ol, Option.bind_some, e1, e2, xeqMeta k hk' _ om, xeqNodeS k hk' l ol, xmarkNodeS k hk' l ol 1 (by omega) (by omega), beq_self_eq_true, Bool.not_true, cond_false, cst, Bool.or_self,
      decide_eq_false (show ¬ ((1 : Int) + (xtot cntNode l : Nat) < 0) by omega), laws_markMeta, laws_heldMeta, xmarkColS k hk' r.2.1 ob 1 (by omega) (by omega), xmarkGroupMetaS k hk' r.2.2 og (1 + (xtot cntCol r.2.1 : Nat)) (by omega) (by omega),
      xheldColS k hk' r.2.1 ob 1 (by omega) (by omega), xheldGroupMetaS k hk' r.2.2 og (1 + (xtot cntCol r.2.1 : Nat)) (by omega) (by omega), decide_eq_false (show ¬ ((1 : Int) + (xtot cntCol r.2.1 : Nat) < 0) by omega), decide_eq_false (show ¬ ((1 : Int) + (xtot cntCol r.2.1 : Nat) + (xtot cntGroupMeta r.2.2 : Nat) < 0) by omega), bneF rfl]
  · rw [szOut_neg c1]; rfl
end Go.Law
end
