/- A schema is read from its tree. -/
import Derived.Test.YtmdmkakkodeniaaLawSchemaTree
set_option linter.unusedVariables false
set_option linter.unusedSimpArgs false
namespace Go.Law
open Go.Am Go.Fn
attribute [-simp] List.length_flatten
variable (k : Nat)

theorem EncP_mono {E E' : List TNode → Prop} {n : TNode} (hE : ∀ B, E B → E' B) : ∀ (c : Nat) (last : Int) (X : List TNode), EncP E n c last X → EncP E' n c last X
  | 0, _, _, h => h
  | c + 1, _, _, ⟨p, Y, Z, e, h1, h2, h3, h4⟩ => ⟨p, Y, Z, e, h1, h2, hE _ h3, EncP_mono hE c _ _ h4⟩

theorem Enc_mono : ∀ (d : Nat) (B : List TNode), Enc d B → Enc (d + 1) B
  | 0, _, h => h.elim
  | d + 1, [], h => h.elim
  | d + 1, n :: X, ⟨h1, h2⟩ => ⟨h1, EncP_mono (Enc_mono d) _ _ _ h2⟩

theorem colsEnc : ∀ (s : List TCol) (i : Nat) (last : Int) (n : TNode), n.1 = 9 → n.2.2.1 = 12 → (∀ c, c ∈ s → colOk c = true ∧ c.1.size ≤ 20 ∧ c.2.2.2.1 ≤ 1000) → EncP (Enc 2) n s.length last (colsFrom i s).flatten
  | [], _, _, _, _, _, _ => rfl
  | c :: s, i, last, n, hn, hn2, h => by
    obtain ⟨h1, h2, h3⟩ := h c (List.mem_cons_self ..)
    refine ⟨(12, 0, 0, ⟨#[]⟩, ((colParts i c).length : Int), ()), colParts i c, (colsFrom (i + 1) s).flatten, by simp [colsFrom, colNode], fun _ => ⟨hn2.symm, rfl⟩, (fun h => absurd (hn.symm.trans h) (by decide)), colNode_enc h1 h2 h3, ?_⟩
    exact colsEnc s (i + 1) _ n hn hn2 fun c hc => h c (List.mem_cons_of_mem _ hc)

theorem sTree_enc (s : List TCol) (h2 : 2 ≤ s.length) (h20 : s.length ≤ 20) (h : ∀ c, c ∈ s → colOk c = true ∧ c.1.size ≤ 20 ∧ c.2.2.2.1 ≤ 1000) : Enc 4 (sTree s) := by
  have hl : Enc 3 ((9, 2, 12, ⟨#[]⟩, (s.length : Int), ()) :: (colsFrom 0 s).flatten) := by
    refine ⟨?_, ?_⟩
    · unfold nok
      simp only [if_neg (show ¬ ((9 : Int) = 5) by decide), if_neg (show ¬ ((9 : Int) = 6) by decide), if_neg (show ¬ ((9 : Int) = 8) by decide), reduceIte, eqS_iff, decide_true, Bool.and_eq_true, Bool.or_eq_true, beq_iff_eq, decide_eq_true_eq, true_and, ge_iff_le]
      exact ⟨by omega, Or.inr ⟨by omega, rfl⟩⟩
    · have := colsEnc s 0 0 (9, 2, 12, ⟨#[]⟩, (s.length : Int), ()) rfl rfl h
      show EncP (Enc 2) _ ((s.length : Int)).toNat 0 _
      rw [Int.toNat_natCast]
      exact this
  refine ⟨?_, ?_⟩
  · unfold nok
    simp only [if_neg (show ¬ ((12 : Int) = 5) by decide), if_neg (show ¬ ((12 : Int) = 6) by decide), if_neg (show ¬ ((12 : Int) = 8) by decide), if_neg (show ¬ ((12 : Int) = 9) by decide), reduceIte, eqS_iff, decide_true, Bool.and_eq_true, beq_iff_eq, decide_eq_true_eq, true_and, ge_iff_le]
    decide
  · exact ⟨_, _, [], by simp, (fun h => by cases h), (fun _ => ⟨by simp, by simp⟩), hl, rfl⟩

theorem sTree_enc12 (s : List TCol) (h2 : 2 ≤ s.length) (h20 : s.length ≤ 20) (h : ∀ c, c ∈ s → colOk c = true ∧ c.1.size ≤ 20 ∧ c.2.2.2.1 ≤ 1000) : Enc 12 (sTree s) :=
  Enc_mono _ _ (Enc_mono _ _ (Enc_mono _ _ (Enc_mono _ _ (Enc_mono _ _ (Enc_mono _ _ (Enc_mono _ _ (Enc_mono _ _ (sTree_enc s h2 h20 h))))))))

/-! ### where a built node ends -/
theorem SubEnc {l : List TNode} {af : List Int} : ∀ (d d' a b : Nat) (B pre post : List TNode), Sub l af d a b → l = pre ++ (B ++ post) → a = pre.length → Enc d' B → b = a + B.length
  | 0, _, _, _, _, _, _, h, _, _, _ => h.elim
  | _ + 1, 0, _, _, _, _, _, _, _, _, h => h.elim
  | _ + 1, _ + 1, _, _, [], _, _, _, _, _, h => h.elim
  | d + 1, d' + 1, a, b, m :: X, pre, post, ⟨n, h1, h2, h3, h4⟩, hl, ha, ⟨e1, e2⟩ => by
    have hnm : n = m := by
      rw [hl, ha, List.getElem?_append_right (Nat.le_refl _)] at h1
      simpa using h1.symm
    subst hnm
    have key : ∀ (c pos : Nat) (last last' : Int) (X pre post : List TNode) (nx : Nat), PartsR (Sub l af d) l n c pos last nx → EncP (Enc d') n c last' X → l = pre ++ (X ++ post) → pos = pre.length → nx = pos + X.length := by
      intro c
      induction c with
      | zero => intro pos last last' X pre post nx hp hx _ _; have hp : pos = nx := hp; have hx : X = [] := hx; subst hx; simp [hp]
      | succ c ih =>
        intro pos last last' X pre post nx ⟨p, mid, _, _, _, p4, p5⟩ ⟨p', Y, Z, e, _, _, x3, x4⟩ hl' hpos
        subst e
        have hm := SubEnc d d' pos mid (p' :: Y) pre (Z ++ post) p4 (by rw [hl']; simp) hpos x3
        have := ih mid _ _ Z (pre ++ (p' :: Y)) post nx p5 x4 (by rw [hl']; simp) (by rw [hm, hpos]; simp)
        rw [this, hm, List.length_append]
        omega
    have := key _ (a + 1) 0 0 X (pre ++ [n]) post b h3 e2 (by rw [hl]; simp) (by simp [ha])
    simp only [List.length_cons]
    omega

variable {l : List TNode} {af : List Int}

theorem afterEnc (hk : 2000 ≤ k) (h : TreeFacts l af) {d : Nat} {pre B post : List TNode} (hl : l = pre ++ (B ++ post)) (hB : Enc d B) : spec_l4After k l (pre.length : Int) = some ((pre.length + B.length : Nat) : Int) := by
  have hne : 0 < B.length := by
    cases B with
    | nil => cases d <;> exact hB.elim
    | cons => simp
  obtain ⟨d', nx, hd, hs, hn⟩ := h.at (i := pre.length) (by rw [hl]; simp; omega)
  have := SubEnc d' d pre.length nx B pre post hs hl rfl hB
  subst this
  exact h.after k hk hd hs hn

def look (id : Int) : List TNode → Option TNode
  | [] => none
  | p :: r => if p.2.1 = id then some p else look id r

theorem findLeaf (hk : 2000 ≤ k) (h : TreeFacts l af) {n : TNode} {pre post : List TNode} (id : Int) : ∀ (rest done : List TNode) (f : Nat), (∀ p, p ∈ rest → Enc 1 [p]) → l = pre ++ n :: (done ++ (rest ++ post)) → n.2.2.2.2.1 = ((done.length + rest.length : Nat) : Int) → rest.length < f →
    ∃ v, spec_l4Find.l5 k f l (pre.length : Int) id ((pre.length + 1 + done.length : Nat) : Int) (done.length : Int) = some v ∧ (look id rest = none → v = -1) ∧ (∀ p, look id rest = some p → 0 ≤ v ∧ rdL l v = some p) := by
  intro rest
  have hlen := h.len
  induction rest with
  | nil =>
    intro done f hp hl hm hf
    obtain ⟨f, rfl⟩ : ∃ j, f = j + 1 := ⟨f - 1, by omega⟩
    have hg : rdL l (pre.length : Int) = some n := by rw [hl]; exact getMid' _ _ _
    simp only [List.length_nil, Nat.add_zero] at hm
    simp only [spec_l4Find.l5, hg, Option.bind_some, hm, decide_eq_false (show ¬ ((done.length : Int) < (done.length : Int)) by omega), cond_false]
    exact ⟨_, rfl, fun _ => rfl, fun p hp => by cases hp⟩
  | cons x rest ih =>
    intro done f hp hl hm hf
    simp only [List.length_cons] at hm hf
    obtain ⟨f, rfl⟩ : ∃ j, f = j + 1 := ⟨f - 1, by omega⟩
    have hg : rdL l (pre.length : Int) = some n := by rw [hl]; exact getMid' _ _ _
    have hlen' : l.length = pre.length + 1 + done.length + (rest.length + 1) + post.length := by rw [hl]; simp; omega
    have hl2 : l = (pre ++ n :: done) ++ x :: (rest ++ post) := by rw [hl]; simp
    have hpl : (pre ++ n :: done).length = pre.length + 1 + done.length := by simp; omega
    have hx : rdL l ((pre.length + 1 + done.length : Nat) : Int) = some x := by
      rw [← hpl]
      conv => lhs; rw [hl2]
      exact getMid' _ _ _
    simp only [spec_l4Find.l5, hg, Option.bind_some, hm, decide_eq_true (show ((done.length : Int) < ((done.length + (rest.length + 1) : Nat) : Int)) by omega), cond_true, hx]
    by_cases hid : x.2.1 = id
    · simp only [beqT hid, cond_true]
      refine ⟨_, rfl, fun hn => ?_, fun p hp => ?_⟩
      · simp [look, hid] at hn
      · simp only [look, hid, if_true, Option.some.injEq] at hp
        subst hp
        exact ⟨by omega, hx⟩
    · have ha := afterEnc k hk h (pre := pre ++ n :: done) (B := [x]) (post := rest ++ post) hl2 (hp x (List.mem_cons_self ..))
      rw [hpl] at ha
      obtain ⟨v, g1, g2, g3⟩ := ih (done ++ [x]) f (fun p hp' => hp p (List.mem_cons_of_mem _ hp')) (by rw [hl]; simp) (by rw [hm, List.length_append, List.length_singleton]; omega) (by omega)
      rw [List.length_append, List.length_singleton] at g1
      simp only [beqF hid, cond_false, ha, Option.bind_some, List.length_singleton]
      rw [w64 (by omega) (by omega)]
      refine ⟨v, ?_, ?_, ?_⟩
      · rw [← g1]
        congr 1
      · simpa [look, hid] using g2
      · simpa [look, hid] using g3

section
variable {n : TNode} {pre post parts : List TNode}

theorem find_leaf (hk : 2000 ≤ k) (h : TreeFacts l af) (id : Int) (hp : ∀ p, p ∈ parts → Enc 1 [p]) (hl : l = pre ++ n :: (parts ++ post)) (hm : n.2.2.2.2.1 = (parts.length : Int)) (hn : n.1 = 12) :
    ∃ v, spec_l4Find k l (pre.length : Int) id = some v ∧ (look id parts = none → v = -1) ∧ (∀ p, look id parts = some p → 0 ≤ v ∧ rdL l v = some p) := by
  have hlen := h.len
  have hlen' : l.length = pre.length + 1 + parts.length + post.length := by rw [hl]; simp; omega
  have hg : rdL l (pre.length : Int) = some n := by rw [hl]; exact getMid' _ _ _
  obtain ⟨v, g1, g2, g3⟩ := findLeaf k hk h id parts [] k hp (by simpa using hl) (by simpa using hm) (by omega)
  refine ⟨v, ?_, g2, g3⟩
  unfold spec_l4Find
  simp only [hg, Option.bind_some, bneF hn, cond_false]
  rw [w64 (by omega) (by omega), ← g1]
  congr 1

theorem num_leaf (hk : 2000 ≤ k) (h : TreeFacts l af) (id : Int) (hp : ∀ p, p ∈ parts → Enc 1 [p]) (hl : l = pre ++ n :: (parts ++ post)) (hm : n.2.2.2.2.1 = (parts.length : Int)) (hn : n.1 = 12) :
    (look id parts = none → spec_l4NumOf k l (pre.length : Int) id = some (0, false) ∧ spec_l4Find k l (pre.length : Int) id = some (-1)) ∧
    (∀ p, look id parts = some p → p.1 = 5 → spec_l4NumOf k l (pre.length : Int) id = some (p.2.2.1, true)) := by
  obtain ⟨v, g1, g2, g3⟩ := find_leaf k hk h id hp hl hm hn
  constructor
  · intro hno
    have := g2 hno
    subst this
    refine ⟨?_, g1⟩
    unfold spec_l4NumOf
    simp only [g1, Option.bind_some, decide_eq_true (show (-1 : Int) < 0 by omega), cond_true]
  · intro p hp hp5
    obtain ⟨q1, q2⟩ := g3 p hp
    unfold spec_l4NumOf
    simp only [g1, Option.bind_some, decide_eq_false (show ¬ v < 0 by omega), cond_false, q2, bneF hp5]

theorem text_leaf (hk : 2000 ≤ k) (h : TreeFacts l af) (id : Int) (hp : ∀ p, p ∈ parts → Enc 1 [p]) (hl : l = pre ++ n :: (parts ++ post)) (hm : n.2.2.2.2.1 = (parts.length : Int)) (hn : n.1 = 12) :
    ∀ p, look id parts = some p → p.1 = 8 → spec_l4TextOf k l (pre.length : Int) id = some (p.2.2.2.1, true) := by
  obtain ⟨v, g1, g2, g3⟩ := find_leaf k hk h id hp hl hm hn
  intro p hp hp5
  obtain ⟨q1, q2⟩ := g3 p hp
  unfold spec_l4TextOf
  simp only [g1, Option.bind_some, decide_eq_false (show ¬ v < 0 by omega), cond_false, q2, bneF hp5]
end

theorem EncP_leaf {n : TNode} : ∀ (c : Nat) (last : Int) (X : List TNode), n.1 = 12 → (∀ p, p ∈ X → (p.1 = 5 ∨ p.1 = 8)) → EncP (Enc 1) n c last X → ∀ p, p ∈ X → Enc 1 [p]
  | 0, _, X, _, _, h => by have h : X = [] := h; subst h; intro p hp; cases hp
  | c + 1, last, X, hn, hk, ⟨p, Y, Z, e, h1, h2, h3, h4⟩ => by
    subst e
    have hY : Y = [] := by
      obtain ⟨a, b⟩ := h3
      have hm : p.2.2.2.2.1 = 0 := by
        have := hk p (by simp)
        unfold nok at a
        rcases this with h5 | h5 <;> simp only [h5, if_neg (show ¬ ((8 : Int) = 5) by decide), if_neg (show ¬ ((8 : Int) = 6) by decide), reduceIte, Bool.and_eq_true, beq_iff_eq] at a
        · exact a.2
        · exact a.2
      rw [hm] at b
      exact b
    subst hY
    intro q hq
    rcases List.mem_append.1 hq with hq | hq
    · simp at hq; subst hq; exact h3
    · exact EncP_leaf c _ Z hn (fun p hp => hk p (by simp [hp])) h4 q hq

theorem colParts_leaf {i : Nat} {c : TCol} (hok : colOk c = true) (hn : c.1.size ≤ 20) (hm : c.2.2.2.1 ≤ 1000) : ∀ p, p ∈ colParts i c → Enc 1 [p] := by
  have h := (colNode_enc (i := i) hok hn hm).2
  refine EncP_leaf _ _ _ rfl ?_ h
  intro p hp
  unfold colParts at hp
  by_cases h7 : c.2.1 = 7 <;> by_cases h0 : 0 < i <;> simp [h7, h0] at hp <;> rcases hp with rfl | hp <;> (try (rcases hp with rfl | hp)) <;> (try subst hp) <;> simp

theorem colRead (hk : 2000 ≤ k) (h : TreeFacts l af) {i : Nat} {c : TCol} {pre post : List TNode} (hl : l = pre ++ (colNode i c ++ post)) (hok : colOk c = true) (hn : c.1.size ≤ 20) (hm : c.2.2.2.1 ≤ 1000) (hroot : i = 0 → c.2.2.1 = 0) :
    spec_l5Col k l (pre.length : Int) ((i : Int) == 0) = some (c, true) := by
  have hp := colParts_leaf (i := i) hok hn hm
  have hl' : l = pre ++ (12, 0, 0, ⟨#[]⟩, ((colParts i c).length : Int), ()) :: (colParts i c ++ post) := by rw [hl]; rfl
  have N := fun id => num_leaf k hk h id hp hl' rfl rfl
  have T := text_leaf k hk h 4 hp hl' rfl rfl
  obtain ⟨nm, ty, rp, mn, u⟩ := c
  obtain rfl : u = () := rfl
  have hc := hok
  unfold colOk at hc
  simp only [Bool.and_eq_true, Bool.or_eq_true, beq_iff_eq, decide_eq_true_eq] at hc hn hm hroot
  unfold spec_l5Col
  by_cases h7 : ty = 7
  · subst h7
    by_cases h0 : 0 < i
    · have L : colParts i (nm, 7, rp, mn, ()) = [(5, 3, rp, ⟨#[]⟩, 0, ()), (8, 4, 0, nm, 0, ()), (5, 5, mn, ⟨#[]⟩, 0, ())] := by simp [colParts, h0]
      rw [L] at N T
      have n1 := (N 1).1 rfl
      have n3 := (N 3).2 _ rfl rfl
      have n5 := (N 5).2 _ rfl rfl
      have t4 := T _ rfl rfl
      simp only [n1, n3, n5, t4, Option.bind_some, beqF (show ¬ ((i : Int) = 0) by omega), cond_false, spec_l5Col.c9, spec_l5Col.c12, Bool.not_false, Bool.not_true, cond_true, decide_eq_true (show (-1 : Int) < 0 by omega), beq_self_eq_true]
      rfl
    · obtain rfl : i = 0 := by omega
      have L : colParts 0 (nm, 7, rp, mn, ()) = [(8, 4, 0, nm, 0, ()), (5, 5, mn, ⟨#[]⟩, 0, ())] := by simp [colParts]
      rw [L] at N T
      have n1 := (N 1).1 rfl
      have n3 := (N 3).1 rfl
      have n5 := (N 5).2 _ rfl rfl
      have t4 := T _ rfl rfl
      have hr : rp = 0 := hroot rfl
      subst hr
      simp only [n1, n3, n5, t4, Option.bind_some, beqT (show ((0 : Nat) : Int) = 0 from rfl), cond_false, spec_l5Col.c9, spec_l5Col.c12, Bool.not_false, Bool.not_true, cond_true, decide_eq_true (show (-1 : Int) < 0 by omega), beq_self_eq_true]
      rfl
  · have hmn : mn = 0 := by
      rcases hc.1 with h1 | h1
      · exact absurd h1.1 h7
      · exact h1.2
    subst hmn
    by_cases h0 : 0 < i
    · have L : colParts i (nm, ty, rp, 0, ()) = [(5, 1, ty, ⟨#[]⟩, 0, ()), (5, 3, rp, ⟨#[]⟩, 0, ()), (8, 4, 0, nm, 0, ())] := by simp [colParts, h0, h7]
      rw [L] at N T
      have n1 := (N 1).2 _ rfl rfl
      have n3 := (N 3).2 _ rfl rfl
      have n5 := (N 5).1 rfl
      have t4 := T _ rfl rfl
      simp only [n1, n3, n5, t4, Option.bind_some, beqF (show ¬ ((i : Int) = 0) by omega), cond_false, spec_l5Col.c9, spec_l5Col.c12, Bool.not_false, Bool.not_true, cond_true, decide_eq_true (show (-1 : Int) < 0 by omega), beq_self_eq_true]
      rfl
    · obtain rfl : i = 0 := by omega
      have L : colParts 0 (nm, ty, rp, 0, ()) = [(5, 1, ty, ⟨#[]⟩, 0, ()), (8, 4, 0, nm, 0, ())] := by simp [colParts, h7]
      rw [L] at N T
      have n1 := (N 1).2 _ rfl rfl
      have n3 := (N 3).1 rfl
      have n5 := (N 5).1 rfl
      have t4 := T _ rfl rfl
      have hr : rp = 0 := hroot rfl
      subst hr
      simp only [n1, n3, n5, t4, Option.bind_some, beqT (show ((0 : Nat) : Int) = 0 from rfl), cond_false, spec_l5Col.c9, spec_l5Col.c12, Bool.not_false, Bool.not_true, cond_true, decide_eq_true (show (-1 : Int) < 0 by omega), beq_self_eq_true]
      rfl

theorem colsRead (hk : 2000 ≤ k) (h : TreeFacts l af) (s : List TCol) (hs : s.length ≤ 20) (n : TNode) (h1 : l[1]? = some n) (hn : n.2.2.2.2.1 = (s.length : Int)) (hsp : spec_SchemaOk k s = some true) (hroot : ∀ c, s[0]? = some c → c.2.2.1 = 0) : ∀ (rest done : List TCol) (pre : List TNode) (f : Nat) (o : List TCol),
    s = done ++ rest → l = pre ++ (colsFrom done.length rest).flatten → (∀ c, c ∈ rest → colOk c = true ∧ c.1.size ≤ 20 ∧ c.2.2.2.1 ≤ 1000) → rest.length < f →
    spec_l5Of.l8 k f l 1 (pre.length : Int) (done.length : Int) o done = some (((), true), s) := by
  intro rest
  have hr1 : rdL l 1 = some n := h1
  induction rest with
  | nil =>
    intro done pre f o hsd hl hc hf
    obtain ⟨f, rfl⟩ : ∃ j, f = j + 1 := ⟨f - 1, by omega⟩
    have : done = s := by rw [hsd]; simp
    subst this
    simp only [spec_l5Of.l8, hr1, Option.bind_some, hn, decide_eq_false (show ¬ ((done.length : Int) < (done.length : Int)) by omega), cond_false, hsp, Bool.not_true]
  | cons c rest ih =>
    intro done pre f o hsd hl hc hf
    simp only [List.length_cons] at hf
    obtain ⟨f, rfl⟩ : ∃ j, f = j + 1 := ⟨f - 1, by omega⟩
    have hsl : s.length = done.length + (rest.length + 1) := by rw [hsd]; simp
    obtain ⟨c1, c2, c3⟩ := hc c (List.mem_cons_self ..)
    have hl' : l = pre ++ (colNode done.length c ++ (colsFrom (done.length + 1) rest).flatten) := by rw [hl]; simp [colsFrom]
    have hcr := colRead k hk h hl' c1 c2 c3 fun h0 => hroot c (by rw [hsd, List.getElem?_append_right (by omega), h0]; rfl)
    have ha := afterEnc k hk h hl' (colNode_enc c1 c2 c3)
    have hi := ih (done ++ [c]) (pre ++ colNode done.length c) f o (by rw [hsd]; simp) (by rw [hl']; simp) (fun x hx => hc x (List.mem_cons_of_mem _ hx)) (by omega)
    simp only [spec_l5Of.l8, hr1, Option.bind_some, hn, decide_eq_true (show ((done.length : Int) < (s.length : Int)) by omega), cond_true, hcr, Bool.not_true, cond_false, ha]
    rw [lim_ok (by simp; omega), cond_true, w64 (by omega) (by omega), ← hi]
    simp

theorem sTree_read (hk : 2000 ≤ k) (s : List TCol) (h2 : 2 ≤ s.length) (h20 : s.length ≤ 20) (hc : ∀ c, c ∈ s → colOk c = true ∧ c.1.size ≤ 20 ∧ c.2.2.2.1 ≤ 1000) (hsp : spec_SchemaOk k s = some true) (hroot : ∀ c, s[0]? = some c → c.2.2.1 = 0)
    (hw : ∀ n, n ∈ sTree s → WfN n) : spec_SchemaOf k (sTree s) 0 = some (((), true), s) := by
  have h82 := sTree_len s h20
  obtain ⟨b, b1, b2⟩ := treeOf_eq k hk (sTree s) hw (by omega)
  have bt := treeOkEnc k hk _ _ (sTree_enc12 s h2 h20 hc) (by have := h82; unfold sTree at this; omega) rfl rfl
  have bt : spec_TreeOk k (sTree s) = some true := bt
  rw [b1] at bt
  obtain rfl : b = true := by simpa using bt
  rcases b2 with ⟨h, _⟩ | ⟨_, hl, hl1, af, _, hS, _⟩
  · cases h
  have hf : TreeFacts (sTree s) af := ⟨hl, hl1, hS, hw⟩
  have hlen : (sTree s).length = 2 + (colsFrom 0 s).flatten.length := by simp [sTree]; omega
  unfold spec_SchemaOf
  have c1 : (decide ((0 : Int) ≤ 0) && decide ((0 : Int) ≤ IntKind.wrap .i64 (((sTree s).length : Int) - 1))) = true := by
    rw [w64 (by omega) (by omega)]; simp; omega
  simp only [b1, Option.bind_some, Bool.not_true, cond_false, l1In_eq, c1]
  unfold spec_l5Of spec_l4Find
  obtain ⟨k', rfl⟩ : ∃ j, k = j + 1 := ⟨k - 1, by omega⟩
  have r0 : rdL (sTree s) 0 = some (12, 0, 0, ⟨#[]⟩, 1, ()) := rfl
  have r1 : rdL (sTree s) 1 = some (9, 2, 12, ⟨#[]⟩, (s.length : Int), ()) := rfl
  have hw1 : IntKind.wrap .i64 ((0 : Int) + 1) = 1 := rfl
  have hw2 : IntKind.wrap .i64 ((1 : Int) + 1) = 2 := rfl
  have key := colsRead (k' + 1) hk hf s h20 _ (show (sTree s)[1]? = some _ from rfl) rfl hsp hroot s [] [(12, 0, 0, ⟨#[]⟩, 1, ()), (9, 2, 12, ⟨#[]⟩, (s.length : Int), ())] (k' + 1) [] rfl rfl hc (by omega)
  simp only [r0, Option.bind_some, hw1, spec_l4Find.l5, decide_eq_true (show (0 : Int) < 1 by omega), cond_true, r1, hw2, bneF (show (12 : Int) = 12 from rfl), bneF (show (9 : Int) = 9 from rfl), cond_false, beqT (show (2 : Int) = 2 from rfl), decide_eq_false (show ¬ ((1 : Int) < 0) by omega)]
  have key : spec_l5Of.l8 (k' + 1) (k' + 1) (sTree s) 1 2 0 [] [] = some (((), true), s) := key
  rw [key]
  rfl
end Go.Law
