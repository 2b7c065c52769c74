/- A schema out of a tree, by both. -/
import Derived.Test.YtmdmkakkodeniaaLawSchema
import Derived.Test.YtmdmkakkodeniaaLawTreeOf
set_option linter.unusedVariables false
set_option linter.unusedSimpArgs false
namespace Go.Law
open Go.Am Go.Fn
variable (k : Nat)

theorem PartsR_cnt {S : Nat → Nat → Prop} {l : List TNode} {n : TNode} (hS : ∀ a b, S a b → a < b) : ∀ (c pos : Nat) (last : Int) (nx : Nat), PartsR S l n c pos last nx → pos + c ≤ nx
  | 0, pos, last, nx, e => by have e : pos = nx := e; omega
  | c + 1, pos, last, nx, ⟨p, mid, _, _, _, h4, h5⟩ => by
    have := hS _ _ h4
    have := PartsR_cnt hS c mid p.2.1 nx h5
    omega

theorem Sub_all {l : List TNode} {af : List Int} : ∀ (d a b : Nat), Sub l af d a b → ∀ i, a ≤ i → i < b → ∃ d' nx, d' ≤ d ∧ Sub l af d' i nx ∧ nx ≤ b
  | 0, _, _, h => h.elim
  | d + 1, a, b, ⟨n, h1, h2, h3, h4⟩ => by
    have key : ∀ (c pos : Nat) (last : Int) (nx : Nat), PartsR (Sub l af d) l n c pos last nx → ∀ i, pos ≤ i → i < nx → ∃ d' x, d' ≤ d ∧ Sub l af d' i x ∧ x ≤ nx := by
      intro c
      induction c with
      | zero => intro pos last nx e i hi1 hi2; have e : pos = nx := e; omega
      | succ c ih =>
        intro pos last nx ⟨p, mid, _, _, _, hs, hp⟩ i hi1 hi2
        rcases Nat.lt_or_ge i mid with h | h
        · obtain ⟨d', x, q1, q2, q3⟩ := Sub_all d pos mid hs i hi1 h
          have := PartsR_cnt (Sub_lt d) _ _ _ _ hp
          exact ⟨d', x, q1, q2, by omega⟩
        · exact ih mid _ nx hp i h hi2
    intro i hi1 hi2
    rcases Nat.lt_or_ge a i with h | h
    · obtain ⟨d', x, q1, q2, q3⟩ := key _ _ _ _ h3 i (by omega) hi2
      exact ⟨d', x, by omega, q2, q3⟩
    · obtain rfl : i = a := by omega
      exact ⟨d + 1, b, Nat.le_refl _, ⟨n, h1, h2, h3, h4⟩, Nat.le_refl _⟩

theorem Sub_node {l : List TNode} {af : List Int} {d a b : Nat} (h : Sub l af d a b) : ∃ n, l[a]? = some n ∧ nok n = true ∧ af[a]? = some (b : Int) := by
  cases d with
  | zero => exact h.elim
  | succ d => obtain ⟨n, h1, h2, h3, h4⟩ := h; exact ⟨n, h1, h2, h4⟩

theorem nok_many {n : TNode} (h : nok n = true) : 0 ≤ n.2.2.2.2.1 := by
  unfold nok at h
  repeat' split at h
  all_goals simp only [Bool.and_eq_true, beq_iff_eq, decide_eq_true_eq, Bool.or_eq_true] at h
  all_goals omega

theorem after_eq (hk : 2000 ≤ k) {l : List TNode} {af : List Int} (hl : l.length ≤ 1500) : ∀ (d D at_ nx : Nat), d ≤ D → Sub l af d at_ nx → nx ≤ l.length → spec_l4After.rec k D l (at_ : Int) = some (nx : Int) := by
  intro d
  induction d with
  | zero => intro D at_ nx _ h; exact h.elim
  | succ d ih =>
    intro D at_ nx hD ⟨n, h1, h2, h3, h4⟩ hnx
    obtain ⟨D, rfl⟩ : ∃ j, D = j + 1 := ⟨D - 1, by omega⟩
    have hm0 := nok_many h2
    have hat : at_ < l.length := (List.getElem?_eq_some_iff.1 h1).1
    have loop : ∀ (c pos : Nat) (last : Int) (f : Nat) (i : Int), PartsR (Sub l af d) l n c pos last nx → c < f → n.2.2.2.2.1 - i = c → 0 ≤ i → n.2.2.2.2.1 ≤ 2000 → spec_l4After.l3 k (spec_l4After.rec k D) f l (at_ : Int) (pos : Int) i = some (nx : Int) := by
      intro c
      induction c with
      | zero =>
        intro pos last f i hp hf hi hi0 hi2
        obtain ⟨f, rfl⟩ : ∃ j, f = j + 1 := ⟨f - 1, by omega⟩
        obtain rfl : pos = nx := hp
        simp only [spec_l4After.l3, rdL_nat, h1, Option.bind_some, decide_eq_false (show ¬ i < n.2.2.2.2.1 by omega), cond_false]
      | succ c ihc =>
        intro pos last f i ⟨p, mid, _, _, _, hs, hp⟩ hf hi hi0 hi2
        obtain ⟨f, rfl⟩ : ∃ j, f = j + 1 := ⟨f - 1, by omega⟩
        have hc := PartsR_cnt (Sub_lt d) _ _ _ _ hp
        simp only [spec_l4After.l3, rdL_nat, h1, Option.bind_some, decide_eq_true (show i < n.2.2.2.2.1 by omega), cond_true, ih D pos mid (by omega) hs (by omega)]
        have hlt := Sub_lt _ _ _ hs
        rw [w64 (by omega) (by omega)]
        exact ihc mid _ f (i + 1) hp (by omega) (by omega) (by omega) (by omega)
    have hc := PartsR_cnt (Sub_lt d) _ _ _ _ h3
    simp only [spec_l4After.rec, spec_l4After.b]
    rw [w64 (by omega) (by omega), show ((at_ : Int) + 1) = ((at_ + 1 : Nat) : Int) by omega]
    exact loop _ _ 0 k 0 h3 (by omega) (by omega) (by omega) (by omega)

section
variable {l : List TNode} {af : List Int}

/-- the tree's facts -/
structure TreeFacts (l : List TNode) (af : List Int) : Prop where
  len : l.length ≤ 1500
  pos : 1 ≤ l.length
  sub : Sub l af 12 0 l.length
  wf : ∀ n, n ∈ l → WfN n

theorem TreeFacts.at (h : TreeFacts l af) {i : Nat} (hi : i < l.length) : ∃ d nx, d ≤ 12 ∧ Sub l af d i nx ∧ nx ≤ l.length :=
  Sub_all 12 0 l.length h.sub i (Nat.zero_le _) hi

theorem TreeFacts.after (hk : 2000 ≤ k) (h : TreeFacts l af) {d i nx : Nat} (hd : d ≤ 12) (hs : Sub l af d i nx) (hn : nx ≤ l.length) : spec_l4After k l (i : Int) = some (nx : Int) :=
  after_eq k hk h.len d k i nx (by omega) hs hn

abbrev tB (l : List TNode) : TTreeB := (l, (), ())

theorem findLoop (hk : 2000 ≤ k) (h : TreeFacts l af) (d : Nat) (hd : d ≤ 12) (n : TNode) (at_ : Nat) (hn : l[at_]? = some n) (id : Int) (nx : Nat) (hnx : nx ≤ l.length) : ∀ (c pos : Nat) (last : Int) (f : Nat) (i : Int), PartsR (Sub l af d) l n c pos last nx → c < f → n.2.2.2.2.1 - i = c → 0 ≤ i → n.2.2.2.2.1 ≤ 2000 →
    ∃ v, spec_l4Find.l5 k f l (at_ : Int) id (pos : Int) i = some v ∧ impl_tree_find.l5 k f id (pos : Int) n.2.2.2.2.1 i (tB l) af = some (v, (tB l, af)) ∧ (v = -1 ∨ ∃ q : Nat, v = q ∧ pos ≤ q ∧ q < nx ∧ ∃ mid, Sub l af d q mid ∧ mid ≤ nx) := by
  intro c
  induction c with
  | zero =>
    intro pos last f i hp hf hi hi0 hi2
    obtain ⟨f, rfl⟩ : ∃ j, f = j + 1 := ⟨f - 1, by omega⟩
    simp only [spec_l4Find.l5, impl_tree_find.l5, rdL_nat, hn, Option.bind_some, decide_eq_false (show ¬ i < n.2.2.2.2.1 by omega), cond_false]
    exact ⟨_, rfl, rfl, .inl rfl⟩
  | succ c ihc =>
    intro pos last f i ⟨p, mid, hp1, _, _, hs, hp⟩ hf hi hi0 hi2
    obtain ⟨f, rfl⟩ : ∃ j, f = j + 1 := ⟨f - 1, by omega⟩
    have hc := PartsR_cnt (Sub_lt d) _ _ _ _ hp
    have hlt := Sub_lt _ _ _ hs
    obtain ⟨_, _, _, haf⟩ := Sub_node hs
    simp only [spec_l4Find.l5, impl_tree_find.l5, rdL_nat, hn, hp1, haf, Option.bind_some, decide_eq_true (show i < n.2.2.2.2.1 by omega), cond_true]
    by_cases hid : p.2.1 = id
    · simp only [beqT hid, cond_true]
      exact ⟨_, rfl, rfl, .inr ⟨pos, rfl, Nat.le_refl _, by omega, mid, hs, by omega⟩⟩
    · simp only [beqF hid, cond_false, h.after k hk hd hs (by omega), Option.bind_some]
      rw [w64 (by omega) (by omega)]
      obtain ⟨v, g1, g2, g3⟩ := ihc mid _ f (i + 1) hp (by omega) (by omega) (by omega) (by omega)
      refine ⟨v, g1, g2, ?_⟩
      rcases g3 with g | ⟨q, q1, q2, q3, q4⟩
      · exact .inl g
      · exact .inr ⟨q, q1, by omega, q3, q4⟩

theorem find_eq (hk : 2000 ≤ k) (h : TreeFacts l af) (at_ : Nat) (hat : at_ < l.length) (id : Int) :
    ∃ v, spec_l4Find k l (at_ : Int) id = some v ∧ impl_tree_find k (at_ : Int) id (true, tB l) af = some (v, (tB l, af)) ∧ (v = -1 ∨ ∃ q : Nat, v = q ∧ at_ < q ∧ q < l.length) := by
  obtain ⟨d, nx, hd, hs, hnx⟩ := h.at hat
  have hlen := h.len
  cases d with
  | zero => exact hs.elim
  | succ d =>
    obtain ⟨n, h1, h2, h3, h4⟩ := hs
    have hm0 := nok_many h2
    have hc := PartsR_cnt (Sub_lt d) _ _ _ _ h3
    unfold spec_l4Find impl_tree_find
    have c1 : (decide ((0 : Int) ≤ (at_ : Int)) && decide ((at_ : Int) ≤ IntKind.wrap .i64 ((l.length : Int) - 1))) = true := by
      rw [w64 (by omega) (by omega)]; simp; omega
    simp only [cond_true, within_eq, c1, Option.bind_some, Bool.not_true, cond_false, rdL_nat, h1]
    by_cases h12 : n.1 = 12
    · simp only [bneF h12, cond_false]
      have ha1 : IntKind.wrap .i64 ((at_ : Int) + 1) = ((at_ + 1 : Nat) : Int) := by rw [w64 (by omega) (by omega)]; omega
      rw [ha1]
      obtain ⟨v, g1, g2, g3⟩ := findLoop k hk h d (by omega) n at_ h1 id nx hnx _ _ 0 k 0 h3 (by omega) (by omega) (by omega) (by omega)
      refine ⟨v, g1, g2, ?_⟩
      rcases g3 with g | ⟨q, q1, q2, q3, _⟩
      · exact .inl g
      · exact .inr ⟨q, q1, by omega, by omega⟩
    · simp only [bneT h12, cond_true]
      exact ⟨_, rfl, rfl, .inl rfl⟩

theorem text_eq (hk : 2000 ≤ k) (h : TreeFacts l af) (at_ : Nat) (hat : at_ < l.length) (id : Int) :
    ∃ s b n, spec_l4TextOf k l (at_ : Int) id = some (s, b) ∧ impl_tree_part k (at_ : Int) id 8 (true, tB l) af = some ((n, b), (tB l, af)) ∧ n.2.2.2.1 = s ∧ s.size ≤ 300 := by
  obtain ⟨v, g1, g2, g3⟩ := find_eq k hk h at_ hat id
  unfold spec_l4TextOf impl_tree_part
  simp only [g1, g2, Option.bind_some]
  rcases g3 with rfl | ⟨q, rfl, q1, q2⟩
  · simp only [show decide ((-1 : Int) < 0) = true from rfl, cond_true, Option.bind_some]
    exact ⟨_, _, _, rfl, rfl, rfl, by decide⟩
  · obtain ⟨d, nx, hd, hs, hnx⟩ := h.at q2
    obtain ⟨n, n1, n2, n3⟩ := Sub_node hs
    simp only [decide_eq_false (show ¬ (q : Int) < 0 by omega), cond_false, rdL_nat, n1, Option.bind_some]
    by_cases h8 : n.1 = 8
    · simp only [bneF h8, cond_false]
      refine ⟨_, _, _, rfl, rfl, rfl, ?_⟩
      unfold nok at n2
      rw [h8] at n2
      simp only [reduceIte, if_neg (show ¬ ((8 : Int) = 5) by decide), if_neg (show ¬ ((8 : Int) = 6) by decide), Bool.and_eq_true, beq_iff_eq, decide_eq_true_eq] at n2
      omega
    · simp only [bneT h8, cond_true]
      exact ⟨_, _, _, rfl, rfl, rfl, by decide⟩

theorem num_eq (hk : 2000 ≤ k) (h : TreeFacts l af) (at_ : Nat) (hat : at_ < l.length) (id : Int) :
    ∃ v b, spec_l4NumOf k l (at_ : Int) id = some (v, b) ∧ impl_tree_num k (at_ : Int) id (true, tB l) af = some ((v, b), (tB l, af)) ∧ I64 v ∧ (∃ w, spec_l4Find k l (at_ : Int) id = some w ∧ (b = true → 0 ≤ w)) := by
  obtain ⟨v, g1, g2, g3⟩ := find_eq k hk h at_ hat id
  unfold spec_l4NumOf impl_tree_num
  simp only [g1, g2, Option.bind_some]
  have z : I64 0 := ⟨by omega, by omega⟩
  rcases g3 with rfl | ⟨q, rfl, q1, q2⟩
  · simp only [show decide ((-1 : Int) < 0) = true from rfl, cond_true, Option.bind_some]
    exact ⟨_, _, rfl, rfl, z, -1, rfl, fun h => by cases h⟩
  · obtain ⟨d, nx, hd, hs, hnx⟩ := h.at q2
    obtain ⟨n, n1, n2, n3⟩ := Sub_node hs
    have hw := h.wf n (List.mem_of_getElem? n1)
    simp only [decide_eq_false (show ¬ (q : Int) < 0 by omega), cond_false, rdL_nat, n1, Option.bind_some, csf]
    by_cases hb : (n.1 != 5 && n.1 != 6) = true
    · simp only [hb, cond_true]
      exact ⟨_, _, rfl, rfl, z, q, rfl, fun h => by cases h⟩
    · simp only [Bool.eq_false_iff.2 hb, cond_false]
      exact ⟨_, _, rfl, rfl, hw.2.2.1, q, rfl, fun _ => by omega⟩

theorem col_eq (hk : 2000 ≤ k) (h : TreeFacts l af) (at_ : Nat) (hat : at_ < l.length) (root : Bool) :
    ∃ x x' b, spec_l5Col k l (at_ : Int) root = some (x', b) ∧ impl_tree_col k (at_ : Int) root (true, tB l) af = some ((x, b), (tB l, af)) ∧ (b = true → x = x') ∧ x'.1.size ≤ 300 ∧ I64 x'.2.2.2.1 := by
  obtain ⟨s4, b4, n4, t1, t2, t3, t4⟩ := text_eq k hk h at_ hat 4
  obtain ⟨v1, b1, u1, u2, u3, w1, u4, u5⟩ := num_eq k hk h at_ hat 1
  obtain ⟨v3, b3, y1, y2, y3, w3, y4, y5⟩ := num_eq k hk h at_ hat 3
  obtain ⟨v5, b5, z1, z2, z3, w5, z4, z5⟩ := num_eq k hk h at_ hat 5
  obtain ⟨f1, a1, a2, a3⟩ := find_eq k hk h at_ hat 1
  obtain ⟨f5, e1, e2, e3⟩ := find_eq k hk h at_ hat 5
  obtain rfl : f1 = w1 := by rw [a1] at u4; exact Option.some.inj u4
  obtain rfl : f5 = w5 := by rw [e1] at z4; exact Option.some.inj z4
  have z : I64 0 := ⟨by omega, by omega⟩
  -- behind the reading
  have fin : ∀ (o100 o100' : TCol) (rep : Int) (has : Bool), ∃ x x' b, spec_l5Col.c9 k l (at_ : Int) b4 b1 v5 b5 has o100 (s4, v1, rep, 0, ()) = some (x', b) ∧
      impl_tree_col.c8 k (at_ : Int) b4 has b1 v5 b5 (tB l) af o100' (s4, v1, rep, 0, ()) = some ((x, b), (tB l, af)) ∧ (b = true → x = x') ∧ x'.1.size ≤ 300 ∧ I64 x'.2.2.2.1 := by
    intro o100 o100' rep has
    unfold spec_l5Col.c9 spec_l5Col.c12 impl_tree_col.c8 impl_tree_col.c11
    simp only [a1, e1, e2, a2, Option.bind_some, csf, cst]
    by_cases h5 : f5 ≥ 0
    · have hf5 : decide (f5 < 0) = false := decide_eq_false (by omega)
      simp only [decide_eq_true h5, cond_true, hf5]
      cases b5 with
      | true =>
        cases b1 with
        | true =>
          have : ¬ f1 < 0 := by have := u5 rfl; omega
          simp only [cond_true, cond_false, Bool.not_true, Option.bind_some, decide_eq_false this]
          cases b4 <;> cases has <;> exact ⟨_, _, _, rfl, rfl, (fun h => by cases h), t4, z⟩
        | false =>
          simp only [cond_true, cond_false, Bool.not_false, Option.bind_some]
          cases b4 <;> cases has <;> cases (decide (f1 < 0)) <;> exact ⟨_, _, _, rfl, rfl, fun _ => rfl, t4, z3⟩
      | false =>
        cases b1 with
        | true =>
          simp only [cond_true, cond_false, Bool.not_true, Option.bind_some]
          cases b4 <;> cases has <;> exact ⟨_, _, _, rfl, rfl, (fun h => by cases h), t4, z⟩
        | false =>
          simp only [cond_true, cond_false, Bool.not_false, Option.bind_some]
          cases b4 <;> cases has <;> cases (decide (f1 < 0)) <;> exact ⟨_, _, _, rfl, rfl, (fun h => by cases h), t4, z3⟩
    · have hf5 : decide (f5 < 0) = true := decide_eq_true (by omega)
      have hb5 : b5 = false := by
        cases b5 with
        | false => rfl
        | true => have := z5 rfl; omega
      subst hb5
      simp only [decide_eq_false h5, cond_false, hf5]
      cases b1 with
      | true =>
        simp only [cond_true, cond_false, Bool.not_true, Option.bind_some]
        cases b4 <;> cases has <;> exact ⟨_, _, _, rfl, rfl, fun _ => rfl, t4, z⟩
      | false =>
        simp only [cond_true, cond_false, Bool.not_false, Option.bind_some]
        cases b4 <;> cases has <;> exact ⟨_, _, _, rfl, rfl, (fun h => by cases h), t4, z3⟩
  unfold spec_l5Col impl_tree_col
  simp only [t1, t2, u1, u2, y1, y2, z1, z2, Option.bind_some, t3]
  cases root with
  | true => simp only [cond_true]; exact fin _ _ 0 true
  | false => simp only [cond_false]; exact fin _ _ v3 b3

/-! ### all cols -/
def chainL (af : List Int) : Nat → Nat → List Int
  | 0, _ => []
  | c + 1, pos => (pos : Int) :: chainL af c ((af[pos]?).getD 0).toNat

theorem chainL_len : ∀ (c pos : Nat), (chainL af c pos).length = c
  | 0, _ => rfl
  | c + 1, pos => by simp [chainL, chainL_len c]

theorem partsLoop (hlen : l.length ≤ 1500) (d : Nat) (n : TNode) (nx : Nat) (hnx : nx ≤ l.length) : ∀ (c pos : Nat) (last : Int) (f : Nat) (M i : Int) (acc : List Int), PartsR (Sub l af d) l n c pos last nx → c < f → M - i = c → 0 ≤ i → M ≤ 2000 → acc.length + c ≤ 4000 →
    impl_tree_parts.l7 k f (pos : Int) M i (tB l) af acc = some (((), true), (tB l, af, acc ++ chainL af c pos)) := by
  intro c
  induction c with
  | zero =>
    intro pos last f M i acc hp hf hi hi0 hi2 ha
    obtain ⟨f, rfl⟩ : ∃ j, f = j + 1 := ⟨f - 1, by omega⟩
    simp only [impl_tree_parts.l7, decide_eq_false (show ¬ i < M by omega), cond_false, chainL, List.append_nil]
  | succ c ihc =>
    intro pos last f M i acc ⟨p, mid, hp1, _, _, hs, hp⟩ hf hi hi0 hi2 ha
    obtain ⟨f, rfl⟩ : ∃ j, f = j + 1 := ⟨f - 1, by omega⟩
    have hc := PartsR_cnt (Sub_lt d) _ _ _ _ hp
    have hlt := Sub_lt _ _ _ hs
    obtain ⟨_, _, _, haf⟩ := Sub_node hs
    simp only [impl_tree_parts.l7, decide_eq_true (show i < M by omega), cond_true, rdL_nat, haf, Option.bind_some]
    rw [lim_ok (by simp; omega), cond_true, w64 (by omega) (by omega)]
    rw [ihc mid _ f M (i + 1) _ hp (by omega) (by omega) (by omega) (by omega) (by simp; omega)]
    simp [chainL, haf]

def Small (k : Nat) (c : TCol) : Prop := c.1.size < k ∧ c.1.size < 1000000000 ∧ I64 c.2.2.2.1

theorem schema_all {s : List TCol} (h : IsSchema s) : ∀ c, c ∈ s → colOk c = true := by
  intro c hc
  obtain ⟨i, hi, rfl⟩ := List.mem_iff_getElem.1 hc
  obtain ⟨c', h1, h2, _⟩ := SubC_all 6 0 s.length h.2.2.1 i (Nat.zero_le _) hi
  rw [List.getElem?_eq_getElem hi] at h1
  rw [Option.some.inj h1]
  exact h2

theorem specBad (hk : 2000 ≤ k) (h : TreeFacts l af) (d : Nat) (hd : d ≤ 12) (n : TNode) (q : Nat) (hn : l[q]? = some n) (nx : Nat) (hnx : nx ≤ l.length) : ∀ (c pos : Nat) (last : Int) (f : Nat) (i : Int) (out : List TCol), PartsR (Sub l af d) l n c pos last nx → c < f → n.2.2.2.2.1 - i = c → 0 ≤ i → n.2.2.2.2.1 ≤ 2000 →
    (∀ x, x ∈ out → Small k x) → (∃ x, x ∈ out ∧ colOk x = false) → out.length + c ≤ 4000 → spec_l5Of.l8 k f l (q : Int) (pos : Int) i [] out = some (((), false), []) := by
  intro c
  induction c with
  | zero =>
    intro pos last f i out hp hf hi hi0 hi2 hsm ⟨x, hx1, hx2⟩ ho
    obtain ⟨f, rfl⟩ : ∃ j, f = j + 1 := ⟨f - 1, by omega⟩
    obtain ⟨b, g1, _, g3⟩ := schemaOk_eq k (by omega) out hsm
    have hb : b = false := by
      cases b with
      | false => rfl
      | true =>
        have := schema_all (g3 rfl).1 x hx1
        rw [hx2] at this; cases this
    subst hb
    simp only [spec_l5Of.l8, rdL_nat, hn, Option.bind_some, decide_eq_false (show ¬ i < n.2.2.2.2.1 by omega), cond_false, g1, Bool.not_false, cond_true]
  | succ c ihc =>
    intro pos last f i out ⟨p, mid, hp1, _, _, hs, hp⟩ hf hi hi0 hi2 hsm hbad ho
    obtain ⟨f, rfl⟩ : ∃ j, f = j + 1 := ⟨f - 1, by omega⟩
    have hc := PartsR_cnt (Sub_lt d) _ _ _ _ hp
    have hlt := Sub_lt _ _ _ hs
    obtain ⟨x, x', b, g1, g2, g3, g4, g5⟩ := col_eq k hk h pos (by omega) (i == 0)
    simp only [spec_l5Of.l8, rdL_nat, hn, Option.bind_some, decide_eq_true (show i < n.2.2.2.2.1 by omega), cond_true, g1]
    cases b with
    | false => simp only [Bool.not_false, cond_true]
    | true =>
      simp only [Bool.not_true, cond_false]
      rw [lim_ok (by simp; omega), cond_true]
      simp only [h.after k hk hd hs (by omega), Option.bind_some]
      rw [w64 (by omega) (by omega)]
      obtain ⟨y, hy1, hy2⟩ := hbad
      refine ihc mid _ f (i + 1) _ hp (by omega) (by omega) (by omega) (by omega) (fun z hz => ?_) ⟨y, List.mem_append.2 (.inl hy1), hy2⟩ (by simp; omega)
      rcases List.mem_append.1 hz with hz | hz
      · exact hsm z hz
      · simp at hz; subst hz; exact ⟨by omega, by omega, g5⟩

theorem schemaLoop (hk : 2000 ≤ k) (h : TreeFacts l af) (d : Nat) (hd : d ≤ 12) (n : TNode) (q : Nat) (hn : l[q]? = some n) (nx : Nat) (hnx : nx ≤ l.length) (places : List Int) : ∀ (c pos : Nat) (last : Int) (f f' j : Nat) (out : List TCol), PartsR (Sub l af d) l n c pos last nx → c < f → c < f' → n.2.2.2.2.1 - j = c → n.2.2.2.2.1 ≤ 2000 →
    places.drop j = chainL af c pos → (places.length : Int) = n.2.2.2.2.1 → (∀ x, x ∈ out → Small k x) → out.length + c ≤ 4000 →
    ∃ b r, spec_l5Of.l8 k f l (q : Int) (pos : Int) (j : Int) [] out = some (((), b), r) ∧ impl_tree_schema.l6 k f' (places.length : Int) (j : Int) (tB l) af out places = some (((), b), (tB l, af, r)) ∧ (b = true → IsSchema r) ∧ (b = false → r = []) := by
  intro c
  induction c with
  | zero =>
    intro pos last f f' j out hp hf hf' hi hi2 hpl hplen hsm ho
    obtain ⟨f, rfl⟩ : ∃ j, f = j + 1 := ⟨f - 1, by omega⟩
    obtain ⟨f', rfl⟩ : ∃ j, f' = j + 1 := ⟨f' - 1, by omega⟩
    obtain ⟨b, g1, g2, g3⟩ := schemaOk_eq k (by omega) out hsm
    simp only [spec_l5Of.l8, impl_tree_schema.l6, rdL_nat, hn, Option.bind_some, hplen, decide_eq_false (show ¬ (j : Int) < n.2.2.2.2.1 by omega), cond_false, g1, g2]
    cases b with
    | false => exact ⟨_, _, rfl, rfl, fun h => (by cases h), fun _ => rfl⟩
    | true => exact ⟨_, _, rfl, rfl, fun _ => (g3 rfl).1, fun h => (by cases h)⟩
  | succ c ihc =>
    intro pos last f f' j out ⟨p, mid, hp1, _, _, hs, hp⟩ hf hf' hi hi2 hpl hplen hsm ho
    obtain ⟨f, rfl⟩ : ∃ j, f = j + 1 := ⟨f - 1, by omega⟩
    obtain ⟨f', rfl⟩ : ∃ j, f' = j + 1 := ⟨f' - 1, by omega⟩
    have hc := PartsR_cnt (Sub_lt d) _ _ _ _ hp
    have hlt := Sub_lt _ _ _ hs
    obtain ⟨_, _, _, haf⟩ := Sub_node hs
    have hch : chainL af (c + 1) pos = (pos : Int) :: chainL af c mid := by simp [chainL, haf]
    rw [hch] at hpl
    obtain ⟨d1, d2, d3⟩ := drop_get hpl
    obtain ⟨x, x', b, g1, g2, g3, g4, g5⟩ := col_eq k hk h pos (by omega) ((j : Int) == 0)
    simp only [spec_l5Of.l8, impl_tree_schema.l6, rdL_nat, hn, d1, Option.bind_some, hplen, decide_eq_true (show (j : Int) < n.2.2.2.2.1 by omega), cond_true, g1, g2, csf, cst]
    cases b with
    | false =>
      simp only [Bool.not_false, cond_true, Bool.true_or]
      exact ⟨_, _, rfl, rfl, fun h => (by cases h), fun _ => rfl⟩
    | true =>
      obtain rfl := g3 rfl
      simp only [Bool.not_true, cond_false, Bool.false_or]
      rw [lim_ok (show out.length + [x].length ≤ 4294967296 by simp; omega), cond_true]
      simp only [h.after k hk hd hs (by omega), Option.bind_some]
      rw [w64 (by omega) (by omega), show ((j : Int) + 1) = ((j + 1 : Nat) : Int) by omega]
      have hsm' : ∀ z, z ∈ out ++ [x] → Small k z := fun z hz => by
        rcases List.mem_append.1 hz with hz | hz
        · exact hsm z hz
        · simp at hz; subst hz; exact ⟨by omega, by omega, g5⟩
      by_cases hbad : (decide ((j : Int) > 0) && x.2.2.2.1 == 0 && x.2.1 == 7) = true
      · simp only [hbad, cond_true]
        have hb : x.2.2.2.1 = 0 ∧ x.2.1 = 7 := by
          simp only [Bool.and_eq_true, beq_iff_eq] at hbad
          exact ⟨hbad.1.2, hbad.2⟩
        rw [specBad k hk h d hd n q hn nx hnx c mid _ f _ _ hp (by omega) (by omega) (by omega) (by omega) hsm' ⟨x, by simp, by unfold colOk; rw [hb.1, hb.2]; rfl⟩ (by simp; omega)]
        exact ⟨_, _, rfl, rfl, fun h => (by cases h), fun _ => rfl⟩
      · simp only [Bool.eq_false_iff.2 hbad, cond_false]
        have := ihc mid _ f f' (j + 1) (out ++ [x]) hp (by omega) (by omega) (by omega) (by omega) d3 hplen hsm' (by simp; omega)
        rw [hplen] at this
        exact this

theorem of_eq (hk : 2000 ≤ k) (h : TreeFacts l af) (at_ : Nat) (hat : at_ < l.length) :
    ∃ b r, spec_l5Of k l (at_ : Int) 2 = some (((), b), r) ∧ impl_tree_schema k (at_ : Int) (true, tB l) af = some (((), b), (tB l, af, r)) ∧ (b = true → IsSchema r) ∧ (b = false → r = []) := by
  obtain ⟨v, g1, g2, g3⟩ := find_eq k hk h at_ hat 2
  unfold spec_l5Of impl_tree_schema impl_tree_parts
  simp only [g1, g2, Option.bind_some]
  rcases g3 with rfl | ⟨q, rfl, q1, q2⟩
  · simp only [show decide ((-1 : Int) < 0) = true from rfl, cond_true, Option.bind_some, Bool.not_false]
    exact ⟨_, _, rfl, rfl, fun h => (by cases h), fun _ => rfl⟩
  · obtain ⟨d, nx, hd, hs, hnx⟩ := h.at q2
    cases d with
    | zero => exact hs.elim
    | succ d =>
      obtain ⟨n, h1, h2, h3, h4⟩ := hs
      have hm0 := nok_many h2
      have hlen := h.len
      have hc := PartsR_cnt (Sub_lt d) _ _ _ _ h3
      simp only [decide_eq_false (show ¬ (q : Int) < 0 by omega), cond_false, rdL_nat, h1, Option.bind_some]
      by_cases h9 : n.1 = 9
      · simp only [bneF h9, cond_false, Option.bind_some, csf]
        have hnok : (n.2.2.2.2.1 = 0 ∧ n.2.2.1 = 0) ∨ 0 < n.2.2.2.2.1 := by
          unfold nok at h2
          rw [h9] at h2
          simp only [reduceIte, if_neg (show ¬ ((9 : Int) = 5) by decide), if_neg (show ¬ ((9 : Int) = 6) by decide), if_neg (show ¬ ((9 : Int) = 8) by decide), Bool.and_eq_true, Bool.or_eq_true, beq_iff_eq, decide_eq_true_eq] at h2
          exact h2.2.imp id fun h => h.1
        have ha1 : IntKind.wrap .i64 ((q : Int) + 1) = ((q + 1 : Nat) : Int) := by rw [w64 (by omega) (by omega)]; omega
        by_cases h12 : n.2.2.1 = 12
        · simp only [bneF h12, cond_false, Bool.and_false, ha1]
          rw [partsLoop k hlen d n nx hnx _ _ 0 k _ 0 [] h3 (by omega) (by omega) (by omega) (by omega) (by simp; omega)]
          simp only [Option.bind_some, Bool.not_true, cond_false, List.nil_append]
          exact schemaLoop k hk h d (by omega) n q h1 nx hnx (chainL af n.2.2.2.2.1.toNat (q + 1)) _ _ 0 k k 0 [] h3 (by omega) (by omega) (by omega) (by omega) rfl (by rw [chainL_len]; omega) (fun x hx => (List.not_mem_nil hx).elim) (by simp; omega)
        · simp only [bneT h12, cond_true, Bool.and_true]
          rcases hnok with ⟨hz, _⟩ | hpos
          · obtain ⟨K, rfl⟩ : ∃ j, k = j + 1 := ⟨k - 1, by omega⟩
            have hso : impl_SchemaOk (K + 1) [] = some false := rfl
            rw [hz]
            simp only [show decide ((0 : Int) > 0) = false from rfl, cond_false, impl_tree_parts.l7, show decide ((0 : Int) < 0) = false from rfl, Option.bind_some, Bool.not_true, List.length_nil, impl_tree_schema.l6, show decide ((((0 : Nat) : Int)) > (((0 : Nat) : Int))) = false from rfl]
            refine ⟨_, _, rfl, ?_, fun h => (by cases h), fun _ => rfl⟩
            simp only [show decide ((0 : Int) < ((0 : Nat) : Int)) = false from rfl, cond_false, hso, Option.bind_some, Bool.not_false, cond_true]
          · simp only [decide_eq_true (show n.2.2.2.2.1 > 0 from hpos), cond_true, Bool.not_false]
            exact ⟨_, _, rfl, rfl, fun h => (by cases h), fun _ => rfl⟩
      · simp only [bneT h9, cond_true, Option.bind_some, Bool.not_false]
        exact ⟨_, _, rfl, rfl, fun h => (by cases h), fun _ => rfl⟩
end

theorem schemaOf_eq (hk : 2000 ≤ k) (l : List TNode) (hw : ∀ n, n ∈ l → WfN n) (hlen : l.length < 4294967296) (at_ : Int) :
    ∃ b r, spec_SchemaOf k l at_ = some (((), b), r) ∧ impl_SchemaOf k l at_ = some (((), b), r) ∧ (b = true → IsSchema r) ∧ (b = false → r = []) := by
  obtain ⟨b, h1, h2⟩ := treeOf_eq k hk l hw hlen
  unfold spec_SchemaOf impl_SchemaOf
  simp only [h1, Option.bind_some, l1In_eq]
  rcases h2 with ⟨rfl, x, hx⟩ | ⟨rfl, hl, hl1, af, hx, hS, _⟩
  · simp only [hx, Option.bind_some, Bool.not_false, cond_true]
    exact ⟨_, _, rfl, rfl, fun h => (by cases h), fun _ => rfl⟩
  · have hf : TreeFacts l af := ⟨hl, hl1, hS, hw⟩
    simp only [hx, Option.bind_some, Bool.not_true, cond_false]
    by_cases hat : 0 ≤ at_ ∧ at_ < (l.length : Int)
    · obtain ⟨a, rfl⟩ := Int.eq_ofNat_of_zero_le hat.1
      have c1 : (decide ((0 : Int) ≤ (a : Int)) && decide ((a : Int) ≤ IntKind.wrap .i64 ((l.length : Int) - 1))) = true := by
        rw [w64 (by omega) (by omega)]; simp; omega
      obtain ⟨b, r, g1, g2, g3, g4⟩ := of_eq k hk hf a (by omega)
      simp only [c1, Bool.not_true, cond_false, g1, g2, Option.bind_some]
      exact ⟨b, r, rfl, rfl, g3, g4⟩
    · have c1 : (decide ((0 : Int) ≤ at_) && decide (at_ ≤ IntKind.wrap .i64 ((l.length : Int) - 1))) = false := by
        rw [w64 (by omega) (by omega), Bool.eq_false_iff]; intro hh
        simp only [Bool.and_eq_true, decide_eq_true_eq] at hh
        omega
      simp only [c1, Bool.not_false, cond_true]
      unfold impl_tree_schema impl_tree_parts impl_tree_find
      simp only [cond_true, within_eq, c1, Option.bind_some, Bool.not_false, show decide ((-1 : Int) < 0) = true from rfl]
      exact ⟨_, _, rfl, rfl, fun h => (by cases h), fun _ => rfl⟩
end Go.Law
