/- Trees: which are right, by both; and a right one is read from its bytes as it was. -/
import Derived.Test.YtmdmkakkodeniaaSchemaF0
import Derived.Test.YtmdmkakkodeniaaLawKit
set_option linter.unusedVariables false
set_option linter.unusedSimpArgs false
namespace Go.Law
open Go.Am Go.Fn

def isItem (t : Int) : Bool := t == 5 || t == 6 || t == 8 || t == 9 || t == 12
def isKind (t : Int) : Bool := t == 1 || t == 2 || isItem t

theorem isType_eq (k : Nat) (t : Int) (b : Bool) : impl_isType k t b = some (isItem t || ((t == 1 || t == 2) && !b)) := by
  unfold impl_isType impl_isType.c4 impl_isType.c10 isItem
  by_cases h1 : t = 1
  · subst h1; simp
  by_cases h2 : t = 2
  · subst h2; simp
  by_cases h5 : t = 5
  · subst h5; simp
  by_cases h6 : t = 6
  · subst h6; simp
  by_cases h8 : t = 8
  · subst h8; simp
  by_cases h9 : t = 9
  · subst h9; simp
  by_cases h12 : t = 12
  · subst h12; simp
  simp [beqF h1, beqF h2, beqF h5, beqF h6, beqF h8, beqF h9, beqF h12, h1, h2, h5, h6, h8, h9, h12]

theorem l4Kind_eq (k : Nat) (t : Int) : spec_l4Kind k t = some (isKind t) := by
  unfold spec_l4Kind spec_l4Kind.c9 isKind isItem
  by_cases h1 : t = 1
  · subst h1; simp
  by_cases h2 : t = 2
  · subst h2; simp
  by_cases h5 : t = 5
  · subst h5; simp
  by_cases h6 : t = 6
  · subst h6; simp
  by_cases h8 : t = 8
  · subst h8; simp
  by_cases h9 : t = 9
  · subst h9; simp
  by_cases h12 : t = 12
  · subst h12; simp
  simp [beqF h1, beqF h2, beqF h5, beqF h6, beqF h8, beqF h9, beqF h12, h1, h2, h5, h6, h8, h9, h12]

theorem l4Item_eq (k : Nat) (t : Int) : spec_l4Item k t = some (isItem t) := by
  unfold spec_l4Item
  rw [l4Kind_eq]
  simp only [Option.bind_some, csf]
  congr 1
  unfold isKind
  by_cases h1 : t = 1
  · subst h1; rfl
  by_cases h2 : t = 2
  · subst h2; rfl
  simp [beqF h1, beqF h2, bneT h1, bneT h2]

theorem within_eq (k : Nat) (a b c : Int) : impl_within k a b c = some (decide (b ≤ a) && decide (a ≤ c)) := by
  unfold impl_within
  simp only [csf, Option.bind_some, ge_iff_le]
theorem l1In_eq (k : Nat) (a b c : Int) : spec_l1In k a b c = some (decide (b ≤ a) && decide (a ≤ c)) := by
  unfold spec_l1In
  simp only [csf, Option.bind_some, ge_iff_le]

/-- what a node has by its type is as told, but its parts -/
def nok (n : TNode) : Bool :=
  if n.1 = 5 then (decide (-2147483648 ≤ n.2.2.1) && decide (n.2.2.1 ≤ 2147483647)) && eqS n.2.2.2.1 ⟨#[]⟩ && n.2.2.2.2.1 == 0
  else if n.1 = 6 then eqS n.2.2.2.1 ⟨#[]⟩ && n.2.2.2.2.1 == 0
  else if n.1 = 8 then n.2.2.1 == 0 && decide ((n.2.2.2.1.size : Int) ≤ 300) && n.2.2.2.2.1 == 0
  else if n.1 = 9 then eqS n.2.2.2.1 ⟨#[]⟩ && decide (n.2.2.2.2.1 ≥ 0) && ((n.2.2.2.2.1 == 0 && n.2.2.1 == 0) || (decide (n.2.2.2.2.1 > 0) && isItem n.2.2.1))
  else if n.1 = 12 then n.2.2.1 == 0 && eqS n.2.2.2.1 ⟨#[]⟩ && decide (n.2.2.2.2.1 ≥ 0)
  else (n.1 == 1 || n.1 == 2) && n.2.2.1 == 0 && eqS n.2.2.2.1 ⟨#[]⟩ && n.2.2.2.2.1 == 0

theorem nodeOk_eq (k : Nat) (n : TNode) : impl_nodeOk k n = some (nok n) := by
  unfold impl_nodeOk impl_isInt32 nok
  simp only [within_eq, isType_eq, Option.bind_some, csf, cst]
  by_cases h5 : n.1 = 5
  · simp [h5]
  by_cases h6 : n.1 = 6
  · simp [h6]
  by_cases h8 : n.1 = 8
  · simp [h8]
  by_cases h9 : n.1 = 9
  · simp [h9]
  by_cases h12 : n.1 = 12
  · simp [h12]
  simp [beqF h5, beqF h6, beqF h8, beqF h9, beqF h12, h5, h6, h8, h9, h12, isItem]

theorem plain_eq (k : Nat) (n : TNode) : spec_l4Plain k n = some (nok n) := by
  unfold spec_l4Plain spec_l4Plain.c4 spec_l4Int nok
  simp only [l1In_eq, l4Item_eq, Option.bind_some, csf, cst]
  by_cases h1 : n.1 = 1
  · simp [h1]
  by_cases h2 : n.1 = 2
  · simp [h2]
  by_cases h5 : n.1 = 5
  · simp [h5]
  by_cases h6 : n.1 = 6
  · simp [h6]
  by_cases h8 : n.1 = 8
  · simp [h8]
  by_cases h9 : n.1 = 9
  · simp [h9]
  by_cases h12 : n.1 = 12
  · simp [h12]
  simp [beqF h1, beqF h2, beqF h5, beqF h6, beqF h8, beqF h9, beqF h12, h1, h2, h5, h6, h8, h9, h12]

/-! ### which lists are trees -/
/-- the parts of a node, where S tells the parts' own extent -/
def PartsR (S : Nat → Nat → Prop) (l : List TNode) (n : TNode) : Nat → Nat → Int → Nat → Prop
  | 0, pos, _, nx => pos = nx
  | c + 1, pos, last, nx => ∃ p mid, l[pos]? = some p ∧ (n.1 = 9 → p.1 = n.2.2.1 ∧ p.2.1 = 0) ∧ (n.1 = 12 → last + 1 ≤ p.2.1 ∧ p.2.1 ≤ 1000) ∧ S pos mid ∧ PartsR S l n c mid p.2.1 nx

/-- the node at a place, with its parts, ends at another; 'af' tells so for all of them -/
def Sub (l : List TNode) (af : List Int) : Nat → Nat → Nat → Prop
  | 0, _, _ => False
  | d + 1, at_, nx => ∃ n, l[at_]? = some n ∧ nok n = true ∧ PartsR (Sub l af d) l n n.2.2.2.2.1.toNat (at_ + 1) 0 nx ∧ af[at_]? = some (nx : Int)

theorem PartsR_mono {S S' : Nat → Nat → Prop} {l : List TNode} {n : TNode} (hS : ∀ a b, S a b → a < b) : ∀ (c pos : Nat) (last : Int) (nx : Nat), (∀ a b, pos ≤ a → b ≤ nx → S a b → S' a b) → PartsR S l n c pos last nx → PartsR S' l n c pos last nx ∧ pos ≤ nx
  | 0, pos, last, nx, h, e => ⟨e, by have e : pos = nx := e; omega⟩
  | c + 1, pos, last, nx, h, ⟨p, mid, h1, h2, h3, h4, h5⟩ => by
    have hlt := hS _ _ h4
    obtain ⟨k1, k2⟩ := PartsR_mono hS c mid p.2.1 nx (fun a b ha hb => h a b (by omega) hb) h5
    exact ⟨⟨p, mid, h1, h2, h3, h _ _ (Nat.le_refl _) k2 h4, k1⟩, by omega⟩

theorem Sub_lt {l : List TNode} {af : List Int} : ∀ (d a b : Nat), Sub l af d a b → a < b
  | 0, _, _, h => h.elim
  | d + 1, a, b, ⟨n, h1, h2, h3, h4⟩ => by
    have := (PartsR_mono (S' := fun _ _ => True) (Sub_lt d) _ _ _ _ (fun _ _ _ _ _ => trivial) h3).2
    omega

theorem Sub_frame {l : List TNode} {af af' : List Int} : ∀ (d a b : Nat), (∀ i, a ≤ i → i < b → af'[i]? = af[i]?) → Sub l af d a b → Sub l af' d a b
  | 0, _, _, _, h => h.elim
  | d + 1, a, b, hf, ⟨n, h1, h2, h3, h4⟩ => by
    have hlt := Sub_lt (d + 1) a b ⟨n, h1, h2, h3, h4⟩
    refine ⟨n, h1, h2, (PartsR_mono (Sub_lt d) _ _ _ _ (fun x y hx hy hs => ?_) h3).1, by rw [hf a (Nat.le_refl _) hlt]; exact h4⟩
    exact Sub_frame d x y (fun i hi1 hi2 => hf i (by omega) (by omega)) hs

def WfN (n : TNode) : Prop := I64 n.1 ∧ I64 n.2.1 ∧ I64 n.2.2.1 ∧ I64 n.2.2.2.2.1 ∧ n.2.2.2.1.size ≤ 1073741824

theorem checkLoop (k : Nat) (l : List TNode) (hl : l.length ≤ 1500) (d D deep : Nat) (hdeep : deep ≤ 12)
    (ih : ∀ (at_ : Nat) (af : List Int), af.length = l.length →
      ∃ v af', spec_l4Check.rec k D l (at_ : Int) ((deep + 1 : Nat) : Int) = some v ∧ impl_tree_measure.rec k D (at_ : Int) ((deep + 1 : Nat) : Int) (true, (l, (), ())) af = some (v, ((l, (), ()), af')) ∧ af'.length = l.length ∧
        (v = -1 ∨ ∃ nx : Nat, v = nx ∧ Sub l af' d at_ nx ∧ nx ≤ l.length ∧ ∀ i, (i < at_ ∨ nx ≤ i) → af'[i]? = af[i]?))
    (at_ : Nat) (hat : at_ < l.length) (n : TNode) (M : Int) (hM : n.2.2.2.2.1 = M) (hM1 : M < 9223372036854775808) : ∀ (f pos : Nat) (last i : Int) (af : List Int), l.length - pos < f → at_ < pos → 0 ≤ i → i ≤ M → pos ≤ l.length →
      (n.1 = 12 → 0 ≤ last ∧ last ≤ 1000) → af.length = l.length →
      ∃ v af', spec_l4Check.l7 k (spec_l4Check.rec k D) f l (deep : Int) (pos : Int) last i n = some v ∧ impl_tree_measure.l7 k (impl_tree_measure.rec k D) f (at_ : Int) (deep : Int) (pos : Int) last M i (l, (), ()) af n = some (v, ((l, (), ()), af')) ∧ af'.length = l.length ∧
        (v = -1 ∨ ∃ nx : Nat, v = nx ∧ PartsR (Sub l af' d) l n (M - i).toNat pos last nx ∧ nx ≤ l.length ∧ af'[at_]? = some (nx : Int) ∧ ∀ j, (j < pos ∨ nx ≤ j) → j ≠ at_ → af'[j]? = af[j]?) := by
  intro f
  induction f with
  | zero => intro pos last i af h; omega
  | succ f ihf =>
    intro pos last i af hf hpos hi0 hiM hpl hlast haf
    simp only [spec_l4Check.l7, impl_tree_measure.l7, hM]
    by_cases hlt : i < M
    · simp only [decide_eq_true hlt, cond_true]
      by_cases hpe : (pos : Int) ≥ (l.length : Int)
      · simp only [decide_eq_true hpe, cond_true]
        exact ⟨_, _, rfl, rfl, haf, .inl rfl⟩
      · simp only [decide_eq_false hpe, cond_false]
        obtain ⟨p, hp1, hp2⟩ := rdL_some (xs := l) (i := (pos : Int)) (by omega) (by omega)
        simp only [hp1, Option.bind_some, csf, cst, within_eq]
        have hp2 : l[pos]? = some p := by simpa using hp2
        -- the first condition
        by_cases hc1 : n.1 = 9 ∧ (p.1 ≠ n.2.2.1 ∨ p.2.1 ≠ 0)
        · have e1 : (n.1 == 9 && (p.1 != n.2.2.1 || p.2.1 != 0)) = true := by
            simp only [Bool.and_eq_true, Bool.or_eq_true, beq_iff_eq, bne_iff_ne]; exact hc1
          simp only [e1, Bool.true_or, cond_true]
          exact ⟨_, _, rfl, rfl, haf, .inl rfl⟩
        · have e1 : (n.1 == 9 && (p.1 != n.2.2.1 || p.2.1 != 0)) = false := by
            rw [Bool.eq_false_iff]
            intro h
            simp only [Bool.and_eq_true, Bool.or_eq_true, beq_iff_eq, bne_iff_ne] at h
            exact hc1 h
          simp only [e1, Bool.false_or, cond_false]
          by_cases hc2 : n.1 = 12 ∧ ¬ (last + 1 ≤ p.2.1 ∧ p.2.1 ≤ 1000)
          · have hw : IntKind.wrap .i64 (last + 1) = last + 1 := by
              have := hlast hc2.1
              exact w64 (by omega) (by omega)
            have e2 : (n.1 == 12 && (decide (p.2.1 ≤ last) || decide (p.2.1 > 1000))) = true := by
              simp only [Bool.and_eq_true, Bool.or_eq_true, beq_iff_eq, decide_eq_true_eq]
              exact ⟨hc2.1, by have := hc2.2; omega⟩
            have e3 : (cond (n.1 == 12) (some (!(decide (last + 1 ≤ p.2.1) && decide (p.2.1 ≤ 1000)))) (some false) : Option Bool) = some true := by
              rw [beqT hc2.1, cond_true]
              congr 1
              have := hc2.2
              simp only [Bool.not_eq_true', Bool.and_eq_false_iff, decide_eq_false_iff_not]
              omega
            rw [hw]
            simp only [e2, e3, Option.bind_some, cond_true]
            rw [csf] at e3
            simp only [Option.some.injEq] at e3
            simp only [e3, cond_true]
            exact ⟨_, _, rfl, rfl, haf, .inl rfl⟩
          · have e2 : (n.1 == 12 && (decide (p.2.1 ≤ last) || decide (p.2.1 > 1000))) = false := by
              rw [Bool.eq_false_iff]
              intro h
              simp only [Bool.and_eq_true, Bool.or_eq_true, beq_iff_eq, decide_eq_true_eq] at h
              exact hc2 ⟨h.1, by omega⟩
            have e3 : (n.1 == 12 && !(decide (IntKind.wrap .i64 (last + 1) ≤ p.2.1) && decide (p.2.1 ≤ 1000))) = false := by
              rw [Bool.eq_false_iff]
              intro h
              simp only [Bool.and_eq_true, beq_iff_eq, Bool.not_eq_true', Bool.and_eq_false_iff, decide_eq_false_iff_not] at h
              have hl := hlast h.1
              rw [w64 (by omega) (by omega)] at h
              exact hc2 ⟨h.1, by omega⟩
            simp only [e2, e3, cond_false]
            have hd1 : IntKind.wrap .i64 ((deep : Int) + 1) = ((deep + 1 : Nat) : Int) := by rw [w64 (by omega) (by omega)]; omega
            rw [hd1]
            obtain ⟨v, af1, s1, s2, s3, s4⟩ := ih pos af haf
            simp only [s1, s2, Option.bind_some]
            rcases s4 with rfl | ⟨mid, rfl, s5, s6, s7⟩
            · simp only [show decide ((-1 : Int) < 0) = true from rfl, cond_true]
              exact ⟨_, _, rfl, rfl, s3, .inl rfl⟩
            · have hml := Sub_lt _ _ _ s5
              have hm0 : decide ((mid : Int) < 0) = false := decide_eq_false (by omega)
              have hi1 : IntKind.wrap .i64 (i + 1) = i + 1 := w64 (by omega) (by omega)
              simp only [hm0, cond_false, hi1]
              obtain ⟨w, af2, t1, t2, t3, t4⟩ := ihf mid p.2.1 (i + 1) af1 (by omega) (by omega) (by omega) (by omega) s6 (fun h12 => by
                have h := fun hh => hc2 ⟨h12, hh⟩
                have hl := hlast h12
                omega) s3
              refine ⟨w, af2, t1, t2, t3, ?_⟩
              rcases t4 with h | ⟨nx, h1, h2, h3, h4, h5⟩
              · exact .inl h
              · have hmn := (PartsR_mono (S' := fun _ _ => True) (Sub_lt d) _ _ _ _ (fun _ _ _ _ _ => trivial) h2).2
                refine .inr ⟨nx, h1, ?_, h3, h4, fun j hj hja => ?_⟩
                · rw [show (M - i).toNat = (M - (i + 1)).toNat + 1 by omega]
                  refine ⟨p, mid, hp2, fun h9 => ?_, fun h12 => ?_, Sub_frame d pos mid (fun j hj1 hj2 => h5 j (.inl hj2) (by omega)) s5, h2⟩
                  · constructor
                    · exact Classical.byContradiction fun hh => hc1 ⟨h9, .inl hh⟩
                    · exact Classical.byContradiction fun hh => hc1 ⟨h9, .inr hh⟩
                  · exact Classical.byContradiction fun hh => hc2 ⟨h12, hh⟩
                · rw [h5 j (by omega) hja, s7 j (by omega)]
    · simp only [decide_eq_false hlt, cond_false]
      obtain ⟨y, hy1, hy2⟩ := rdL_some (xs := af) (i := (at_ : Int)) (by omega) (by omega)
      simp only [hy1, Option.bind_some]
      refine ⟨_, _, rfl, rfl, by simpa using haf, .inr ⟨pos, rfl, ?_, hpl, ?_, fun j _ hj => ?_⟩⟩
      · rw [show (M - i).toNat = 0 by omega]
        rfl
      · simp [List.getElem?_set, haf, hat]
      · simp [List.getElem?_set]
        intro h; omega

theorem check (k : Nat) (hk : 2000 ≤ k) (l : List TNode) (hl : l.length ≤ 1500) (hw : ∀ n, n ∈ l → WfN n) : ∀ (d D deep at_ : Nat) (af : List Int), d + deep = 13 → d < D → af.length = l.length →
      ∃ v af', spec_l4Check.rec k D l (at_ : Int) (deep : Int) = some v ∧ impl_tree_measure.rec k D (at_ : Int) (deep : Int) (true, (l, (), ())) af = some (v, ((l, (), ()), af')) ∧ af'.length = l.length ∧
        (v = -1 ∨ ∃ nx : Nat, v = nx ∧ Sub l af' d at_ nx ∧ nx ≤ l.length ∧ ∀ i, (i < at_ ∨ nx ≤ i) → af'[i]? = af[i]?) := by
  intro d
  induction d with
  | zero =>
    intro D deep at_ af hd hD haf
    obtain ⟨D, rfl⟩ : ∃ m, D = m + 1 := ⟨D - 1, by omega⟩
    obtain rfl : deep = 13 := by omega
    simp only [spec_l4Check.rec, impl_tree_measure.rec, spec_l4Check.b, impl_tree_measure.b, cst, Option.bind_some, show decide (((13 : Nat) : Int) > 12) = true from rfl, Bool.or_true, cond_true]
    exact ⟨_, _, rfl, rfl, haf, .inl rfl⟩
  | succ d ih =>
    intro D deep at_ af hd hD haf
    obtain ⟨D, rfl⟩ : ∃ m, D = m + 1 := ⟨D - 1, by omega⟩
    simp only [spec_l4Check.rec, impl_tree_measure.rec, spec_l4Check.b, impl_tree_measure.b, cst, Option.bind_some, cond_true]
    by_cases hat : (at_ : Int) ≥ (l.length : Int)
    · simp only [decide_eq_true hat, Bool.true_or, cond_true, Option.bind_some]
      exact ⟨_, _, rfl, rfl, haf, .inl rfl⟩
    · obtain ⟨n, hn1, hn2⟩ := rdL_some (xs := l) (i := (at_ : Int)) (by omega) (by omega)
      have hn2 : l[at_]? = some n := by simpa using hn2
      have hdd : decide ((deep : Int) > 12) = false := decide_eq_false (by omega)
      simp only [decide_eq_false hat, hdd, Bool.false_or, cond_false, hn1, Option.bind_some, plain_eq, nodeOk_eq]
      cases hok : nok n with
      | false =>
        simp only [Bool.not_false, cond_true]
        exact ⟨_, _, rfl, rfl, haf, .inl rfl⟩
      | true =>
        simp only [Bool.not_true, cond_false]
        have hwn := hw n (List.mem_of_getElem? hn2)
        have hM0 : 0 ≤ n.2.2.2.2.1 := by
          unfold nok at hok
          repeat' split at hok
          all_goals simp only [Bool.and_eq_true, beq_iff_eq, decide_eq_true_eq, Bool.or_eq_true] at hok
          all_goals omega
        have ha1 : IntKind.wrap .i64 ((at_ : Int) + 1) = ((at_ + 1 : Nat) : Int) := by rw [w64 (by omega) (by omega)]; omega
        rw [ha1]
        obtain ⟨v, af', t1, t2, t3, t4⟩ := checkLoop k l hl d D deep (by omega) (fun a af haf => ih D (deep + 1) a af (by omega) (by omega) haf) at_ (by omega) n n.2.2.2.2.1 rfl hwn.2.2.2.1.2 k (at_ + 1) 0 0 af (by omega) (by omega) (by omega) hM0 (by omega) (fun _ => by omega) haf
        refine ⟨v, af', t1, t2, t3, ?_⟩
        rcases t4 with h | ⟨nx, h1, h2, h3, h4, h5⟩
        · exact .inl h
        · refine .inr ⟨nx, h1, ⟨n, hn2, hok, by simpa using h2, h4⟩, h3, fun i hi => ?_⟩
          have := (PartsR_mono (S' := fun _ _ => True) (Sub_lt d) _ _ _ _ (fun _ _ _ _ _ => trivial) h2).2
          exact h5 i (by omega) (by omega)
end Go.Law
