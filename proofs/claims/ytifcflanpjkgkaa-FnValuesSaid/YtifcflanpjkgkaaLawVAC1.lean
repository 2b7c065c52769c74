import Derived.Test.YtifcflanpjkgkaaLawVAC0
import Derived.Test.YtifcflanpjkgkaaVACF0
import Derived.KernelRfl
set_option linter.unnecessarySimpa false
set_option linter.unusedSimpArgs false
set_option linter.unusedVariables false
set_option linter.unusedSectionVars false
section
/- Levels: where a col ends, and how deep a leaf may be. -/
set_option linter.unusedVariables false
set_option linter.unusedSimpArgs false
set_option linter.unusedSectionVars false
namespace Go.Law
open Go.Am Go.Fn

/-- within a col each place is a col, and ends there -/
theorem sub_at {s : List TCol} : ∀ (d : Nat) (a nx : Nat), SubC s d a nx → ∀ t, a ≤ t → t < nx → ∃ nx', SubC s d t nx' ∧ nx' ≤ nx
  | 0, _, _, h, _, _, _ => h.elim
  | d + 1, a, nx, h, t, h1, h2 => by
    rcases Nat.eq_or_lt_of_le h1 with rfl | h1
    · exact ⟨nx, h, Nat.le_refl _⟩
    · obtain ⟨c, _, _, _, hp⟩ := h
      have key : ∀ (m pl : Nat) (names : List ByteArray), PartsC (SubC s d) s m pl names nx → pl ≤ t → ∃ nx', SubC s d t nx' ∧ nx' ≤ nx := by
        intro m
        induction m with
        | zero =>
          intro pl names hp ht
          have hp : pl = nx := hp
          omega
        | succ m ih =>
          intro pl names hp ht
          obtain ⟨q, mid, q1, q2, q3, q4⟩ := hp
          have hmn := PartsC_nx (SubC_lt d) _ _ _ _ q4
          rcases Nat.lt_or_ge t mid with h | h
          · obtain ⟨nx', e1, e2⟩ := sub_at d pl mid q3 t ht h
            exact ⟨nx', e1, by omega⟩
          · exact ih mid _ q4 h
      obtain ⟨nx', e1, e2⟩ := key _ _ _ hp (by omega)
      exact ⟨nx', SubC_up d e1, e2⟩
where
  SubC_up : ∀ {s : List TCol} (d : Nat) {a b : Nat}, SubC s d a b → SubC s (d + 1) a b
  | _, 0, _, _, h => h.elim
  | s, d + 1, a, b, ⟨c, h1, h2, h3, h4⟩ => ⟨c, h1, h2, h3, PartsC_mono (fun x y h => SubC_up d h) _ _ _ _ h4⟩
  PartsC_mono {S T : Nat → Nat → Prop} {s : List TCol} (h : ∀ a b, S a b → T a b) : ∀ (m pos : Nat) (names : List ByteArray) (nx : Nat), PartsC S s m pos names nx → PartsC T s m pos names nx
  | 0, _, _, _, hp => hp
  | m + 1, _, _, _, ⟨q, mid, q1, q2, q3, q4⟩ => ⟨q, mid, q1, q2, h _ _ q3, PartsC_mono h m _ _ _ q4⟩

/-- where a col ends -/
def colEnd (s : List TCol) (t : Nat) : Nat := endC s 6 t
theorem colEnd_eq {s : List TCol} {d a b : Nat} (hd : d ≤ 6) (h : SubC s d a b) : colEnd s a = b := endC_eq d h 6 hd
theorem colEnd_in {s : List TCol} {d a nx : Nat} (hd : d ≤ 6) (h : SubC s d a nx) {t : Nat} (h1 : a ≤ t) (h2 : t < nx) : t < colEnd s t ∧ colEnd s t ≤ nx := by
  obtain ⟨nx', e1, e2⟩ := sub_at d a nx h t h1 h2
  rw [colEnd_eq hd e1]
  exact ⟨SubC_lt _ _ _ e1, e2⟩

/-- the cols of a row of places that are not there for sure, on the way to a place -/
def dlv (s : List TCol) (f : TCol → Bool) (L : Nat) : Nat → Nat → Nat
  | 0, _ => 0
  | n + 1, t => (match s[t]? with
    | none => 0
    | some c => if L < colEnd s t ∧ f c = true then 1 else 0) + dlv s f L n (t + 1)
theorem dlv_le (s : List TCol) (f : TCol → Bool) (L : Nat) : ∀ n t, dlv s f L n t ≤ n
  | 0, _ => Nat.le_refl _
  | n + 1, t => by
    have := dlv_le s f L n (t + 1)
    simp only [dlv]
    split
    · omega
    · split <;> omega
theorem dlv_skip (s : List TCol) (f : TCol → Bool) (L : Nat) : ∀ (m n t : Nat), (∀ u, t ≤ u → u < t + m → colEnd s u ≤ L) → dlv s f L (m + n) t = dlv s f L n (t + m)
  | 0, n, t, _ => by simp
  | m + 1, n, t, h => by
    have h1 := h t (Nat.le_refl _) (by omega)
    have := dlv_skip s f L m n (t + 1) (fun u h2 h3 => h u (by omega) (by omega))
    rw [show m + 1 + n = (m + n) + 1 by omega]
    simp only [dlv]
    rw [this, show t + 1 + m = t + (m + 1) by omega]
    cases s[t]? with
    | none => simp
    | some c => simp only; rw [if_neg (by omega), Nat.zero_add]

/-- how many cols from a place on, on the way to a leaf, may be missing -/
def lvD (s : List TCol) (f : TCol → Bool) (a L : Nat) : Nat := dlv s f L (L + 1 - a) a
def isOpt (c : TCol) : Bool := c.2.2.1 != 0
def isRep (c : TCol) : Bool := c.2.2.1 == 2

theorem lvD_self (s : List TCol) (f : TCol → Bool) (a : Nat) : lvD s f (a + 1) a = 0 := by
  unfold lvD
  rw [show a + 1 - (a + 1) = 0 by omega]; rfl
theorem lvD_cons {s : List TCol} {f : TCol → Bool} {a L : Nat} {c : TCol} (hc : s[a]? = some c) (h1 : a ≤ L) (h2 : L < colEnd s a) : lvD s f a L = (if f c = true then 1 else 0) + lvD s f (a + 1) L := by
  unfold lvD
  rw [show L + 1 - a = (L + 1 - (a + 1)) + 1 by omega]
  simp only [dlv, hc]
  by_cases h : f c = true
  · rw [if_pos ⟨h2, h⟩, if_pos h]
  · rw [if_neg (fun q => h q.2), if_neg h]
theorem lvD_skip {s : List TCol} {f : TCol → Bool} {a b L : Nat} (hab : a ≤ b) (h1 : b ≤ L) (h : ∀ u, a ≤ u → u < b → colEnd s u ≤ L) : lvD s f a L = lvD s f b L := by
  unfold lvD
  rw [show L + 1 - a = (b - a) + (L + 1 - b) by omega, dlv_skip s f L (b - a) _ a (fun u h2 h3 => h u h2 (by omega)), show a + (b - a) = b by omega]

/-- what is come to stands where it should, as deep as it should -/
structure EvOk (s : List TCol) (a nx : Nat) (def_ : Int) (e : Ev) : Prop where
  lo : a ≤ e.at_
  hi : e.at_ < nx
  ge : def_ ≤ e.def_
  yes : e.leaf = true → e.def_ = def_ + (lvD s isOpt (a + 1) e.at_ : Nat)
  no : e.leaf = false → e.def_ < def_ + (lvD s isOpt (a + 1) e.at_ : Nat)

def EvOks (s : List TCol) (a nx : Nat) (def_ : Int) (r : EvR) : Prop := ∀ X W, r = some (X, W) → ∀ e, e ∈ X → EvOk s a nx def_ e

theorem miss_mem {s : List TCol} {rep def_ : Int} : ∀ (n i : Nat) (e : Ev), e ∈ miss s rep def_ n i → i ≤ e.at_ ∧ e.at_ < i + n ∧ e.leaf = false ∧ e.rep = rep ∧ e.def_ = def_ ∧ e.v = zv
  | 0, i, e, h => by cases h
  | n + 1, i, e, h => by
    simp only [miss, List.mem_append] at h
    rcases h with h | h
    · cases hc : s[i]? with
      | none => rw [hc] at h; cases h
      | some c =>
        rw [hc] at h
        simp only at h
        split at h
        · cases h
        · rw [List.mem_singleton] at h
          subst h
          exact ⟨Nat.le_refl _, by simp, rfl, rfl, rfl, rfl⟩
    · obtain ⟨h1, h2, h3⟩ := miss_mem n (i + 1) e h
      exact ⟨by omega, by omega, h3⟩

theorem evItems_mem {F : List TVal → EvR} {P : Ev → Prop} (h : ∀ V X W, F V = some (X, W) → ∀ e, e ∈ X → P e) : ∀ (m : Nat) (V : List TVal) (X : List Ev) (W : List TVal), evItems F m V = some (X, W) → ∀ e, e ∈ X → P e
  | 0, V, X, W, he, e, hm => by
    simp only [evItems, Option.some.injEq, Prod.mk.injEq] at he
    obtain ⟨rfl, rfl⟩ := he
    cases hm
  | m + 1, V, X, W, he, e, hm => by
    simp only [evItems] at he
    obtain ⟨x, y, U, h1, h2, rfl⟩ := evPair_some he
    rcases List.mem_append.1 hm with hm | hm
    · exact h _ _ _ h1 e hm
    · exact evItems_mem h m U y W h2 e hm

theorem evPart_ok {s : List TCol} {d pl mid : Nat} (hd : d ≤ 6) (hs : SubC s d pl mid) {C : Int → Int → Int → List TVal → EvR} (hC : ∀ rep def_ deep V, EvOks s pl mid def_ (C rep def_ deep V)) (rep def_ deep : Int) (V : List TVal) (X : List Ev) (W : List TVal)
    (he : evPart s C mid pl rep def_ deep V = some (X, W)) (e : Ev) (hm : e ∈ X) : pl ≤ e.at_ ∧ e.at_ < mid ∧ def_ ≤ e.def_ ∧ (e.leaf = true → e.def_ = def_ + (lvD s isOpt pl e.at_ : Nat)) ∧ (e.leaf = false → e.def_ < def_ + (lvD s isOpt pl e.at_ : Nat)) := by
  have hend := colEnd_eq hd hs
  have hlt := SubC_lt _ _ _ hs
  unfold evPart at he
  have fin : ∀ (c : TCol) (dd : Int), s[pl]? = some c → dd = def_ + (if isOpt c = true then 1 else 0 : Nat) → EvOk s pl mid dd e → pl ≤ e.at_ ∧ e.at_ < mid ∧ def_ ≤ e.def_ ∧ (e.leaf = true → e.def_ = def_ + (lvD s isOpt pl e.at_ : Nat)) ∧ (e.leaf = false → e.def_ < def_ + (lvD s isOpt pl e.at_ : Nat)) := by
    intro c dd hc hdd h
    have hcons := lvD_cons (f := isOpt) hc h.lo (by rw [hend]; exact h.hi)
    refine ⟨h.lo, h.hi, ?_, fun hl => ?_, fun hl => ?_⟩
    · have := h.ge; omega
    · rw [h.yes hl, hcons, hdd]; omega
    · have := h.no hl; rw [hcons]; omega
  split at he
  · cases he
  · rename_i c hc
    have miss_ : isOpt c = true → ∀ U, some (miss s rep def_ (mid - pl) pl, U) = some (X, W) → pl ≤ e.at_ ∧ e.at_ < mid ∧ def_ ≤ e.def_ ∧ (e.leaf = true → e.def_ = def_ + (lvD s isOpt pl e.at_ : Nat)) ∧ (e.leaf = false → e.def_ < def_ + (lvD s isOpt pl e.at_ : Nat)) := by
      intro ho U he
      simp only [Option.some.injEq, Prod.mk.injEq] at he
      obtain ⟨rfl, rfl⟩ := he
      obtain ⟨m1, m2, m3, _, m5, _⟩ := miss_mem _ _ _ hm
      have hcons := lvD_cons (f := isOpt) hc m1 (by rw [hend]; omega)
      rw [if_pos ho] at hcons
      exact ⟨m1, by omega, by omega, fun hl => (by rw [m3] at hl; cases hl), fun _ => by omega⟩
    split at he
    · rename_i h0
      refine fin c def_ hc ?_ (hC _ _ _ _ X W he e hm)
      have : isOpt c = false := by simp [isOpt, h0]
      rw [this]; simp
    · rename_i h0
      have ho : isOpt c = true := by simp [isOpt, h0]
      split at he
      · cases he
      · split at he
        · split at he
          · cases he
          · split at he
            · exact miss_ ho _ he
            · obtain ⟨x, y, U, h1, h2, rfl⟩ := evPair_some he
              refine fin c (def_ + 1) hc (by rw [if_pos ho]; rfl) ?_
              rcases List.mem_append.1 hm with hm | hm
              · exact hC _ _ _ _ x U h1 e hm
              · exact evItems_mem (fun V X W => hC _ _ _ V X W) _ _ _ _ h2 e hm
        · split at he
          · cases he
          · split at he
            · exact miss_ ho _ he
            · exact fin c (def_ + 1) hc (by rw [if_pos ho]; rfl) (hC _ _ _ _ X W he e hm)

theorem evC_ok {s : List TCol} : ∀ (d a nx : Nat), d ≤ 6 → SubC s d a nx → ∀ (rep def_ deep : Int) (V : List TVal), EvOks s a nx def_ (evC s d a rep def_ deep V)
  | 0, _, _, _, h, _, _, _, _ => h.elim
  | d + 1, a, nx, hd, h, rep, def_, deep, V => by
    intro X W he e hm
    have hlt := SubC_lt _ _ _ h
    have hsub := h
    obtain ⟨c, hc, hco, _, hp⟩ := h
    simp only [evC, hc] at he
    split at he
    · rename_i h7
      have key : ∀ (m pl : Nat) (names : List ByteArray) (V : List TVal) (X : List Ev) (W : List TVal), PartsC (SubC s d) s m pl names nx → a + 1 ≤ pl → (∀ u, a + 1 ≤ u → u < pl → colEnd s u ≤ pl) → evParts (fun a V => evPart s (evC s d a) (endC s d a) a rep def_ deep V) (endC s d) m pl V = some (X, W) →
          ∀ e, e ∈ X → pl ≤ e.at_ ∧ e.at_ < nx ∧ def_ ≤ e.def_ ∧ (e.leaf = true → e.def_ = def_ + (lvD s isOpt (a + 1) e.at_ : Nat)) ∧ (e.leaf = false → e.def_ < def_ + (lvD s isOpt (a + 1) e.at_ : Nat)) := by
        intro m
        induction m with
        | zero =>
          intro pl names V X W hp h1 h2 he e hm
          simp only [evParts, Option.some.injEq, Prod.mk.injEq] at he
          obtain ⟨rfl, rfl⟩ := he
          cases hm
        | succ m ih =>
          intro pl names V X W hp h1 h2 he e hm
          obtain ⟨q, mid, q1, q2, q3, q4⟩ := hp
          have hmn := PartsC_nx (SubC_lt d) _ _ _ _ q4
          have hlt' := SubC_lt _ _ _ q3
          have hend : endC s d pl = mid := endC_eq d q3 d (Nat.le_refl _)
          simp only [evParts] at he
          obtain ⟨x, y, U, g1, g2, rfl⟩ := evPair_some he
          rw [hend] at g1 g2
          have h3 : ∀ u, a + 1 ≤ u → u < mid → colEnd s u ≤ mid := fun u u1 u2 => by
            rcases Nat.lt_or_ge u pl with u3 | u3
            · have := h2 u u1 u3; omega
            · exact (colEnd_in (by omega) q3 u3 u2).2
          rcases List.mem_append.1 hm with hm | hm
          · obtain ⟨r1, r2, r3, r4, r5⟩ := evPart_ok (by omega) q3 (fun rep def_ deep V => evC_ok d pl mid (by omega) q3 rep def_ deep V) rep def_ deep V x U g1 e hm
            have hsk := lvD_skip (s := s) (f := isOpt) h1 r1 (fun u u1 u2 => by have := h2 u u1 u2; omega)
            exact ⟨r1, by omega, r3, fun hl => by rw [r4 hl, hsk], fun hl => by rw [hsk]; exact r5 hl⟩
          · obtain ⟨r1, r2, r3⟩ := ih mid _ U y W q4 (by omega) h3 g2 e hm
            exact ⟨by omega, r2, r3⟩
      obtain ⟨r1, r2, r3, r4, r5⟩ := key _ _ _ _ _ _ hp (Nat.le_refl _) (fun u u1 u2 => by omega) he e hm
      exact ⟨by omega, r2, r3, r4, r5⟩
    · split at he
      · cases he
      · split at he
        · simp only [Option.some.injEq, Prod.mk.injEq] at he
          obtain ⟨rfl, rfl⟩ := he
          rw [List.mem_singleton] at hm
          subst hm
          refine ⟨Nat.le_refl _, hlt, Int.le_refl _, fun _ => ?_, fun hl => by cases hl⟩
          rw [lvD_self]; simp
        · cases he

theorem recEv_ok {s : List TCol} (hS : IsSchema s) {V : List TVal} {X : List Ev} (h : recEv s V = some X) : ∀ e, e ∈ X → EvOk s 0 s.length 0 e :=
  evC_ok 6 0 s.length (by omega) hS.2.2.1 0 0 0 V X [] (recEv_some h).2

end Go.Law
end

section
/- How deep a leaf may be: both tell it. -/
set_option linter.unusedVariables false
set_option linter.unusedSimpArgs false
set_option linter.unusedSectionVars false
namespace Go.Law
open Go.Am Go.Fn

/-- the way to a place -/
def wayL (s : List TCol) (L : Nat) : Nat → Nat → List Int
  | 0, _ => []
  | n + 1, t => (if L < colEnd s t then [(t : Int)] else []) ++ wayL s L n (t + 1)
theorem wayL_len (s : List TCol) (L : Nat) : ∀ n t, (wayL s L n t).length ≤ n
  | 0, _ => Nat.le_refl _
  | n + 1, t => by
    have := wayL_len s L n (t + 1)
    simp only [wayL, List.length_append]
    split <;> simp <;> omega
theorem wayL_skip (s : List TCol) (L : Nat) : ∀ (m n t : Nat), (∀ u, t ≤ u → u < t + m → colEnd s u ≤ L) → wayL s L (m + n) t = wayL s L n (t + m)
  | 0, n, t, _ => by simp
  | m + 1, n, t, h => by
    have h1 := h t (Nat.le_refl _) (by omega)
    have := wayL_skip s L m n (t + 1) (fun u h2 h3 => h u (by omega) (by omega))
    rw [show m + 1 + n = (m + n) + 1 by omega]
    simp only [wayL]
    rw [this, show t + 1 + m = t + (m + 1) by omega, if_neg (by omega), List.nil_append]

section
variable (k : Nat) (s : List TCol) (hS : IsSchema s) (hn : ∀ c, c ∈ s → c.1.size < k ∧ c.1.size < 1000000000 ∧ I64 c.2.2.2.1) (hk : 2000000 ≤ k)
include hS hn hk

theorem colEnd_after (t : Nat) (ht : t < s.length) : t < colEnd s t ∧ colEnd s t ≤ s.length ∧ spec_l5After k s (t : Int) = some (colEnd s t : Int) ∧ impl_colAfter k s (t : Int) 1 = some (colEnd s t : Int) := by
  obtain ⟨nx', e1, e2⟩ := sub_at 6 0 s.length hS.2.2.1 t (Nat.zero_le _) ht
  have e3 := colEnd_eq (Nat.le_refl _) e1
  rw [e3]
  exact ⟨SubC_lt _ _ _ e1, e2, l5After_sub k s hS.2.1 hn (by omega) e1 (Nat.le_refl _) e2, colAfter_sub k s hS.2.1 hn (by omega) e1 (Nat.le_refl _) e2⟩

theorem sway_eq (L : Nat) (hL : L < s.length) : spec_l5Way k s (L : Int) = some ((), wayL s L (L + 1) 0) := by
  have hs20 := hS.2.1
  have key : ∀ (n t f : Nat) (o : List Int), t + n = L + 1 → n < f → o.length ≤ t → spec_l5Way.l3 k f s (L : Int) (t : Int) o = some ((), o ++ wayL s L n t) := by
    intro n
    induction n with
    | zero =>
      intro t f o h hf ho
      obtain ⟨f, rfl⟩ : ∃ q, f = q + 1 := ⟨f - 1, by omega⟩
      simp only [spec_l5Way.l3, decide_eq_false (show ¬ ((t : Int) ≤ (L : Int)) by omega), cond_false, wayL, List.append_nil]
    | succ n ih =>
      intro t f o h hf ho
      obtain ⟨f, rfl⟩ : ∃ q, f = q + 1 := ⟨f - 1, by omega⟩
      obtain ⟨a1, a2, a3, _⟩ := colEnd_after k s hS hn hk t (by omega)
      have ht1 : IntKind.wrap .i64 ((t : Int) + 1) = ((t + 1 : Nat) : Int) := by rw [w64 (by omega) (by omega)]; omega
      simp only [spec_l5Way.l3, decide_eq_true (show (t : Int) ≤ (L : Int) by omega), cond_true, a3, Option.bind_some, spec_l5Way.c4, ht1, wayL]
      by_cases h1 : L < colEnd s t
      · rw [decide_eq_true (show (colEnd s t : Int) > (L : Int) by omega), cond_true, lim_ok (by simp; omega), cond_true, if_pos h1, ih (t + 1) f _ (by omega) (by omega) (by simp; omega)]
        simp
      · rw [decide_eq_false (show ¬ (colEnd s t : Int) > (L : Int) by omega), cond_false, if_neg h1, ih (t + 1) f _ (by omega) (by omega) (by omega)]
        simp
  have := key (L + 1) 0 k [] (by omega) (by omega) (by simp)
  exact this

/-- levels by the way -/
theorem smax_eq (f1 f2 : Int) (L : Nat) (hL : L < s.length) : ∀ (n t f : Nat) (pre : List Int) (x y : Nat), t + n = L + 1 → n < f → x ≤ t → y ≤ t → pre.length ≤ t →
    spec_l5Max.l4 k f s (x : Int) (y : Int) (pre.length : Int) (pre ++ wayL s L n t) = some (((x + dlv s isOpt L n t : Nat) : Int), ((y + dlv s isRep L n t : Nat) : Int)) ∧
    impl_LeafMax.l6 k f s (x : Int) (y : Int) ((pre ++ wayL s L n t).length : Int) (pre.length : Int) (pre ++ wayL s L n t) = some (((x + dlv s isOpt L n t : Nat) : Int), ((y + dlv s isRep L n t : Nat) : Int)) := by
  have hs20 := hS.2.1
  intro n
  induction n with
  | zero =>
    intro t f pre x y h hf hx hy hp
    obtain ⟨f, rfl⟩ : ∃ q, f = q + 1 := ⟨f - 1, by omega⟩
    simp only [spec_l5Max.l4, impl_LeafMax.l6, wayL, List.append_nil, decide_eq_false (show ¬ ((pre.length : Int) < (pre.length : Int)) by omega), cond_false, dlv, Nat.add_zero]
    exact ⟨trivial, trivial⟩
  | succ n ih =>
    intro t f pre x y h hf hx hy hp
    have hc := List.getElem?_eq_getElem (show t < s.length by omega)
    generalize s[t] = c at hc
    by_cases h1 : L < colEnd s t
    · obtain ⟨f, rfl⟩ : ∃ q, f = q + 1 := ⟨f - 1, by omega⟩
      have hi1 : IntKind.wrap .i64 ((pre.length : Int) + 1) = ((pre.length + 1 : Nat) : Int) := by rw [w64 (by omega) (by omega)]; omega
      have hx1 : IntKind.wrap .i64 ((x : Int) + 1) = ((x + 1 : Nat) : Int) := by rw [w64 (by omega) (by omega)]; omega
      have hy1 : IntKind.wrap .i64 ((y : Int) + 1) = ((y + 1 : Nat) : Int) := by rw [w64 (by omega) (by omega)]; omega
      simp only [wayL]
      rw [if_pos h1, List.singleton_append]
      have dT : ∀ g : TCol → Bool, g c = true → dlv s g L (n + 1) t = 1 + dlv s g L n (t + 1) := fun g hg => by simp only [dlv, hc]; rw [if_pos ⟨h1, hg⟩]
      have dF : ∀ g : TCol → Bool, g c = false → dlv s g L (n + 1) t = dlv s g L n (t + 1) := fun g hg => by simp only [dlv, hc]; rw [if_neg (fun q => by rw [hg] at q; cases q.2), Nat.zero_add]
      have hg := getMid pre (wayL s L n (t + 1)) (t : Int)
      have hlt : (pre.length : Int) < ((pre ++ (t : Int) :: wayL s L n (t + 1)).length : Int) := by simp; omega
      simp only [spec_l5Max.l4, impl_LeafMax.l6, decide_eq_true hlt, cond_true, hg, Option.bind_some, rdL_nat, hc, spec_l5Max.c8, impl_LeafMax.c10, spec_l5Max.c5, impl_LeafMax.c12, hi1, hx1, hy1]
      have ih' := fun x y hx hy => ih (t + 1) f (pre ++ [(t : Int)]) x y (by omega) (by omega) hx hy (by simp; omega)
      simp only [List.append_assoc, List.singleton_append, List.length_append, List.length_singleton] at ih'
      simp only [List.length_append]
      by_cases ho : c.2.2.1 = 0
      · have hr : ¬ c.2.2.1 = 2 := by omega
        have i1 : isOpt c = false := by simp [isOpt, ho]
        have i2 : isRep c = false := by simp [isRep, ho]
        rw [bneF ho, cond_false, cond_false, beqF hr, cond_false, cond_false, dF _ i1, dF _ i2]
        exact ih' x y (by omega) (by omega)
      · have i1 : isOpt c = true := by simp [isOpt, ho]
        by_cases hr : c.2.2.1 = 2
        · have i2 : isRep c = true := by simp [isRep, hr]
          rw [bneT ho, cond_true, cond_true, beqT hr, cond_true, cond_true, dT _ i1, dT _ i2]
          have := ih' (x + 1) (y + 1) (by omega) (by omega)
          rw [show x + (1 + dlv s isOpt L n (t + 1)) = x + 1 + dlv s isOpt L n (t + 1) by omega, show y + (1 + dlv s isRep L n (t + 1)) = y + 1 + dlv s isRep L n (t + 1) by omega]
          exact this
        · have i2 : isRep c = false := by simp [isRep, hr]
          rw [bneT ho, cond_true, cond_true, beqF hr, cond_false, cond_false, dT _ i1, dF _ i2]
          have := ih' (x + 1) y (by omega) (by omega)
          rw [show x + (1 + dlv s isOpt L n (t + 1)) = x + 1 + dlv s isOpt L n (t + 1) by omega]
          exact this
    · have e1 : wayL s L (n + 1) t = wayL s L n (t + 1) := by simp only [wayL]; rw [if_neg h1, List.nil_append]
      have e2 : ∀ g, dlv s g L (n + 1) t = dlv s g L n (t + 1) := fun g => by simp only [dlv, hc]; rw [if_neg (fun q => h1 q.1), Nat.zero_add]
      rw [e1, e2, e2]
      exact ih (t + 1) f pre x y (by omega) (by omega) (by omega) (by omega) (by omega)

theorem iway_loop (lv : List Int) (j : Int) (L : Nat) (hj : rdL lv j = some (L : Int)) (hL : L < s.length) : ∀ (N n t f : Nat) (o : List Int), n ≤ N → t + n = L + 1 → n < f → o.length ≤ t →
    impl_wayTo.l6 k f s j (t : Int) lv o = some ((), o ++ wayL s L n t) := by
  have hs20 := hS.2.1
  intro N
  induction N with
  | zero =>
    intro n t f o hN h hf ho
    obtain ⟨f, rfl⟩ : ∃ q, f = q + 1 := ⟨f - 1, by omega⟩
    have hn0 : n = 0 := by omega
    subst hn0
    simp only [impl_wayTo.l6, hj, Option.bind_some, decide_eq_false (show ¬ ((t : Int) ≤ (L : Int)) by omega), cond_false, wayL, List.append_nil]
  | succ N ih =>
    intro n t f o hN h hf ho
    obtain ⟨f, rfl⟩ : ∃ q, f = q + 1 := ⟨f - 1, by omega⟩
    cases n with
    | zero => simp only [impl_wayTo.l6, hj, Option.bind_some, decide_eq_false (show ¬ ((t : Int) ≤ (L : Int)) by omega), cond_false, wayL, List.append_nil]
    | succ n =>
      obtain ⟨a1, a2, _, a4⟩ := colEnd_after k s hS hn hk t (by omega)
      have ht1 : IntKind.wrap .i64 ((t : Int) + 1) = ((t + 1 : Nat) : Int) := by rw [w64 (by omega) (by omega)]; omega
      simp only [impl_wayTo.l6, hj, Option.bind_some, decide_eq_true (show (t : Int) ≤ (L : Int) by omega), cond_true, a4, ht1]
      by_cases h1 : L < colEnd s t
      · rw [decide_eq_true (show (colEnd s t : Int) > (L : Int) by omega), cond_true, lim_ok (by simp; omega), cond_true, ih n (t + 1) f _ (by omega) (by omega) (by omega) (by simp; omega)]
        simp only [wayL]
        rw [if_pos h1]
        simp
      · rw [decide_eq_false (show ¬ (colEnd s t : Int) > (L : Int) by omega), cond_false]
        obtain ⟨nx', e1, e2⟩ := sub_at 6 0 s.length hS.2.2.1 t (Nat.zero_le _) (by omega)
        have e3 := colEnd_eq (Nat.le_refl _) e1
        have hsk := wayL_skip s L (colEnd s t - t) (n + 1 - (colEnd s t - t)) t (fun u u1 u2 => by
          have := (colEnd_in (Nat.le_refl _) e1 u1 (by omega)).2; omega)
        rw [show colEnd s t - t + (n + 1 - (colEnd s t - t)) = n + 1 by omega, show t + (colEnd s t - t) = colEnd s t by omega] at hsk
        rw [hsk]
        exact ih _ _ f o (by omega) (by omega) (by omega) (by omega)

/-- levels of a leaf, told by both -/
theorem leafMax_eq (hok : spec_SchemaOk k s = some true) (hok2 : impl_SchemaOk k s = some true) (j : Int) :
    (∃ L c, rdL (leavesFrom 0 s) j = some ((L : Nat) : Int) ∧ 0 ≤ j ∧ j < ((leavesFrom 0 s).length : Int) ∧ 1 ≤ L ∧ s[L]? = some c ∧ c.2.1 ≠ 7 ∧ j = (lnum s L : Int) ∧
      spec_LeafMax k s j = some ((lvD s isOpt 1 L : Int), (lvD s isRep 1 L : Int)) ∧ impl_LeafMax k s j = some ((lvD s isOpt 1 L : Int), (lvD s isRep 1 L : Int)) ∧ spec_l5Max k s (L : Int) = some ((lvD s isOpt 1 L : Int), (lvD s isRep 1 L : Int))) ∨
    (¬ (0 ≤ j ∧ j < ((leavesFrom 0 s).length : Int)) ∧ spec_LeafMax k s j = some (-1, -1) ∧ impl_LeafMax k s j = some (-1, -1)) := by
  obtain ⟨v1, v2⟩ := leaves_eq k (by omega) s (by have := hS.2.1; omega)
  have hs20 := hS.2.1
  have hll := leavesFrom_len 0 s
  obtain ⟨c0, hc0, h70, _⟩ := schema_top hS
  have hrep0 : c0.2.2.1 = 0 := by
    obtain ⟨_, _, _, c, e1, _, e2, _⟩ := hS
    rw [hc0] at e1
    cases e1
    exact e2
  unfold spec_LeafMax impl_LeafMax impl_wayTo spec_SchemaLeaves impl_SchemaLeaves
  rw [hok, hok2]
  simp only [Option.bind_some, cond_true, cond_false, Bool.not_true, v1, v2, l1In_eq, within_eq]
  generalize hlv : leavesFrom 0 s = lv at hll
  rw [w64 (show -9223372036854775808 ≤ (lv.length : Int) - 1 by omega) (by omega)]
  by_cases hin : 0 ≤ j ∧ j < (lv.length : Int)
  · left
    have hw : (decide (0 ≤ j) && decide (j ≤ (lv.length : Int) - 1)) = true := by simp; omega
    obtain ⟨n, rfl⟩ := Int.eq_ofNat_of_zero_le hin.1
    have hnl : n < lv.length := by omega
    obtain ⟨L, e1, e2, e3, c, e4, e5⟩ := leavesFrom_get s [] s rfl n _ (by rw [show ([] : List TCol).length = 0 from rfl, hlv]; exact List.getElem?_eq_getElem hnl)
    have hg : rdL lv (n : Int) = some (L : Int) := by rw [rdL_nat, List.getElem?_eq_getElem hnl, e1]
    have e3 : lnum s L = 0 + n := e3
    have hL : L < s.length := (List.getElem?_eq_some_iff.1 e4).1
    have hL1 : 1 ≤ L := by
      rcases Nat.eq_zero_or_pos L with h | h
      · subst h
        rw [hc0] at e4
        cases e4
        exact absurd h70 e5
      · exact h
    have hend0 : L < colEnd s 0 := by rw [colEnd_eq (Nat.le_refl _) hS.2.2.1]; exact hL
    have hz : ∀ g : TCol → Bool, g c0 = false → dlv s g L (L + 1) 0 = lvD s g 1 L := fun g hg => by
      simp only [dlv, hc0]
      rw [if_neg (fun q => by rw [hg] at q; cases q.2), Nat.zero_add]
      unfold lvD
      rw [show L + 1 - 1 = L by omega]
    have z1 := hz isOpt (by simp [isOpt, hrep0])
    have z2 := hz isRep (by simp [isRep, hrep0])
    have hmx : spec_l5Max k s (L : Int) = some ((lvD s isOpt 1 L : Int), (lvD s isRep 1 L : Int)) := by
      have h1 := (smax_eq k s hS hn hk 0 0 L hL (L + 1) 0 k [] 0 0 (by omega) (by omega) (by omega) (by omega) (by simp)).1
      rw [z1, z2, Nat.zero_add, Nat.zero_add] at h1
      unfold spec_l5Max
      rw [sway_eq k s hS hn hk L hL]
      exact h1
    refine ⟨L, c, hg, hin.1, hin.2, hL1, e4, e5, by omega, ?_, ?_, hmx⟩
    · rw [hw]
      simp only [Bool.not_true, cond_false, hg, Option.bind_some, hmx]
    · rw [hw]
      simp only [Bool.not_true, cond_false]
      have h1 := iway_loop k s hS hn hk lv (n : Int) L hg hL L L 1 k [] (Nat.le_refl _) (by omega) (by omega) (by simp)
      have h1 : impl_wayTo.l6 k k s (n : Int) 1 lv [] = some ((), wayL s L L 1) := h1
      rw [h1]
      simp only [Option.bind_some]
      have h2 := (smax_eq k s hS hn hk 0 0 L hL L 1 k [] 0 0 (by omega) (by omega) (by omega) (by omega) (by simp)).2
      have hne : ((wayL s L L 1).length : Int) ≠ 0 := by
        have : ∀ n t, t + n = L + 1 → 0 < n → 0 < (wayL s L n t).length := by
          intro n
          induction n with
          | zero => intro t _ h; omega
          | succ n ih =>
            intro t h _
            simp only [wayL, List.length_append]
            rcases Nat.eq_zero_or_pos n with h0 | h0
            · subst h0
              have : t = L := by omega
              subst this
              rw [if_pos (colEnd_after k s hS hn hk t hL).1, List.length_singleton]
              omega
            · have := ih (t + 1) (by omega) h0; omega
        have := this L 1 (by omega) (by omega)
        omega
      rw [beqF hne, cond_false]
      have h2 : impl_LeafMax.l6 k k s 0 0 ((wayL s L L 1).length : Int) 0 (wayL s L L 1) = some (((0 + dlv s isOpt L L 1 : Nat) : Int), ((0 + dlv s isRep L L 1 : Nat) : Int)) := h2
      rw [h2, Nat.zero_add, Nat.zero_add]
      unfold lvD
      rw [show L + 1 - 1 = L by omega]
  · right
    have hw : (decide (0 ≤ j) && decide (j ≤ (lv.length : Int) - 1)) = false := by
      rw [Bool.eq_false_iff]
      intro h
      simp only [Bool.and_eq_true, decide_eq_true_eq] at h
      omega
    rw [hw]
    exact ⟨hin, rfl, rfl⟩
end
end Go.Law
end

section
/- RecValues: both tell what is come to at a leaf. -/
set_option linter.unusedVariables false
set_option linter.unusedSimpArgs false
set_option linter.unusedSectionVars false
namespace Go.Law
open Go.Am Go.Fn

theorem foldl_vals (L : Int) : ∀ (X : List Ev) (acc : List TVal), X.foldl (WV.stp L) acc = acc ++ valsAt L X
  | [], acc => by simp [valsAt]
  | e :: X, acc => by
    rw [List.foldl_cons, foldl_vals L X]
    have e1 : valsAt L (e :: X) = valsAt L [e] ++ valsAt L X := valsAt_append L [e] X
    rw [e1, ← List.append_assoc]
    congr 1
    unfold WV.stp valsAt
    by_cases h : e.leaf = true ∧ (e.at_ : Int) = L
    · rw [if_pos h]; simp [h.1, h.2]
    · rw [if_neg h]
      have : (e.leaf && ((e.at_ : Int) == L)) = false := by
        rw [Bool.eq_false_iff]; intro q
        simp only [Bool.and_eq_true, beq_iff_eq] at q
        exact h q
      simp [this]

/-- values of a leaf, told by both -/
def valsOut (r : Option (List Ev)) (L : Int) : (Unit × Bool) × List TVal := match r with
  | none => (((), false), [])
  | some X => (((), true), valsAt L X)

section
variable (k : Nat) (s : List TCol) (hn : ∀ c, c ∈ s → c.1.size < k ∧ c.1.size < 1000000000 ∧ I64 c.2.2.2.1) (hk : 2000000 ≤ k)
include hn hk

theorem recVals_eq (hS : IsSchema s) (hok : spec_SchemaOk k s = some true) (hok2 : impl_SchemaOk k s = some true) (V : List TVal) (j : Int) :
    (∃ L : Nat, rdL (leavesFrom 0 s) j = some (L : Int) ∧ spec_RecValues k s (V, ()) j = some (valsOut (recEv s V) L) ∧ impl_RecValues k s (V, ()) j = some (valsOut (recEv s V) L)) ∨
    (¬ (0 ≤ j ∧ j < ((leavesFrom 0 s).length : Int)) ∧ spec_RecValues k s (V, ()) j = some (((), false), []) ∧ impl_RecValues k s (V, ()) j = some (((), false), [])) := by
  obtain ⟨v1, v2⟩ := leaves_eq k (by omega) s (by have := hS.2.1; omega)
  have hll := leavesFrom_len 0 s
  have hs20 := hS.2.1
  obtain ⟨c0, hc0, h7, hm0⟩ := schema_top hS
  obtain ⟨b, q1, _, _, q2, _⟩ := recOk_eq k hk s hn V
  have hb : b = true := by rw [hok] at q1; simpa using q1.symm
  subst hb
  unfold spec_RecValues impl_RecValues spec_SchemaLeaves impl_SchemaLeaves
  rw [hok, hok2, q2]
  simp only [Option.bind_some, Bool.not_true, cond_false, v1, v2, l1In_eq, within_eq, Bool.true_and]
  generalize hlv : leavesFrom 0 s = lv at hll
  rw [w64 (show -9223372036854775808 ≤ (lv.length : Int) - 1 by omega) (by omega)]
  by_cases hin : 0 ≤ j ∧ j < (lv.length : Int)
  · left
    have hw : (decide (0 ≤ j) && decide (j ≤ (lv.length : Int) - 1)) = true := by simp; omega
    obtain ⟨n, rfl⟩ := Int.eq_ofNat_of_zero_le hin.1
    have hnl : n < lv.length := by omega
    obtain ⟨L, e1, _, _, c, e4, e5⟩ := leavesFrom_get s [] s rfl n _ (by rw [show ([] : List TCol).length = 0 from rfl, hlv]; exact List.getElem?_eq_getElem hnl)
    have hg : rdL lv (n : Int) = some (L : Int) := by rw [rdL_nat, List.getElem?_eq_getElem hnl, e1]
    refine ⟨L, hg, ?_, ?_⟩
    · rw [hw]
      cases hr : recEv s V with
      | none => rfl
      | some X =>
        obtain ⟨x1, x2⟩ := recEv_some hr
        simp only [Option.isSome_some, Bool.not_true, cond_false, Option.bind_some, hg, svals_whole k s hs20 hn hk V (by omega) L hS.2.2.1 X x2, valsOut]
    · rw [hw]
      have hwalk := WV.walk_ok k s hs20 hn hk lv (n : Int) L hg hS.2.2.1 c0 hc0 h7 hm0 V [] (by unfold WV.P; simp)
      simp only [Bool.not_true, cond_false]
      cases hr : recEv s V with
      | none =>
        obtain ⟨acc', g⟩ := hwalk.2 (recEv_none hr)
        rw [g]; rfl
      | some X =>
        obtain ⟨x1, x2⟩ := recEv_some hr
        rw [hwalk.1 X x1 x2, foldl_vals]
        rfl
  · right
    have hw : (decide (0 ≤ j) && decide (j ≤ (lv.length : Int) - 1)) = false := by
      rw [Bool.eq_false_iff]
      intro h
      simp only [Bool.and_eq_true, decide_eq_true_eq] at h
      omega
    rw [hw]
    refine ⟨hin, ?_, rfl⟩
    cases (recEv s V).isSome <;> rfl
end
end Go.Law
end

section
/- A column of records: what is come to at its leaf. -/
set_option linter.unusedVariables false
set_option linter.unusedSimpArgs false
namespace Go.Law
open Go.Am Go.Fn

abbrev trip (e : Ev) : TTriple := (e.rep, e.def_, e.v, ())
/-- what is come to at a place -/
def evAt (L : Nat) (X : List Ev) : List Ev := X.filter fun e => e.at_ == L
theorem evAt_append (L : Nat) (X Y : List Ev) : evAt L (X ++ Y) = evAt L X ++ evAt L Y := by simp [evAt]
theorem evAt_mem {L : Nat} {X : List Ev} {e : Ev} (h : e ∈ evAt L X) : e ∈ X ∧ e.at_ = L := by
  unfold evAt at h
  rw [List.mem_filter] at h
  exact ⟨h.1, by simpa using h.2⟩
theorem evAt_len (L : Nat) (X : List Ev) : (evAt L X).length ≤ X.length := List.length_filter_le _ _
theorem valsAt_eq (L : Nat) (X : List Ev) : valsAt (L : Int) X = ((evAt L X).filter fun e => e.leaf).map Ev.v := by
  unfold valsAt evAt
  rw [List.filter_filter]
  congr 1
  refine List.filter_congr fun e _ => ?_
  have : ((e.at_ : Int) == (L : Int)) = (e.at_ == L) := by
    by_cases h : e.at_ = L
    · rw [h]; simp
    · rw [beqF (show ¬ ((e.at_ : Int) = (L : Int)) by omega)]
      have : (e.at_ == L) = false := by simpa using h
      rw [this]
  rw [this]

theorem colT {s : List TCol} {L : Nat} {c : TCol} (hc : s[L]? = some c) (h7 : c.2.1 ≠ 7) : ∀ (X : List Ev) (T : TT) (x : List TTriple), evLeaf s X → T[lnum s L]? = some x → (X.foldl (sstp s) T)[lnum s L]? = some (x ++ (evAt L X).map trip)
  | [], T, x, _, h => by simp [evAt, h]
  | e :: X, T, x, hl, h => by
    rw [List.foldl_cons]
    obtain ⟨ce, h1, h2⟩ := hl e (List.mem_cons_self ..)
    have hl' : evLeaf s X := fun e' he' => hl e' (List.mem_cons_of_mem _ he')
    have e1 : evAt L (e :: X) = evAt L [e] ++ evAt L X := evAt_append L [e] X
    by_cases hat : e.at_ = L
    · have hs : (sstp s T e)[lnum s L]? = some (x ++ [trip e]) := by
        unfold sstp
        rw [hat, h]
        simp only
        rw [List.getElem?_set_self (List.getElem?_eq_some_iff.1 h).1]
      rw [colT hc h7 X _ _ hl' hs, e1]
      have : evAt L [e] = [e] := by simp [evAt, hat]
      rw [this]
      simp
    · have hs : (sstp s T e)[lnum s L]? = some x := by
        unfold sstp
        split
        · exact h
        · rw [List.getElem?_set_ne (fun hh => hat (lnum_inj h1 hc h2 h7 hh))]
          exact h
      rw [colT hc h7 X _ _ hl' hs, e1]
      have : evAt L [e] = [] := by simp [evAt, hat]
      rw [this, List.nil_append]

theorem sfold_len (s : List TCol) : ∀ (X : List Ev) (T : TT), (X.foldl (sstp s) T).length = T.length
  | [], T => rfl
  | e :: X, T => by
    rw [List.foldl_cons, sfold_len s X]
    unfold sstp
    split
    · rfl
    · simp

/-- records that are right, in columns -/
theorem recsEv_leaf {s : List TCol} : ∀ (R : List TRec) (X : List Ev), recsEv s R = some X → evLeaf s X
  | [], X, h => by
    simp only [recsEv, Option.some.injEq] at h
    subst h
    exact fun e he => by cases he
  | r :: R, X, h => by
    simp only [recsEv] at h
    split at h
    · cases h
    · rename_i Y hY
      split at h
      · cases h
      · rename_i Z hZ
        simp only [Option.some.injEq] at h
        subst h
        exact evLeaf_append (recEv_leaf hY) (recsEv_leaf R Z hZ)
theorem recsEv_ok {s : List TCol} (hS : IsSchema s) : ∀ (R : List TRec) (X : List Ev), recsEv s R = some X → (∀ e, e ∈ X → EvOk s 0 s.length 0 e) ∧ X.length ≤ 6000 * R.length
  | [], X, h => by
    simp only [recsEv, Option.some.injEq] at h
    subst h
    exact ⟨fun e he => (by cases he), by simp⟩
  | r :: R, X, h => by
    simp only [recsEv] at h
    split at h
    · cases h
    · rename_i Y hY
      split at h
      · cases h
      · rename_i Z hZ
        simp only [Option.some.injEq] at h
        subst h
        obtain ⟨a1, a2⟩ := recsEv_ok hS R Z hZ
        have := recEv_len hS.2.1 hY
        have := (recEv_some hY).1
        refine ⟨fun e he => (List.mem_append.1 he).elim (recEv_ok hS hY e) (a1 e), ?_⟩
        rw [List.length_append, List.length_cons]; omega

theorem shr_some {s : List TCol} {R : List TRec} {T : TT} (h : shr s R = some T) : ∃ X, recsEv s R = some X ∧ T = X.foldl (sstp s) (emptyT s) ∧ T.length = lnum s s.length ∧ ∀ x, x ∈ T → x.length ≤ 2000 := by
  unfold shr at h
  split at h
  · cases h
  · rename_i X hX
    simp only at h
    split at h
    · rename_i hsm
      simp only [Option.some.injEq] at h
      subst h
      refine ⟨X, hX, rfl, ?_, fun x hx => ?_⟩
      · rw [sfold_len]; simp [emptyT]
      · have := List.all_eq_true.1 hsm x hx
        simpa using this
    · cases h

theorem shr_col {s : List TCol} {R : List TRec} {T : TT} {X : List Ev} (h : shr s R = some T) (hX : recsEv s R = some X) {L : Nat} {c : TCol} (hc : s[L]? = some c) (h7 : c.2.1 ≠ 7) : T[lnum s L]? = some ((evAt L X).map trip) := by
  obtain ⟨X', e1, e2, _⟩ := shr_some h
  rw [hX] at e1
  cases e1
  have := colT hc h7 X (emptyT s) [] (recsEv_leaf R X hX) (by
    unfold emptyT
    rw [List.getElem?_replicate, if_pos (lnum_lt hc h7)])
  rw [e2, this, List.nil_append]
end Go.Law
end

section
/- How many values a record has. -/
set_option linter.unusedVariables false
set_option linter.unusedSimpArgs false
set_option linter.unusedSectionVars false
namespace Go.Law
open Go.Am Go.Fn

/-! ### no more values than there are tokens -/
def nLeaf (X : List Ev) : Nat := (X.filter fun e => e.leaf).length
theorem nLeaf_app (X Y : List Ev) : nLeaf (X ++ Y) = nLeaf X + nLeaf Y := by simp [nLeaf]
def EvN (V : List TVal) (r : EvR) : Prop := ∀ X W, r = some (X, W) → nLeaf X + W.length ≤ V.length
theorem EvN.pair {V : List TVal} {a : EvR} {f : List TVal → EvR} (h : EvN V a) (g : ∀ U, EvN U (f U)) : EvN V (evPair a f) := by
  intro X W he
  obtain ⟨x, y, U, h1, h2, rfl⟩ := evPair_some he
  have a1 := h _ _ h1
  have a2 := g U _ _ h2
  rw [nLeaf_app]; omega
theorem EvN.nil (V : List TVal) : EvN V (some ([], V)) := by
  intro X W h
  simp only [Option.some.injEq, Prod.mk.injEq] at h
  obtain ⟨rfl, rfl⟩ := h
  simp [nLeaf]
theorem EvN.parts {F : Nat → List TVal → EvR} {e : Nat → Nat} (h : ∀ a V, EvN V (F a V)) : ∀ (m a : Nat) (V : List TVal), EvN V (evParts F e m a V)
  | 0, _, V => EvN.nil V
  | m + 1, a, V => (h a V).pair (EvN.parts h m (e a))
theorem EvN.items {F : List TVal → EvR} (h : ∀ V, EvN V (F V)) : ∀ (m : Nat) (V : List TVal), EvN V (evItems F m V)
  | 0, V => EvN.nil V
  | m + 1, V => (h V).pair (EvN.items h m)
theorem nLeaf_miss (s : List TCol) (rep def_ : Int) (n i : Nat) : nLeaf (miss s rep def_ n i) = 0 := by
  unfold nLeaf
  rw [List.length_eq_zero_iff, List.filter_eq_nil_iff]
  intro e he
  rw [(miss_mem _ _ _ he).2.2.1]
  simp
theorem EvN.part {s : List TCol} {C : Int → Int → Int → List TVal → EvR} (h : ∀ r d p V, EvN V (C r d p V)) (e a : Nat) (rep def_ deep : Int) (V : List TVal) : EvN V (evPart s C e a rep def_ deep V) := by
  intro X W hr
  unfold evPart at hr
  split at hr
  · cases hr
  · split at hr
    · exact h _ _ _ _ _ _ hr
    · split at hr
      · cases hr
      · rename_i v V
        have ms : some (miss s rep def_ (e - a) a, V) = some (X, W) → nLeaf X + W.length ≤ (v :: V).length := by
          intro hr
          simp only [Option.some.injEq, Prod.mk.injEq] at hr
          obtain ⟨rfl, rfl⟩ := hr
          rw [nLeaf_miss]; simp
        have up : nLeaf X + W.length ≤ V.length → nLeaf X + W.length ≤ (v :: V).length := fun h => by simp; omega
        split at hr
        · split at hr
          · cases hr
          · split at hr
            · exact ms hr
            · exact up ((EvN.pair (h _ _ _ _) (fun V => EvN.items (h _ _ _) _ V)) _ _ hr)
        · split at hr
          · cases hr
          · split at hr
            · exact ms hr
            · exact up (h _ _ _ _ _ _ hr)
theorem evC_N {s : List TCol} : ∀ (d a : Nat) (rep def_ deep : Int) (V : List TVal), EvN V (evC s d a rep def_ deep V)
  | 0, _, _, _, _, _ => fun X W h => by cases h
  | d + 1, a, rep, def_, deep, V => by
    intro X W h
    simp only [evC] at h
    split at h
    · cases h
    · split at h
      · exact EvN.parts (fun a V => EvN.part (fun r d p V => evC_N _ a r d p V) _ a rep def_ deep V) _ _ _ _ _ h
      · split at h
        · cases h
        · split at h
          · simp only [Option.some.injEq, Prod.mk.injEq] at h
            obtain ⟨rfl, rfl⟩ := h
            simp only [nLeaf, List.filter_cons, List.filter_nil, if_true, List.length_cons, List.length_nil]
            omega
          · cases h
theorem recEv_N {s : List TCol} {V : List TVal} {X : List Ev} (h : recEv s V = some X) : nLeaf X ≤ V.length := by
  have := evC_N 6 0 0 0 0 V X [] (recEv_some h).2
  simpa using this

/-! ### one value of what cannot be missing -/
theorem evAt_nil {L : Nat} {X : List Ev} (h : ∀ e, e ∈ X → e.at_ ≠ L) : evAt L X = [] := by
  unfold evAt
  rw [List.filter_eq_nil_iff]
  intro e he
  simpa using h e he

theorem evC_one {s : List TCol} : ∀ (d a nx : Nat), d ≤ 6 → SubC s d a nx → ∀ (rep def_ deep : Int) (V : List TVal) (X : List Ev) (W : List TVal), evC s d a rep def_ deep V = some (X, W) → ∀ L c, a ≤ L → L < nx → s[L]? = some c → c.2.1 ≠ 7 → lvD s isOpt (a + 1) L = 0 → (evAt L X).length = 1
  | 0, _, _, _, h, _, _, _, _, _, _, _, _, _, _, _, _, _, _ => h.elim
  | d + 1, a, nx, hd, h, rep, def_, deep, V, X, W, he, L, cL, hL1, hL2, hcL, hL7, hlv => by
    have hsub := h
    obtain ⟨c, hc, hco, _, hpp⟩ := h
    simp only [evC, hc] at he
    split at he
    · rename_i h7
      have hne : L ≠ a := fun hh => by
        subst hh
        rw [hc] at hcL
        cases hcL
        exact hL7 h7
      have key : ∀ (m pl : Nat) (names : List ByteArray) (V : List TVal) (X : List Ev) (W : List TVal), PartsC (SubC s d) s m pl names nx → a + 1 ≤ pl → (∀ u, a + 1 ≤ u → u < pl → colEnd s u ≤ pl) → evParts (fun a V => evPart s (evC s d a) (endC s d a) a rep def_ deep V) (endC s d) m pl V = some (X, W) →
          (pl ≤ L → (evAt L X).length = 1) ∧ (L < pl → evAt L X = []) := by
        intro m
        induction m with
        | zero =>
          intro pl names V X W hpp h1 h2 he
          have hpp : pl = nx := hpp
          simp only [evParts, Option.some.injEq, Prod.mk.injEq] at he
          obtain ⟨rfl, rfl⟩ := he
          exact ⟨fun h => by omega, fun _ => rfl⟩
        | succ m ih =>
          intro pl names V X W hpp h1 h2 he
          obtain ⟨cp, mid, hcp, q2, q3, q4⟩ := hpp
          have hmn := PartsC_nx (SubC_lt d) _ _ _ _ q4
          have hlt' := SubC_lt _ _ _ q3
          have hend : endC s d pl = mid := endC_eq d q3 d (Nat.le_refl _)
          simp only [evParts] at he
          obtain ⟨x, y, U, g1, g2, rfl⟩ := evPair_some he
          rw [hend] at g1 g2
          have h3 : ∀ u, a + 1 ≤ u → u < mid → colEnd s u ≤ mid := fun u u1 u2 => by
            rcases Nat.lt_or_ge u pl with u3 | u3
            · have := h2 u u1 u3; omega
            · exact (colEnd_in (by omega) q3 u3 u2).2
          obtain ⟨i1, i2⟩ := ih mid _ U y W q4 (by omega) h3 g2
          have hrange : ∀ e, e ∈ x → pl ≤ e.at_ ∧ e.at_ < mid := fun e he => by
            obtain ⟨r1, r2, _⟩ := evPart_ok (by omega) q3 (fun rep def_ deep V => evC_ok d pl mid (by omega) q3 rep def_ deep V) rep def_ deep V x U g1 e he
            exact ⟨r1, r2⟩
          rw [evAt_append]
          constructor
          · intro hpl
            rcases Nat.lt_or_ge L mid with hLm | hLm
            · rw [i2 hLm, List.append_nil]
              have hsk := lvD_skip (s := s) (f := isOpt) h1 hpl (fun u u1 u2 => by have := h2 u u1 u2; omega)
              have hcons := lvD_cons (f := isOpt) hcp hpl (by rw [colEnd_eq (by omega) q3]; exact hLm)
              rw [hsk, hcons] at hlv
              have ho : isOpt cp = false := by
                cases hoo : isOpt cp with
                | false => rfl
                | true => rw [hoo] at hlv; simp at hlv
              have h0 : cp.2.2.1 = 0 := by
                unfold isOpt at ho
                simpa using ho
              unfold evPart at g1
              rw [hcp] at g1
              simp only at g1
              rw [if_pos h0] at g1
              exact evC_one d pl mid (by omega) q3 rep def_ deep V x U g1 L cL hpl hLm hcL hL7 (by omega)
            · rw [evAt_nil (fun e he => by have := hrange e he; omega), List.nil_append]
              exact i1 hLm
          · intro hpl
            rw [evAt_nil (fun e he => by have := hrange e he; omega), i2 (by omega)]
            rfl
      exact (key _ _ _ _ _ _ hpp (Nat.le_refl _) (fun u u1 u2 => by omega) he).1 (by omega)
    · rename_i h7
      split at he
      · cases he
      · split at he
        · simp only [Option.some.injEq, Prod.mk.injEq] at he
          obtain ⟨rfl, rfl⟩ := he
          have hm0 : c.2.2.2.1.toNat = 0 := by
            unfold colOk at hco
            rw [beqF h7] at hco
            simp at hco
            omega
          rw [hm0] at hpp
          have hpp : a + 1 = nx := hpp
          have : L = a := by omega
          subst this
          simp [evAt]
        · cases he

/-! ### values below a leaf's number -/
def below (s : List TCol) (j : Nat) (X : List Ev) : Nat := (X.filter fun e => e.leaf && decide (lnum s e.at_ < j)).length
theorem below_le (s : List TCol) (j : Nat) (X : List Ev) : below s j X ≤ nLeaf X := by
  unfold below nLeaf
  induction X with
  | nil => simp
  | cons e X ih =>
    simp only [List.filter_cons]
    cases e.leaf <;> cases decide (lnum s e.at_ < j) <;> simp <;> omega
theorem below_step {s : List TCol} {L : Nat} {c : TCol} (hc : s[L]? = some c) (h7 : c.2.1 ≠ 7) : ∀ (X : List Ev), evLeaf s X → below s (lnum s L + 1) X = below s (lnum s L) X + (valsAt (L : Int) X).length
  | [], _ => by simp [below, valsAt]
  | e :: X, hl => by
    have ih := below_step hc h7 X (fun e' he' => hl e' (List.mem_cons_of_mem _ he'))
    obtain ⟨ce, h1, h2⟩ := hl e (List.mem_cons_self ..)
    have hb : ∀ j, below s j (e :: X) = (if e.leaf = true ∧ lnum s e.at_ < j then 1 else 0) + below s j X := fun j => by
      unfold below
      rw [List.filter_cons]
      by_cases h : e.leaf = true ∧ lnum s e.at_ < j
      · rw [if_pos h, if_pos (by simp [h.1, h.2])]; simp; omega
      · rw [if_neg h, if_neg (by simpa using h)]; simp
    have hv : (valsAt (L : Int) (e :: X)).length = (if e.leaf = true ∧ e.at_ = L then 1 else 0) + (valsAt (L : Int) X).length := by
      unfold valsAt
      rw [List.filter_cons]
      by_cases h : e.leaf = true ∧ e.at_ = L
      · rw [if_pos h, if_pos (by simp [h.1, h.2])]; simp; omega
      · have : ¬ (e.leaf && ((e.at_ : Int) == (L : Int))) = true := by
          intro q
          simp only [Bool.and_eq_true, beq_iff_eq] at q
          exact h ⟨q.1, by omega⟩
        rw [if_neg h, if_neg this]; simp
    rw [hb, hb, hv, ih]
    by_cases hlf : e.leaf = true
    · by_cases hat : e.at_ = L
      · rw [hat, if_pos ⟨hlf, by omega⟩, if_neg (fun q => by omega), if_pos ⟨hlf, rfl⟩]; omega
      · have hne : lnum s e.at_ ≠ lnum s L := fun hh => hat (lnum_inj h1 hc h2 h7 hh)
        rw [if_neg (show ¬ (e.leaf = true ∧ e.at_ = L) from fun q => hat q.2)]
        by_cases hlt : lnum s e.at_ < lnum s L
        · rw [if_pos ⟨hlf, by omega⟩, if_pos ⟨hlf, hlt⟩]; omega
        · rw [if_neg (fun q => by omega), if_neg (fun q => hlt q.2)]; omega
    · rw [if_neg (fun q => hlf q.1), if_neg (fun q => hlf q.1), if_neg (fun q => hlf q.1)]; omega
end Go.Law
end

section
/- Draws: they come to an end, whatever the bytes, and what is drawn is within its bounds. -/
set_option linter.unusedVariables false
set_option linter.unusedSimpArgs false
namespace Go.Law
open Go.Am Go.Fn

def CurOk (c : TL1Cur) : Prop := 0 ≤ c.2.1 ∧ c.2.1 ≤ (c.1.length : Int) ∧ c.1.length ≤ 1048576

variable (k : Nat)

theorem byte_ok (c : TL1Cur) (hc : CurOk c) : ∃ v c', spec_l1Byte k c = some (v, c') ∧ 0 ≤ v ∧ v < 256 ∧ CurOk c' := by
  obtain ⟨h0, h1, h2⟩ := hc
  unfold spec_l1Byte spec_l1Byte.c6
  by_cases h : c.2.1 < (c.1.length : Int)
  · obtain ⟨x, hx, _⟩ := rdL_some h0 h
    simp only [decide_eq_true h, cond_true, hx, Option.bind_some]
    refine ⟨_, _, rfl, ?_, ?_, ?_, ?_, ?_⟩
    · simp only [and255]; omega
    · simp only [and255]; omega
    · show 0 ≤ IntKind.wrap .i64 (c.2.1 + 1)
      rw [w64 (by omega) (by omega)]; omega
    · show IntKind.wrap .i64 (c.2.1 + 1) ≤ (c.1.length : Int)
      rw [w64 (by omega) (by omega)]; omega
    · exact h2
  · simp only [decide_eq_false h, cond_false]
    refine ⟨_, _, rfl, ?_, ?_, h0, h1, h2⟩
    · simp only [and255]; omega
    · simp only [and255]; omega

theorem below_ok (n : Int) (hn : n < 9223372036854775808) (c : TL1Cur) (hc : CurOk c) : ∃ v c', spec_l1Below k n c = some (v, c') ∧ (n ≤ 0 → v = 0) ∧ (0 < n → 0 ≤ v ∧ v < n) ∧ CurOk c' := by
  unfold spec_l1Below
  by_cases h0 : n ≤ 0
  · simp only [decide_eq_true h0, cond_true]
    exact ⟨_, _, rfl, fun _ => rfl, fun h => by omega, hc⟩
  · have hne : decide (n ≠ 0) = true := decide_eq_true (by omega)
    simp only [decide_eq_false h0, cond_false, hne, cond_true]
    have fin : ∀ v : Int, 0 ≤ v → 0 ≤ Int.tmod v n ∧ Int.tmod v n < n := fun v hv => by
      rw [Int.tmod_eq_emod_of_nonneg hv]
      exact ⟨Int.emod_nonneg _ (by omega), Int.emod_lt_of_pos _ (by omega)⟩
    by_cases h256 : n ≤ 256
    · simp only [decide_eq_true h256, cond_true]
      obtain ⟨v, c', hv, v0, v1, hc'⟩ := byte_ok k c hc
      simp only [hv, Option.bind_some]
      exact ⟨_, _, rfl, fun h => by omega, fun _ => fin v v0, hc'⟩
    · simp only [decide_eq_false h256, cond_false]
      obtain ⟨v1, c1, hv1, a1, b1, hc1⟩ := byte_ok k c hc
      simp only [hv1, Option.bind_some]
      obtain ⟨v2, c2, hv2, a2, b2, hc2⟩ := byte_ok k c1 hc1
      simp only [hv2, Option.bind_some]
      obtain ⟨v3, c3, hv3, a3, b3, hc3⟩ := byte_ok k c2 hc2
      simp only [hv3, Option.bind_some]
      obtain ⟨v4, c4, hv4, a4, b4, hc4⟩ := byte_ok k c3 hc3
      simp only [hv4, Option.bind_some]
      rw [w64 (show -9223372036854775808 ≤ v1 * 16777216 by omega) (by omega), w64 (show -9223372036854775808 ≤ v2 * 65536 by omega) (by omega), w64 (show -9223372036854775808 ≤ v1 * 16777216 + v2 * 65536 by omega) (by omega),
        w64 (show -9223372036854775808 ≤ v3 * 256 by omega) (by omega), w64 (show -9223372036854775808 ≤ v1 * 16777216 + v2 * 65536 + v3 * 256 by omega) (by omega), w64 (show -9223372036854775808 ≤ v1 * 16777216 + v2 * 65536 + v3 * 256 + v4 by omega) (by omega)]
      exact ⟨_, _, rfl, fun h => by omega, fun _ => fin _ (by omega), hc4⟩

theorem pick_ok (l : List Int) (hl : 0 < l.length) (hl2 : l.length < 1000000) (c : TL1Cur) (hc : CurOk c) : ∃ v c', spec_l1PickInt k l c = some (v, c') ∧ v ∈ l ∧ CurOk c' := by
  unfold spec_l1PickInt
  obtain ⟨v, c', hv, _, h1, hc'⟩ := below_ok k (l.length : Int) (by omega) c hc
  obtain ⟨h1, h2⟩ := h1 (by omega)
  simp only [hv, Option.bind_some]
  obtain ⟨x, hx, hx2⟩ := rdL_some h1 h2
  simp only [hx, Option.bind_some]
  exact ⟨_, _, rfl, List.mem_of_getElem? hx2, hc'⟩

theorem once_ok (n : Int) (hn : n < 9223372036854775808) (c : TL1Cur) (hc : CurOk c) : ∃ v c', spec_l1Once k n c = some (v, c') ∧ CurOk c' := by
  unfold spec_l1Once
  obtain ⟨v, c', hv, _, _, hc'⟩ := below_ok k n hn c hc
  simp only [hv, Option.bind_some]
  exact ⟨_, _, rfl, hc'⟩

theorem bytesLoop_ok (t6 : Int) (h6 : t6 ≤ 1000000) : ∀ (m n : Nat) (i : Int) (c : TL1Cur) (acc : List Int), CurOk c → 0 ≤ i → t6 - i ≤ m → m < n → acc.length + m ≤ 4000000 → (∀ x, x ∈ acc → 0 ≤ x ∧ x < 256) →
    ∃ c' out, spec_l1DrawBytes.l4 k n t6 i c acc = some ((), (c', out)) ∧ CurOk c' ∧ out.length ≤ acc.length + m ∧ ∀ x, x ∈ out → 0 ≤ x ∧ x < 256 := by
  intro m
  induction m with
  | zero =>
    intro n i c acc hc hi hm hn ha hb
    obtain ⟨n, rfl⟩ : ∃ j, n = j + 1 := ⟨n - 1, by omega⟩
    simp only [spec_l1DrawBytes.l4, decide_eq_false (show ¬ i < t6 by omega), cond_false]
    exact ⟨_, _, rfl, hc, by omega, hb⟩
  | succ m ih =>
    intro n i c acc hc hi hm hn ha hb
    obtain ⟨n, rfl⟩ : ∃ j, n = j + 1 := ⟨n - 1, by omega⟩
    by_cases h : i < t6
    · obtain ⟨v, c1, hv, v0, v1, hc1⟩ := byte_ok k c hc
      simp only [spec_l1DrawBytes.l4, decide_eq_true h, cond_true, hv, Option.bind_some]
      rw [lim_ok (by simp; omega), cond_true, w8 v0 v1, w64 (by omega) (by omega)]
      obtain ⟨c', out, h1, h2, h3, h4⟩ := ih n (i + 1) c1 (acc ++ [v]) hc1 (by omega) (by omega) (by omega) (by simp; omega) (fun x hx => by
        rcases List.mem_append.1 hx with hx | hx
        · exact hb x hx
        · simp at hx; subst hx; exact ⟨v0, v1⟩)
      exact ⟨c', out, h1, h2, by simp at h3; omega, h4⟩
    · simp only [spec_l1DrawBytes.l4, decide_eq_false h, cond_false]
      exact ⟨_, _, rfl, hc, by omega, hb⟩

theorem drawBytes_ok (most : Nat) (hm : most < 900000) (hk : 1000000 ≤ k) (c : TL1Cur) (hc : CurOk c) : ∃ c' out, spec_l1DrawBytes k (most : Int) c = some ((), (c', out)) ∧ CurOk c' ∧ out.length ≤ most ∧ ∀ x, x ∈ out → 0 ≤ x ∧ x < 256 := by
  unfold spec_l1DrawBytes
  rw [w64 (by omega) (by omega)]
  obtain ⟨v, c1, hv, _, h1, hc1⟩ := below_ok k ((most : Int) + 1) (by omega) c hc
  obtain ⟨h1, h2⟩ := h1 (by omega)
  simp only [hv, Option.bind_some]
  obtain ⟨c', out, g1, g2, g3, g4⟩ := bytesLoop_ok k v (by omega) most k 0 c1 [] hc1 (by omega) (by omega) (by omega) (by simp; omega) (by simp)
  exact ⟨c', out, g1, g2, by simpa using g3, g4⟩

theorem drawText_ok (most : Nat) (hm : most < 900000) (hk : 1000000 ≤ k) (c : TL1Cur) (hc : CurOk c) : ∃ v c', spec_l4DrawText k (most : Int) c = some (v, c') ∧ CurOk c' ∧ v.size ≤ most := by
  unfold spec_l4DrawText
  obtain ⟨c', out, g1, g2, g3, g4⟩ := drawBytes_ok k most hm hk c hc
  simp only [g1, Option.bind_some]
  exact ⟨_, _, rfl, g2, by rw [intsStr_size]; exact g3⟩

theorem drawNum_ok (c : TL1Cur) (hc : CurOk c) : ∃ v c', spec_l2DrawNum k c = some (v, c') ∧ CurOk c' ∧ I64 v := by
  unfold spec_l2DrawNum
  obtain ⟨v1, c1, hv1, _, a1, hc1⟩ := below_ok k 1000000 (by omega) c hc
  have a1 := a1 (by omega)
  simp only [hv1, Option.bind_some]
  obtain ⟨v2, c2, hv2, _, a2, hc2⟩ := below_ok k 1000000 (by omega) c1 hc1
  have a2 := a2 (by omega)
  simp only [hv2, Option.bind_some]
  obtain ⟨v3, c3, hv3, _, a3, hc3⟩ := below_ok k 300 (by omega) c2 hc2
  have a3 := a3 (by omega)
  simp only [hv3, Option.bind_some]
  rw [w64 (show -9223372036854775808 ≤ 0 - v2 by omega) (by omega)]
  obtain ⟨v, c4, hv, hm, hc4⟩ := pick_ok k [0, 1, (-1), 63, 64, (-64), (-65), 127, 128, 16383, 16384, 2147483647, (-2147483648), 9223372036854775807, (-9223372036854775808), 4611686018427387904, v1, 0 - v2, v3] (by simp) (by simp) c3 hc3
  simp only [hv, Option.bind_some]
  refine ⟨_, _, rfl, hc4, ?_⟩
  simp only [List.mem_cons, List.not_mem_nil, or_false] at hm
  unfold I64
  omega

theorem newLoop_ok (t : List Int) (ht : t.length ≤ 1048576) : ∀ (m n : Nat) (h i : Int), 0 ≤ i → 4000 - i ≤ m → m < n →
    ∃ c, spec_l1New.l3 k n t h i = some ((), c) ∧ CurOk c := by
  intro m
  induction m with
  | zero =>
    intro n h i hi hm hn
    obtain ⟨n, rfl⟩ : ∃ j, n = j + 1 := ⟨n - 1, by omega⟩
    simp only [spec_l1New.l3, csf, decide_eq_false (show ¬ i < 4000 by omega), Bool.and_false, Option.bind_some, cond_false]
    exact ⟨_, rfl, Int.le_refl _, by simp, ht⟩
  | succ m ih =>
    intro n h i hi hm hn
    obtain ⟨n, rfl⟩ : ∃ j, n = j + 1 := ⟨n - 1, by omega⟩
    by_cases hb : i < (t.length : Int) ∧ i < 4000
    · obtain ⟨x, hx, _⟩ := rdL_some hi hb.1
      simp only [spec_l1New.l3, csf, decide_eq_true hb.1, decide_eq_true hb.2, Bool.and_self, Option.bind_some, cond_true, hx]
      rw [w64 (show -9223372036854775808 ≤ i + 1 by omega) (by omega)]
      exact ih n _ (i + 1) (by omega) (by omega) (by omega)
    · have : (decide (i < (t.length : Int)) && decide (i < 4000)) = false := by
        rw [Bool.eq_false_iff]; intro hh
        simp only [Bool.and_eq_true, decide_eq_true_eq] at hh
        exact hb hh
      simp only [spec_l1New.l3, csf, this, Option.bind_some, cond_false]
      exact ⟨_, rfl, Int.le_refl _, by simp, ht⟩

theorem new_ok (hk : 1000000 ≤ k) (t : List Int) (ht : t.length ≤ 1048576) : ∃ c, spec_l1New k t = some ((), c) ∧ CurOk c := by
  unfold spec_l1New
  exact newLoop_ok k t ht 4000 k _ 0 (by omega) (by omega) (by omega)
end Go.Law
end

section
/- Texts are picked. -/
set_option linter.unusedVariables false
set_option linter.unusedSimpArgs false
namespace Go.Law
open Go.Am Go.Fn
variable (k : Nat)

theorem pickS_ok (l : List ByteArray) (hl : 0 < l.length) (hl2 : l.length < 1000000) (c : TL1Cur) (hc : CurOk c) : ∃ v c', spec_l1Pick k l c = some (v, c') ∧ v ∈ l ∧ CurOk c' := by
  unfold spec_l1Pick
  obtain ⟨v, c', hv, _, h1, hc'⟩ := below_ok k (l.length : Int) (by omega) c hc
  obtain ⟨h1, h2⟩ := h1 (by omega)
  simp only [hv, Option.bind_some]
  obtain ⟨x, hx, hx2⟩ := rdL_some h1 h2
  simp only [hx, Option.bind_some]
  exact ⟨_, _, rfl, List.mem_of_getElem? hx2, hc'⟩

end Go.Law
end

section
/- A right value is drawn. -/
set_option linter.unusedVariables false
set_option linter.unusedSimpArgs false
namespace Go.Law
open Go.Am Go.Fn
variable (k : Nat)

def WfV (v : TVal) : Prop := I64 v.1 ∧ v.2.1.size ≤ 100

theorem i64z : I64 0 := ⟨by decide, by decide⟩

theorem e0 : (⟨#[]⟩ : ByteArray).size ≤ 100 := by decide

theorem drawRight_ok (hk : 1000000 ≤ k) (t : Int) (c : TL1Cur) (hc : CurOk c) : ∃ v c', spec_l6DrawRight k t c = some (v, c') ∧ WfV v ∧ CurOk c' := by
  unfold spec_l6DrawRight
  by_cases h0 : t = 0
  · rw [beqT h0, cond_true]
    obtain ⟨v1, c1, e1, _, a1, hc1⟩ := below_ok k 2 (by omega) c hc
    have a1 := a1 (by omega)
    simp only [e1, Option.bind_some]
    exact ⟨_, _, rfl, ⟨⟨by omega, by omega⟩, e0⟩, hc1⟩
  rw [beqF h0, cond_false]
  by_cases h1 : t = 1
  · rw [beqT h1, cond_true]
    obtain ⟨v1, c1, e1, hc1⟩ := once_ok k 6 (by omega) c hc
    simp only [e1, Option.bind_some]
    cases v1 with
    | true =>
      simp only [cond_true]
      obtain ⟨v2, c2, e2, m2, hc2⟩ := pick_ok k [2147483647, (-2147483648), 0] (by simp) (by simp) c1 hc1
      simp only [e2, Option.bind_some]
      simp only [List.mem_cons, List.not_mem_nil, or_false] at m2
      exact ⟨_, _, rfl, ⟨⟨by omega, by omega⟩, e0⟩, hc2⟩
    | false =>
      simp only [cond_false]
      obtain ⟨v2, c2, e2, _, a2, hc2⟩ := below_ok k 40 (by omega) c1 hc1
      have a2 := a2 (by omega)
      simp only [e2, Option.bind_some]
      rw [w64 (by omega) (by omega)]
      exact ⟨_, _, rfl, ⟨⟨by omega, by omega⟩, e0⟩, hc2⟩
  rw [beqF h1, cond_false]
  by_cases h6 : t = 6
  · rw [beqT h6, cond_true]
    obtain ⟨v1, c1, e1, hc1⟩ := once_ok k 3 (by omega) c hc
    simp only [e1, Option.bind_some]
    cases v1 with
    | true =>
      simp only [cond_true]
      obtain ⟨v2, c2, e2, m2, hc2⟩ := pickS_ok k [(⟨#[]⟩ : ByteArray), (⟨#[97]⟩ : ByteArray), (⟨#[97, 98]⟩ : ByteArray), (⟨#[97, 98, 99]⟩ : ByteArray), (⟨#[97, 98, 100]⟩ : ByteArray), (⟨#[98]⟩ : ByteArray), (⟨#[97, 97]⟩ : ByteArray)] (by simp) (by simp) c1 hc1
      simp only [e2, Option.bind_some]
      refine ⟨_, _, rfl, ⟨i64z, ?_⟩, hc2⟩
      simp only [List.mem_cons, List.not_mem_nil, or_false] at m2
      rcases m2 with rfl | rfl | rfl | rfl | rfl | rfl | rfl <;> decide
    | false =>
      simp only [cond_false]
      obtain ⟨v2, c2, e2, hc2, m2⟩ := drawText_ok k 6 (by omega) hk c1 hc1
      have e2 : spec_l4DrawText k 6 c1 = some (v2, c2) := e2
      simp only [e2, Option.bind_some]
      exact ⟨_, _, rfl, ⟨i64z, by show v2.size ≤ 100; omega⟩, hc2⟩
  rw [beqF h6, cond_false]
  by_cases h5 : t = 5
  · rw [beqT h5, cond_true]
    obtain ⟨v1, c1, e1, _, a1, hc1⟩ := below_ok k 9 (by omega) c hc
    have a1 := a1 (by omega)
    simp only [e1, Option.bind_some]
    obtain ⟨v2, c2, e2, hc2, i2⟩ := drawNum_ok k c1 hc1
    simp only [e2, Option.bind_some]
    obtain ⟨v3, c3, e3, m3, hc3⟩ := pick_ok k [0, (-9223372036854775808), 4607182418800017408, (-4616189618054758400), 9221120237041090560, (-2251799813685248), v1, v2] (by simp) (by simp) c2 hc2
    simp only [e3, Option.bind_some]
    refine ⟨_, _, rfl, ⟨?_, e0⟩, hc3⟩
    simp only [List.mem_cons, List.not_mem_nil, or_false] at m3
    obtain ⟨i2a, i2b⟩ := i2
    exact ⟨by show _ ≤ v3; omega, by show v3 < _; omega⟩
  · rw [beqF h5, cond_false]
    obtain ⟨v1, c1, e1, hc1⟩ := once_ok k 2 (by omega) c hc
    simp only [e1, Option.bind_some]
    cases v1 with
    | true =>
      simp only [cond_true]
      obtain ⟨v2, c2, e2, _, a2, hc2⟩ := below_ok k 30 (by omega) c1 hc1
      have a2 := a2 (by omega)
      simp only [e2, Option.bind_some]
      rw [w64 (by omega) (by omega)]
      exact ⟨_, _, rfl, ⟨⟨by omega, by omega⟩, e0⟩, hc2⟩
    | false =>
      simp only [cond_false]
      obtain ⟨v2, c2, e2, hc2, i2⟩ := drawNum_ok k c1 hc1
      simp only [e2, Option.bind_some]
      exact ⟨_, _, rfl, ⟨i2, e0⟩, hc2⟩

end Go.Law
end

section
/- A schema is drawn, whatever the bytes. -/
set_option linter.unusedVariables false
set_option linter.unusedSimpArgs false
namespace Go.Law
open Go.Am Go.Fn
variable (k : Nat)

def WfD (c : TCol) : Prop := c.1.size ≤ 100 ∧ I64 c.2.1 ∧ I64 c.2.2.1 ∧ I64 c.2.2.2.1
def WfDs (l : List TCol) : Prop := ∀ c, c ∈ l → WfD c

theorem WfDs.app {a b : List TCol} (h : WfDs a) (h' : WfDs b) : WfDs (a ++ b) := fun n hn => (List.mem_append.1 hn).elim (h n) (h' n)
theorem WfDs.one {n : TCol} (h : WfD n) : WfDs [n] := fun m hm => by simp at hm; subst hm; exact h
theorem WfDs.set {l : List TCol} {i : Nat} {n : TCol} (h : WfDs l) (hn : WfD n) : WfDs (l.set i n) := fun m hm => by
  rcases List.mem_or_eq_of_mem_set hm with hm | rfl
  · exact h m hm
  · exact hn
theorem WfDs.nil : WfDs [] := fun m hm => (List.not_mem_nil hm).elim

theorem wfD_mk {t r m : Int} {s : ByteArray} (h0 : s.size ≤ 100) (h1 : I64 t) (h2 : I64 r) (h3 : I64 m) : WfD (s, t, r, m, ()) := ⟨h0, h1, h2, h3⟩
theorem i64s {x : Int} (h0 : -1000000000 ≤ x) (h1 : x ≤ 1000000000) : I64 x := ⟨by omega, by omega⟩

def szc : Nat → Nat
  | 0 => 1
  | d + 1 => 1 + 3 * szc d

theorem szc_pos (d : Nat) : 0 < szc d := by cases d <;> simp [szc] <;> omega
theorem szc_le {d : Nat} (h : d ≤ 3) : szc d ≤ 40 := by
  match d, h with
  | 0, _ => decide
  | 1, _ => decide
  | 2, _ => decide
  | 3, _ => decide

abbrev ColS (S : ByteArray → Int → TL1Cur → List TCol → Option (Unit × TL1Cur × List TCol)) (deep : Nat) : Prop :=
  ∀ (name : ByteArray) (c : TL1Cur) (acc : List TCol), (deep = 0 → eqS name ⟨#[]⟩ = false) → name.size ≤ 2 → CurOk c → WfDs acc → acc.length + szc deep ≤ 10000 →
    ∃ c' l', S name (deep : Int) c acc = some ((), (c', l')) ∧ CurOk c' ∧ WfDs l' ∧ acc.length < l'.length ∧ l'.length ≤ acc.length + szc deep

theorem colLoop (S : ByteArray → Int → TL1Cur → List TCol → Option (Unit × TL1Cur × List TCol)) (d : Nat) (hd : d ≤ 3) (ih : ColS S d) (many : Int) (hm : many ≤ 3) :
    ∀ (m n : Nat) (i : Int) (c : TL1Cur) (acc : List TCol), 0 ≤ i → many - i ≤ m → m < n → CurOk c → WfDs acc → acc.length + m * szc d ≤ 10000 →
    ∃ c' l', spec_l5DrawCol.l13 k S n ((d + 1 : Nat) : Int) many i c acc = some ((), (c', l')) ∧ CurOk c' ∧ WfDs l' ∧ acc.length ≤ l'.length ∧ l'.length ≤ acc.length + m * szc d := by
  intro m
  induction m with
  | zero =>
    intro n i c acc hi hmi hn hc ha hl
    obtain ⟨n, rfl⟩ : ∃ j, n = j + 1 := ⟨n - 1, by omega⟩
    simp only [spec_l5DrawCol.l13, decide_eq_false (show ¬ i < many by omega), cond_false]
    exact ⟨_, _, rfl, hc, ha, Nat.le_refl _, by omega⟩
  | succ m ihm =>
    intro n i c acc hi hmi hn hc ha hl
    obtain ⟨n, rfl⟩ : ∃ j, n = j + 1 := ⟨n - 1, by omega⟩
    have hsz : (m + 1) * szc d = m * szc d + szc d := by rw [Nat.add_mul]; simp
    by_cases h : i < many
    · obtain ⟨v, c1, e1, _, b1, hc1⟩ := below_ok k 4 (by omega) c hc
      have b1 := b1 (by omega)
      simp only [spec_l5DrawCol.l13, decide_eq_true h, cond_true, e1, Option.bind_some]
      have hdw : IntKind.wrap .i64 (((d + 1 : Nat) : Int) - 1) = (d : Int) := by rw [w64 (by omega) (by omega)]; omega
      rw [hdw]
      have hne : eqS (intsStr [IntKind.wrap .u8 (IntKind.wrap .i64 (97 + i)), IntKind.wrap .u8 (IntKind.wrap .i64 (97 + v))]) ⟨#[]⟩ = false := by
        rw [eqS_iff]
        refine decide_eq_false fun hh => ?_
        have := congrArg ByteArray.size hh
        rw [intsStr_size] at this
        cases this
      obtain ⟨c2, l2, e2, hc2, hw2, hl2, hl2'⟩ := ih _ c1 acc (fun _ => hne) (by rw [intsStr_size]; exact Nat.le_refl 2) hc1 ha (by omega)
      simp only [e2, Option.bind_some]
      rw [w64 (by omega) (by omega)]
      obtain ⟨c', l', g1, g2, g3, g4, g5⟩ := ihm n (i + 1) c2 l2 (by omega) (by omega) (by omega) hc2 hw2 (by omega)
      exact ⟨c', l', g1, g2, g3, by omega, by omega⟩
    · simp only [spec_l5DrawCol.l13, decide_eq_false h, cond_false]
      exact ⟨_, _, rfl, hc, ha, Nat.le_refl _, by omega⟩

theorem colStep (hk : 100 ≤ k) (deep : Nat) (hdeep : deep ≤ 3) (S : ByteArray → Int → TL1Cur → List TCol → Option (Unit × TL1Cur × List TCol)) (ih : ∀ d, d + 1 = deep → ColS S d) : ColS (spec_l5DrawCol.b k S) deep := by
  intro name c acc hname hsize hc ha hl
  have hp := szc_pos deep
  have z0 : I64 0 := i64s (by omega) (by omega)
  have z7 : I64 7 := i64s (by omega) (by omega)
  have hset : ∀ (x y : TCol), List.set (acc ++ [x]) (Int.toNat (acc.length : Int)) y = acc ++ [y] := fun x y => by
    rw [Int.toNat_natCast, List.set_append_right _ _ (Nat.le_refl _)]; simp
  have hget : ∀ (x : TCol), rdL (acc ++ [x]) (acc.length : Int) = some x := fun x => by
    rw [rdL_nat, List.getElem?_append_right (Nat.le_refl _)]; simp
  -- a leaf
  have leaf : ∀ (c : TL1Cur) (t r : Int), CurOk c → t ≠ 7 → I64 t → I64 r → ∃ c' l', spec_l5DrawCol.c4 k S name (deep : Int) c acc (name, t, r, 0, ()) = some ((), (c', l')) ∧ CurOk c' ∧ WfDs l' ∧ acc.length < l'.length ∧ l'.length ≤ acc.length + szc deep := by
    intro c t r hc ht h1 h2
    unfold spec_l5DrawCol.c4
    rw [lim_ok (by simp; omega), cond_true]
    simp only [bneT ht, cond_true]
    exact ⟨_, _, rfl, hc, ha.app (WfDs.one (wfD_mk (by omega) h1 h2 z0)), by simp, by simp; omega⟩
  -- a group
  have group : ∀ (c : TL1Cur) (r : Int), 0 < deep → CurOk c → I64 r → ∃ c' l', spec_l5DrawCol.c4 k S name (deep : Int) c acc (name, 7, r, 0, ()) = some ((), (c', l')) ∧ CurOk c' ∧ WfDs l' ∧ acc.length < l'.length ∧ l'.length ≤ acc.length + szc deep := by
    intro c r hd0 hc h2
    obtain ⟨d, rfl⟩ : ∃ d, deep = d + 1 := ⟨deep - 1, by omega⟩
    unfold spec_l5DrawCol.c4 spec_l5DrawCol.c12
    rw [lim_ok (by simp; omega), cond_true]
    obtain ⟨v, c1, e1, _, b1, hc1⟩ := below_ok k 3 (by omega) c hc
    have b1 := b1 (by omega)
    simp only [bneF rfl, cond_false, e1, Option.bind_some, hget, hset]
    rw [w64 (by omega) (by omega)]
    have hsz : szc (d + 1) = 1 + 3 * szc d := rfl
    have loop : ∀ y : TCol, WfD y → ∃ c' l', spec_l5DrawCol.l13 k S k ((d + 1 : Nat) : Int) (1 + v) 0 c1 (acc ++ [y]) = some ((), (c', l')) ∧ CurOk c' ∧ WfDs l' ∧ acc.length < l'.length ∧ l'.length ≤ acc.length + szc (d + 1) := by
      intro y hy
      obtain ⟨c', l', g1, g2, g3, g4, g5⟩ := colLoop k S d (by omega) (ih d rfl) (1 + v) (by omega) 3 k 0 c1 (acc ++ [y]) (by omega) (by omega) (by omega) hc1 (ha.app (WfDs.one hy)) (by simp; omega)
      simp at g4 g5
      exact ⟨c', l', g1, g2, g3, by omega, by omega⟩
    cases eqS name ⟨#[]⟩ with
    | true => simp only [cond_true]; exact loop _ (wfD_mk (by omega) z7 z0 (i64s (by omega) (by omega)))
    | false => simp only [cond_false]; exact loop _ (wfD_mk (by omega) z7 h2 (i64s (by omega) (by omega)))
  unfold spec_l5DrawCol.b
  obtain ⟨t, c1, e1, m1, hc1⟩ := pick_ok k [0, 1, 2, 5, 6] (by simp) (by simp) c hc
  simp only [List.mem_cons, List.not_mem_nil, or_false] at m1
  simp only [e1, Option.bind_some]
  obtain ⟨r, c2, e2, _, b2, hc2⟩ := below_ok k 3 (by omega) c1 hc1
  have b2 := b2 (by omega)
  simp only [e2, Option.bind_some]
  have hI : I64 t := i64s (by omega) (by omega)
  have hR : I64 r := i64s (by omega) (by omega)
  cases hn : eqS name ⟨#[]⟩ with
  | true =>
    simp only [cond_true]
    have : 0 < deep := by
      rcases Nat.eq_zero_or_pos deep with h | h
      · rw [hname h] at hn; cases hn
      · exact h
    exact group c2 r this hc2 hR
  | false =>
    simp only [cond_false]
    by_cases h : (deep : Int) > 0
    · simp only [decide_eq_true h, cond_true]
      obtain ⟨b, c3, e3, hc3⟩ := once_ok k 3 (by omega) c2 hc2
      simp only [e3, Option.bind_some]
      cases b with
      | true => simp only [cond_true]; exact group c3 r (by omega) hc3 hR
      | false => simp only [cond_false]; exact leaf c3 t r hc3 (by omega) hI hR
    · simp only [decide_eq_false h, cond_false]
      exact leaf c2 t r hc2 (by omega) hI hR

theorem drawCol_ok (hk : 100 ≤ k) : ∀ (deep D : Nat), deep ≤ 3 → deep < D → ColS (spec_l5DrawCol.rec k D) deep := by
  intro deep
  induction deep with
  | zero =>
    intro D hdeep hD
    obtain ⟨D, rfl⟩ : ∃ j, D = j + 1 := ⟨D - 1, by omega⟩
    exact colStep k hk 0 (by omega) _ (fun d h => by omega)
  | succ deep ihd =>
    intro D hdeep hD
    obtain ⟨D, rfl⟩ : ∃ j, D = j + 1 := ⟨D - 1, by omega⟩
    exact colStep k hk (deep + 1) hdeep _ (fun d h => by
      obtain rfl : d = deep := by omega
      exact ihd D (by omega) (by omega))

theorem wfSmall (hk : 1000 ≤ k) {s : List TCol} (h : WfDs s) : ∀ c, c ∈ s → c.1.size < k ∧ c.1.size < 1000000000 ∧ I64 c.2.2.2.1 := fun c hc => by
  obtain ⟨h0, _, _, h3⟩ := h c hc
  exact ⟨by omega, by omega, h3⟩

theorem dflt_ok (hk : 100 ≤ k) : spec_SchemaOk k [((⟨#[]⟩ : ByteArray), 7, 0, 1, ()), ((⟨#[97]⟩ : ByteArray), 2, 1, 0, ())] = some true := by
  obtain ⟨K, rfl⟩ : ∃ q, k = q + 100 := ⟨k - 100, by omega⟩
  kernel_rfl

theorem drawRightS_ok (hk : 1000 ≤ k) : ∀ (m n : Nat) (i : Int) (c : TL1Cur), CurOk c → 0 ≤ i → 9 - i ≤ m → m < n →
    ∃ c' l, spec_l5DrawRight.l2 k n i c = some ((), (c', l)) ∧ CurOk c' ∧ WfDs l ∧ 0 < l.length ∧ l.length ≤ 40 ∧ spec_SchemaOk k l = some true := by
  intro m
  induction m with
  | zero =>
    intro n i c hc hi hm hn
    obtain ⟨n, rfl⟩ : ∃ j, n = j + 1 := ⟨n - 1, by omega⟩
    simp only [spec_l5DrawRight.l2, decide_eq_false (show ¬ i < 9 by omega), cond_false]
    exact ⟨_, _, rfl, hc, (WfDs.one (wfD_mk (by decide) (i64s (by omega) (by omega)) (i64s (by omega) (by omega)) (i64s (by omega) (by omega)))).app (WfDs.one (wfD_mk (by decide) (i64s (by omega) (by omega)) (i64s (by omega) (by omega)) (i64s (by omega) (by omega)))), by simp, by simp, dflt_ok k (by omega)⟩
  | succ m ih =>
    intro n i c hc hi hm hn
    obtain ⟨n, rfl⟩ : ∃ j, n = j + 1 := ⟨n - 1, by omega⟩
    by_cases h : i < 9
    · obtain ⟨v, c1, e1, _, b1, hc1⟩ := below_ok k 3 (by omega) c hc
      have b1 := b1 (by omega)
      simp only [spec_l5DrawRight.l2, decide_eq_true h, cond_true, e1, Option.bind_some]
      rw [w64 (by omega) (by omega)]
      obtain ⟨d, hd⟩ : ∃ d : Nat, (d : Int) = 1 + v := ⟨(1 + v).toNat, by omega⟩
      rw [← hd]
      have hs := szc_le (show d ≤ 3 by omega)
      obtain ⟨c2, l, e2, hc2, hw, h1, h2⟩ := drawCol_ok k (by omega) d k (by omega) (by omega) ⟨#[]⟩ c1 [] (fun h => by omega) (by decide) hc1 WfDs.nil (by simp; omega)
      have e2 : spec_l5DrawCol k ⟨#[]⟩ (d : Int) c1 [] = some ((), (c2, l)) := e2
      obtain ⟨b, s1, _, _⟩ := schemaOk_eq k (by omega) l (wfSmall k hk hw)
      simp only [e2, Option.bind_some, s1]
      cases b with
      | true =>
        simp only [cond_true]
        exact ⟨_, _, rfl, hc2, hw, by simpa using h1, by simp at h2; omega, s1⟩
      | false =>
        simp only [cond_false]
        rw [w64 (by omega) (by omega)]
        exact ih n (i + 1) c2 hc2 (by omega) (by omega) (by omega)
    · simp only [spec_l5DrawRight.l2, decide_eq_false h, cond_false]
      exact ⟨_, _, rfl, hc, (WfDs.one (wfD_mk (by decide) (i64s (by omega) (by omega)) (i64s (by omega) (by omega)) (i64s (by omega) (by omega)))).app (WfDs.one (wfD_mk (by decide) (i64s (by omega) (by omega)) (i64s (by omega) (by omega)) (i64s (by omega) (by omega)))), by simp, by simp, dflt_ok k (by omega)⟩

theorem deepS_ok (many : Int) (hm : many ≤ 5) : ∀ (m n : Nat) (i : Int) (c : TL1Cur) (acc : List TCol), CurOk c → WfDs acc → 0 ≤ i → many - i ≤ m → m < n → acc.length + m ≤ 100 →
    ∃ c' l, spec_l5DrawSchema.l18 k n many i c acc = some ((), (c', l)) ∧ CurOk c' ∧ WfDs l ∧ l.length ≤ acc.length + m + 1 := by
  have z0 : I64 0 := i64s (by omega) (by omega)
  intro m
  induction m with
  | zero =>
    intro n i c acc hc ha hi hmi hn hl
    obtain ⟨n, rfl⟩ : ∃ j, n = j + 1 := ⟨n - 1, by omega⟩
    simp only [spec_l5DrawSchema.l18, decide_eq_false (show ¬ i < many by omega), cond_false, spec_l5DrawSchema.c22]
    rw [lim_ok (by simp; omega), cond_true]
    exact ⟨_, _, rfl, hc, ha.app (WfDs.one (wfD_mk (by decide) z0 z0 z0)), by simp⟩
  | succ m ih =>
    intro n i c acc hc ha hi hmi hn hl
    obtain ⟨n, rfl⟩ : ∃ j, n = j + 1 := ⟨n - 1, by omega⟩
    by_cases h : i < many
    · simp only [spec_l5DrawSchema.l18, decide_eq_true h, cond_true]
      rw [lim_ok (by simp; omega), cond_true, w64 (by omega) (by omega)]
      have ht : I64 (Int.tmod i 3) := by rw [Int.tmod_eq_emod_of_nonneg hi]; exact i64s (by omega) (by omega)
      obtain ⟨c', l, g1, g2, g3, g4⟩ := ih n (i + 1) c (acc ++ [((⟨#[103]⟩ : ByteArray), 7, Int.tmod i 3, 1, ())]) hc (ha.app (WfDs.one (wfD_mk (by decide) (i64s (by omega) (by omega)) ht (i64s (by omega) (by omega))))) (by omega) (by omega) (by omega) (by simp; omega)
      exact ⟨c', l, g1, g2, g3, by simp at g4; omega⟩
    · simp only [spec_l5DrawSchema.l18, decide_eq_false h, cond_false, spec_l5DrawSchema.c22]
      rw [lim_ok (by simp; omega), cond_true]
      exact ⟨_, _, rfl, hc, ha.app (WfDs.one (wfD_mk (by decide) z0 z0 z0)), by simp⟩

theorem drawSchema_ok (hk : 1000 ≤ k) (c : TL1Cur) (hc : CurOk c) : ∃ c' l, spec_l5DrawSchema k c = some ((), (c', l)) ∧ CurOk c' ∧ WfDs l ∧ l.length ≤ 100 := by
  have z0 : I64 0 := i64s (by omega) (by omega)
  unfold spec_l5DrawSchema spec_l5DrawRight
  obtain ⟨c1, l, e1, hc1, hw, hl0, hl, _⟩ := drawRightS_ok k hk 9 k 0 c hc (by omega) (by omega) (by omega)
  simp only [e1, Option.bind_some]
  obtain ⟨i, c2, e2, _, b2, hc2⟩ := below_ok k (l.length : Int) (by omega) c1 hc1
  obtain ⟨i0, i1⟩ := b2 (by omega)
  simp only [e2, Option.bind_some]
  obtain ⟨w, c3, e3, _, _, hc3⟩ := below_ok k 25 (by omega) c2 hc2
  simp only [e3, Option.bind_some]
  obtain ⟨y, hy, hy2⟩ := rdL_some i0 i1
  have hwy : WfD y := hw y (List.mem_of_getElem? hy2)
  have hls : ∀ z, (List.set l i.toNat z).length ≤ 100 := fun z => by simp; omega
  by_cases h0 : w = 0
  · obtain ⟨v, c4, e4, _, b4, hc4⟩ := below_ok k 9 (by omega) c3 hc3
    have b4 := b4 (by omega)
    simp only [beqT h0, cond_true, e4, Option.bind_some, hy, spec_l5DrawSchema.c22]
    exact ⟨_, _, rfl, hc4, hw.set (wfD_mk hwy.1 (i64s (by omega) (by omega)) hwy.2.2.1 hwy.2.2.2), hls _⟩
  simp only [beqF h0, cond_false]
  by_cases h1 : w = 1
  · obtain ⟨v, c4, e4, _, b4, hc4⟩ := below_ok k 5 (by omega) c3 hc3
    simp only [beqT h1, cond_true, e4, Option.bind_some, hy, spec_l5DrawSchema.c22]
    exact ⟨_, _, rfl, hc4, hw.set (wfD_mk hwy.1 hwy.2.1 ⟨w64_lo _, w64_hi _⟩ hwy.2.2.2), hls _⟩
  simp only [beqF h1, cond_false]
  by_cases h2 : w = 2
  · obtain ⟨v, c4, e4, _, b4, hc4⟩ := below_ok k 3 (by omega) c3 hc3
    simp only [beqT h2, cond_true, spec_l5DrawSchema.d9, e4, Option.bind_some, hy, spec_l5DrawSchema.c22]
    exact ⟨_, _, rfl, hc4, hw.set (wfD_mk hwy.1 hwy.2.1 hwy.2.2.1 ⟨w64_lo _, w64_hi _⟩), hls _⟩
  simp only [beqF h2, cond_false]
  by_cases h3 : w = 3
  · obtain ⟨v, c4, e4, b4, hc4⟩ := pickS_ok k [(⟨#[]⟩ : ByteArray), (⟨#[65]⟩ : ByteArray), (⟨#[97, 98]⟩ : ByteArray), (⟨#[97, 98, 99, 100, 101, 102, 103, 104, 105, 106, 107, 108, 109, 110, 111, 112, 113, 114, 115, 116]⟩ : ByteArray), (⟨#[97, 98, 99, 100, 101, 102, 103, 104, 105, 106, 107, 108, 109, 110, 111, 112, 113, 114, 115, 116, 117]⟩ : ByteArray)] (by simp) (by simp) c3 hc3
    have hv : v.size ≤ 100 := by
      simp only [List.mem_cons, List.not_mem_nil, or_false] at b4
      rcases b4 with rfl | rfl | rfl | rfl | rfl <;> decide
    simp only [beqT h3, cond_true, e4, Option.bind_some, hy, spec_l5DrawSchema.c22]
    exact ⟨_, _, rfl, hc4, hw.set (wfD_mk hv hwy.2.1 hwy.2.2.1 hwy.2.2.2), hls _⟩
  simp only [beqF h3, cond_false]
  by_cases h4 : w = 4
  · simp only [beqT h4, cond_true, spec_l5DrawSchema.c22]
    rw [lim_ok (by simp; omega), cond_true]
    exact ⟨_, _, rfl, hc3, hw.app (WfDs.one (wfD_mk (by decide) z0 z0 z0)), by simp; omega⟩
  simp only [beqF h4, cond_false]
  by_cases h5 : w = 5
  · obtain ⟨v, c4, e4, _, b4, hc4⟩ := below_ok k 2 (by omega) c3 hc3
    have b4 := b4 (by omega)
    simp only [beqT h5, cond_true, e4, Option.bind_some]
    rw [w64 (by omega) (by omega)]
    obtain ⟨c', l', g1, g2, g3, g4⟩ := deepS_ok k (4 + v) (by omega) 5 k 0 c4 [((⟨#[]⟩ : ByteArray), 7, 0, 1, ())] hc4 (WfDs.one (wfD_mk (by decide) (i64s (by omega) (by omega)) z0 (i64s (by omega) (by omega)))) (by omega) (by omega) (by omega) (by simp)
    exact ⟨c', l', g1, g2, g3, by simp at g4; omega⟩
  simp only [beqF h5, cond_false, spec_l5DrawSchema.c22]
  exact ⟨_, _, rfl, hc3, hw, by omega⟩


/-- a right schema is drawn -/
theorem drawCols_ok (hk : 1000 ≤ k) (c : TL1Cur) (hc : CurOk c) : ∃ c' l, spec_l5DrawRight k c = some ((), (c', l)) ∧ CurOk c' ∧ WfDs l ∧ l.length ≤ 20 ∧ spec_SchemaOk k l = some true ∧ impl_SchemaOk k l = some true ∧ IsSchema l := by
  obtain ⟨c1, l, e1, hc1, hw, hl0, hl, h1⟩ := drawRightS_ok k hk 9 k 0 c hc (by omega) (by omega) (by omega)
  obtain ⟨b, s1, s2, s3⟩ := schemaOk_eq k (by omega) l (wfSmall k hk hw)
  rw [h1] at s1
  have hb : b = true := by simpa using s1.symm
  subst hb
  exact ⟨c1, l, e1, hc1, hw, (s3 rfl).1.2.1, h1, s2, (s3 rfl).1⟩
end Go.Law
end

section
/- The empty record. -/
set_option linter.unusedVariables false
set_option linter.unusedSimpArgs false
set_option linter.unusedSectionVars false
namespace Go.Law
open Go.Am Go.Fn

def emPart (s : List TCol) (C : List TVal) (a : Nat) : List TVal := match s[a]? with
  | none => []
  | some c => if c.2.2.1 = 0 then C else [zv]
def emParts (F : Nat → List TVal) (e : Nat → Nat) : Nat → Nat → List TVal
  | 0, _ => []
  | m + 1, a => F a ++ emParts F e m (e a)
def emC (s : List TCol) : Nat → Nat → List TVal
  | 0, _ => []
  | d + 1, a => match s[a]? with
    | none => []
    | some c => if c.2.1 = 7 then emParts (fun a => emPart s (emC s d a) a) (endC s d) c.2.2.2.1.toNat (a + 1) else [zv]
def empV (s : List TCol) : List TVal := emC s 6 0

theorem emParts_mem {F : Nat → List TVal} {e : Nat → Nat} (h : ∀ a v, v ∈ F a → v = zv) : ∀ (m a : Nat) (v : TVal), v ∈ emParts F e m a → v = zv
  | 0, _, v, hv => by cases hv
  | m + 1, a, v, hv => (List.mem_append.1 hv).elim (h a v) (emParts_mem h m (e a) v)
theorem emC_mem {s : List TCol} : ∀ (d a : Nat) (v : TVal), v ∈ emC s d a → v = zv
  | 0, _, v, hv => by cases hv
  | d + 1, a, v, hv => by
    simp only [emC] at hv
    split at hv
    · cases hv
    · split at hv
      · refine emParts_mem (fun a v hv => ?_) _ _ v hv
        unfold emPart at hv
        split at hv
        · cases hv
        · split at hv
          · exact emC_mem d a v hv
          · simpa using hv
      · simpa using hv

theorem vok_zv {c : TCol} (hco : colOk c = true) (h7 : c.2.1 ≠ 7) : vok c.2.1 zv = true := by
  unfold colOk tyOk at hco
  unfold vok zv
  have he : eqS (⟨#[]⟩ : ByteArray) ⟨#[]⟩ = true := by rw [eqS_iff]; exact decide_eq_true rfl
  have hty : c.2.1 = 0 ∨ c.2.1 = 1 ∨ c.2.1 = 2 ∨ c.2.1 = 5 ∨ c.2.1 = 6 := by
    simp only [Bool.and_eq_true, Bool.or_eq_true, beq_iff_eq, decide_eq_true_eq] at hco
    omega
  simp only [he]
  rcases hty with h | h | h | h | h <;> rw [h] <;> decide

theorem zv_part {s : List TCol} {a e : Nat} {C : Int → Int → Int → List TVal → EvR} {c : TCol} (hc : s[a]? = some c) (h0 : ¬ c.2.2.1 = 0) (rep def_ deep : Int) (W : List TVal) : evPart s C e a rep def_ deep (zv :: W) = some (miss s rep def_ (e - a) a, W) := by
  unfold evPart
  rw [hc]
  simp only
  have hb : ∀ m : Int, 0 ≤ m → cbad zv m = false := fun m hm => by
    unfold cbad zv
    have he : eqS (⟨#[]⟩ : ByteArray) ⟨#[]⟩ = true := by rw [eqS_iff]; exact decide_eq_true rfl
    rw [he, decide_eq_true hm]; rfl
  rw [if_neg h0, hb 20 (by omega), hb 1 (by omega)]
  simp only [zv]
  split <;> rfl

/-- the empty record can be gone through, at no depth -/
theorem em_ev {s : List TCol} : ∀ (d a nx : Nat), d ≤ 6 → SubC s d a nx → ∀ (rep def_ deep : Int) (W : List TVal), ∃ X, evC s d a rep def_ deep (emC s d a ++ W) = some (X, W) ∧ (∀ e, e ∈ X → e.def_ = def_) ∧ (emC s d a).length ≤ nx - a
  | 0, _, _, _, h, _, _, _, _ => h.elim
  | d + 1, a, nx, hd, h, rep, def_, deep, W => by
    have hlt := SubC_lt _ _ _ h
    obtain ⟨c, hc, hco, _, hpp⟩ := h
    simp only [emC, evC, hc]
    by_cases h7 : c.2.1 = 7
    · rw [if_pos h7, if_pos h7]
      have key : ∀ (m pl : Nat) (names : List ByteArray) (W : List TVal), PartsC (SubC s d) s m pl names nx → ∃ X, evParts (fun a V => evPart s (evC s d a) (endC s d a) a rep def_ deep V) (endC s d) m pl (emParts (fun a => emPart s (emC s d a) a) (endC s d) m pl ++ W) = some (X, W) ∧ (∀ e, e ∈ X → e.def_ = def_) ∧ (emParts (fun a => emPart s (emC s d a) a) (endC s d) m pl).length ≤ nx - pl := by
        intro m
        induction m with
        | zero => intro pl names W hpp; exact ⟨[], rfl, fun e he => (by cases he), by simp [emParts]⟩
        | succ m ih =>
          intro pl names W hpp
          obtain ⟨cp, mid, hcp, q2, q3, q4⟩ := hpp
          have hmn := PartsC_nx (SubC_lt d) _ _ _ _ q4
          have hlt' := SubC_lt _ _ _ q3
          have hend : endC s d pl = mid := endC_eq d q3 d (Nat.le_refl _)
          obtain ⟨Y, y1, y2, y3⟩ := ih mid _ W q4
          have hpart : ∃ X, evPart s (evC s d pl) mid pl rep def_ deep (emPart s (emC s d pl) pl ++ (emParts (fun a => emPart s (emC s d a) a) (endC s d) m mid ++ W)) = some (X, emParts (fun a => emPart s (emC s d a) a) (endC s d) m mid ++ W) ∧ (∀ e, e ∈ X → e.def_ = def_) ∧ (emPart s (emC s d pl) pl).length ≤ mid - pl := by
            unfold emPart
            rw [hcp]
            simp only
            by_cases h0 : cp.2.2.1 = 0
            · rw [if_pos h0]
              obtain ⟨X, x1, x2, x3⟩ := em_ev d pl mid (by omega) q3 rep def_ deep (emParts (fun a => emPart s (emC s d a) a) (endC s d) m mid ++ W)
              refine ⟨X, ?_, x2, x3⟩
              unfold evPart
              rw [hcp]
              simp only
              rw [if_pos h0]
              exact x1
            · rw [if_neg h0]
              refine ⟨_, zv_part hcp h0 rep def_ deep _, fun e he => ?_, by simp; omega⟩
              exact (miss_mem _ _ _ he).2.2.2.2.1
          obtain ⟨X, x1, x2, x3⟩ := hpart
          refine ⟨X ++ Y, ?_, fun e he => (List.mem_append.1 he).elim (x2 e) (y2 e), ?_⟩
          · simp only [evParts, emParts, hend, List.append_assoc]
            rw [x1]
            simp only [evPair, y1]
          · simp only [emParts, hend, List.length_append]; omega
      obtain ⟨X, x1, x2, x3⟩ := key _ _ _ W hpp
      exact ⟨X, x1, x2, by omega⟩
    · rw [if_neg h7, if_neg h7]
      simp only [List.singleton_append]
      rw [if_pos (vok_zv hco h7)]
      exact ⟨_, rfl, fun e he => (by rw [List.mem_singleton] at he; rw [he]), by simp; omega⟩

theorem emp_ev {s : List TCol} (hS : IsSchema s) : ∃ X, recEv s (empV s) = some X ∧ (∀ e, e ∈ X → e.def_ = 0) ∧ (empV s).length ≤ 20 := by
  obtain ⟨X, x1, x2, x3⟩ := em_ev 6 0 s.length (Nat.le_refl _) hS.2.2.1 0 0 0 []
  rw [List.append_nil] at x1
  have hs := hS.2.1
  have hl : (empV s).length ≤ 20 := by unfold empV; omega
  refine ⟨X, ?_, x2, hl⟩
  unfold recEv
  rw [if_pos (by omega)]
  unfold empV
  rw [x1]

section
variable (k : Nat) (s : List TCol) (hs : s.length ≤ 20) (hn : ∀ c, c ∈ s → c.1.size < k ∧ c.1.size < 1000000000 ∧ I64 c.2.2.2.1) (hk : 2000000 ≤ k)
include hs hn hk

theorem semp_rec : ∀ (d D a nx : Nat), SubC s d a nx → nx ≤ s.length → d ≤ 6 → d ≤ D → spec_l13Empty.rec k D s (a : Int) = some ((), if decide (0 < a) = true then emPart s (emC s d a) a else emC s d a) := by
  intro d
  induction d with
  | zero => intro D a nx h; exact h.elim
  | succ d ih =>
    intro D a nx h hnx hd hD
    obtain ⟨D, rfl⟩ : ∃ q, D = q + 1 := ⟨D - 1, by omega⟩
    have hsub := h
    have hlt := SubC_lt _ _ _ h
    obtain ⟨c, hc, hco, _, hpp⟩ := h
    have hcr : rdL s (a : Int) = some c := hc
    have hcm := (hn c (List.mem_of_getElem? hc)).2.2
    have hmp := PartsC_le (SubC_lt d) _ _ _ _ hpp
    have ha1 : IntKind.wrap .i64 ((a : Int) + 1) = ((a + 1 : Nat) : Int) := by rw [w64 (by omega) (by omega)]; omega
    have hb5 : ((cond (decide ((a : Int) > 0)) ((rdL s (a : Int)).bind fun y4 => some (y4.2.2.1 != 0)) (some false)) : Option Bool) = some (decide (0 < a) && (c.2.2.1 != 0)) := by
      rw [hcr]
      by_cases h : 0 < a
      · rw [decide_eq_true (show (a : Int) > 0 by omega), decide_eq_true h]; rfl
      · rw [decide_eq_false (show ¬ (a : Int) > 0 by omega), decide_eq_false h]; rfl
    have hloop : c.2.1 = 7 → spec_l13Empty.l6 k (spec_l13Empty.rec k D) k s (a : Int) ((a + 1 : Nat) : Int) 0 [] = some ((), emC s (d + 1) a) := by
      intro h7
      have hmn : 0 ≤ c.2.2.2.1 := by
        unfold colOk at hco
        rw [h7, tyOk_7] at hco
        simp at hco
        omega
      have key : ∀ (m pl : Nat) (i : Int) (names : List ByteArray) (f : Nat) (o : List TVal), PartsC (SubC s d) s m pl names nx → c.2.2.2.1 - i = m → 0 ≤ i → m < f → 0 < pl → o.length ≤ pl →
          spec_l13Empty.l6 k (spec_l13Empty.rec k D) f s (a : Int) (pl : Int) i o = some ((), o ++ emParts (fun a => emPart s (emC s d a) a) (endC s d) m pl) := by
        intro m
        induction m with
        | zero =>
          intro pl i names f o hpp hi h0 hf hpl ho
          obtain ⟨f, rfl⟩ : ∃ q, f = q + 1 := ⟨f - 1, by omega⟩
          simp only [spec_l13Empty.l6, hcr, Option.bind_some, decide_eq_false (show ¬ (i < c.2.2.2.1) by omega), cond_false, emParts, List.append_nil]
        | succ m ihm =>
          intro pl i names f o hpp hi h0 hf hpl ho
          obtain ⟨q, mid, q1, q2, q3, q4⟩ := hpp
          have hmn' := PartsC_nx (SubC_lt d) _ _ _ _ q4
          have hlt' := SubC_lt _ _ _ q3
          obtain ⟨f, rfl⟩ : ∃ q, f = q + 1 := ⟨f - 1, by omega⟩
          have hi1 : IntKind.wrap .i64 (i + 1) = i + 1 := w64 (by omega) (by omega)
          have hend : endC s d pl = mid := endC_eq d q3 d (Nat.le_refl _)
          have haf := l5After_sub k s hs hn (by omega) q3 (show d ≤ 6 by omega) (by omega)
          have hr := ih D pl mid q3 (by omega) (by omega) (by omega)
          rw [if_pos (decide_eq_true hpl)] at hr
          have hlen : (emPart s (emC s d pl) pl).length ≤ mid - pl := by
            unfold emPart
            split
            · simp
            · split
              · exact (em_ev d pl mid (by omega) q3 0 0 0 []).choose_spec.2.2
              · simp; omega
          simp only [spec_l13Empty.l6, hcr, Option.bind_some, decide_eq_true (show i < c.2.2.2.1 by omega), cond_true, hr, haf, hi1]
          rw [lim_ok (by omega), cond_true, ihm mid (i + 1) _ f _ q4 (by omega) (by omega) (by omega) (by omega) (by rw [List.length_append]; omega)]
          simp only [emParts, hend, List.append_assoc]
      have := key c.2.2.2.1.toNat (a + 1) 0 [] k [] hpp (by omega) (by omega) (by omega) (by omega) (by simp)
      rw [this, List.nil_append]
      simp only [emC, hc]
      rw [if_pos h7]
    simp only [spec_l13Empty.rec, spec_l13Empty.b, hb5, Option.bind_some, ha1]
    cases hz : (decide (0 < a) && (c.2.2.1 != 0)) with
    | true =>
      simp only [Bool.and_eq_true, decide_eq_true_eq, bne_iff_ne] at hz
      simp only [cond_true, Option.bind_some]
      rw [if_pos (decide_eq_true hz.1)]
      unfold emPart
      rw [hc]
      simp only
      rw [if_neg hz.2]
      rfl
    | false =>
      simp only [cond_false, hcr, Option.bind_some]
      have hpc : (if decide (0 < a) = true then emPart s (emC s (d + 1) a) a else emC s (d + 1) a) = emC s (d + 1) a := by
        by_cases h : 0 < a
        · rw [if_pos (decide_eq_true h)]
          rw [decide_eq_true h, Bool.true_and] at hz
          unfold emPart
          rw [hc]
          simp only
          rw [if_pos (by simpa using hz)]
        · rw [if_neg (by simp [h])]
      rw [hpc]
      by_cases h7 : c.2.1 = 7
      · rw [bneF h7, cond_false, hloop h7]
      · rw [bneT h7, cond_true]
        simp only [emC, hc]
        rw [if_neg h7]
        rfl

theorem iemp_rec : ∀ (d D a nx : Nat), SubC s d a nx → nx ≤ s.length → d ≤ 6 → d ≤ D → (∀ c, s[a]? = some c → c.2.1 = 7) → impl_emptyOf.rec k D s (a : Int) = some ((), emC s d a) := by
  intro d
  induction d with
  | zero => intro D a nx h; exact h.elim
  | succ d ih =>
    intro D a nx h hnx hd hD hg
    obtain ⟨D, rfl⟩ : ∃ q, D = q + 1 := ⟨D - 1, by omega⟩
    have hlt := SubC_lt _ _ _ h
    obtain ⟨c, hc, hco, _, hpp⟩ := h
    have h7 := hg c hc
    have hcr : rdL s (a : Int) = some c := hc
    have hcm := (hn c (List.mem_of_getElem? hc)).2.2
    have hmp := PartsC_le (SubC_lt d) _ _ _ _ hpp
    have ha1 : IntKind.wrap .i64 ((a : Int) + 1) = ((a + 1 : Nat) : Int) := by rw [w64 (by omega) (by omega)]; omega
    have hmn : 0 ≤ c.2.2.2.1 := by
      unfold colOk at hco
      rw [h7, tyOk_7] at hco
      simp at hco
      omega
    have key : ∀ (m pl : Nat) (i : Int) (names : List ByteArray) (f : Nat) (o : List TVal), PartsC (SubC s d) s m pl names nx → c.2.2.2.1 - i = m → 0 ≤ i → m < f → o.length ≤ pl →
        impl_emptyOf.l4 k (impl_emptyOf.rec k D) f s (pl : Int) c.2.2.2.1 i o = some ((), o ++ emParts (fun a => emPart s (emC s d a) a) (endC s d) m pl) := by
      intro m
      induction m with
      | zero =>
        intro pl i names f o hpp hi h0 hf ho
        obtain ⟨f, rfl⟩ : ∃ q, f = q + 1 := ⟨f - 1, by omega⟩
        simp only [impl_emptyOf.l4, decide_eq_false (show ¬ (i < c.2.2.2.1) by omega), cond_false, emParts, List.append_nil]
      | succ m ihm =>
        intro pl i names f o hpp hi h0 hf ho
        obtain ⟨q, mid, q1, q2, q3, q4⟩ := hpp
        have hmn' := PartsC_nx (SubC_lt d) _ _ _ _ q4
        have hlt' := SubC_lt _ _ _ q3
        obtain ⟨f, rfl⟩ : ∃ q, f = q + 1 := ⟨f - 1, by omega⟩
        have hi1 : IntKind.wrap .i64 (i + 1) = i + 1 := w64 (by omega) (by omega)
        have hend : endC s d pl = mid := endC_eq d q3 d (Nat.le_refl _)
        have haf := colAfter_sub k s hs hn (by omega) q3 (show d ≤ 6 by omega) (by omega)
        have hcp := List.getElem?_eq_getElem (show pl < s.length by omega)
        generalize s[pl]'_ = cp at hcp
        have hcpr : rdL s (pl : Int) = some cp := hcp
        have hem : emPart s (emC s d pl) pl = if cp.2.2.1 = 0 then emC s d pl else [zv] := by unfold emPart; rw [hcp]
        have hlen : (emC s d pl).length ≤ mid - pl := (em_ev d pl mid (by omega) q3 0 0 0 []).choose_spec.2.2
        have step : ∀ o' : List TVal, o' = o ++ emPart s (emC s d pl) pl → o'.length ≤ mid → impl_emptyOf.l4 k (impl_emptyOf.rec k D) f s (mid : Int) c.2.2.2.1 (i + 1) o' = some ((), o ++ emParts (fun a => emPart s (emC s d a) a) (endC s d) (m + 1) pl) := by
          intro o' ho' hl
          rw [ihm mid (i + 1) _ f o' q4 (by omega) (by omega) (by omega) hl, ho']
          simp only [emParts, hend, List.append_assoc]
        simp only [impl_emptyOf.l4, decide_eq_true (show i < c.2.2.2.1 by omega), cond_true, hcpr, Option.bind_some, impl_emptyOf.c8, haf, hi1]
        have hzv : ((cp.2.2.1 = 0 → cp.2.1 ≠ 7)) → emPart s (emC s d pl) pl = [zv] := by
          intro hh
          rw [hem]
          split
          · rename_i h0
            have := hh h0
            obtain ⟨d', rfl⟩ : ∃ q, d = q + 1 := ⟨d - 1, by cases d with
              | zero => exact q3.elim
              | succ d => omega⟩
            simp only [emC, hcp]
            rw [if_neg this]
          · rfl
        by_cases h0 : cp.2.2.1 = 0
        · rw [beqT h0, cond_true]
          simp only [Option.bind_some]
          by_cases hp7 : cp.2.1 = 7
          · rw [beqT hp7, cond_true, ih D pl mid q3 (by omega) (by omega) (by omega) (fun c' h' => by rw [hcp] at h'; cases h'; exact hp7)]
            simp only [Option.bind_some]
            rw [lim_ok (by omega), cond_true]
            exact step _ (by rw [hem, if_pos h0]) (by rw [List.length_append]; omega)
          · rw [beqF hp7, cond_false, lim_ok (by simp; omega), cond_true]
            exact step _ (by rw [hzv (fun _ => hp7)]; rfl) (by simp; omega)
        · rw [beqF h0, cond_false]
          simp only [Option.bind_some, cond_false]
          rw [lim_ok (by simp; omega), cond_true]
          exact step _ (by rw [hzv (fun h => absurd h h0)]; rfl) (by simp; omega)
    simp only [impl_emptyOf.rec, impl_emptyOf.b, hcr, Option.bind_some, ha1]
    rw [key c.2.2.2.1.toNat (a + 1) 0 [] k [] hpp (by omega) (by omega) (by omega) (by simp), List.nil_append]
    simp only [emC, hc]
    rw [if_pos h7]
end

theorem recEmpty_eq (k : Nat) (hk : 2000000 ≤ k) (s : List TCol) (hn : ∀ c, c ∈ s → c.1.size < k ∧ c.1.size < 1000000000 ∧ I64 c.2.2.2.1) (hS : IsSchema s) :
    (spec_RecEmpty k s = (spec_SchemaOk k s).bind fun r1 => cond (!r1) (some ((((), ()), false), [])) (some ((((), ()), true), empV s))) ∧
    (impl_RecEmpty k s = (impl_SchemaOk k s).bind fun r1 => cond (!r1) (some ((((), ()), false), [])) (some ((((), ()), true), empV s))) ∧ (recEv s (empV s)).isSome = true := by
  obtain ⟨c0, hc0, h70, _⟩ := schema_top hS
  have h1 : spec_l13Empty k s 0 = some ((), if decide (0 < 0) = true then emPart s (emC s 6 0) 0 else emC s 6 0) := semp_rec k s hS.2.1 hn hk 6 k 0 s.length hS.2.2.1 (Nat.le_refl _) (by omega) (by omega)
  have h2 : impl_emptyOf k s 0 = some ((), emC s 6 0) := iemp_rec k s hS.2.1 hn hk 6 k 0 s.length hS.2.2.1 (Nat.le_refl _) (by omega) (by omega) (fun c h => by rw [hc0] at h; cases h; exact h70)
  obtain ⟨X, x1, _⟩ := emp_ev hS
  refine ⟨?_, ?_, by rw [x1]; rfl⟩
  · unfold spec_RecEmpty
    rw [h1]; rfl
  · unfold impl_RecEmpty
    rw [h2]; rfl
end Go.Law
end

section
/- Records are drawn, whatever the bytes. -/
set_option linter.unusedVariables false
set_option linter.unusedSimpArgs false
set_option linter.unusedSectionVars false
namespace Go.Law
open Go.Am Go.Fn

def WfVs' (l : List TVal) : Prop := ∀ v, v ∈ l → WfV v
theorem WfVs'.app {a b : List TVal} (h : WfVs' a) (h' : WfVs' b) : WfVs' (a ++ b) := fun n hn => (List.mem_append.1 hn).elim (h n) (h' n)
theorem WfVs'.one {v : TVal} (h : WfV v) : WfVs' [v] := fun m hm => by simp at hm; subst hm; exact h

def bnd : Nat → Nat
  | 0 => 1
  | d + 1 => 21 * bnd d
theorem bnd_pos : ∀ d, 1 ≤ bnd d
  | 0 => Nat.le_refl _
  | d + 1 => by have := bnd_pos d; simp only [bnd]; omega
theorem bnd_mono (d : Nat) : bnd d ≤ bnd (d + 1) := by simp only [bnd]; omega
theorem bnd6 {d : Nat} (h : d ≤ 6) : bnd d ≤ 85766121 := by
  have : ∀ d e, d ≤ e → bnd d ≤ bnd e := by
    intro d e h
    induction h with
    | refl => exact Nat.le_refl _
    | step _ ih => exact Nat.le_trans ih (bnd_mono _)
  exact Nat.le_trans (this d 6 h) (by decide)

section
variable (k : Nat) (s : List TCol) (hs : s.length ≤ 20) (hn : ∀ c, c ∈ s → c.1.size < k ∧ c.1.size < 1000000000 ∧ I64 c.2.2.2.1) (hk : 2000000 ≤ k)
include hs hn hk

/-- a step of a draw -/
def DrS (r : Option (Unit × TL1Cur × List TVal)) (acc : List TVal) (B : Nat) : Prop := ∃ c' Y, r = some ((), (c', acc ++ Y)) ∧ CurOk c' ∧ Y.length ≤ B ∧ WfVs' Y

theorem drItems (S : List TCol → Int → TL1Cur → List TVal → Option (Unit × TL1Cur × List TVal)) (a : Nat) (B : Nat) (n : Int) (hn20 : n ≤ 20)
    (h : ∀ (f : Nat) (i : Int) (c : TL1Cur) (acc : List TVal), i < n → 0 ≤ i → CurOk c → acc.length + B ≤ 4294967295 → ∃ c' Y, CurOk c' ∧ Y.length ≤ B ∧ WfVs' Y ∧ spec_l13DrawPart.l10 k S (f + 1) s (a : Int) n i c acc = spec_l13DrawPart.l10 k S f s (a : Int) n (i + 1) c' (acc ++ Y)) :
    ∀ (m : Nat) (i : Int) (f : Nat) (c : TL1Cur) (acc : List TVal), n - i ≤ m → 0 ≤ i → m < f → CurOk c → acc.length + B * m ≤ 4294967295 → DrS (spec_l13DrawPart.l10 k S f s (a : Int) n i c acc) acc (B * m) := by
  intro m
  induction m with
  | zero =>
    intro i f c acc hi h0 hf hc ha
    obtain ⟨f, rfl⟩ : ∃ q, f = q + 1 := ⟨f - 1, by omega⟩
    simp only [spec_l13DrawPart.l10, decide_eq_false (show ¬ i < n by omega), cond_false]
    exact ⟨c, [], by simp, hc, by simp, fun v hv => by cases hv⟩
  | succ m ih =>
    intro i f c acc hi h0 hf hc ha
    obtain ⟨f, rfl⟩ : ∃ q, f = q + 1 := ⟨f - 1, by omega⟩
    rw [Nat.mul_succ] at ha
    by_cases hlt : i < n
    · obtain ⟨c', Y, q1, q2, q3, q4⟩ := h f i c acc hlt h0 hc (by omega)
      rw [q4]
      obtain ⟨c2, Y2, r1, r2, r3, r4⟩ := ih (i + 1) f c' (acc ++ Y) (by omega) (by omega) (by omega) q1 (by rw [List.length_append]; omega)
      exact ⟨c2, Y ++ Y2, by rw [r1, List.append_assoc], r2, by rw [List.length_append, Nat.mul_succ]; omega, q3.app r4⟩
    · simp only [spec_l13DrawPart.l10, decide_eq_false hlt, cond_false]
      exact ⟨c, [], by simp, hc, by simp, fun v hv => by cases hv⟩

theorem drPart_ok : ∀ (d E a nx : Nat), SubC s d a nx → nx ≤ s.length → d ≤ 6 → d ≤ E →
    (∀ (n : Int) (f : Nat) (i : Int) (c : TL1Cur) (acc : List TVal), n ≤ 20 → i < n → 0 ≤ i → CurOk c → acc.length + bnd d * (nx - a) ≤ 4294967295 →
      ∃ c' Y, CurOk c' ∧ Y.length ≤ bnd d * (nx - a) ∧ WfVs' Y ∧ spec_l13DrawPart.l10 k (spec_l13DrawPart.rec k E) (f + 1) s (a : Int) n i c acc = spec_l13DrawPart.l10 k (spec_l13DrawPart.rec k E) f s (a : Int) n (i + 1) c' (acc ++ Y)) ∧
    (∀ (c : TL1Cur) (acc : List TVal), CurOk c → acc.length + bnd (d + 1) * (nx - a) ≤ 4294967295 → DrS (spec_l13DrawPart.rec k (E + 1) s (a : Int) c acc) acc (bnd (d + 1) * (nx - a))) := by
  intro d
  induction d with
  | zero => intro E a nx h; exact h.elim
  | succ d ih =>
    intro E a nx h hnx hd hE
    obtain ⟨E, rfl⟩ : ∃ q, E = q + 1 := ⟨E - 1, by omega⟩
    have hlt := SubC_lt _ _ _ h
    have hsub := h
    obtain ⟨col, hc, hco, _, hpp⟩ := h
    have hcr : rdL s (a : Int) = some col := hc
    have hcm := (hn col (List.mem_of_getElem? hc)).2.2
    have hmp := PartsC_le (SubC_lt d) _ _ _ _ hpp
    have ha1 : IntKind.wrap .i64 ((a : Int) + 1) = ((a + 1 : Nat) : Int) := by rw [w64 (by omega) (by omega)]; omega
    have hbp := bnd_pos (d + 1)
    have hcont : ∀ (n : Int) (f : Nat) (i : Int) (c : TL1Cur) (acc : List TVal), n ≤ 20 → i < n → 0 ≤ i → CurOk c → acc.length + bnd (d + 1) * (nx - a) ≤ 4294967295 →
      ∃ c' Y, CurOk c' ∧ Y.length ≤ bnd (d + 1) * (nx - a) ∧ WfVs' Y ∧ spec_l13DrawPart.l10 k (spec_l13DrawPart.rec k (E + 1)) (f + 1) s (a : Int) n i c acc = spec_l13DrawPart.l10 k (spec_l13DrawPart.rec k (E + 1)) f s (a : Int) n (i + 1) c' (acc ++ Y) := by
      intro n f i c acc hn20 hi h0 hcu ha
      have hi1 : IntKind.wrap .i64 (i + 1) = i + 1 := w64 (by omega) (by omega)
      have hB1 : bnd (d + 1) * 1 ≤ bnd (d + 1) * (nx - a) := Nat.mul_le_mul_left _ (by omega)
      by_cases h7 : col.2.1 = 7
      · have hmn : 0 ≤ col.2.2.2.1 := by
          unfold colOk at hco
          rw [h7, tyOk_7] at hco
          simp at hco
          omega
        have key : ∀ (m pl : Nat) (j : Int) (names : List ByteArray) (f2 : Nat) (c : TL1Cur) (acc : List TVal), PartsC (SubC s d) s m pl names nx → col.2.2.2.1 - j = m → 0 ≤ j → m < f2 → CurOk c → acc.length + bnd (d + 1) * (nx - pl) ≤ 4294967295 →
            ∃ c' Y, CurOk c' ∧ Y.length ≤ bnd (d + 1) * (nx - pl) ∧ WfVs' Y ∧ spec_l13DrawPart.l16 k (spec_l13DrawPart.rec k (E + 1)) (spec_l13DrawPart.l10 k (spec_l13DrawPart.rec k (E + 1)) f) f2 s (a : Int) n i (pl : Int) j c acc = spec_l13DrawPart.l10 k (spec_l13DrawPart.rec k (E + 1)) f s (a : Int) n (i + 1) c' (acc ++ Y) := by
          intro m
          induction m with
          | zero =>
            intro pl j names f2 c acc hpp hj h0 hf hcu ha
            obtain ⟨f2, rfl⟩ : ∃ q, f2 = q + 1 := ⟨f2 - 1, by omega⟩
            refine ⟨c, [], hcu, by simp, fun v hv => (by cases hv), ?_⟩
            simp only [spec_l13DrawPart.l16, hcr, Option.bind_some, decide_eq_false (show ¬ (j < col.2.2.2.1) by omega), cond_false, spec_l13DrawPart.c11, hi1, List.append_nil]
          | succ m ihm =>
            intro pl j names f2 c acc hpp hj h0 hf hcu ha
            obtain ⟨q, mid, q1, q2, q3, q4⟩ := hpp
            have hmn' := PartsC_nx (SubC_lt d) _ _ _ _ q4
            have hlt' := SubC_lt _ _ _ q3
            obtain ⟨f2, rfl⟩ : ∃ q, f2 = q + 1 := ⟨f2 - 1, by omega⟩
            have hj1 : IntKind.wrap .i64 (j + 1) = j + 1 := w64 (by omega) (by omega)
            have haf := l5After_sub k s hs hn (by omega) q3 (show d ≤ 6 by omega) (by omega)
            have hsplit : bnd (d + 1) * (nx - pl) = bnd (d + 1) * (mid - pl) + bnd (d + 1) * (nx - mid) := by rw [← Nat.mul_add]; congr 1; omega
            obtain ⟨c1, Y1, e1, e2, e3, e4⟩ := (ih E pl mid q3 (by omega) (by omega) (by omega)).2 c acc hcu (by omega)
            obtain ⟨c2, Y2, g1, g2, g3, g4⟩ := ihm mid (j + 1) _ f2 c1 (acc ++ Y1) q4 (by omega) (by omega) (by omega) e2 (by rw [List.length_append]; omega)
            refine ⟨c2, Y1 ++ Y2, g1, by rw [List.length_append]; omega, e4.app g3, ?_⟩
            simp only [spec_l13DrawPart.l16, hcr, Option.bind_some, decide_eq_true (show j < col.2.2.2.1 by omega), cond_true, e1, haf, hj1]
            rw [g4, List.append_assoc]
        have hle : bnd (d + 1) * (nx - (a + 1)) ≤ bnd (d + 1) * (nx - a) := Nat.mul_le_mul_left _ (by omega)
        obtain ⟨c', Y, g1, g2, g3, g4⟩ := key col.2.2.2.1.toNat (a + 1) 0 [] k c acc hpp (by omega) (by omega) (by omega) hcu (by omega)
        refine ⟨c', Y, g1, by omega, g3, ?_⟩
        rw [← g4]
        simp only [spec_l13DrawPart.l10, decide_eq_true hi, cond_true, hcr, Option.bind_some, bneF h7, cond_false, ha1]
      · obtain ⟨v, c', e1, e2, e3⟩ := drawRight_ok k (by omega) col.2.1 c hcu
        refine ⟨c', [v], e3, by simp only [List.length_singleton]; omega, WfVs'.one e2, ?_⟩
        simp only [spec_l13DrawPart.l10, decide_eq_true hi, cond_true, hcr, Option.bind_some, bneT h7, e1, spec_l13DrawPart.c11, hi1]
        rw [lim_ok (by simp; omega), cond_true]
    refine ⟨hcont, fun c acc hcu ha => ?_⟩
    have hb2 : bnd (d + 2) * (nx - a) = 21 * (bnd (d + 1) * (nx - a)) := by simp only [bnd]; rw [Nat.mul_assoc]
    have hB1 : bnd (d + 1) * 1 ≤ bnd (d + 1) * (nx - a) := Nat.mul_le_mul_left _ (by omega)
    rw [hb2] at ha ⊢
    generalize hBB : bnd (d + 1) * (nx - a) = B at *
    have items : ∀ (n : Int) (c : TL1Cur) (acc : List TVal) (m : Nat), n ≤ m → m ≤ 20 → CurOk c → acc.length + B * m ≤ 4294967295 → DrS (spec_l13DrawPart.l10 k (spec_l13DrawPart.rec k (E + 1)) k s (a : Int) n 0 c acc) acc (B * m) := by
      intro n c acc m h1 h2 hcu ha
      refine drItems k s hs hn hk (spec_l13DrawPart.rec k (E + 1)) a B n (by omega) (fun f i c acc hi h0 hcu ha => hcont n f i c acc (by omega) hi h0 hcu ha) m 0 k c acc (by omega) (by omega) (by omega) hcu ha
    have some_ : ∀ (n : Int) (c : TL1Cur), 0 ≤ n → n ≤ 20 → CurOk c → DrS (spec_l13DrawPart.c8 k (spec_l13DrawPart.rec k (E + 1)) s (a : Int) n c acc) acc (21 * B) := by
      intro n c h0 h20 hcu
      obtain ⟨m, rfl⟩ := Int.eq_ofNat_of_zero_le h0
      have hBm : B * m ≤ B * 20 := Nat.mul_le_mul_left _ (by omega)
      unfold spec_l13DrawPart.c8 spec_l13DrawPart.c9
      rw [lim_ok (by simp; omega), cond_true]
      obtain ⟨c', Y, e1, e2, e3, e4⟩ := items (m : Int) c (acc ++ [((m : Int), (⟨#[]⟩ : ByteArray), ())]) m (by omega) (by omega) hcu (by simp; omega)
      refine ⟨c', [((m : Int), (⟨#[]⟩ : ByteArray), ())] ++ Y, by rw [e1, List.append_assoc], e2, by rw [List.length_append, List.length_singleton]; omega, WfVs'.app (WfVs'.one ⟨⟨by omega, by omega⟩, e0⟩) e4⟩
    rw [show spec_l13DrawPart.rec k (E + 1 + 1) = spec_l13DrawPart.b k (spec_l13DrawPart.rec k (E + 1)) from rfl]
    unfold spec_l13DrawPart.b
    have hb8 : ((cond (decide ((a : Int) > 0)) ((rdL s (a : Int)).bind fun y7 => some (y7.2.2.1 != 0)) (some false)) : Option Bool) = some (decide (0 < a) && (col.2.2.1 != 0)) := by
      rw [hcr]
      by_cases h : 0 < a
      · rw [decide_eq_true (show (a : Int) > 0 by omega), decide_eq_true h]; rfl
      · rw [decide_eq_false (show ¬ (a : Int) > 0 by omega), decide_eq_false h]; rfl
    rw [hb8]
    simp only [Option.bind_some]
    cases hbb : (decide (0 < a) && (col.2.2.1 != 0)) with
    | false =>
      simp only [cond_false, spec_l13DrawPart.c9]
      obtain ⟨c', Y, e1, e2, e3, e4⟩ := items 1 c acc 1 (by omega) (by omega) hcu (by omega)
      exact ⟨c', Y, e1, e2, by omega, e4⟩
    | true =>
      simp only [cond_true]
      obtain ⟨v1, c1, e1, _, b1, hc1⟩ := below_ok k 2 (by omega) c hcu
      have b1 := b1 (by omega)
      simp only [e1, Option.bind_some, hcr]
      by_cases h2 : col.2.2.1 = 2
      · rw [beqT h2, cond_true]
        obtain ⟨v2, c2, e2, _, b2, hc2⟩ := below_ok k 4 (by omega) c1 hc1
        have b2 := b2 (by omega)
        obtain ⟨v3, c3, e3, hc3⟩ := once_ok k 60 (by omega) c2 hc2
        simp only [e2, e3, Option.bind_some]
        cases v3 with
        | true => exact some_ 20 c3 (by omega) (by omega) hc3
        | false => exact some_ v2 c3 (by omega) (by omega) hc3
      · rw [beqF h2, cond_false]
        exact some_ v1 c1 (by omega) (by omega) hc1
end

/-- a right record is drawn -/
theorem drawRec_ok (k : Nat) (hk : 2000000 ≤ k) (s : List TCol) (hw : WfDs s) (hS : IsSchema s) (hok : spec_SchemaOk k s = some true) (c : TL1Cur) (hc : CurOk c) :
    ∃ c' V, spec_l13DrawRight k s c = some (((), ()), (c', V)) ∧ CurOk c' ∧ (recEv s V).isSome = true ∧ WfVs' V := by
  have hn := wfSmall k (by omega) hw
  have hs20 := hS.2.1
  obtain ⟨k', rfl⟩ : ∃ q, k = q + 7 := ⟨k - 7, by omega⟩
  have hb := bnd6 (Nat.le_refl 6)
  have hb7 : bnd 7 = 21 * bnd 6 := rfl
  have hbb : bnd 6 * s.length ≤ 85766121 * 20 := Nat.mul_le_mul hb hs20
  have h0 := (drPart_ok (k' + 7) s hs20 hn hk 6 (k' + 6) 0 s.length hS.2.2.1 (Nat.le_refl _) (by omega) (by omega)).1
  -- the root is Required: one item
  have hpart : DrS (spec_l13DrawPart (k' + 7) s 0 c []) [] (bnd 6 * s.length) := by
    show DrS (spec_l13DrawPart.b (k' + 7) (spec_l13DrawPart.rec (k' + 7) (k' + 6)) s 0 c []) [] _
    unfold spec_l13DrawPart.b spec_l13DrawPart.c9
    rw [show decide ((0 : Int) > 0) = false from rfl]
    simp only [cond_false, Option.bind_some]
    obtain ⟨c', Y, e1, e2, e3, e4⟩ := h0 1 (k' + 6) 0 c [] (by omega) (by omega) (by omega) hc (by simp; omega)
    have e4 : spec_l13DrawPart.l10 (k' + 7) (spec_l13DrawPart.rec (k' + 7) (k' + 6)) (k' + 7) s 0 1 0 c [] = _ := e4
    rw [e4]
    refine ⟨c', Y, ?_, e1, by simpa using e2, e3⟩
    simp only [spec_l13DrawPart.l10, decide_eq_false (show ¬ ((0 : Int) + 1 < 1) by omega), cond_false]
  obtain ⟨c', Y, e1, e2, e3, e4⟩ := hpart
  rw [List.nil_append] at e1
  unfold spec_l13DrawRight spec_l13DrawRight.c4
  rw [e1]
  obtain ⟨b, q1, _, _, q2, _⟩ := recOk_eq (k' + 7) hk s hn Y
  have hbt : b = true := by rw [hok] at q1; simpa using q1.symm
  subst hbt
  simp only [Option.bind_some, q2, Bool.true_and]
  cases hr : (recEv s Y).isSome with
  | true =>
    simp only [Bool.not_true, cond_false]
    exact ⟨c', Y, rfl, e2, hr, e4⟩
  | false =>
    simp only [Bool.not_false, cond_true]
    obtain ⟨g1, _, g2⟩ := recEmpty_eq (k' + 7) hk s hn hS
    rw [hok] at g1
    simp only [Option.bind_some, Bool.not_true, cond_false] at g1
    rw [g1]
    exact ⟨c', empV s, rfl, e2, g2, fun v hv => by rw [emC_mem 6 0 v hv]; exact ⟨⟨by decide, by decide⟩, by decide⟩⟩
end Go.Law
end

section
/- FnValues -/
set_option linter.unusedVariables false
set_option linter.unusedSimpArgs false
set_option linter.unusedSectionVars false
namespace Go.Law
open Go.Am Go.Fn

theorem drawRecOk_ok (k : Nat) (hk : 2000000 ≤ k) (t : List Int) (ht : t.length ≤ 1048576) : ∃ s V, spec_DrawRecOk k t = some (s, (V, ())) ∧ WfDs s ∧ s.length ≤ 100 ∧ V.length ≤ 400 := by
  unfold spec_DrawRecOk spec_l13Draw spec_l13Draw.c15
  obtain ⟨c, e, hc⟩ := new_ok k (by omega) t ht
  obtain ⟨c1, s, e1, hc1, hw, hl, ok1, ok2, hS⟩ := drawCols_ok k (by omega) c hc
  obtain ⟨c2, V, e2, hc2, hV, _⟩ := drawRec_ok k hk s hw hS ok1 c1 hc1
  have hV3 : V.length ≤ 300 := by
    cases hr : recEv s V with
    | none => rw [hr] at hV; cases hV
    | some X => exact (recEv_some hr).1
  obtain ⟨v, c3, e3, _, b3, hc3⟩ := below_ok k 20 (by omega) c2 hc2
  simp only [e, e1, e2, e3, Option.bind_some]
  by_cases h0 : v = 0
  · rw [beqT h0, cond_true, lim_ok (by simp; omega), cond_true]
    exact ⟨s, _, rfl, hw, by omega, by simp; omega⟩
  rw [beqF h0, cond_false]
  by_cases h1 : v = 1
  · rw [beqT h1, cond_true]
    by_cases hp : (V.length : Int) > 0
    · rw [decide_eq_true hp, cond_true]
      unfold spec_l13Draw.d9 spec_l13Draw.c15
      obtain ⟨i, c4, e4, _, b4, hc4⟩ := below_ok k (V.length : Int) (by omega) c3 hc3
      obtain ⟨b4a, b4b⟩ := b4 (by omega)
      obtain ⟨x, c5, e5, _, hc5⟩ := pick_ok k [2, (-1), 20, 21, 2147483648] (by simp) (by simp) c4 hc4
      obtain ⟨y, c6, e6, hc6, _⟩ := drawText_ok k 1 (by omega) (by omega) c5 hc5
      have e6 : spec_l4DrawText k 1 c5 = some (y, c6) := e6
      obtain ⟨z, hz, _⟩ := rdL_some b4a b4b
      simp only [e4, e5, e6, hz, Option.bind_some]
      exact ⟨s, _, rfl, hw, by omega, by simp; omega⟩
    · rw [decide_eq_false hp, cond_false]
      exact ⟨s, _, rfl, hw, by omega, by omega⟩
  rw [beqF h1, cond_false]
  by_cases h2 : v = 2
  · rw [beqT h2, cond_true]
    obtain ⟨c4, s2, e4, _, hw2, hl2⟩ := drawSchema_ok k (by omega) c3 hc3
    simp only [e4, Option.bind_some]
    exact ⟨_, _, rfl, hw2, hl2, by omega⟩
  rw [beqF h2, cond_false]
  by_cases h3 : v = 3
  · rw [beqT h3, cond_true]
    by_cases hp : (V.length : Int) > 0
    · rw [decide_eq_true hp, cond_true, inSl_ok (by omega) (by omega) (by omega), cond_true]
      exact ⟨s, _, rfl, hw, by omega, by unfold cutL; simp; omega⟩
    · rw [decide_eq_false hp, cond_false]
      exact ⟨s, _, rfl, hw, by omega, by omega⟩
  · rw [beqF h3, cond_false]
    exact ⟨s, _, rfl, hw, by omega, by omega⟩

theorem sameVals_refl (k : Nat) (l : List TVal) (hl : l.length < k) (h2 : l.length ≤ 1000000) : laws_sameVals k l l = some true := by
  have key : ∀ (post pre : List TVal) (f : Nat), l = pre ++ post → post.length < f → laws_sameVals.l4 k f l l (pre.length : Int) = some true := by
    intro post
    induction post with
    | nil =>
      intro pre f h hf
      obtain ⟨f, rfl⟩ : ∃ q, f = q + 1 := ⟨f - 1, by omega⟩
      rw [List.append_nil] at h
      subst h
      simp only [laws_sameVals.l4, decide_eq_false (show ¬ ((l.length : Int) < (l.length : Int)) by omega), cond_false]
    | cons v post ih =>
      intro pre f h hf
      simp only [List.length_cons] at hf
      obtain ⟨f, rfl⟩ : ∃ q, f = q + 1 := ⟨f - 1, by omega⟩
      have hlen : l.length = pre.length + (post.length + 1) := by rw [h]; simp
      have hg : rdL l (pre.length : Int) = some v := by rw [h]; exact getMid _ _ _
      have hi1 : IntKind.wrap .i64 ((pre.length : Int) + 1) = ((pre.length + 1 : Nat) : Int) := by rw [w64 (by omega) (by omega)]; omega
      have hi := ih (pre ++ [v]) f (by rw [h]; simp) (by omega)
      rw [List.length_append, List.length_singleton] at hi
      have hs : eqS v.2.1 v.2.1 = true := by rw [eqS_iff]; exact decide_eq_true rfl
      simp only [laws_sameVals.l4, decide_eq_true (show (pre.length : Int) < (l.length : Int) by omega), cond_true, hg, Option.bind_some, beqT rfl, hs, Bool.and_self, Bool.not_true, cond_false, hi1, hi]
  unfold laws_sameVals
  rw [bneF rfl, cond_false]
  exact key l [] k rfl hl

theorem recSame_refl (k : Nat) (l : List TVal) (hl : l.length < k) (h2 : l.length ≤ 1000000) : impl_RecSame k (l, ()) (l, ()) = some true := by
  have key : ∀ (post pre : List TVal) (f : Nat), l = pre ++ post → post.length < f → slices_Equal_impl_Val_impl_Val.l4 k f l l (l.length : Int) (pre.length : Int) = some true := by
    intro post
    induction post with
    | nil =>
      intro pre f h hf
      obtain ⟨f, rfl⟩ : ∃ q, f = q + 1 := ⟨f - 1, by omega⟩
      rw [List.append_nil] at h
      subst h
      simp only [slices_Equal_impl_Val_impl_Val.l4, decide_eq_false (show ¬ ((l.length : Int) < (l.length : Int)) by omega), cond_false]
    | cons v post ih =>
      intro pre f h hf
      simp only [List.length_cons] at hf
      obtain ⟨f, rfl⟩ : ∃ q, f = q + 1 := ⟨f - 1, by omega⟩
      have hlen : l.length = pre.length + (post.length + 1) := by rw [h]; simp
      have hg : rdL l (pre.length : Int) = some v := by rw [h]; exact getMid _ _ _
      have hi1 : IntKind.wrap .i64 ((pre.length : Int) + 1) = ((pre.length + 1 : Nat) : Int) := by rw [w64 (by omega) (by omega)]; omega
      have hi := ih (pre ++ [v]) f (by rw [h]; simp) (by omega)
      rw [List.length_append, List.length_singleton] at hi
      have hs : eqS v.2.1 v.2.1 = true := by rw [eqS_iff]; exact decide_eq_true rfl
      simp only [slices_Equal_impl_Val_impl_Val.l4, decide_eq_true (show (pre.length : Int) < (l.length : Int) by omega), cond_true, hg, Option.bind_some, beqT rfl, hs, Bool.and_self, Bool.not_true, cond_false, hi1, hi]
  have h := key l [] k rfl hl
  have h : slices_Equal_impl_Val_impl_Val.l4 k k l l (l.length : Int) 0 = some true := h
  unfold impl_RecSame slices_Equal_impl_Val_impl_Val
  rw [bneF rfl, cond_false, h]
  rfl

section
variable (k : Nat) (s : List TCol) (hn : ∀ c, c ∈ s → c.1.size < k ∧ c.1.size < 1000000000 ∧ I64 c.2.2.2.1) (hk : 2000000 ≤ k)
variable (hS : IsSchema s) (hok : spec_SchemaOk k s = some true) (hok2 : impl_SchemaOk k s = some true)
include hn hk hS hok hok2

/-- values of a leaf that stands there -/
theorem vals_at (V : List TVal) {j : Int} {L : Nat} (hj : rdL (leavesFrom 0 s) j = some (L : Int)) (h0 : 0 ≤ j) (h1 : j < ((leavesFrom 0 s).length : Int)) :
    spec_RecValues k s (V, ()) j = some (valsOut (recEv s V) L) ∧ impl_RecValues k s (V, ()) j = some (valsOut (recEv s V) L) := by
  rcases recVals_eq k s hn hk hS hok hok2 V j with ⟨L', q1, q2, q3⟩ | ⟨q1, _⟩
  · rw [hj] at q1
    cases q1
    exact ⟨q2, q3⟩
  · exact absurd ⟨h0, h1⟩ q1

theorem va_loop (V : List TVal) (hV : V.length ≤ 400) (X XE : List Ev) (hX : recEv s V = some X) (hXE : recEv s (empV s) = some XE) (hdef : ∀ e, e ∈ XE → e.def_ = 0) : ∀ (m i f : Nat), i + m = (leavesFrom 0 s).length → m < f →
    laws_FnValues.l15 k f s (below s i X : Int) (i : Int) (V, ()) ((), ()) (empV s) = some true := by
  obtain ⟨v1, v2⟩ := leaves_eq k (by omega) s (by have := hS.2.1; omega)
  have hll := leavesFrom_len 0 s
  have hs20 := hS.2.1
  have hleaf := recEv_leaf hX
  have hXn := recEv_N hX
  have hsl : spec_SchemaLeaves k s = some ((), leavesFrom 0 s) := by
    unfold spec_SchemaLeaves
    rw [hok, v2]; rfl
  intro m
  induction m with
  | zero =>
    intro i f h hf
    obtain ⟨f, rfl⟩ : ∃ q, f = q + 1 := ⟨f - 1, by omega⟩
    have hb := below_le s i X
    simp only [laws_FnValues.l15, hsl, Option.bind_some, decide_eq_false (show ¬ ((i : Int) < ((leavesFrom 0 s).length : Int)) by omega), cond_false, decide_eq_true (show (below s i X : Int) ≤ (V.length : Int) by omega), cond_true, recSame_refl k V (by omega) (by omega)]
  | succ m ih =>
    intro i f h hf
    obtain ⟨f, rfl⟩ : ∃ q, f = q + 1 := ⟨f - 1, by omega⟩
    have hi1 : IntKind.wrap .i64 ((i : Int) + 1) = ((i + 1 : Nat) : Int) := by rw [w64 (by omega) (by omega)]; omega
    rcases leafMax_eq k s hS hn hk hok hok2 (i : Int) with ⟨L, c, q1, q2, q3, _, q4, q5, q6, q7, _, _⟩ | ⟨q1, _⟩
    · obtain ⟨a1, a2⟩ := vals_at k s hn hk hS hok hok2 V q1 q2 q3
      obtain ⟨b1, b2⟩ := vals_at k s hn hk hS hok hok2 (empV s) q1 q2 q3
      rw [hX] at a1 a2
      rw [hXE] at b1 b2
      have hvl := valsAt_len (L : Int) X
      have hvle : (valsAt (L : Int) X).length ≤ 400 := by
        have h1 := below_step q4 q5 X hleaf
        have h2 := below_le s (lnum s L + 1) X
        omega
      have hLi : lnum s L = i := by omega
      have hstep := below_step q4 q5 X hleaf
      rw [hLi] at hstep
      have hLs : L < s.length := (List.getElem?_eq_some_iff.1 q4).1
      have one : ∀ (V : List TVal) (X : List Ev), recEv s V = some X → lvD s isOpt 1 L = 0 → (valsAt (L : Int) X).length = 1 := by
        intro V X hX h0
        have h1 := evC_one 6 0 s.length (Nat.le_refl _) hS.2.2.1 0 0 0 V X [] (recEv_some hX).2 L c (Nat.zero_le _) hLs q4 q5 h0
        rw [valsAt_eq, List.length_map]
        have : (evAt L X).filter (fun e => e.leaf) = evAt L X := by
          rw [List.filter_eq_self]
          intro e he
          obtain ⟨m1, m2⟩ := evAt_mem he
          have ho := recEv_ok hS hX e m1
          cases hlf : e.leaf with
          | true => rfl
          | false =>
            have h3 := ho.no hlf
            have h4 := ho.ge
            rw [m2, Nat.zero_add, h0] at h3
            omega
        rw [this]; exact h1
      have none_ : (((valsAt (L : Int) XE).length : Int) == 1) = ((lvD s isOpt 1 L : Int) == 0) := by
        by_cases h0 : lvD s isOpt 1 L = 0
        · rw [one _ _ hXE h0, h0]; rfl
        · rw [beqF (show ¬ ((lvD s isOpt 1 L : Int) = 0) by omega)]
          refine beqF ?_
          have : (valsAt (L : Int) XE).length = 0 := by
            rw [valsAt_eq, List.length_map, List.length_eq_zero_iff, List.filter_eq_nil_iff]
            intro e he hlf
            obtain ⟨m1, m2⟩ := evAt_mem he
            have ho := recEv_ok hS hXE e m1
            have h3 := ho.yes hlf
            rw [m2, Nat.zero_add, hdef e m1] at h3
            omega
          omega
      have hd1 : (cond ((lvD s isOpt 1 L : Int) == 0) (some (((valsAt (L : Int) X).length : Int) != 1)) (some false) : Option Bool) = some false := by
        by_cases h0 : lvD s isOpt 1 L = 0
        · rw [one _ _ hX h0, h0]; rfl
        · rw [beqF (show ¬ ((lvD s isOpt 1 L : Int) = 0) by omega)]; rfl
      have hw : IntKind.wrap .i64 ((below s i X : Int) + ((valsAt (L : Int) X).length : Int)) = (below s (i + 1) X : Int) := by
        have := below_le s i X
        rw [w64 (by omega) (by omega), hstep]; omega
      have hi := ih (i + 1) f (by omega) (by omega)
      simp only [laws_FnValues.l15, hsl, Option.bind_some, decide_eq_true (show (i : Int) < ((leavesFrom 0 s).length : Int) by omega), cond_true, a1, a2, b2, q7, valsOut, Bool.not_true, cond_false, sameVals_refl k (valsAt (L : Int) X) (by omega) (by omega), none_, beq_self_eq_true, hd1, hw, hi1, hi]
    · exact absurd ⟨by omega, by omega⟩ q1
end

theorem fnValues (t : List Int) : ∃ k, laws_FnValues k t = some true := by
  refine ⟨3000000, ?_⟩
  generalize hk : 3000000 = k
  have hk' : 2000000 ≤ k := by omega
  clear hk
  unfold laws_FnValues laws_big
  by_cases hb : (t.length : Int) > 1048576
  · simp only [decide_eq_true hb, Option.bind_some, cond_true]
  · obtain ⟨s, V, e1, hw, hl, hV⟩ := drawRecOk_ok k hk' t (by omega)
    have hn := wfSmall k (by omega) hw
    obtain ⟨b, h1, h2, h3, h4, h5⟩ := recOk_eq k hk' s hn V
    simp only [decide_eq_false hb, Option.bind_some, cond_false, e1, h4, h5, beq_self_eq_true, Bool.not_true]
    cases b with
    | false =>
      have he : impl_RecEmpty k s = some ((((), ()), false), []) := by unfold impl_RecEmpty; rw [h2]; rfl
      have hv : impl_RecValues k s (V, ()) 0 = some (((), false), []) := by
        unfold impl_RecValues impl_SchemaLeaves
        rw [h2]
        simp only [Option.bind_some, Bool.not_false, cond_true, within_eq]
        rfl
      simp only [he, h1, hv, Option.bind_some, Bool.false_and, beq_self_eq_true, Bool.not_true, Bool.not_false, cond_false, cond_true]
    | true =>
      have hS := h3 rfl
      obtain ⟨_, g2, g3⟩ := recEmpty_eq k hk' s hn hS
      rw [h2] at g2
      simp only [Option.bind_some, Bool.not_true, cond_false] at g2
      obtain ⟨XE, x1, x2, _⟩ := emp_ev hS
      obtain ⟨b2, h1', _, _, _, h5'⟩ := recOk_eq k hk' s hn (empV s)
      rw [h1] at h1'
      cases h1'
      rw [g3] at h5'
      simp only [g2, h1, h5', Option.bind_some, Bool.true_and, beq_self_eq_true, Bool.not_true, cond_false, cond_true]
      cases hr : recEv s V with
      | none =>
        have hv : impl_RecValues k s (V, ()) 0 = some (((), false), []) := by
          rcases recVals_eq k s hn hk' hS h1 h2 V 0 with ⟨L', _, _, q3⟩ | ⟨_, _, q3⟩
          · rw [hr] at q3; exact q3
          · exact q3
        simp only [Option.isSome_none, Bool.not_false, cond_true, hv, Option.bind_some]
      | some X =>
        simp only [Option.isSome_some, Bool.not_true, cond_false]
        have hll := leavesFrom_len 0 s
        have := va_loop k s hn hk' hS h1 h2 V hV X XE hr x1 x2 (leavesFrom 0 s).length 0 k (by omega) (by omega)
        have hb0 : below s 0 X = 0 := by
          unfold below
          rw [List.length_eq_zero_iff, List.filter_eq_nil_iff]
          intro e he
          simp
        rw [hb0] at this
        exact this
end Go.Law
end
