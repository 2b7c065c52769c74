import Derived.Test.YtbmgddnjdcagpaaLawSHC0
import Derived.Test.YtbmgddnjdcagpaaSHCF0
import Derived.KernelRfl
set_option linter.unnecessarySimpa false
set_option linter.unusedSimpArgs false
set_option linter.unusedVariables false
set_option linter.unusedSectionVars false
section
/- Which rep the triples of a leaf have. -/
set_option linter.unusedVariables false
set_option linter.unusedSimpArgs false
set_option linter.unusedSectionVars false
namespace Go.Law
open Go.Am Go.Fn

/-- the first has rep, all behind it more than deep -/
def HeadRep (rep deep : Int) (E : List Ev) : Prop := ∃ e r, E = e :: r ∧ e.rep = rep ∧ ∀ x, x ∈ r → deep < x.rep

theorem evAt_none {L : Nat} {X : List Ev} (h : ∀ e, e ∈ X → e.at_ ≠ L) : evAt L X = [] := by
  unfold evAt
  rw [List.filter_eq_nil_iff]
  intro e he
  simpa using h e he

theorem miss_at {s : List TCol} {rep def_ : Int} {L : Nat} {c : TCol} (hc : s[L]? = some c) (h7 : c.2.1 ≠ 7) : ∀ (n i : Nat), i ≤ L → L < i + n → evAt L (miss s rep def_ n i) = [⟨L, false, rep, def_, zv⟩]
  | 0, i, h1, h2 => by omega
  | n + 1, i, h1, h2 => by
    simp only [miss]
    rw [evAt_append]
    rcases Nat.eq_or_lt_of_le h1 with rfl | h1
    · rw [evAt_none (X := miss s rep def_ n (i + 1)) (fun e he => by have := (miss_mem _ _ _ he).1; omega), List.append_nil, hc]
      simp only
      rw [if_neg h7]
      simp [evAt]
    · rw [miss_at hc h7 n (i + 1) (by omega) (by omega)]
      refine (congrArg (· ++ [(⟨L, false, rep, def_, zv⟩ : Ev)]) (evAt_none fun e he => ?_)).trans (List.nil_append _)
      split at he
      · cases he
      · split at he
        · cases he
        · rw [List.mem_singleton] at he
          rw [he]
          show i ≠ L
          omega

theorem items_rep {F : List TVal → EvR} {L : Nat} {deep : Int} (h : ∀ V X W, F V = some (X, W) → HeadRep deep deep (evAt L X)) : ∀ (m : Nat) (V : List TVal) (X : List Ev) (W : List TVal), evItems F m V = some (X, W) →
    (m = 0 ∧ X = []) ∨ (0 < m ∧ ∃ e r, evAt L X = e :: r ∧ e.rep = deep ∧ ∀ x, x ∈ r → deep ≤ x.rep)
  | 0, V, X, W, he => by
    simp only [evItems, Option.some.injEq, Prod.mk.injEq] at he
    exact .inl ⟨rfl, he.1.symm⟩
  | m + 1, V, X, W, he => by
    simp only [evItems] at he
    obtain ⟨x, y, U, h1, h2, rfl⟩ := evPair_some he
    obtain ⟨e, r, e1, e2, e3⟩ := h _ _ _ h1
    refine .inr ⟨by omega, e, r ++ evAt L y, by rw [evAt_append, e1]; rfl, e2, fun z hz => ?_⟩
    rcases List.mem_append.1 hz with hz | hz
    · have := e3 z hz; omega
    · rcases items_rep h m U y W h2 with ⟨_, rfl⟩ | ⟨_, e', r', f1, f2, f3⟩
      · cases hz
      · rw [f1] at hz
        rcases List.mem_cons.1 hz with rfl | hz
        · omega
        · exact f3 z hz

theorem part_rep {s : List TCol} {d pl mid : Nat} (hs : SubC s d pl mid) {C : Int → Int → Int → List TVal → EvR} {L : Nat} {cL : TCol} (hcL : s[L]? = some cL) (hL7 : cL.2.1 ≠ 7) (h1 : pl ≤ L) (h2 : L < mid) (hC : ∀ rep def_ deep V X W, C rep def_ deep V = some (X, W) → HeadRep rep deep (evAt L X)) (rep def_ deep : Int) (V : List TVal) (X : List Ev) (W : List TVal)
    (he : evPart s C mid pl rep def_ deep V = some (X, W)) : HeadRep rep deep (evAt L X) := by
  have ms : ∀ U, some (miss s rep def_ (mid - pl) pl, U) = some (X, W) → HeadRep rep deep (evAt L X) := by
    intro U he
    simp only [Option.some.injEq, Prod.mk.injEq] at he
    obtain ⟨rfl, rfl⟩ := he
    rw [miss_at hcL hL7 _ _ h1 (by omega)]
    exact ⟨_, [], rfl, rfl, fun x hx => by cases hx⟩
  unfold evPart at he
  split at he
  · cases he
  · split at he
    · exact hC _ _ _ _ _ _ he
    · split at he
      · cases he
      · split at he
        · split at he
          · cases he
          · split at he
            · exact ms _ he
            · obtain ⟨x, y, U, g1, g2, rfl⟩ := evPair_some he
              obtain ⟨e, r, e1, e2, e3⟩ := hC _ _ _ _ _ _ g1
              refine ⟨e, r ++ evAt L y, by rw [evAt_append, e1]; rfl, e2, fun z hz => ?_⟩
              rcases List.mem_append.1 hz with hz | hz
              · have := e3 z hz; omega
              · rcases items_rep (L := L) (deep := deep + 1) (fun V X W h => hC _ _ _ V X W h) _ _ _ _ g2 with ⟨_, rfl⟩ | ⟨_, e', r', f1, f2, f3⟩
                · cases hz
                · rw [f1] at hz
                  rcases List.mem_cons.1 hz with rfl | hz
                  · omega
                  · have := f3 z hz; omega
        · split at he
          · cases he
          · split at he
            · exact ms _ he
            · exact hC _ _ _ _ _ _ he

theorem evC_rep {s : List TCol} : ∀ (d a nx : Nat), d ≤ 6 → SubC s d a nx → ∀ (rep def_ deep : Int) (V : List TVal) (X : List Ev) (W : List TVal), evC s d a rep def_ deep V = some (X, W) → ∀ L c, a ≤ L → L < nx → s[L]? = some c → c.2.1 ≠ 7 → HeadRep rep deep (evAt L X)
  | 0, _, _, _, h, _, _, _, _, _, _, _, _, _, _, _, _, _ => h.elim
  | d + 1, a, nx, hd, h, rep, def_, deep, V, X, W, he, L, cL, hL1, hL2, hcL, hL7 => by
    obtain ⟨c, hc, hco, _, hpp⟩ := h
    simp only [evC, hc] at he
    split at he
    · rename_i h7
      have hne : L ≠ a := fun hh => by
        subst hh
        rw [hc] at hcL
        cases hcL
        exact hL7 h7
      have key : ∀ (m pl : Nat) (names : List ByteArray) (V : List TVal) (X : List Ev) (W : List TVal), PartsC (SubC s d) s m pl names nx → evParts (fun a V => evPart s (evC s d a) (endC s d a) a rep def_ deep V) (endC s d) m pl V = some (X, W) →
          (pl ≤ L → HeadRep rep deep (evAt L X)) ∧ (L < pl → evAt L X = []) := by
        intro m
        induction m with
        | zero =>
          intro pl names V X W hpp he
          have hpp : pl = nx := hpp
          simp only [evParts, Option.some.injEq, Prod.mk.injEq] at he
          obtain ⟨rfl, rfl⟩ := he
          exact ⟨fun h => by omega, fun _ => rfl⟩
        | succ m ih =>
          intro pl names V X W hpp he
          obtain ⟨cp, mid, hcp, q2, q3, q4⟩ := hpp
          have hmn := PartsC_nx (SubC_lt d) _ _ _ _ q4
          have hlt' := SubC_lt _ _ _ q3
          have hend : endC s d pl = mid := endC_eq d q3 d (Nat.le_refl _)
          simp only [evParts] at he
          obtain ⟨x, y, U, g1, g2, rfl⟩ := evPair_some he
          rw [hend] at g1 g2
          obtain ⟨i1, i2⟩ := ih mid _ U y W q4 g2
          have hrange : ∀ e, e ∈ x → pl ≤ e.at_ ∧ e.at_ < mid := fun e he => by
            obtain ⟨r1, r2, _⟩ := evPart_ok (by omega) q3 (fun rep def_ deep V => evC_ok d pl mid (by omega) q3 rep def_ deep V) rep def_ deep V x U g1 e he
            exact ⟨r1, r2⟩
          rw [evAt_append]
          constructor
          · intro hpl
            rcases Nat.lt_or_ge L mid with hLm | hLm
            · rw [i2 hLm, List.append_nil]
              exact part_rep q3 hcL hL7 hpl hLm (fun rep def_ deep V X W h => evC_rep d pl mid (by omega) q3 rep def_ deep V X W h L cL hpl hLm hcL hL7) rep def_ deep V x U g1
            · rw [evAt_none (fun e he => by have := hrange e he; omega), List.nil_append]
              exact i1 hLm
          · intro hpl
            rw [evAt_none (fun e he => by have := hrange e he; omega), i2 (by omega)]
            rfl
      exact (key _ _ _ _ _ _ hpp he).1 (by omega)
    · rename_i h7
      split at he
      · cases he
      · split at he
        · simp only [Option.some.injEq, Prod.mk.injEq] at he
          obtain ⟨rfl, rfl⟩ := he
          have hm0 : c.2.2.2.1.toNat = 0 := by
            unfold colOk at hco
            rw [beqF h7] at hco
            simp at hco
            omega
          rw [hm0] at hpp
          have hpp : a + 1 = nx := hpp
          have : L = a := by omega
          subst this
          refine ⟨⟨L, true, rep, def_, ‹TVal›⟩, [], by simp [evAt], rfl, fun x hx => by cases hx⟩
        · cases he
end Go.Law
end

section
/- What is come to: reps in bounds, values right. -/
set_option linter.unusedVariables false
set_option linter.unusedSimpArgs false
set_option linter.unusedSectionVars false
namespace Go.Law
open Go.Am Go.Fn

/-- rep and value of what is come to from a place on -/
def RV (s : List TCol) (from_ : Nat) (rep deep : Int) (e : Ev) : Prop :=
  (e.rep = rep ∨ (deep < e.rep ∧ e.rep ≤ deep + (lvD s isRep from_ e.at_ : Nat))) ∧ (e.leaf = true → ∀ c, s[e.at_]? = some c → vok c.2.1 e.v = true) ∧ (e.leaf = false → e.v = zv)

theorem part_RV {s : List TCol} {d pl mid : Nat} (hd : d ≤ 6) (hs : SubC s d pl mid) {C : Int → Int → Int → List TVal → EvR}
    (hr : ∀ rep def_ deep V X W, C rep def_ deep V = some (X, W) → ∀ e, e ∈ X → (pl ≤ e.at_ ∧ e.at_ < mid) ∧ RV s (pl + 1) rep deep e)
    (rep def_ deep : Int) (V : List TVal) (X : List Ev) (W : List TVal) (he : evPart s C mid pl rep def_ deep V = some (X, W)) : ∀ e, e ∈ X → RV s pl rep deep e := by
  have hend := colEnd_eq hd hs
  have hlt := SubC_lt _ _ _ hs
  intro e hm
  unfold evPart at he
  split at he
  · cases he
  · rename_i c hc
    have up : ∀ (r dp : Int), (r = rep ∨ (deep < r ∧ r ≤ deep + (if isRep c = true then 1 else 0 : Nat))) → dp = deep + (if isRep c = true then 1 else 0 : Nat) → ((pl ≤ e.at_ ∧ e.at_ < mid) ∧ RV s (pl + 1) r dp e) → RV s pl rep deep e := by
      rintro r dp hrr hdp ⟨⟨h1, h2⟩, h3, h4, h5⟩
      have hcons := lvD_cons (f := isRep) hc h1 (by rw [hend]; exact h2)
      refine ⟨?_, h4, h5⟩
      rcases h3 with h3 | h3
      · rcases hrr with hrr | hrr
        · exact .inl (by omega)
        · exact .inr (by omega)
      · exact .inr (by omega)
    have ms : ∀ U, some (miss s rep def_ (mid - pl) pl, U) = some (X, W) → RV s pl rep deep e := by
      intro U he
      simp only [Option.some.injEq, Prod.mk.injEq] at he
      obtain ⟨rfl, rfl⟩ := he
      obtain ⟨_, _, m3, m4, _, m6⟩ := miss_mem _ _ _ hm
      exact ⟨.inl m4, fun h => (by rw [m3] at h; cases h), fun _ => m6⟩
    split at he
    · rename_i h0
      have hrp : isRep c = false := by simp [isRep, h0]
      exact up rep deep (.inl rfl) (by rw [hrp]; simp) (hr _ _ _ _ _ _ he e hm)
    · split at he
      · cases he
      · split at he
        · rename_i h2
          have hrp : isRep c = true := by simp [isRep, h2]
          split at he
          · cases he
          · split at he
            · exact ms _ he
            · obtain ⟨x, y, U, g1, g2, rfl⟩ := evPair_some he
              rcases List.mem_append.1 hm with hm | hm
              · exact up rep (deep + 1) (.inl rfl) (by rw [if_pos hrp]; rfl) (hr _ _ _ _ _ _ g1 e hm)
              · have := evItems_mem (P := fun e => (pl ≤ e.at_ ∧ e.at_ < mid) ∧ RV s (pl + 1) (deep + 1) (deep + 1) e) (fun V X W h => hr _ _ _ V X W h) _ _ _ _ g2 e hm
                exact up (deep + 1) (deep + 1) (.inr (by rw [if_pos hrp]; omega)) (by rw [if_pos hrp]; rfl) this
        · rename_i h2
          have hrp : isRep c = false := by simp [isRep, h2]
          split at he
          · cases he
          · split at he
            · exact ms _ he
            · exact up rep deep (.inl rfl) (by rw [hrp]; simp) (hr _ _ _ _ _ _ he e hm)

theorem evC_RV {s : List TCol} : ∀ (d a nx : Nat), d ≤ 6 → SubC s d a nx → ∀ (rep def_ deep : Int) (V : List TVal) (X : List Ev) (W : List TVal), evC s d a rep def_ deep V = some (X, W) → ∀ e, e ∈ X → (a ≤ e.at_ ∧ e.at_ < nx) ∧ RV s (a + 1) rep deep e
  | 0, _, _, _, h, _, _, _, _, _, _, _, _, _ => h.elim
  | d + 1, a, nx, hd, h, rep, def_, deep, V, X, W, he, e, hm => by
    have hlt := SubC_lt _ _ _ h
    have hok := evC_ok (d + 1) a nx hd h rep def_ deep V X W he e hm
    refine ⟨⟨hok.lo, hok.hi⟩, ?_⟩
    obtain ⟨c, hc, hco, _, hpp⟩ := h
    simp only [evC, hc] at he
    split at he
    · rename_i h7
      have key : ∀ (m pl : Nat) (names : List ByteArray) (V : List TVal) (X : List Ev) (W : List TVal), PartsC (SubC s d) s m pl names nx → a + 1 ≤ pl → (∀ u, a + 1 ≤ u → u < pl → colEnd s u ≤ pl) → evParts (fun a V => evPart s (evC s d a) (endC s d a) a rep def_ deep V) (endC s d) m pl V = some (X, W) → ∀ e, e ∈ X → RV s (a + 1) rep deep e := by
        intro m
        induction m with
        | zero =>
          intro pl names V X W hpp h1 h2 he e hm
          simp only [evParts, Option.some.injEq, Prod.mk.injEq] at he
          obtain ⟨rfl, rfl⟩ := he
          cases hm
        | succ m ih =>
          intro pl names V X W hpp h1 h2 he e hm
          obtain ⟨q, mid, q1, q2, q3, q4⟩ := hpp
          have hmn := PartsC_nx (SubC_lt d) _ _ _ _ q4
          have hlt' := SubC_lt _ _ _ q3
          have hend : endC s d pl = mid := endC_eq d q3 d (Nat.le_refl _)
          simp only [evParts] at he
          obtain ⟨x, y, U, g1, g2, rfl⟩ := evPair_some he
          rw [hend] at g1 g2
          have h3 : ∀ u, a + 1 ≤ u → u < mid → colEnd s u ≤ mid := fun u u1 u2 => by
            rcases Nat.lt_or_ge u pl with u3 | u3
            · have := h2 u u1 u3; omega
            · exact (colEnd_in (by omega) q3 u3 u2).2
          rcases List.mem_append.1 hm with hm | hm
          · obtain ⟨p1, p2, p3⟩ := part_RV (by omega) q3 (fun rep def_ deep V X W h => evC_RV d pl mid (by omega) q3 rep def_ deep V X W h) rep def_ deep V x U g1 e hm
            obtain ⟨r1, r2, _⟩ := evPart_ok (by omega) q3 (fun rep def_ deep V => evC_ok d pl mid (by omega) q3 rep def_ deep V) rep def_ deep V x U g1 e hm
            have hsk := lvD_skip (s := s) (f := isRep) h1 r1 (fun u u1 u2 => by have := h2 u u1 u2; omega)
            exact ⟨by rw [hsk]; exact p1, p2, p3⟩
          · exact ih mid _ U y W q4 (by omega) h3 g2 e hm
      exact key _ _ _ _ _ _ hpp (Nat.le_refl _) (fun u u1 u2 => by omega) he e hm
    · split at he
      · cases he
      · split at he
        · rename_i hv
          simp only [Option.some.injEq, Prod.mk.injEq] at he
          obtain ⟨rfl, rfl⟩ := he
          rw [List.mem_singleton] at hm
          subst hm
          refine ⟨.inl rfl, fun _ c' hc' => ?_, fun h => by cases h⟩
          simp only at hc'
          rw [hc] at hc'
          cases hc'
          exact hv
        · cases he
end Go.Law
end

section
/- Putting records together: what comes of columns, in plain Lean. -/
set_option linter.unusedVariables false
set_option linter.unusedSimpArgs false
set_option linter.unusedSectionVars false
namespace Go.Law
open Go.Am Go.Fn

abbrev TRows := List (List TTriple)
/-- values, how far each column is, whether it is too large -/
abbrev AR := Option (List TVal × List Nat × Bool)

/-- the next triple of a column -/
def nxt (T : TRows) (pos : List Nat) (j : Nat) : Option TTriple := match T[j]?, pos[j]? with
  | some x, some p => x[p]?
  | _, _ => none
def tk (T : TRows) (rep def_ : Int) (pos : List Nat) (j : Nat) : Option (TVal × List Nat) := match nxt T pos j with
  | none => none
  | some t => if t.1 = rep ∧ t.2.1 = def_ then some (t.2.2.1, pos.set j (pos.getD j 0 + 1)) else none
def tkAll (T : TRows) (rep def_ : Int) : Nat → Nat → List Nat → Option (List Nat)
  | 0, _, pos => some pos
  | n + 1, j, pos => match tk T rep def_ pos j with
    | none => none
    | some (_, q) => tkAll T rep def_ n (j + 1) q
def aSeq (a : AR) (f : List Nat → AR) : AR := match a with
  | none => none
  | some (x, p, l) => match f p with
    | none => none
    | some (y, q, m) => some (x ++ y, q, l || m)
def aParts (F : Nat → List Nat → AR) (e : Nat → Nat) : Nat → Nat → List Nat → AR
  | 0, _, pos => some ([], pos, false)
  | m + 1, a, pos => aSeq (F a pos) (aParts F e m (e a))
/-- further items -/
def aRep (T : TRows) (j : Nat) (deep : Int) (C : List Nat → AR) : Nat → List Nat → Option (Nat × List TVal × List Nat × Bool)
  | 0, _ => none
  | f + 1, pos => match nxt T pos j with
    | none => some (0, [], pos, false)
    | some t => if t.1 = deep then (match C pos with
      | none => none
      | some (x, p, l) => match aRep T j deep C f p with
        | none => none
        | some (n, y, q, m) => some (n + 1, x ++ y, q, l || m)) else some (0, [], pos, false)
def aPart (T : TRows) (s : List TCol) (C : Int → Int → Int → List Nat → AR) (e a : Nat) (rep def_ deep : Int) (pos : List Nat) : AR :=
  match s[a]? with
  | none => none
  | some c => if c.2.2.1 = 0 then C rep def_ deep pos
    else match nxt T pos (lnum s a) with
      | none => none
      | some t => if t.2.1 ≤ def_ then (match tkAll T rep def_ (lnum s e - lnum s a) (lnum s a) pos with
          | none => none
          | some q => some ([zv], q, false))
        else if c.2.2.1 = 2 then (match C rep (def_ + 1) (deep + 1) pos with
          | none => none
          | some (x, p, l) => match aRep T (lnum s a) (deep + 1) (C (deep + 1) (def_ + 1) (deep + 1)) 3000 p with
            | none => none
            | some (n, y, q, m) => some ((((n + 1 : Nat) : Int), ⟨#[]⟩, ()) :: (x ++ y), q, l || m || decide (20 < n + 1)))
        else (match C rep (def_ + 1) deep pos with
          | none => none
          | some (x, p, l) => some ((1, ⟨#[]⟩, ()) :: x, p, l))
def aC (T : TRows) (s : List TCol) : Nat → Nat → Int → Int → Int → List Nat → AR
  | 0, _, _, _, _, _ => none
  | d + 1, a, rep, def_, deep, pos => match s[a]? with
    | none => none
    | some c =>
      if c.2.1 = 7 then aParts (fun a pos => aPart T s (aC T s d a) (endC s d a) a rep def_ deep pos) (endC s d) c.2.2.2.1.toNat (a + 1) pos
      else match tk T rep def_ pos (lnum s a) with
        | none => none
        | some (v, q) => some ([v], q, false)

/-! ### how far the columns are -/
def PosOk (T : TRows) (pos : List Nat) : Prop := pos.length = T.length ∧ ∀ (j p : Nat) (x : List TTriple), pos[j]? = some p → T[j]? = some x → p ≤ x.length
/-- one is behind the other -/
structure Adv (T : TRows) (pos q : List Nat) : Prop where
  ok : PosOk T q
  le : ∀ (j p : Nat), pos[j]? = some p → ∃ p' : Nat, q[j]? = some p' ∧ p ≤ p'
  sum : pos.sum ≤ q.sum
theorem Adv.refl {T : TRows} {pos : List Nat} (h : PosOk T pos) : Adv T pos pos := ⟨h, fun j p hp => ⟨p, hp, Nat.le_refl _⟩, Nat.le_refl _⟩
theorem Adv.trans {T : TRows} {a b c : List Nat} (h1 : Adv T a b) (h2 : Adv T b c) : Adv T a c :=
  ⟨h2.ok, fun j p hp => by
    obtain ⟨p', e1, e2⟩ := h1.le j p hp
    obtain ⟨p'', e3, e4⟩ := h2.le j p' e1
    exact ⟨p'', e3, by omega⟩, Nat.le_trans h1.sum h2.sum⟩

theorem sum_set : ∀ (l : List Nat) (j x y : Nat), l[j]? = some x → (l.set j y).sum + x = l.sum + y
  | [], j, x, y, h => by simp at h
  | a :: l, 0, x, y, h => by
    simp only [List.getElem?_cons_zero, Option.some.injEq] at h
    subst h
    simp only [List.set_cons_zero, List.sum_cons]; omega
  | a :: l, j + 1, x, y, h => by
    simp only [List.getElem?_cons_succ] at h
    have := sum_set l j x y h
    simp only [List.set_cons_succ, List.sum_cons]; omega

theorem nxt_some {T : TRows} {pos : List Nat} {j : Nat} {t : TTriple} (h : nxt T pos j = some t) : ∃ x p, T[j]? = some x ∧ pos[j]? = some p ∧ x[p]? = some t := by
  unfold nxt at h
  split at h
  · rename_i x p hx hp
    exact ⟨x, p, hx, hp, h⟩
  · cases h

theorem tk_some {T : TRows} {rep def_ : Int} {pos : List Nat} {j : Nat} {v : TVal} {q : List Nat} (h : tk T rep def_ pos j = some (v, q)) (hp : PosOk T pos) :
    ∃ x p, T[j]? = some x ∧ pos[j]? = some p ∧ x[p]? = some (rep, def_, v, ()) ∧ q = pos.set j (p + 1) ∧ Adv T pos q ∧ q.sum = pos.sum + 1 := by
  unfold tk at h
  split at h
  · cases h
  · rename_i t ht
    split at h
    · rename_i hc
      simp only [Option.some.injEq, Prod.mk.injEq] at h
      obtain ⟨rfl, rfl⟩ := h
      obtain ⟨x, p, h1, h2, h3⟩ := nxt_some ht
      have hjl : j < pos.length := (List.getElem?_eq_some_iff.1 h2).1
      have hgd : pos.getD j 0 = p := by rw [List.getD_eq_getElem?_getD, h2]; rfl
      rw [hgd]
      have hsum := sum_set pos j p (p + 1) h2
      refine ⟨x, p, h1, h2, ?_, rfl, ⟨⟨?_, ?_⟩, ?_, ?_⟩, by omega⟩
      · rw [h3]
        obtain ⟨a, b, w, ⟨⟩⟩ := t
        obtain ⟨rfl, rfl⟩ := hc
        rfl
      · rw [List.length_set]; exact hp.1
      · intro i p' y hi hy
        rw [List.getElem?_set] at hi
        split at hi
        · rename_i hij
          subst hij
          simp only [hjl, if_true, Option.some.injEq] at hi
          rw [h1] at hy
          cases hy
          have := (List.getElem?_eq_some_iff.1 h3).1
          omega
        · exact hp.2 i p' y hi hy
      · intro i p' hi
        rw [List.getElem?_set]
        split
        · rename_i hij
          subst hij
          rw [h2] at hi
          cases hi
          exact ⟨p + 1, by simp [hjl], by omega⟩
        · exact ⟨p', hi, Nat.le_refl _⟩
      · omega
    · cases h

theorem tkAll_some {T : TRows} {rep def_ : Int} : ∀ (n j : Nat) (pos q : List Nat), tkAll T rep def_ n j pos = some q → PosOk T pos → Adv T pos q ∧ q.sum = pos.sum + n
  | 0, j, pos, q, h, hp => by
    simp only [tkAll, Option.some.injEq] at h
    subst h
    exact ⟨Adv.refl hp, rfl⟩
  | n + 1, j, pos, q, h, hp => by
    simp only [tkAll] at h
    split at h
    · cases h
    · rename_i v q1 h1
      obtain ⟨_, _, _, _, _, _, a1, a2⟩ := tk_some h1 hp
      obtain ⟨b1, b2⟩ := tkAll_some n (j + 1) q1 q h a1.ok
      exact ⟨a1.trans b1, by omega⟩

/-- what a step does: it goes on, at a leaf at least by one, and tells no more than it takes -/
def ArG (T : TRows) (j m : Nat) (pos : List Nat) (r : AR) : Prop := ∀ Y q l, r = some (Y, q, l) → PosOk T pos →
  Adv T pos q ∧ Y.length + m * pos.sum ≤ m * q.sum ∧ ∃ p p' : Nat, pos[j]? = some p ∧ q[j]? = some p' ∧ p < p'

theorem aRep_some {T : TRows} {j : Nat} {deep : Int} {C : List Nat → AR} {m : Nat} (hC : ∀ pos, ArG T j m pos (C pos)) : ∀ (f : Nat) (pos : List Nat) (n : Nat) (Y : List TVal) (q : List Nat) (l : Bool), aRep T j deep C f pos = some (n, Y, q, l) → PosOk T pos →
    Adv T pos q ∧ Y.length + m * pos.sum ≤ m * q.sum
  | 0, pos, n, Y, q, l, h, hp => by cases h
  | f + 1, pos, n, Y, q, l, h, hp => by
    simp only [aRep] at h
    have triv : some (0, ([] : List TVal), pos, false) = some (n, Y, q, l) → Adv T pos q ∧ Y.length + m * pos.sum ≤ m * q.sum := by
      intro h
      simp only [Option.some.injEq, Prod.mk.injEq] at h
      obtain ⟨rfl, rfl, rfl, rfl⟩ := h
      exact ⟨Adv.refl hp, by simp⟩
    split at h
    · exact triv h
    · split at h
      · split at h
        · cases h
        · rename_i x p l1 h1
          split at h
          · cases h
          · rename_i n2 y q2 m2 h2
            simp only [Option.some.injEq, Prod.mk.injEq] at h
            obtain ⟨rfl, rfl, rfl, rfl⟩ := h
            obtain ⟨a1, a2, _⟩ := hC pos _ _ _ h1 hp
            obtain ⟨b1, b2⟩ := aRep_some hC f p _ _ _ _ h2 a1.ok
            exact ⟨a1.trans b1, by rw [List.length_append]; omega⟩
      · exact triv h

theorem aSeq_some {a : AR} {f : List Nat → AR} {Y : List TVal} {q : List Nat} {l : Bool} (h : aSeq a f = some (Y, q, l)) : ∃ x p l1 y l2, a = some (x, p, l1) ∧ f p = some (y, q, l2) ∧ Y = x ++ y ∧ l = (l1 || l2) := by
  unfold aSeq at h
  split at h
  · cases h
  · rename_i x p l1
    split at h
    · cases h
    · rename_i y q2 m hf
      simp only [Option.some.injEq, Prod.mk.injEq] at h
      obtain ⟨rfl, rfl, rfl⟩ := h
      exact ⟨x, p, l1, y, m, rfl, hf, rfl, rfl⟩

theorem lnum_pos {s : List TCol} {d a nx : Nat} (h : SubC s d a nx) : lnum s a < lnum s nx := by
  -- the last place of a col is a leaf
  have key : ∀ (d a nx : Nat), SubC s d a nx → lnum s a < lnum s nx := by
    intro d
    induction d with
    | zero => intro a nx h; exact h.elim
    | succ d ih =>
      intro a nx h
      obtain ⟨c, hc, hco, _, hp⟩ := h
      by_cases h7 : c.2.1 = 7
      · have hm0 : 0 < c.2.2.2.1 := by
          unfold colOk at hco
          rw [h7, tyOk_7] at hco
          simp at hco
          exact hco.1
        obtain ⟨m, hm⟩ : ∃ m, c.2.2.2.1.toNat = m + 1 := ⟨c.2.2.2.1.toNat - 1, by omega⟩
        rw [hm] at hp
        obtain ⟨q, mid, _, _, q3, q4⟩ := hp
        have h1 := ih (a + 1) mid q3
        have h2 := lnum_mono s (PartsC_nx (SubC_lt d) _ _ _ _ q4)
        rw [lnum_group hc h7] at h1
        omega
      · have hm0 : c.2.2.2.1.toNat = 0 := by
          unfold colOk at hco
          rw [beqF h7] at hco
          simp at hco
          omega
        rw [hm0] at hp
        have hp : a + 1 = nx := hp
        subst hp
        rw [lnum_leaf hc h7]; omega
  exact key d a nx h

theorem aPart_G {T : TRows} {s : List TCol} {d a e m : Nat} (hs : SubC s d a e) {C : Int → Int → Int → List Nat → AR} (hC : ∀ r q p pos, ArG T (lnum s a) m pos (C r q p pos)) (rep def_ deep : Int) (pos : List Nat) :
    ArG T (lnum s a) (m + 1) pos (aPart T s C e a rep def_ deep pos) := by
  intro Y q l h hp
  unfold aPart at h
  split at h
  · cases h
  · rename_i c hc
    split at h
    · obtain ⟨a1, a2, a3⟩ := hC _ _ _ _ _ _ _ h hp
      refine ⟨a1, ?_, a3⟩
      have := a1.sum
      rw [Nat.add_mul, Nat.add_mul]; omega
    · split at h
      · cases h
      · rename_i t ht
        obtain ⟨x0, p0, t1, t2, t3⟩ := nxt_some ht
        split at h
        · split at h
          · cases h
          · rename_i q1 h1
            simp only [Option.some.injEq, Prod.mk.injEq] at h
            obtain ⟨rfl, rfl, rfl⟩ := h
            have hlt := lnum_pos hs
            obtain ⟨n, hn⟩ : ∃ n, lnum s e - lnum s a = n + 1 := ⟨lnum s e - lnum s a - 1, by omega⟩
            rw [hn] at h1
            obtain ⟨b1, b2⟩ := tkAll_some _ _ _ _ h1 hp
            refine ⟨b1, ?_, ?_⟩
            · simp only [List.length_singleton]
              rw [b2, Nat.mul_add, Nat.mul_add, Nat.mul_one, Nat.add_mul]
              omega
            · simp only [tkAll] at h1
              split at h1
              · cases h1
              · rename_i v q2 h2
                obtain ⟨x, p, e1, e2, e3, e4, e5, e6⟩ := tk_some h2 hp
                obtain ⟨g1, g2⟩ := tkAll_some _ _ _ _ h1 e5.ok
                have hq2 : q2[lnum s a]? = some (p + 1) := by
                  rw [e4, List.getElem?_set_self (List.getElem?_eq_some_iff.1 e2).1]
                obtain ⟨p', f1, f2⟩ := g1.le _ _ hq2
                exact ⟨p, p', e2, f1, by omega⟩
        · split at h
          · split at h
            · cases h
            · rename_i x p l1 h1
              split at h
              · cases h
              · rename_i n y q1 m1 h2
                simp only [Option.some.injEq, Prod.mk.injEq] at h
                obtain ⟨rfl, rfl, rfl⟩ := h
                obtain ⟨a1, a2, pa, pb, a3, a4, a5⟩ := hC _ _ _ _ _ _ _ h1 hp
                obtain ⟨b1, b2⟩ := aRep_some (fun pos => hC _ _ _ pos) _ _ _ _ _ _ h2 a1.ok
                obtain ⟨pc, f1, f2⟩ := b1.le _ _ a4
                have hsum1 := a1.sum
                have hsum2 := b1.sum
                have hlt : pos.sum < p.sum := by
                  rcases Nat.lt_or_ge pos.sum p.sum with h | h
                  · exact h
                  · exfalso
                    have := sum_lt a1 a3 a4 a5
                    omega
                refine ⟨a1.trans b1, ?_, pa, pc, a3, f1, by omega⟩
                simp only [List.length_cons, List.length_append]
                rw [Nat.add_mul, Nat.add_mul]
                omega
          · split at h
            · cases h
            · rename_i x p l1 h1
              simp only [Option.some.injEq, Prod.mk.injEq] at h
              obtain ⟨rfl, rfl, rfl⟩ := h
              obtain ⟨a1, a2, pa, pb, a3, a4, a5⟩ := hC _ _ _ _ _ _ _ h1 hp
              have hlt := sum_lt a1 a3 a4 a5
              refine ⟨a1, ?_, pa, pb, a3, a4, a5⟩
              simp only [List.length_cons]
              rw [Nat.add_mul, Nat.add_mul]
              omega
where
  sum_lt {T : TRows} {pos q : List Nat} {j p p' : Nat} (h : Adv T pos q) (h1 : pos[j]? = some p) (h2 : q[j]? = some p') (h3 : p < p') : pos.sum < q.sum := by
    have key : ∀ (a b : List Nat), a.length ≤ b.length → (∀ (j p : Nat), a[j]? = some p → ∃ p' : Nat, b[j]? = some p' ∧ p ≤ p') → a.sum ≤ b.sum := by
      intro a
      induction a with
      | nil => intro b _ _; simp
      | cons x a ih =>
        intro b hl h
        cases b with
        | nil => simp at hl
        | cons y b =>
          obtain ⟨p', e1, e2⟩ := h 0 x rfl
          simp only [List.getElem?_cons_zero, Option.some.injEq] at e1
          subst e1
          have := ih b (by simpa using hl) (fun j p hp => h (j + 1) p (by simpa using hp))
          simp only [List.sum_cons]; omega
    have key2 : ∀ (a b : List Nat) (j p p' : Nat), (∀ (j p : Nat), a[j]? = some p → ∃ p' : Nat, b[j]? = some p' ∧ p ≤ p') → a[j]? = some p → b[j]? = some p' → p < p' → a.sum < b.sum := by
      intro a
      induction a with
      | nil => intro b j p p' _ h; simp at h
      | cons x a ih =>
        intro b j p p' h h1 h2 h3
        cases b with
        | nil => simp at h2
        | cons y b =>
          have hle : ∀ (j p : Nat), a[j]? = some p → ∃ p' : Nat, b[j]? = some p' ∧ p ≤ p' := fun j p hp => h (j + 1) p (by simpa using hp)
          have hlen : a.length ≤ b.length := by
            rcases Nat.lt_or_ge b.length a.length with c | c
            · obtain ⟨p', e1, _⟩ := hle b.length _ (List.getElem?_eq_getElem c)
              have := (List.getElem?_eq_some_iff.1 e1).1
              omega
            · exact c
          cases j with
          | zero =>
            simp only [List.getElem?_cons_zero, Option.some.injEq] at h1 h2
            subst h1; subst h2
            have := key a b hlen hle
            simp only [List.sum_cons]; omega
          | succ j =>
            simp only [List.getElem?_cons_succ] at h1 h2
            have := ih b j p p' hle h1 h2 h3
            obtain ⟨p'', e1, e2⟩ := h 0 x rfl
            simp only [List.getElem?_cons_zero, Option.some.injEq] at e1
            subst e1
            simp only [List.sum_cons]; omega
    exact key2 pos q j p p' h.le h1 h2 h3

theorem aC_G {T : TRows} {s : List TCol} : ∀ (d a nx : Nat), SubC s d a nx → ∀ (rep def_ deep : Int) (pos : List Nat), ArG T (lnum s a) d pos (aC T s d a rep def_ deep pos)
  | 0, _, _, h, _, _, _, _ => h.elim
  | d + 1, a, nx, h, rep, def_, deep, pos => by
    intro Y q l he hp
    obtain ⟨c, hc, hco, _, hpp⟩ := h
    simp only [aC, hc] at he
    split at he
    · rename_i h7
      have hm0 : 0 < c.2.2.2.1 := by
        unfold colOk at hco
        rw [h7, tyOk_7] at hco
        simp at hco
        exact hco.1
      have key : ∀ (m pl : Nat) (names : List ByteArray) (pos : List Nat) (Y : List TVal) (q : List Nat) (l : Bool), PartsC (SubC s d) s m pl names nx → aParts (fun a pos => aPart T s (aC T s d a) (endC s d a) a rep def_ deep pos) (endC s d) m pl pos = some (Y, q, l) → PosOk T pos →
          Adv T pos q ∧ Y.length + (d + 1) * pos.sum ≤ (d + 1) * q.sum ∧ (0 < m → ∃ p p' : Nat, pos[lnum s pl]? = some p ∧ q[lnum s pl]? = some p' ∧ p < p') := by
        intro m
        induction m with
        | zero =>
          intro pl names pos Y q l hpp he hp
          simp only [aParts, Option.some.injEq, Prod.mk.injEq] at he
          obtain ⟨rfl, rfl, rfl⟩ := he
          exact ⟨Adv.refl hp, by simp, fun h => by omega⟩
        | succ m ih =>
          intro pl names pos Y q l hpp he hp
          obtain ⟨_, mid, _, _, q3, q4⟩ := hpp
          have hend : endC s d pl = mid := endC_eq d q3 d (Nat.le_refl _)
          simp only [aParts] at he
          obtain ⟨x, p, l1, y, l2, g1, g2, rfl, rfl⟩ := aSeq_some he
          rw [hend] at g1 g2
          obtain ⟨a1, a2, pa, pb, a3, a4, a5⟩ := aPart_G q3 (fun r q p pos => aC_G d pl mid q3 r q p pos) rep def_ deep pos _ _ _ g1 hp
          obtain ⟨b1, b2, _⟩ := ih mid _ p y q l2 q4 g2 a1.ok
          obtain ⟨pc, f1, f2⟩ := b1.le _ _ a4
          exact ⟨a1.trans b1, by rw [List.length_append]; omega, fun _ => ⟨pa, pc, a3, f1, by omega⟩⟩
      obtain ⟨k1, k2, k3⟩ := key _ _ _ _ _ _ _ hpp he hp
      have := k3 (by omega)
      rw [lnum_group hc h7] at this
      exact ⟨k1, k2, this⟩
    · split at he
      · cases he
      · rename_i v q1 h1
        simp only [Option.some.injEq, Prod.mk.injEq] at he
        obtain ⟨rfl, rfl, rfl⟩ := he
        obtain ⟨x, p, e1, e2, e3, e4, e5, e6⟩ := tk_some h1 hp
        refine ⟨e5, ?_, p, p + 1, e2, ?_, by omega⟩
        · rw [e6, Nat.mul_add, Nat.mul_one, List.length_singleton]; omega
        · rw [e4, List.getElem?_set_self (List.getElem?_eq_some_iff.1 e2).1]
end Go.Law
end

section
/- The reference puts records together as told in LawJoin. -/
set_option linter.unusedVariables false
set_option linter.unusedSimpArgs false
set_option linter.unusedSectionVars false
namespace Go.Law
open Go.Am Go.Fn

abbrev ip (pos : List Nat) : List Int := pos.map fun n : Nat => (n : Int)
theorem rdL_ip {pos : List Nat} {j p : Nat} (h : pos[j]? = some p) : rdL (ip pos) (j : Int) = some (p : Int) := by
  rw [rdL_nat, List.getElem?_map, h]; rfl
theorem ip_set (pos : List Nat) (j p : Nat) : (ip pos).set j (p : Int) = ip (pos.set j p) := by
  unfold ip
  rw [List.map_set]

abbrev tcol (x : List TTriple) : TColumn := (x, ())
theorem rdL_cols {T : TRows} {j : Nat} {x : List TTriple} (h : T[j]? = some x) : rdL (T.map tcol) (j : Int) = some (x, ()) := by
  rw [rdL_nat, List.getElem?_map, h]; rfl

def Room (d : Nat) (vals : List TVal) (pos : List Nat) : Prop := vals.length + 280000 + d ≤ 1000000 + 7 * pos.sum

theorem sum_le_len : ∀ (l : List Nat) (m : Nat), (∀ x, x ∈ l → x ≤ m) → l.sum ≤ m * l.length
  | [], m, _ => by simp
  | a :: l, m, h => by
    have h1 := h a (List.mem_cons_self ..)
    have h2 := sum_le_len l m (fun x hx => h x (List.mem_cons_of_mem _ hx))
    simp only [List.sum_cons, List.length_cons, Nat.mul_add, Nat.mul_one]
    omega

theorem pos_sum {T : TRows} {pos : List Nat} (hp : PosOk T pos) (hT : T.length ≤ 20) (hT2 : ∀ x, x ∈ T → x.length ≤ 2000) : pos.sum ≤ 40000 := by
  have h := sum_le_len pos 2000 (fun x hx => by
    obtain ⟨j, hj, rfl⟩ := List.getElem_of_mem hx
    have hl := hp.1
    have hjT : j < T.length := by omega
    have := hp.2 j _ _ (List.getElem?_eq_getElem hj) (List.getElem?_eq_getElem hjT)
    have := hT2 _ (List.getElem_mem hjT)
    omega)
  have hl := hp.1
  have : 2000 * pos.length ≤ 2000 * 20 := Nat.mul_le_mul_left _ (by omega)
  omega

theorem Room.lim {d n : Nat} {vals : List TVal} {pos : List Nat} (h : Room d vals pos) (hs : pos.sum ≤ 40000) (hn : n ≤ 10) : lim (vals.length + n) = true := by
  unfold Room at h
  exact lim_ok (by omega)
theorem Room.more {d m : Nat} {vals Y : List TVal} {pos q : List Nat} (h : Room d vals pos) (hs : pos.sum ≤ q.sum) (hY : Y.length + m * pos.sum ≤ m * q.sum) (hm : m ≤ 7) : Room d (vals ++ Y) q := by
  unfold Room at *
  rw [List.length_append]
  have h1 : Y.length ≤ 7 * (q.sum - pos.sum) := by
    have h2 : Y.length ≤ m * (q.sum - pos.sum) := by rw [Nat.mul_sub]; omega
    exact Nat.le_trans h2 (Nat.mul_le_mul_right _ hm)
  omega
theorem Room.one {d : Nat} {vals : List TVal} {pos : List Nat} (h : Room (d + 1) vals pos) (v : TVal) : Room d (vals ++ [v]) pos := by
  unfold Room at *
  rw [List.length_append, List.length_singleton]; omega
theorem Room.le {d e : Nat} {vals : List TVal} {pos : List Nat} (h : Room d vals pos) (he : e ≤ d) : Room e vals pos := by
  unfold Room at *; omega

section
variable (k : Nat) (s : List TCol) (hs : s.length ≤ 20) (hn : ∀ c, c ∈ s → c.1.size < k ∧ c.1.size < 1000000000 ∧ I64 c.2.2.2.1) (hk : 2000000 ≤ k)
variable (T : TRows) (hT : T.length = lnum s s.length) (hT2 : ∀ x, x ∈ T → x.length ≤ 2000)
include hs hn hk hT hT2

theorem Tlen : T.length ≤ 20 := by
  have := lnum_le s s.length
  omega

theorem posGet {pos : List Nat} (hp : PosOk T pos) {j : Nat} (hj : j < lnum s s.length) : ∃ x p, T[j]? = some x ∧ pos[j]? = some p ∧ p ≤ x.length ∧ x.length ≤ 2000 := by
  have h1 : j < T.length := by omega
  have h2 : j < pos.length := by have := hp.1; omega
  exact ⟨_, _, List.getElem?_eq_getElem h1, List.getElem?_eq_getElem h2, hp.2 j _ _ (List.getElem?_eq_getElem h2) (List.getElem?_eq_getElem h1), hT2 _ (List.getElem_mem h1)⟩

theorem stake_eq {pos : List Nat} (hp : PosOk T pos) {j : Nat} (hj : j < lnum s s.length) (rep def_ : Int) :
    spec_l14Take k (T.map tcol) (j : Int) rep def_ (ip pos) = some (match tk T rep def_ pos j with
      | none => (false, ip pos)
      | some (_, q) => (true, ip q)) := by
  obtain ⟨x, p, h1, h2, h3, h4⟩ := posGet k s hs hn hk T hT hT2 hp hj
  have hx : nxt T pos j = x[p]? := by unfold nxt; rw [h1, h2]
  have hpw : IntKind.wrap .i64 ((p : Int) + 1) = ((p + 1 : Nat) : Int) := by rw [w64 (by omega) (by omega)]; omega
  have hgd : pos.getD j 0 = p := by rw [List.getD_eq_getElem?_getD, h2]; rfl
  unfold spec_l14Take tk
  rw [hx, rdL_ip h2, rdL_cols h1]
  simp only [Option.bind_some, hpw, hgd]
  by_cases hlt : p < x.length
  · have hg : x[p]? = some x[p] := List.getElem?_eq_getElem hlt
    rw [decide_eq_false (by omega), cond_false, rdL_nat, hg]
    simp only [Option.bind_some]
    by_cases c1 : (x[p]).1 = rep
    · rw [bneF c1, cond_false]
      simp only [Option.bind_some]
      by_cases c2 : (x[p]).2.1 = def_
      · rw [bneF c2, cond_false, if_pos ⟨c1, c2⟩]
        simp only [Option.bind_some, Int.toNat_natCast, ip_set]
      · rw [bneT c2, cond_true, if_neg (fun q => c2 q.2)]
    · rw [bneT c1, cond_true, if_neg (fun q => c1 q.1)]
      simp only [Option.bind_some, cond_true]
  · have hg : x[p]? = none := List.getElem?_eq_none (by omega)
    rw [decide_eq_true (by omega), cond_true, hg]
    simp only [Option.bind_some, cond_true]

/-- what the reference says, by what is told in LawJoin -/
def FS (r : Option ((Unit × Bool) × (List Int) × (List TVal))) (vals : List TVal) (a : AR) : Prop := match a with
  | none => ∃ p v, r = some (((), false), (p, v))
  | some (Y, q, _) => r = some (((), true), (ip q, vals ++ Y))

theorem smiss_eq {d a e : Nat} (h : SubC s d a e) (hd : d ≤ 6) (he : e ≤ s.length) (rep def_ : Int) (vals : List TVal) : ∀ (n j f : Nat) (pos : List Nat), j + n = lnum s e → n < f → PosOk T pos →
    FS (spec_l14Build.l10 k f s (a : Int) (T.map tcol) rep def_ (j : Int) (ip pos) vals) vals (match tkAll T rep def_ n j pos with
      | none => none
      | some q => some ([], q, false)) := by
  have haf := l5After_sub k s hs hn (by omega) h hd he
  have hle := lnum_mono s he
  intro n
  induction n with
  | zero =>
    intro j f pos hj hf hp
    obtain ⟨f, rfl⟩ : ∃ q, f = q + 1 := ⟨f - 1, by omega⟩
    simp only [spec_l14Build.l10, haf, Option.bind_some, sleaf_eq k s hs hk e he, decide_eq_false (show ¬ ((j : Int) < (lnum s e : Int)) by omega), cond_false, tkAll, FS, List.append_nil]
  | succ n ih =>
    intro j f pos hj hf hp
    obtain ⟨f, rfl⟩ : ∃ q, f = q + 1 := ⟨f - 1, by omega⟩
    have hl := lnum_le s e
    have hj1 : IntKind.wrap .i64 ((j : Int) + 1) = ((j + 1 : Nat) : Int) := by rw [w64 (by omega) (by omega)]; omega
    simp only [spec_l14Build.l10, haf, Option.bind_some, sleaf_eq k s hs hk e he, decide_eq_true (show (j : Int) < (lnum s e : Int) by omega), cond_true, stake_eq k s hs hn hk T hT hT2 hp (show j < lnum s s.length by omega), tkAll]
    cases htk : tk T rep def_ pos j with
    | none => exact ⟨_, _, rfl⟩
    | some r =>
      obtain ⟨v, q⟩ := r
      obtain ⟨_, _, _, _, _, _, a1, _⟩ := tk_some htk hp
      simp only [Bool.not_true, cond_false, hj1]
      exact ih (j + 1) f q (by omega) (by omega) a1.ok

theorem srep_eq (S : (List TCol) → Int → (List TColumn) → Int → Int → Int → (List Int) → (List TVal) → Option ((Unit × Bool) × (List Int) × (List TVal))) (a m : Nat) (hm : m ≤ 7) (c : TCol) (hc : s[a]? = some c) (h2 : c.2.2.1 = 2) (hj : lnum s a < lnum s s.length) (C : List Nat → AR) (hC : ∀ pos, ArG T (lnum s a) m pos (C pos)) (def_ deep : Int) (hd1 : IntKind.wrap .i64 (def_ + 1) = def_ + 1)
    (hS : ∀ pos vals, PosOk T pos → Room m vals pos → FS (S s (a : Int) (T.map tcol) deep (def_ + 1) deep (ip pos) vals) vals (C pos)) (vals0 : List TVal) :
    ∀ (N f f2 n : Nat) (pos : List Nat) (Y0 : List TVal) (p : Nat), pos[lnum s a]? = some p → 2000 - p ≤ N → p ≤ 2000 → N < f → N < f2 → n + N ≤ 100000 → PosOk T pos → (∀ cnt : Int, Room m (vals0 ++ (cnt, (⟨#[]⟩ : ByteArray), ()) :: Y0) pos) →
      match aRep T (lnum s a) deep C f2 pos with
      | none => ∃ p v, spec_l14Build.l18 k S f s (a : Int) (T.map tcol) deep def_ deep (lnum s a : Int) (vals0.length : Int) (match nxt T pos (lnum s a) with | none => false | some t => t.1 == deep) (ip pos) (vals0 ++ ((n : Int), (⟨#[]⟩ : ByteArray), ()) :: Y0) = some (((), false), (p, v))
      | some (i, Y, q, _) => spec_l14Build.l18 k S f s (a : Int) (T.map tcol) deep def_ deep (lnum s a : Int) (vals0.length : Int) (match nxt T pos (lnum s a) with | none => false | some t => t.1 == deep) (ip pos) (vals0 ++ ((n : Int), (⟨#[]⟩ : ByteArray), ()) :: Y0) = some (((), true), (ip q, vals0 ++ (((n + i : Nat) : Int), (⟨#[]⟩ : ByteArray), ()) :: (Y0 ++ Y))) := by
  intro N
  induction N with
  | zero =>
    intro f f2 n pos Y0 p hp hN hp2 hf hf2 hnN hpo hroom
    obtain ⟨f, rfl⟩ : ∃ q, f = q + 1 := ⟨f - 1, by omega⟩
    obtain ⟨f2, rfl⟩ : ∃ q, f2 = q + 1 := ⟨f2 - 1, by omega⟩
    have hno : nxt T pos (lnum s a) = none := by
      obtain ⟨x, p', g1, g2, g3, g4⟩ := posGet k s hs hn hk T hT hT2 hpo hj
      rw [hp] at g2
      cases g2
      unfold nxt
      rw [g1, hp]
      exact List.getElem?_eq_none (by omega)
    simp only [aRep, hno, spec_l14Build.l18, cond_false, List.append_nil, Nat.add_zero]
  | succ N ih =>
    intro f f2 n pos Y0 p hp hN hp2 hf hf2 hnN hpo hroom
    obtain ⟨f, rfl⟩ : ∃ q, f = q + 1 := ⟨f - 1, by omega⟩
    obtain ⟨f2, rfl⟩ : ∃ q, f2 = q + 1 := ⟨f2 - 1, by omega⟩
    simp only [aRep]
    cases hno : nxt T pos (lnum s a) with
    | none => simp only [spec_l14Build.l18, cond_false, List.append_nil, Nat.add_zero]
    | some t =>
      simp only
      by_cases ht : t.1 = deep
      · rw [if_pos ht, beqT ht]
        have hcnt : IntKind.wrap .i64 ((n : Int) + 1) = ((n + 1 : Nat) : Int) := by rw [w64 (by omega) (by omega)]; omega
        have hs' := hS pos (vals0 ++ (((n + 1 : Nat) : Int), (⟨#[]⟩ : ByteArray), ()) :: Y0) hpo (hroom _)
        simp only [spec_l14Build.l18, cond_true, getMid, Option.bind_some, setMid, hcnt, hd1]
        cases hCp : C pos with
        | none =>
          rw [hCp] at hs'
          obtain ⟨p1, v1, e⟩ := hs'
          simp only [e, Option.bind_some, Bool.not_false, cond_true]
          exact ⟨_, _, rfl⟩
        | some r =>
          obtain ⟨x, q, l⟩ := r
          rw [hCp] at hs'
          have e : S s (a : Int) (T.map tcol) deep (def_ + 1) deep (ip pos) (vals0 ++ (((n + 1 : Nat) : Int), (⟨#[]⟩ : ByteArray), ()) :: Y0) = some (((), true), (ip q, (vals0 ++ (((n + 1 : Nat) : Int), (⟨#[]⟩ : ByteArray), ()) :: Y0) ++ x)) := hs'
          obtain ⟨a1, a2, pa, pb, a3, a4, a5⟩ := hC pos _ _ _ hCp hpo
          rw [hp] at a3
          cases a3
          obtain ⟨xr, pb', g1, g2, g3, g4⟩ := posGet k s hs hn hk T hT hT2 a1.ok hj
          rw [a4] at g2
          cases g2
          have hmore : (cond (decide ((pb : Int) < (xr.length : Int))) ((rdL (T.map tcol) (lnum s a : Int)).bind fun y9 => (rdL (ip q) (lnum s a : Int)).bind fun y10 => (rdL y9.1 y10).bind fun y11 => some (y11.1 == deep)) (some false)) = some (match nxt T q (lnum s a) with | none => false | some t => t.1 == deep) := by
            have hx : nxt T q (lnum s a) = xr[pb]? := by unfold nxt; rw [g1, a4]
            rw [hx]
            by_cases hlt : pb < xr.length
            · rw [decide_eq_true (by omega), cond_true, rdL_cols g1, rdL_ip a4]
              simp only [Option.bind_some, rdL_nat, List.getElem?_eq_getElem hlt]
            · rw [decide_eq_false (by omega), cond_false, List.getElem?_eq_none (by omega)]
          simp only [e, Option.bind_some, Bool.not_true, cond_false, (show rdL s (a : Int) = some c from hc), beqT h2, cond_true, rdL_ip a4, rdL_cols g1, List.append_assoc, List.cons_append]
          rw [rdL_cols g1, rdL_ip a4] at hmore
          simp only [Option.bind_some] at hmore
          rw [hmore]
          simp only [Option.bind_some]
          have hi := ih f f2 (n + 1) q (Y0 ++ x) pb a4 (by omega) (by omega) (by omega) (by omega) (by omega) a1.ok (fun cnt => by
            have := Room.more (hroom cnt) a1.sum a2 hm
            rw [List.append_assoc, List.cons_append] at this
            exact this)
          cases hrep : aRep T (lnum s a) deep C f2 q with
          | none =>
            rw [hrep] at hi
            exact hi
          | some r2 =>
            obtain ⟨i, Y, q2, l2⟩ := r2
            rw [hrep] at hi
            simp only at hi ⊢
            rw [hi, List.append_assoc, show n + 1 + i = n + (i + 1) by omega]
      · rw [if_neg ht, beqF ht]
        simp only [spec_l14Build.l18, cond_false, List.append_nil, Nat.add_zero]

theorem spart_eq (d D a e : Nat) (hd : d ≤ 6) (he : e ≤ s.length) (hsub : SubC s d a e) (C : Int → Int → Int → List Nat → AR) (c : TCol) (hc : s[a]? = some c) (hr : c.2.2.1 = 0 ∨ c.2.2.1 = 1 ∨ c.2.2.1 = 2) (hG : ∀ r q p pos, ArG T (lnum s a) d pos (C r q p pos))
    (hC : ∀ (rep def_ deep : Int) (pos : List Nat) (vals : List TVal), PosOk T pos → 0 ≤ def_ → def_ + d ≤ 1001 → 0 ≤ deep → deep + d ≤ 1001 → Room d vals pos → FS ((spec_l14Fill.rec k D).1 s (a : Int) (T.map tcol) rep def_ deep (ip pos) vals) vals (C rep def_ deep pos))
    (rep def_ deep : Int) (pos : List Nat) (vals : List TVal) (hp : PosOk T pos) (b0 : 0 ≤ def_) (b1 : def_ + 1 + d ≤ 1001) (b2 : 0 ≤ deep) (b3 : deep + 1 + d ≤ 1001) (hroom : Room (d + 1) vals pos) :
    FS ((spec_l14Fill.rec k (D + 1)).2 s (a : Int) (T.map tcol) rep def_ deep (ip pos) vals) vals (aPart T s C e a rep def_ deep pos) := by
  have hd1 : IntKind.wrap .i64 (def_ + 1) = def_ + 1 := w64 (by omega) (by omega)
  have hq1 : IntKind.wrap .i64 (deep + 1) = deep + 1 := w64 (by omega) (by omega)
  have hlt := SubC_lt _ _ _ hsub
  have hlp := lnum_pos hsub
  have hle := lnum_mono s he
  have hj : lnum s a < lnum s s.length := by omega
  have hsum := pos_sum hp (Tlen k s hs hn hk T hT hT2) hT2
  simp only [spec_l14Fill.rec, spec_l14Build.b, rdL_nat, hc, Option.bind_some, aPart]
  by_cases h0 : c.2.2.1 = 0
  · rw [beqT h0, cond_true, if_pos h0]
    have := hC rep def_ deep pos vals hp b0 (by omega) b2 (by omega) (hroom.le (by omega))
    cases hCp : C rep def_ deep pos with
    | none =>
      rw [hCp] at this
      obtain ⟨p1, v1, e⟩ := this
      rw [e]
      exact ⟨_, _, rfl⟩
    | some r =>
      obtain ⟨Y, q, l⟩ := r
      rw [hCp] at this
      have e : (spec_l14Fill.rec k D).1 s (a : Int) (T.map tcol) rep def_ deep (ip pos) vals = some (((), true), (ip q, vals ++ Y)) := this
      rw [e]
      rfl
  · rw [beqF h0, cond_false, if_neg h0]
    obtain ⟨x, p, g1, g2, g3, g4⟩ := posGet k s hs hn hk T hT hT2 hp hj
    have hx : nxt T pos (lnum s a) = x[p]? := by unfold nxt; rw [g1, g2]
    simp only [sleaf_eq k s hs hk a (by omega), Option.bind_some, rdL_ip g2, rdL_cols g1]
    rw [hx]
    by_cases hpl : p < x.length
    · rw [decide_eq_false (by omega), cond_false, lim_ok (by have := Room.lim hroom hsum (show 1 ≤ 10 by omega); unfold lim at this; have := Nat.le_of_ble_eq_true this; simpa using this), cond_true, List.getElem?_eq_getElem hpl]
      simp only [rdL_nat, List.getElem?_eq_getElem hpl, Option.bind_some, List.getElem?_map, g1, Option.map_some]
      by_cases hdf : (x[p]).2.1 ≤ def_
      · rw [decide_eq_true hdf, cond_true, if_pos hdf]
        have := smiss_eq k s hs hn hk T hT hT2 hsub hd he rep def_ (vals ++ [(0, (⟨#[]⟩ : ByteArray), ())]) (lnum s e - lnum s a) (lnum s a) k pos (by omega) (by have := lnum_le s e; omega) hp
        cases hta : tkAll T rep def_ (lnum s e - lnum s a) (lnum s a) pos with
        | none => rw [hta] at this; exact this
        | some q =>
          rw [hta] at this
          have this : spec_l14Build.l10 k k s (a : Int) (T.map tcol) rep def_ (lnum s a : Int) (ip pos) (vals ++ [(0, (⟨#[]⟩ : ByteArray), ())]) = some (((), true), (ip q, (vals ++ [(0, (⟨#[]⟩ : ByteArray), ())]) ++ [])) := this
          rw [List.append_nil] at this
          exact this
      · rw [decide_eq_false hdf, cond_false, if_neg hdf]
        simp only [rdL_nat, hc, Option.bind_some, spec_l14Build.c17]
        by_cases h2 : c.2.2.1 = 2
        · rw [beqT h2, cond_true, if_pos h2, hq1]
          have hs' := hC rep (def_ + 1) (deep + 1) pos (vals ++ [((1 : Int), (⟨#[]⟩ : ByteArray), ())]) hp (by omega) (by omega) (by omega) (by omega) (hroom.one _)
          have hset : ∀ v : TVal, List.set (vals ++ [v]) (Int.toNat (vals.length : Int)) ((1 : Int), (⟨#[]⟩ : ByteArray), ()) = vals ++ [((1 : Int), (⟨#[]⟩ : ByteArray), ())] := fun v => setMid vals [] v _
          have hget : ∀ v : TVal, rdL (vals ++ [v]) (vals.length : Int) = some v := fun v => getMid vals [] v
          have h01 : IntKind.wrap .i64 ((0 : Int) + 1) = 1 := by decide
          conv => arg 1; arg 3; rw [show k = (k - 1) + 1 by omega]
          simp only [spec_l14Build.l18, cond_true, hget, Option.bind_some, hset, h01, hd1]
          cases hCp : C rep (def_ + 1) (deep + 1) pos with
          | none =>
            rw [hCp] at hs'
            obtain ⟨p1, v1, e⟩ := hs'
            simp only [e, Option.bind_some, Bool.not_false, cond_true]
            exact ⟨_, _, rfl⟩
          | some r =>
            obtain ⟨y, q, l⟩ := r
            rw [hCp] at hs'
            have e : (spec_l14Fill.rec k D).1 s (a : Int) (T.map tcol) rep (def_ + 1) (deep + 1) (ip pos) (vals ++ [((1 : Int), (⟨#[]⟩ : ByteArray), ())]) = some (((), true), (ip q, (vals ++ [((1 : Int), (⟨#[]⟩ : ByteArray), ())]) ++ y)) := hs'
            obtain ⟨a1, a2, pa, pb, a3, a4, a5⟩ := hG _ _ _ pos _ _ _ hCp hp
            obtain ⟨xr, pb', r1, r2, r3, r4⟩ := posGet k s hs hn hk T hT hT2 a1.ok hj
            rw [a4] at r2
            cases r2
            have hmore : (cond (decide ((pb : Int) < (xr.length : Int))) ((rdL (T.map tcol) (lnum s a : Int)).bind fun y9 => (rdL (ip q) (lnum s a : Int)).bind fun y10 => (rdL y9.1 y10).bind fun y11 => some (y11.1 == deep + 1)) (some false)) = some (match nxt T q (lnum s a) with | none => false | some t => t.1 == deep + 1) := by
              have hx : nxt T q (lnum s a) = xr[pb]? := by unfold nxt; rw [r1, a4]
              rw [hx]
              by_cases hlt : pb < xr.length
              · rw [decide_eq_true (by omega), cond_true, rdL_cols r1, rdL_ip a4]
                simp only [Option.bind_some, rdL_nat, List.getElem?_eq_getElem hlt]
              · rw [decide_eq_false (by omega), cond_false, List.getElem?_eq_none (by omega)]
            rw [rdL_cols r1, rdL_ip a4] at hmore
            simp only [Option.bind_some] at hmore
            simp only [e, Option.bind_some, Bool.not_true, cond_false, (show rdL s (a : Int) = some c from hc), beqT h2, cond_true, rdL_ip a4, rdL_cols r1]
            rw [hmore]
            simp only [Option.bind_some, List.append_assoc, List.singleton_append]
            have hroom1 : ∀ cnt : Int, Room d (vals ++ (cnt, (⟨#[]⟩ : ByteArray), ()) :: y) q := fun cnt => by
              have h1 : Room d (vals ++ [(cnt, (⟨#[]⟩ : ByteArray), ())]) pos := hroom.one _
              have h2 := Room.more h1 a1.sum a2 (by omega)
              rw [List.append_assoc, List.singleton_append] at h2
              exact h2
            have hi := srep_eq k s hs hn hk T hT hT2 (spec_l14Fill.rec k D).1 a d (by omega) c hc h2 hj (C (deep + 1) (def_ + 1) (deep + 1)) (fun pos => hG _ _ _ pos) def_ (deep + 1) hd1
              (fun pos vals hpo hrm => hC _ _ _ pos vals hpo (by omega) (by omega) (by omega) (by omega) hrm) vals (2000 - pb) (k - 1) 3000 1 q y pb a4 (Nat.le_refl _) (by omega) (by omega) (by omega) (by omega) a1.ok hroom1
            cases hrep : aRep T (lnum s a) (deep + 1) (C (deep + 1) (def_ + 1) (deep + 1)) 3000 q with
            | none =>
              rw [hrep] at hi
              exact hi
            | some r5 =>
              obtain ⟨i, Y, q2, l2⟩ := r5
              rw [hrep] at hi
              simp only at hi ⊢
              show _ = _
              rw [show ((1 : Nat) : Int) = 1 from rfl] at hi
              rw [hi, show 1 + i = i + 1 by omega]
        · rw [beqF h2, cond_false, if_neg h2]
          have hs' := hC rep (def_ + 1) deep pos (vals ++ [((1 : Int), (⟨#[]⟩ : ByteArray), ())]) hp (by omega) (by omega) (by omega) (by omega) (hroom.one _)
          have hset : ∀ v : TVal, List.set (vals ++ [v]) (Int.toNat (vals.length : Int)) ((1 : Int), (⟨#[]⟩ : ByteArray), ()) = vals ++ [((1 : Int), (⟨#[]⟩ : ByteArray), ())] := fun v => setMid vals [] v _
          have hget : ∀ v : TVal, rdL (vals ++ [v]) (vals.length : Int) = some v := fun v => getMid vals [] v
          have h01 : IntKind.wrap .i64 ((0 : Int) + 1) = 1 := by decide
          conv => arg 1; arg 3; rw [show k = (k - 2) + 1 + 1 by omega]
          simp only [spec_l14Build.l18, cond_true, hget, Option.bind_some, hset, h01, hd1]
          cases hCp : C rep (def_ + 1) deep pos with
          | none =>
            rw [hCp] at hs'
            obtain ⟨p1, v1, e⟩ := hs'
            simp only [e, Option.bind_some, Bool.not_false, cond_true]
            exact ⟨_, _, rfl⟩
          | some r =>
            obtain ⟨y, q, l⟩ := r
            rw [hCp] at hs'
            have e : (spec_l14Fill.rec k D).1 s (a : Int) (T.map tcol) rep (def_ + 1) deep (ip pos) (vals ++ [((1 : Int), (⟨#[]⟩ : ByteArray), ())]) = some (((), true), (ip q, (vals ++ [((1 : Int), (⟨#[]⟩ : ByteArray), ())]) ++ y)) := hs'
            simp only [e, Option.bind_some, Bool.not_true, cond_false, rdL_nat, hc, beqF h2, cond_false]
            show _ = _
            simp
    · rw [decide_eq_true (by omega), cond_true, List.getElem?_eq_none (by omega)]
      exact ⟨_, _, rfl⟩

theorem sfill_ok : ∀ (d D a nx : Nat), SubC s d a nx → nx ≤ s.length → d ≤ 6 → 2 * d ≤ D → ∀ (rep def_ deep : Int) (pos : List Nat) (vals : List TVal), PosOk T pos → 0 ≤ def_ → def_ + d ≤ 1001 → 0 ≤ deep → deep + d ≤ 1001 → Room d vals pos →
    FS ((spec_l14Fill.rec k D).1 s (a : Int) (T.map tcol) rep def_ deep (ip pos) vals) vals (aC T s d a rep def_ deep pos) := by
  intro d
  induction d with
  | zero => intro D a nx h; exact h.elim
  | succ d ih =>
    intro D a nx h hnx hd hD rep def_ deep pos vals hp b0 b1 b2 b3 hroom
    obtain ⟨D, rfl⟩ : ∃ q, D = q + 2 := ⟨D - 2, by omega⟩
    have hsub := h
    have hlt := SubC_lt _ _ _ h
    obtain ⟨c, hc, hco, _, hpp⟩ := h
    have hcm := (hn c (List.mem_of_getElem? hc)).2.2
    have hmp := PartsC_le (SubC_lt d) _ _ _ _ hpp
    have ha1 : IntKind.wrap .i64 ((a : Int) + 1) = ((a + 1 : Nat) : Int) := by rw [w64 (by omega) (by omega)]; omega
    have hsum := pos_sum hp (Tlen k s hs hn hk T hT hT2) hT2
    rw [show D + 2 = (D + 1) + 1 from rfl]
    simp only [spec_l14Fill.rec, spec_l14Fill.b, rdL_nat, hc, Option.bind_some, aC]
    by_cases h7 : c.2.1 = 7
    · rw [bneF h7, cond_false, if_pos h7, ha1]
      have hmn : 0 ≤ c.2.2.2.1 := by
        unfold colOk at hco
        rw [h7, tyOk_7] at hco
        simp at hco
        omega
      have key : ∀ (m pl : Nat) (i : Int) (names : List ByteArray) (f : Nat) (pos : List Nat) (vals : List TVal), PartsC (SubC s d) s m pl names nx → c.2.2.2.1 - i = m → 0 ≤ i → m < f → PosOk T pos → Room (d + 1) vals pos →
          FS (spec_l14Fill.l8 k (spec_l14Fill.rec k (D + 1)).2 f s (a : Int) (T.map tcol) rep def_ deep (pl : Int) i (ip pos) vals) vals (aParts (fun a pos => aPart T s (aC T s d a) (endC s d a) a rep def_ deep pos) (endC s d) m pl pos) := by
        intro m
        induction m with
        | zero =>
          intro pl i names f pos vals hpp hi h0 hf hp hroom
          obtain ⟨f, rfl⟩ : ∃ q, f = q + 1 := ⟨f - 1, by omega⟩
          simp only [aParts, FS, spec_l14Fill.l8, rdL_nat, hc, Option.bind_some, decide_eq_false (show ¬ (i < c.2.2.2.1) by omega), cond_false, List.append_nil]
        | succ m ihm =>
          intro pl i names f pos vals hpp hi h0 hf hp hroom
          obtain ⟨q, mid, q1, q2, q3, q4⟩ := hpp
          have hmn' := PartsC_nx (SubC_lt d) _ _ _ _ q4
          obtain ⟨f, rfl⟩ : ∃ q, f = q + 1 := ⟨f - 1, by omega⟩
          have hi1 : IntKind.wrap .i64 (i + 1) = i + 1 := w64 (by omega) (by omega)
          have hend : endC s d pl = mid := endC_eq d q3 d (Nat.le_refl _)
          have haf := l5After_sub k s hs hn (by omega) q3 (show d ≤ 6 by omega) (by omega)
          have hpart : FS ((spec_l14Fill.rec k (D + 1)).2 s (pl : Int) (T.map tcol) rep def_ deep (ip pos) vals) vals (aPart T s (aC T s d pl) mid pl rep def_ deep pos) := by
            obtain ⟨d', rfl⟩ : ∃ q, d = q + 1 := ⟨d - 1, by cases d with
              | zero => exact q3.elim
              | succ d => omega⟩
            have q3' := q3
            obtain ⟨c', hc', hco', _, _⟩ := q3
            have hrep : c'.2.2.1 = 0 ∨ c'.2.2.1 = 1 ∨ c'.2.2.1 = 2 := by
              unfold colOk at hco'
              simp only [Bool.and_eq_true, decide_eq_true_eq] at hco'
              omega
            exact spart_eq k s hs hn hk T hT hT2 (d' + 1) D pl mid (by omega) (by omega) q3' (aC T s (d' + 1) pl) c' hc' hrep (fun r q p pos => aC_G _ pl mid q3' r q p pos)
              (fun rep def_ deep pos vals h1 h2 h3 h4 h5 h6 => ih D pl mid q3' (by omega) (by omega) (by omega) rep def_ deep pos vals h1 h2 h3 h4 h5 h6) rep def_ deep pos vals hp b0 (by omega) b2 (by omega) hroom
          simp only [aParts, hend]
          simp only [spec_l14Fill.l8, rdL_nat, hc, Option.bind_some, decide_eq_true (show i < c.2.2.2.1 by omega), cond_true, hi1]
          cases hap : aPart T s (aC T s d pl) mid pl rep def_ deep pos with
          | none =>
            rw [hap] at hpart
            obtain ⟨p1, v1, e⟩ := hpart
            simp only [e, Option.bind_some, Bool.not_false, cond_true, aSeq]
            exact ⟨_, _, rfl⟩
          | some r =>
            obtain ⟨Y, q5, l⟩ := r
            rw [hap] at hpart
            have e : (spec_l14Fill.rec k (D + 1)).2 s (pl : Int) (T.map tcol) rep def_ deep (ip pos) vals = some (((), true), (ip q5, vals ++ Y)) := hpart
            obtain ⟨a1, a2, _⟩ := aPart_G q3 (fun r q p pos => aC_G d pl mid q3 r q p pos) rep def_ deep pos _ _ _ hap hp
            have hi := ihm mid (i + 1) _ f q5 (vals ++ Y) q4 (by omega) (by omega) (by omega) a1.ok (Room.more hroom a1.sum a2 (by omega))
            simp only [e, Option.bind_some, Bool.not_true, cond_false, haf, aSeq]
            cases har : aParts (fun a pos => aPart T s (aC T s d a) (endC s d a) a rep def_ deep pos) (endC s d) m mid q5 with
            | none =>
              rw [har] at hi
              exact hi
            | some r6 =>
              obtain ⟨Y2, q6, l6⟩ := r6
              rw [har] at hi
              simp only [FS] at hi ⊢
              rw [hi, List.append_assoc]
      exact key c.2.2.2.1.toNat (a + 1) 0 [] k pos vals hpp (by omega) (by omega) (by omega) hp hroom
    · rw [bneT h7, cond_true, if_neg h7]
      have hj := lnum_lt hc h7
      simp only [sleaf_eq k s hs hk a (by omega), Option.bind_some, stake_eq k s hs hn hk T hT hT2 hp hj]
      cases htk : tk T rep def_ pos (lnum s a) with
      | none => exact ⟨_, _, rfl⟩
      | some r =>
        obtain ⟨v, q⟩ := r
        obtain ⟨x, p, e1, e2, e3, e4, e5, e6⟩ := tk_some htk hp
        have hq2 : q[lnum s a]? = some (p + 1) := by
          rw [e4, List.getElem?_set_self (List.getElem?_eq_some_iff.1 e2).1]
        have hw : IntKind.wrap .i64 (((p + 1 : Nat) : Int) - 1) = (p : Int) := by
          have := (List.getElem?_eq_some_iff.1 e3).1
          have hx2 := hT2 x (List.mem_of_getElem? e1)
          rw [w64 (by omega) (by omega)]; omega
        simp only [Bool.not_true, cond_false, spec_l14Fill.d5, rdL_cols e1, rdL_ip hq2, Option.bind_some, hw, rdL_nat, e3]
        rw [lim_ok (by have := Room.lim hroom hsum (show 1 ≤ 10 by omega); unfold lim at this; have := Nat.le_of_ble_eq_true this; simpa using this), cond_true]
        rfl
end
end Go.Law
end

section
/- The program puts records together as told in LawJoin. -/
set_option linter.unusedVariables false
set_option linter.unusedSimpArgs false
set_option linter.unusedSectionVars false
namespace Go.Law
open Go.Am Go.Fn

/-- a joiner -/
abbrev jn (s : List TCol) (T : TRows) (nums : List Int) (b l : Bool) : TJoinerB := (s, T.map tcol, nums, (), (), b, l, ())
/-- what a joiner says, by what is told in LawJoin -/
def IM (s : List TCol) (T : TRows) (nums : List Int) (r : Option (Int × TJoinerB × (List Int) × (List TVal))) (nx : Int) (l : Bool) (vals : List TVal) (a : AR) : Prop := match a with
  | none => ∃ nx' l' pos' v, PosOk T pos' ∧ r = some (nx', (jn s T nums true l', ip pos', v)) ∧ vals.length ≤ v.length
  | some (Y, q, m) => r = some (nx, (jn s T nums false (l || m), ip q, vals ++ Y))

section
variable (k : Nat) (s : List TCol) (hs : s.length ≤ 20) (hn : ∀ c, c ∈ s → c.1.size < k ∧ c.1.size < 1000000000 ∧ I64 c.2.2.2.1) (hk : 2000000 ≤ k)
variable (T : TRows) (hT : T.length = lnum s s.length) (hT2 : ∀ x, x ∈ T → x.length ≤ 2000)
variable (nums : List Int) (hN : ∀ (a : Nat) (c : TCol), s[a]? = some c → c.2.1 ≠ 7 → rdL nums (a : Int) = some (lnum s a : Int))
include hs hn hk hT hT2 hN

theorem ipeek_eq : ∀ (d a nx f : Nat), SubC s d a nx → nx ≤ s.length → d < f → ∀ (b l : Bool) (pos : List Nat) (vals : List TVal) (t0 : TTriple), PosOk T pos →
    impl_joiner_peek.l1 k f (a : Int) (jn s T nums b l) (ip pos) vals t0 = some (match nxt T pos (lnum s a) with
      | none => (((0, 0, zv, ()), false), (jn s T nums b l, ip pos, vals))
      | some t => ((t, true), (jn s T nums b l, ip pos, vals))) := by
  intro d
  induction d with
  | zero => intro a nx f h; exact h.elim
  | succ d ih =>
    intro a nx f h hnx hf b l pos vals t0 hp
    obtain ⟨f, rfl⟩ : ∃ q, f = q + 1 := ⟨f - 1, by omega⟩
    have hlt := SubC_lt _ _ _ h
    obtain ⟨c, hc, hco, _, hpp⟩ := h
    have ha1 : IntKind.wrap .i64 ((a : Int) + 1) = ((a + 1 : Nat) : Int) := by rw [w64 (by omega) (by omega)]; omega
    simp only [impl_joiner_peek.l1, rdL_nat, hc, Option.bind_some]
    by_cases h7 : c.2.1 = 7
    · have hm0 : 0 < c.2.2.2.1 := by
        unfold colOk at hco
        rw [h7, tyOk_7] at hco
        simp at hco
        exact hco.1
      obtain ⟨m, hm⟩ : ∃ m, c.2.2.2.1.toNat = m + 1 := ⟨c.2.2.2.1.toNat - 1, by omega⟩
      rw [hm] at hpp
      obtain ⟨q, mid, _, _, q3, q4⟩ := hpp
      have hmn := PartsC_nx (SubC_lt d) _ _ _ _ q4
      have := ih (a + 1) mid f q3 (by omega) (by omega) b l pos vals t0 hp
      rw [lnum_group hc h7] at this
      rw [beqT h7, cond_true, ha1, this]
    · rw [beqF h7, cond_false, ← rdL_nat, hN a c hc h7]
      obtain ⟨x, p, g1, g2, g3, g4⟩ := posGet k s hs hn hk T hT hT2 hp (lnum_lt hc h7)
      have hx : nxt T pos (lnum s a) = x[p]? := by unfold nxt; rw [g1, g2]
      simp only [Option.bind_some, rdL_ip g2, rdL_cols g1]
      rw [hx]
      by_cases hpl : p < x.length
      · rw [beqF (by omega), cond_false, List.getElem?_eq_getElem hpl]
        simp only [rdL_nat, List.getElem?_eq_getElem hpl, Option.bind_some]
      · rw [beqT (by omega), cond_true, List.getElem?_eq_none (by omega)]
        rfl

theorem ipeek {d a nx : Nat} (h : SubC s d a nx) (hd : d ≤ 7) (hnx : nx ≤ s.length) (b l : Bool) (pos : List Nat) (vals : List TVal) (hp : PosOk T pos) :
    impl_joiner_peek k (a : Int) (jn s T nums b l) (ip pos) vals = some (match nxt T pos (lnum s a) with
      | none => (((0, 0, zv, ()), false), (jn s T nums b l, ip pos, vals))
      | some t => ((t, true), (jn s T nums b l, ip pos, vals))) :=
  ipeek_eq k s hs hn hk T hT hT2 nums hN d a nx k h hnx (by omega) b l pos vals _ hp

theorem itake_eq {a : Nat} {c : TCol} (hc : s[a]? = some c) (h7 : c.2.1 ≠ 7) {d nx : Nat} (hsub : SubC s d a nx) (hd : d ≤ 7) (hnx : nx ≤ s.length) (b l : Bool) (rep def_ : Int) (pos : List Nat) (vals : List TVal) (hp : PosOk T pos) :
    impl_joiner_take k (a : Int) rep def_ (jn s T nums b l) (ip pos) vals = some (match b, tk T rep def_ pos (lnum s a) with
      | false, some (v, q) => (v, (jn s T nums false l, ip q, vals))
      | _, _ => (zv, (jn s T nums true l, ip pos, vals))) := by
  have hpk := ipeek k s hs hn hk T hT hT2 nums hN hsub hd hnx b l pos vals hp
  unfold impl_joiner_take
  rw [hpk]
  obtain ⟨x, p, g1, g2, g3, g4⟩ := posGet k s hs hn hk T hT hT2 hp (lnum_lt hc h7)
  have hpw : IntKind.wrap .i64 ((p : Int) + 1) = ((p + 1 : Nat) : Int) := by rw [w64 (by omega) (by omega)]; omega
  have hgd : pos.getD (lnum s a) 0 = p := by rw [List.getD_eq_getElem?_getD, g2]; rfl
  unfold tk
  cases b with
  | true =>
    cases nxt T pos (lnum s a) with
    | none => rfl
    | some t => rfl
  | false =>
    cases nxt T pos (lnum s a) with
    | none => rfl
    | some t =>
      simp only [Option.bind_some, Bool.not_true, cond_false]
      by_cases c1 : t.1 = rep
      · rw [bneF c1]
        simp only [cond_false, Option.bind_some]
        by_cases c2 : t.2.1 = def_
        · rw [bneF c2, cond_false, hN a c hc h7]
          simp only [Option.bind_some, rdL_ip g2, hpw, Int.toNat_natCast, ip_set]
          rw [if_pos ⟨c1, c2⟩, hgd]
        · rw [bneT c2, cond_true, if_neg (fun q => c2 q.2)]; rfl
      · rw [bneT c1]
        simp only [cond_true, Option.bind_some]
        rw [if_neg (fun q => c1 q.1)]; rfl

theorem imiss_eq {d a nx : Nat} (h : SubC s d a nx) (hd : d ≤ 6) (hnx : nx ≤ s.length) (rep def_ : Int) (l : Bool) (vals : List TVal) : ∀ (n i f : Nat) (b : Bool) (pos : List Nat), i + n = nx → a ≤ i → n < f → PosOk T pos →
    (b = true → impl_joiner_missing.l3 k f rep def_ (nx : Int) (i : Int) (jn s T nums b l) (ip pos) vals = some ((nx : Int), (jn s T nums true l, ip pos, vals))) ∧
    (b = false → match tkAll T rep def_ (lnum s nx - lnum s i) (lnum s i) pos with
      | none => ∃ pos', PosOk T pos' ∧ impl_joiner_missing.l3 k f rep def_ (nx : Int) (i : Int) (jn s T nums b l) (ip pos) vals = some ((nx : Int), (jn s T nums true l, ip pos', vals))
      | some q => impl_joiner_missing.l3 k f rep def_ (nx : Int) (i : Int) (jn s T nums b l) (ip pos) vals = some ((nx : Int), (jn s T nums false l, ip q, vals))) := by
  intro n
  induction n with
  | zero =>
    intro i f b pos hi ha hf hp
    obtain ⟨f, rfl⟩ : ∃ q, f = q + 1 := ⟨f - 1, by omega⟩
    obtain rfl : i = nx := by omega
    rw [Nat.sub_self]
    simp only [impl_joiner_missing.l3, decide_eq_false (show ¬ ((i : Int) < (i : Int)) by omega), cond_false, tkAll]
    exact ⟨fun hb => by rw [hb], fun hb => by rw [hb]⟩
  | succ n ih =>
    intro i f b pos hi ha hf hp
    obtain ⟨f, rfl⟩ : ∃ q, f = q + 1 := ⟨f - 1, by omega⟩
    have hc := List.getElem?_eq_getElem (show i < s.length by omega)
    generalize s[i] = c at hc
    have hi1 : IntKind.wrap .i64 ((i : Int) + 1) = ((i + 1 : Nat) : Int) := by rw [w64 (by omega) (by omega)]; omega
    have hcr : rdL s (i : Int) = some c := hc
    simp only [impl_joiner_missing.l3, decide_eq_true (show (i : Int) < (nx : Int) by omega), cond_true, hcr, Option.bind_some, impl_joiner_missing.c4, hi1]
    by_cases h7 : c.2.1 = 7
    · rw [bneF h7, cond_false, ← lnum_group hc h7]
      exact ih (i + 1) f b pos (by omega) (by omega) (by omega) hp
    · obtain ⟨nx', e1, e2⟩ := sub_at d a nx h i ha (by omega)
      rw [bneT h7, cond_true, itake_eq k s hs hn hk T hT hT2 nums hN hc h7 e1 (by omega) (by omega) b l rep def_ pos vals hp]
      have hle := lnum_mono s (show i + 1 ≤ nx by omega)
      rw [lnum_leaf hc h7] at hle
      cases b with
      | true =>
        simp only [Option.bind_some]
        refine ⟨fun _ => (ih (i + 1) f true pos (by omega) (by omega) (by omega) hp).1 rfl, fun hb => by cases hb⟩
      | false =>
        refine ⟨fun hb => (by cases hb), fun _ => ?_⟩
        rw [show lnum s nx - lnum s i = (lnum s nx - (lnum s i + 1)) + 1 by omega]
        simp only [tkAll]
        cases htk : tk T rep def_ pos (lnum s i) with
        | none =>
          simp only [Option.bind_some]
          exact ⟨pos, hp, (ih (i + 1) f true pos (by omega) (by omega) (by omega) hp).1 rfl⟩
        | some r =>
          obtain ⟨v, q⟩ := r
          obtain ⟨_, _, _, _, _, _, a1, _⟩ := tk_some htk hp
          have hh := (ih (i + 1) f false q (by omega) (by omega) (by omega) a1.ok).2 rfl
          rw [lnum_leaf hc h7] at hh
          simp only [Option.bind_some]
          exact hh

theorem imissing {d a nx : Nat} (h : SubC s d a nx) (hd : d ≤ 6) (hnx : nx ≤ s.length) (rep def_ : Int) (l : Bool) (vals : List TVal) (b : Bool) (pos : List Nat) (hp : PosOk T pos) :
    (b = true → impl_joiner_missing k (a : Int) rep def_ (jn s T nums b l) (ip pos) vals = some ((nx : Int), (jn s T nums true l, ip pos, vals))) ∧
    (b = false → match tkAll T rep def_ (lnum s nx - lnum s a) (lnum s a) pos with
      | none => ∃ pos', PosOk T pos' ∧ impl_joiner_missing k (a : Int) rep def_ (jn s T nums b l) (ip pos) vals = some ((nx : Int), (jn s T nums true l, ip pos', vals))
      | some q => impl_joiner_missing k (a : Int) rep def_ (jn s T nums b l) (ip pos) vals = some ((nx : Int), (jn s T nums false l, ip q, vals))) := by
  have haf := colAfter_sub k s hs hn (by omega) h hd hnx
  have hlt := SubC_lt _ _ _ h
  have := imiss_eq k s hs hn hk T hT hT2 nums hN h hd hnx rep def_ l vals (nx - a) a k b pos (by omega) (Nat.le_refl _) (by omega) hp
  unfold impl_joiner_missing
  rw [haf]
  exact this

theorem irep_eq (S : Int → Int → Int → Int → TJoinerB → (List Int) → (List TVal) → Option (Int × TJoinerB × (List Int) × (List TVal))) (d a e m : Nat) (hm : m ≤ 7) (hd : d ≤ 6) (hsub : SubC s d a e) (he : e ≤ s.length) (C : List Nat → AR) (hC : ∀ pos, ArG T (lnum s a) m pos (C pos)) (def_ deep : Int)
    (hS : ∀ pos vals l, PosOk T pos → Room m vals pos → IM s T nums (S (a : Int) deep def_ deep (jn s T nums false l) (ip pos) vals) e l vals (C pos)) :
    ∀ (N f f2 n : Nat) (pos : List Nat) (vals : List TVal) (l : Bool) (p : Nat), pos[lnum s a]? = some p → 2000 - p ≤ N → p ≤ 2000 → N + 1 < f → N < f2 → n + N ≤ 100000 → PosOk T pos → Room m vals pos →
      match aRep T (lnum s a) deep C f2 pos with
      | none => ∃ n' l' pos' v, PosOk T pos' ∧ impl_joiner_repeat.l4 k S f (a : Int) def_ deep (n : Int) (jn s T nums false l) (ip pos) vals = some (n', (jn s T nums true l', ip pos', v)) ∧ vals.length ≤ v.length
      | some (i, Y, q, m) => impl_joiner_repeat.l4 k S f (a : Int) def_ deep (n : Int) (jn s T nums false l) (ip pos) vals = some (((n + i : Nat) : Int), (jn s T nums false (l || m), ip q, vals ++ Y)) := by
  have hlp := lnum_pos hsub
  have hle := lnum_mono s he
  have hj : lnum s a < lnum s s.length := by omega
  intro N
  induction N with
  | zero =>
    intro f f2 n pos vals l p hp hN' hp2 hf hf2 hnN hpo hroom
    obtain ⟨f, rfl⟩ : ∃ q, f = q + 1 := ⟨f - 1, by omega⟩
    obtain ⟨f2, rfl⟩ : ∃ q, f2 = q + 1 := ⟨f2 - 1, by omega⟩
    have hno : nxt T pos (lnum s a) = none := by
      obtain ⟨x, p', g1, g2, g3, g4⟩ := posGet k s hs hn hk T hT hT2 hpo hj
      rw [hp] at g2
      cases g2
      unfold nxt
      rw [g1, hp]
      exact List.getElem?_eq_none (by omega)
    have hpk := ipeek k s hs hn hk T hT hT2 nums hN hsub (by omega) he false l pos vals hpo
    rw [hno] at hpk
    simp only [aRep, hno, impl_joiner_repeat.l4, hpk, Option.bind_some, Bool.not_false, cond_true, cond_false, List.append_nil, Nat.add_zero, Bool.or_false]
  | succ N ih =>
    intro f f2 n pos vals l p hp hN' hp2 hf hf2 hnN hpo hroom
    obtain ⟨f, rfl⟩ : ∃ q, f = q + 1 := ⟨f - 1, by omega⟩
    obtain ⟨f2, rfl⟩ : ∃ q, f2 = q + 1 := ⟨f2 - 1, by omega⟩
    have hpk := ipeek k s hs hn hk T hT hT2 nums hN hsub (by omega) he false l pos vals hpo
    simp only [aRep, impl_joiner_repeat.l4]
    cases hno : nxt T pos (lnum s a) with
    | none =>
      rw [hno] at hpk
      simp only [hpk, Option.bind_some, Bool.not_false, cond_true, cond_false, List.append_nil, Nat.add_zero, Bool.or_false]
    | some t =>
      rw [hno] at hpk
      simp only [hpk, Option.bind_some, Bool.not_true, cond_false]
      by_cases ht : t.1 = deep
      · rw [if_pos ht, bneF ht]
        have hcnt : IntKind.wrap .i64 ((n : Int) + 1) = ((n + 1 : Nat) : Int) := by rw [w64 (by omega) (by omega)]; omega
        have hs' := hS pos vals l hpo hroom
        simp only [cond_false, hcnt]
        cases hCp : C pos with
        | none =>
          rw [hCp] at hs'
          obtain ⟨nx', l', pos', v, e1, e2, e3⟩ := hs'
          obtain ⟨f, rfl⟩ : ∃ q, f = q + 1 := ⟨f - 1, by omega⟩
          have hpk2 := ipeek k s hs hn hk T hT hT2 nums hN hsub (by omega) he true l' pos' v e1
          simp only [e2, Option.bind_some, impl_joiner_repeat.l4, hpk2]
          refine ⟨((n + 1 : Nat) : Int), l', pos', v, e1, ?_, e3⟩
          cases nxt T pos' (lnum s a) <;> rfl
        | some r =>
          obtain ⟨x, q, l1⟩ := r
          rw [hCp] at hs'
          have e1 : S (a : Int) deep def_ deep (jn s T nums false l) (ip pos) vals = some ((e : Int), (jn s T nums false (l || l1), ip q, vals ++ x)) := hs'
          obtain ⟨a1, a2, pa, pb, a3, a4, a5⟩ := hC pos _ _ _ hCp hpo
          rw [hp] at a3
          cases a3
          obtain ⟨xr, pb', g1, g2, g3, g4⟩ := posGet k s hs hn hk T hT hT2 a1.ok hj
          rw [a4] at g2
          cases g2
          simp only [e1, Option.bind_some]
          have hi := ih f f2 (n + 1) q (vals ++ x) (l || l1) pb a4 (by omega) (by omega) (by omega) (by omega) (by omega) a1.ok (Room.more hroom a1.sum a2 hm)
          cases hrep : aRep T (lnum s a) deep C f2 q with
          | none =>
            rw [hrep] at hi
            obtain ⟨n', l', pos', v, e1, e2, e3⟩ := hi
            exact ⟨n', l', pos', v, e1, e2, by rw [List.length_append] at e3; omega⟩
          | some r2 =>
            obtain ⟨i, Y, q2, l2⟩ := r2
            rw [hrep] at hi
            simp only at hi ⊢
            rw [hi, List.append_assoc, show n + 1 + i = n + (i + 1) by omega, Bool.or_assoc]
      · rw [if_neg ht, bneT ht]
        simp only [cond_true, List.append_nil, Nat.add_zero, Bool.or_false]

theorem ipart_eq (d D a e : Nat) (hd : d ≤ 6) (he : e ≤ s.length) (hsub : SubC s d a e) (C : Int → Int → Int → List Nat → AR) (c : TCol) (hc : s[a]? = some c) (hr : c.2.2.1 = 0 ∨ c.2.2.1 = 1 ∨ c.2.2.1 = 2) (hG : ∀ r q p pos, ArG T (lnum s a) d pos (C r q p pos))
    (hC : ∀ (D : Nat), 3 * d ≤ D → ∀ (rep def_ deep : Int) (pos : List Nat) (vals : List TVal) (l : Bool), PosOk T pos → 0 ≤ def_ → def_ + d ≤ 1001 → 0 ≤ deep → deep + d ≤ 1001 → Room d vals pos → IM s T nums ((impl_joiner_body.rec k D).1 (a : Int) rep def_ deep (jn s T nums false l) (ip pos) vals) e l vals (C rep def_ deep pos)) (hD : 3 * d + 1 ≤ D)
    (rep def_ deep : Int) (pos : List Nat) (vals : List TVal) (l : Bool) (hp : PosOk T pos) (b0 : 0 ≤ def_) (b1 : def_ + 1 + d ≤ 1001) (b2 : 0 ≤ deep) (b3 : deep + 1 + d ≤ 1001) (hroom : Room (d + 1) vals pos) :
    IM s T nums ((impl_joiner_body.rec k (D + 1)).2.1 (a : Int) rep def_ deep (jn s T nums false l) (ip pos) vals) e l vals (aPart T s C e a rep def_ deep pos) := by
  have hd1 : IntKind.wrap .i64 (def_ + 1) = def_ + 1 := w64 (by omega) (by omega)
  have hq1 : IntKind.wrap .i64 (deep + 1) = deep + 1 := w64 (by omega) (by omega)
  have hlt := SubC_lt _ _ _ hsub
  have hlp := lnum_pos hsub
  have hle := lnum_mono s he
  have hj : lnum s a < lnum s s.length := by omega
  have hsum := pos_sum hp (Tlen k s hs hn hk T hT hT2) hT2
  have hcr : rdL s (a : Int) = some c := hc
  have haf := colAfter_sub k s hs hn (by omega) hsub hd he
  obtain ⟨D, rfl⟩ : ∃ q, D = q + 1 := ⟨D - 1, by omega⟩
  rw [show impl_joiner_body.rec k (D + 1 + 1) = (impl_joiner_body.b k (impl_joiner_body.rec k (D + 1)).1 (impl_joiner_body.rec k (D + 1)).2.1 (impl_joiner_body.rec k (D + 1)).2.2, impl_joiner_col.b k (impl_joiner_body.rec k (D + 1)).1 (impl_joiner_body.rec k (D + 1)).2.1 (impl_joiner_body.rec k (D + 1)).2.2, impl_joiner_repeat.b k (impl_joiner_body.rec k (D + 1)).1 (impl_joiner_body.rec k (D + 1)).2.1 (impl_joiner_body.rec k (D + 1)).2.2) from rfl]
  simp only [impl_joiner_col.b, hcr, Option.bind_some, aPart, hc]
  by_cases h0 : c.2.2.1 = 0
  · rw [beqT h0, cond_true, if_pos h0]
    have := hC (D + 1) (by omega) rep def_ deep pos vals l hp b0 (by omega) b2 (by omega) (hroom.le (by omega))
    cases hCp : C rep def_ deep pos with
    | none =>
      rw [hCp] at this
      obtain ⟨nx', l', pos', v, e1, e2, e3⟩ := this
      rw [e2]
      exact ⟨nx', l', pos', v, e1, rfl, e3⟩
    | some r =>
      obtain ⟨Y, q, m⟩ := r
      rw [hCp] at this
      have e1 : (impl_joiner_body.rec k (D + 1)).1 (a : Int) rep def_ deep (jn s T nums false l) (ip pos) vals = some ((e : Int), (jn s T nums false (l || m), ip q, vals ++ Y)) := this
      rw [e1]
      rfl
  · rw [beqF h0, cond_false, if_neg h0]
    have hpk := ipeek k s hs hn hk T hT hT2 nums hN hsub (by omega) he false l pos vals hp
    have hlim : lim (vals.length + ([(0, (⟨#[]⟩ : ByteArray), ())] : List TVal).length) = true := by have := Room.lim hroom hsum (show 1 ≤ 10 by omega); simpa using this
    rw [hpk]
    cases hno : nxt T pos (lnum s a) with
    | none =>
      have hm := (imissing k s hs hn hk T hT hT2 nums hN hsub hd he rep def_ l (vals ++ [(0, (⟨#[]⟩ : ByteArray), ())]) true pos hp).1 rfl
      simp only [Option.bind_some, Bool.not_false, cond_true, impl_joiner_col.c6, hlim, decide_eq_true (show (0 : Int) ≤ def_ by omega)]
      have hm : impl_joiner_missing k (a : Int) rep def_ (s, T.map tcol, nums, (), (), true, l, ()) (ip pos) (vals ++ [(0, (⟨#[]⟩ : ByteArray), ())]) = _ := hm
      rw [hm]
      exact ⟨_, l, pos, _, hp, rfl, by simp⟩
    | some t =>
      simp only [Option.bind_some, Bool.not_true, cond_false, impl_joiner_col.c6, hlim, cond_true]
      by_cases hdf : t.2.1 ≤ def_
      · rw [decide_eq_true hdf, cond_true, if_pos hdf]
        have hm := (imissing k s hs hn hk T hT hT2 nums hN hsub hd he rep def_ l (vals ++ [(0, (⟨#[]⟩ : ByteArray), ())]) false pos hp).2 rfl
        cases hta : tkAll T rep def_ (lnum s e - lnum s a) (lnum s a) pos with
        | none =>
          rw [hta] at hm
          obtain ⟨pos', e1, e2⟩ := hm
          rw [e2]
          exact ⟨_, l, pos', _, e1, rfl, by simp⟩
        | some q =>
          rw [hta] at hm
          simp only at hm ⊢
          rw [hm]
          show _ = _
          rw [Bool.or_false]; rfl
      · rw [decide_eq_false hdf, cond_false, if_neg hdf]
        simp only [hcr, Option.bind_some]
        have hget : ∀ (v : TVal) (y : List TVal), rdL (vals ++ v :: y) (vals.length : Int) = some v := fun v y => getMid vals y v
        by_cases h2 : c.2.2.1 = 2
        · rw [beqT h2, cond_true, if_pos h2, hq1, hd1]
          have hs' := hC D (by omega) rep (def_ + 1) (deep + 1) pos (vals ++ [(0, (⟨#[]⟩ : ByteArray), ())]) l hp (by omega) (by omega) (by omega) (by omega) (hroom.one _)
          rw [show impl_joiner_body.rec k (D + 1) = (impl_joiner_body.b k (impl_joiner_body.rec k D).1 (impl_joiner_body.rec k D).2.1 (impl_joiner_body.rec k D).2.2, impl_joiner_col.b k (impl_joiner_body.rec k D).1 (impl_joiner_body.rec k D).2.1 (impl_joiner_body.rec k D).2.2, impl_joiner_repeat.b k (impl_joiner_body.rec k D).1 (impl_joiner_body.rec k D).2.1 (impl_joiner_body.rec k D).2.2) from rfl]
          simp only [impl_joiner_repeat.b]
          cases hCp : C rep (def_ + 1) (deep + 1) pos with
          | none =>
            rw [hCp] at hs'
            obtain ⟨nx', l', pos', v, e1, e2, e3⟩ := hs'
            have hpk2 := ipeek k s hs hn hk T hT hT2 nums hN hsub (by omega) he true l' pos' v e1
            have e3' : vals.length < v.length := by simp at e3; omega
            have hv : rdL v (vals.length : Int) = some v[vals.length] := by rw [rdL_nat, List.getElem?_eq_getElem e3']
            have hl4 : impl_joiner_repeat.l4 k (impl_joiner_body.rec k D).1 k (a : Int) (def_ + 1) (deep + 1) 0 (jn s T nums true l') (ip pos') v = some (0, (jn s T nums true l', ip pos', v)) := by
              conv => lhs; arg 3; rw [show k = (k - 1) + 1 by omega]
              simp only [impl_joiner_repeat.l4, hpk2, Option.bind_some]
              cases nxt T pos' (lnum s a) <;> rfl
            simp only [e2, Option.bind_some, hl4, impl_joiner_col.c15, hv, haf, cst]
            refine ⟨(e : Int), _, pos', _, e1, rfl, ?_⟩
            simp; omega
          | some r =>
            obtain ⟨y, q, l1⟩ := r
            rw [hCp] at hs'
            have e1 : (impl_joiner_body.rec k D).1 (a : Int) rep (def_ + 1) (deep + 1) (jn s T nums false l) (ip pos) (vals ++ [(0, (⟨#[]⟩ : ByteArray), ())]) = some ((e : Int), (jn s T nums false (l || l1), ip q, (vals ++ [(0, (⟨#[]⟩ : ByteArray), ())]) ++ y)) := hs'
            obtain ⟨a1, a2, pa, pb, a3, a4, a5⟩ := hG _ _ _ pos _ _ _ hCp hp
            obtain ⟨xr, pb', r1, r2, r3, r4⟩ := posGet k s hs hn hk T hT hT2 a1.ok hj
            rw [a4] at r2
            cases r2
            have hroom1 : Room d ((vals ++ [(0, (⟨#[]⟩ : ByteArray), ())]) ++ y) q := Room.more (hroom.one _) a1.sum a2 (by omega)
            have hi := irep_eq k s hs hn hk T hT hT2 nums hN (impl_joiner_body.rec k D).1 d a e d (by omega) hd hsub he (C (deep + 1) (def_ + 1) (deep + 1)) (fun pos => hG _ _ _ pos) (def_ + 1) (deep + 1)
              (fun pos vals l hpo hrm => hC D (by omega) _ _ _ pos vals l hpo (by omega) (by omega) (by omega) (by omega) hrm) (2000 - pb) k 3000 0 q ((vals ++ [(0, (⟨#[]⟩ : ByteArray), ())]) ++ y) (l || l1) pb a4 (Nat.le_refl _) (by omega) (by omega) (by omega) (by omega) a1.ok hroom1
            simp only [e1, Option.bind_some]
            cases hrep : aRep T (lnum s a) (deep + 1) (C (deep + 1) (def_ + 1) (deep + 1)) 3000 q with
            | none =>
              rw [hrep] at hi
              obtain ⟨n', l', pos', v, f1, f2, f3⟩ := hi
              have f2 : impl_joiner_repeat.l4 k (impl_joiner_body.rec k D).1 k (a : Int) (def_ + 1) (deep + 1) 0 (jn s T nums false (l || l1)) (ip q) ((vals ++ [(0, (⟨#[]⟩ : ByteArray), ())]) ++ y) = _ := f2
              have f3' : vals.length < v.length := by simp at f3; omega
              have hv : rdL v (vals.length : Int) = some v[vals.length] := by rw [rdL_nat, List.getElem?_eq_getElem f3']
              simp only [f2, Option.bind_some, impl_joiner_col.c15, hv, haf, cst]
              refine ⟨(e : Int), _, pos', _, f1, rfl, ?_⟩
              simp; omega
            | some r5 =>
              obtain ⟨i, Y, q2, l2⟩ := r5
              rw [hrep] at hi
              have hi : impl_joiner_repeat.l4 k (impl_joiner_body.rec k D).1 k (a : Int) (def_ + 1) (deep + 1) 0 (jn s T nums false (l || l1)) (ip q) ((vals ++ [(0, (⟨#[]⟩ : ByteArray), ())]) ++ y) = some (((0 + i : Nat) : Int), (jn s T nums false (l || l1 || l2), ip q2, ((vals ++ [(0, (⟨#[]⟩ : ByteArray), ())]) ++ y) ++ Y)) := hi
              have hib : i ≤ 3000 := by
                have key : ∀ (f : Nat) (pos : List Nat) (n : Nat) (Y : List TVal) (q : List Nat) (l : Bool), aRep T (lnum s a) (deep + 1) (C (deep + 1) (def_ + 1) (deep + 1)) f pos = some (n, Y, q, l) → n ≤ f := by
                  intro f
                  induction f with
                  | zero => intro pos n Y q l h; cases h
                  | succ f ihf =>
                    intro pos n Y q l h
                    simp only [aRep] at h
                    split at h
                    · simp only [Option.some.injEq, Prod.mk.injEq] at h; omega
                    · split at h
                      · split at h
                        · cases h
                        · split at h
                          · cases h
                          · rename_i h2
                            have := ihf _ _ _ _ _ h2
                            simp only [Option.some.injEq, Prod.mk.injEq] at h; omega
                      · simp only [Option.some.injEq, Prod.mk.injEq] at h; omega
                exact key _ _ _ _ _ _ hrep
              have hcnt : IntKind.wrap .i64 (1 + ((0 + i : Nat) : Int)) = ((i + 1 : Nat) : Int) := by rw [w64 (by omega) (by omega)]; omega
              simp only [List.append_assoc, List.singleton_append, List.cons_append, List.nil_append] at hi
              simp only [hi, Option.bind_some, impl_joiner_col.c15, List.append_assoc, List.singleton_append, List.cons_append, List.nil_append, hget, haf, setMid, hcnt, cst]
              show _ = _
              have hb : ((l || l1 || l2) || decide (((i + 1 : Nat) : Int) > 20)) = (l || (l1 || l2 || decide (20 < i + 1))) := by
                have : decide (((i + 1 : Nat) : Int) > 20) = decide (20 < i + 1) := by
                  by_cases h : 20 < i + 1
                  · rw [decide_eq_true h, decide_eq_true (by omega)]
                  · rw [decide_eq_false h, decide_eq_false (by omega)]
                rw [this, Bool.or_assoc, Bool.or_assoc, Bool.or_assoc]
              rw [hb]
        · rw [beqF h2, cond_false, if_neg h2, hd1]
          have hs' := hC (D + 1) (by omega) rep (def_ + 1) deep pos (vals ++ [(0, (⟨#[]⟩ : ByteArray), ())]) l hp (by omega) (by omega) (by omega) (by omega) (hroom.one _)
          cases hCp : C rep (def_ + 1) deep pos with
          | none =>
            rw [hCp] at hs'
            obtain ⟨nx', l', pos', v, e1, e2, e3⟩ := hs'
            have e3' : vals.length < v.length := by simp at e3; omega
            have hv : rdL v (vals.length : Int) = some v[vals.length] := by rw [rdL_nat, List.getElem?_eq_getElem e3']
            simp only [e2, Option.bind_some, impl_joiner_col.c15, hv, haf, cst]
            refine ⟨(e : Int), _, pos', _, e1, rfl, ?_⟩
            simp; omega
          | some r =>
            obtain ⟨y, q, l1⟩ := r
            rw [hCp] at hs'
            have e1 : (impl_joiner_body.rec k (D + 1)).1 (a : Int) rep (def_ + 1) deep (jn s T nums false l) (ip pos) (vals ++ [(0, (⟨#[]⟩ : ByteArray), ())]) = some ((e : Int), (jn s T nums false (l || l1), ip q, (vals ++ [(0, (⟨#[]⟩ : ByteArray), ())]) ++ y)) := hs'
            simp only [e1, Option.bind_some, impl_joiner_col.c15, List.append_assoc, List.singleton_append, hget, haf, setMid, cst]
            show _ = _
            rw [show decide ((1 : Int) > 20) = false from rfl, Bool.or_false]

theorem ibody_ok : ∀ (d D a nx : Nat), SubC s d a nx → nx ≤ s.length → d ≤ 6 → 3 * d ≤ D → ∀ (rep def_ deep : Int) (pos : List Nat) (vals : List TVal) (l : Bool), PosOk T pos → 0 ≤ def_ → def_ + d ≤ 1001 → 0 ≤ deep → deep + d ≤ 1001 → Room d vals pos →
    IM s T nums ((impl_joiner_body.rec k D).1 (a : Int) rep def_ deep (jn s T nums false l) (ip pos) vals) nx l vals (aC T s d a rep def_ deep pos) := by
  intro d
  induction d with
  | zero => intro D a nx h; exact h.elim
  | succ d ih =>
    intro D a nx h hnx hd hD rep def_ deep pos vals l hp b0 b1 b2 b3 hroom
    obtain ⟨D, rfl⟩ : ∃ q, D = q + 2 := ⟨D - 2, by omega⟩
    have hsub := h
    have hlt := SubC_lt _ _ _ h
    obtain ⟨c, hc, hco, _, hpp⟩ := h
    have hcm := (hn c (List.mem_of_getElem? hc)).2.2
    have hmp := PartsC_le (SubC_lt d) _ _ _ _ hpp
    have ha1 : IntKind.wrap .i64 ((a : Int) + 1) = ((a + 1 : Nat) : Int) := by rw [w64 (by omega) (by omega)]; omega
    have hsum := pos_sum hp (Tlen k s hs hn hk T hT hT2) hT2
    have hcr : rdL s (a : Int) = some c := hc
    rw [show impl_joiner_body.rec k (D + 2) = (impl_joiner_body.b k (impl_joiner_body.rec k (D + 1)).1 (impl_joiner_body.rec k (D + 1)).2.1 (impl_joiner_body.rec k (D + 1)).2.2, impl_joiner_col.b k (impl_joiner_body.rec k (D + 1)).1 (impl_joiner_body.rec k (D + 1)).2.1 (impl_joiner_body.rec k (D + 1)).2.2, impl_joiner_repeat.b k (impl_joiner_body.rec k (D + 1)).1 (impl_joiner_body.rec k (D + 1)).2.1 (impl_joiner_body.rec k (D + 1)).2.2) from rfl]
    simp only [impl_joiner_body.b, hcr, Option.bind_some, aC, hc]
    by_cases h7 : c.2.1 = 7
    · rw [bneF h7, cond_false, if_pos h7, ha1]
      have hmn : 0 ≤ c.2.2.2.1 := by
        unfold colOk at hco
        rw [h7, tyOk_7] at hco
        simp at hco
        omega
      have key : ∀ (m pl : Nat) (i : Int) (names : List ByteArray) (f : Nat) (pos : List Nat) (vals : List TVal) (l : Bool), PartsC (SubC s d) s m pl names nx → c.2.2.2.1 - i = m → 0 ≤ i → m < f → PosOk T pos → Room (d + 1) vals pos →
          IM s T nums (impl_joiner_body.l7 k (impl_joiner_body.rec k (D + 1)).2.1 f rep def_ deep (pl : Int) c.2.2.2.1 i (jn s T nums false l) (ip pos) vals) nx l vals (aParts (fun a pos => aPart T s (aC T s d a) (endC s d a) a rep def_ deep pos) (endC s d) m pl pos) := by
        intro m
        induction m with
        | zero =>
          intro pl i names f pos vals l hpp hi h0 hf hp hroom
          obtain ⟨f, rfl⟩ : ∃ q, f = q + 1 := ⟨f - 1, by omega⟩
          have hpp : pl = nx := hpp
          subst hpp
          simp only [aParts, IM, impl_joiner_body.l7, decide_eq_false (show ¬ (i < c.2.2.2.1) by omega), cond_false, List.append_nil, impl_joiner_body.c11, Bool.or_false]
        | succ m ihm =>
          intro pl i names f pos vals l hpp hi h0 hf hp hroom
          obtain ⟨q, mid, q1, q2, q3, q4⟩ := hpp
          have hmn' := PartsC_nx (SubC_lt d) _ _ _ _ q4
          obtain ⟨f, rfl⟩ : ∃ q, f = q + 1 := ⟨f - 1, by omega⟩
          have hi1 : IntKind.wrap .i64 (i + 1) = i + 1 := w64 (by omega) (by omega)
          have hend : endC s d pl = mid := endC_eq d q3 d (Nat.le_refl _)
          have hpart : IM s T nums ((impl_joiner_body.rec k (D + 1)).2.1 (pl : Int) rep def_ deep (jn s T nums false l) (ip pos) vals) mid l vals (aPart T s (aC T s d pl) mid pl rep def_ deep pos) := by
            obtain ⟨d', rfl⟩ : ∃ q, d = q + 1 := ⟨d - 1, by cases d with
              | zero => exact q3.elim
              | succ d => omega⟩
            have q3' := q3
            obtain ⟨c', hc', hco', _, _⟩ := q3
            have hrep : c'.2.2.1 = 0 ∨ c'.2.2.1 = 1 ∨ c'.2.2.1 = 2 := by
              unfold colOk at hco'
              simp only [Bool.and_eq_true, decide_eq_true_eq] at hco'
              omega
            exact ipart_eq k s hs hn hk T hT hT2 nums hN (d' + 1) D pl mid (by omega) (by omega) q3' (aC T s (d' + 1) pl) c' hc' hrep (fun r q p pos => aC_G _ pl mid q3' r q p pos)
              (fun D' hD' rep def_ deep pos vals l h1 h2 h3 h4 h5 h6 => ih D' pl mid q3' (by omega) (by omega) hD' rep def_ deep pos vals l h1 h2 h3 h4 h5 h6) (by omega) rep def_ deep pos vals l hp b0 (by omega) b2 (by omega) hroom
          simp only [aParts, hend]
          simp only [impl_joiner_body.l7, decide_eq_true (show i < c.2.2.2.1 by omega), cond_true, cond_false, hi1]
          cases hap : aPart T s (aC T s d pl) mid pl rep def_ deep pos with
          | none =>
            rw [hap] at hpart
            obtain ⟨nx', l', pos', v, e1, e2, e3⟩ := hpart
            simp only [e2, Option.bind_some, aSeq]
            obtain ⟨f, rfl⟩ : ∃ q, f = q + 1 := ⟨f - 1, by omega⟩
            refine ⟨nx', l', pos', v, e1, ?_, e3⟩
            simp only [impl_joiner_body.l7, impl_joiner_body.c11]
            by_cases hlt : i + 1 < c.2.2.2.1
            · rw [decide_eq_true hlt]; rfl
            · rw [decide_eq_false hlt]; rfl
          | some r =>
            obtain ⟨Y, q5, l1⟩ := r
            rw [hap] at hpart
            have e : (impl_joiner_body.rec k (D + 1)).2.1 (pl : Int) rep def_ deep (jn s T nums false l) (ip pos) vals = some ((mid : Int), (jn s T nums false (l || l1), ip q5, vals ++ Y)) := hpart
            obtain ⟨a1, a2, _⟩ := aPart_G q3 (fun r q p pos => aC_G d pl mid q3 r q p pos) rep def_ deep pos _ _ _ hap hp
            have hi := ihm mid (i + 1) _ f q5 (vals ++ Y) (l || l1) q4 (by omega) (by omega) (by omega) a1.ok (Room.more hroom a1.sum a2 (by omega))
            simp only [e, Option.bind_some, aSeq]
            cases har : aParts (fun a pos => aPart T s (aC T s d a) (endC s d a) a rep def_ deep pos) (endC s d) m mid q5 with
            | none =>
              rw [har] at hi
              obtain ⟨nx', l', pos', v, e1, e2, e3⟩ := hi
              exact ⟨nx', l', pos', v, e1, e2, by rw [List.length_append] at e3; omega⟩
            | some r6 =>
              obtain ⟨Y2, q6, l6⟩ := r6
              rw [har] at hi
              simp only [IM] at hi ⊢
              rw [hi, List.append_assoc, Bool.or_assoc]
      exact key c.2.2.2.1.toNat (a + 1) 0 [] k pos vals l hpp (by omega) (by omega) (by omega) hp hroom
    · rw [bneT h7, cond_true, if_neg h7]
      have hm0 : c.2.2.2.1.toNat = 0 := by
        unfold colOk at hco
        rw [beqF h7] at hco
        simp at hco
        omega
      rw [hm0] at hpp
      have hpp : a + 1 = nx := hpp
      subst hpp
      rw [itake_eq k s hs hn hk T hT hT2 nums hN hc h7 hsub (by omega) hnx false l rep def_ pos vals hp]
      have hlim : ∀ v : TVal, lim (vals.length + [v].length) = true := fun v => by have := Room.lim hroom hsum (show 1 ≤ 10 by omega); simpa using this
      cases htk : tk T rep def_ pos (lnum s a) with
      | none =>
        simp only [Option.bind_some, hlim, cond_true]
        exact ⟨_, l, pos, _, hp, rfl, by simp⟩
      | some r =>
        obtain ⟨v, q⟩ := r
        simp only [Option.bind_some, hlim, cond_true, ha1]
        show _ = _
        rw [Bool.or_false]
end
end Go.Law
end

section
/- What is put together is a record, if it is not too large. -/
set_option linter.unusedVariables false
set_option linter.unusedSimpArgs false
set_option linter.unusedSectionVars false
namespace Go.Law
open Go.Am Go.Fn

/-- what a part of a record is, that is put together -/
def PA (C : List TVal → Option (List TVal)) (Y : List TVal) (l : Bool) : Prop := (l = false → ∀ W, C (Y ++ W) = some W) ∧ (l = true → ∀ W, C (Y ++ W) = none)

/-- values are right where they are -/
def RightT (s : List TCol) (T : TRows) : Prop := ∀ (a : Nat) (c : TCol), s[a]? = some c → c.2.1 ≠ 7 → ∀ x, T[lnum s a]? = some x → ∀ t, t ∈ x → t.2.1 = (lvD s isOpt 1 a : Nat) → vok c.2.1 t.2.2.1 = true

theorem rep_PA {T : TRows} {j m : Nat} {deep : Int} {C : List Nat → AR} {R : List TVal → Option (List TVal)} (hG : ∀ pos, ArG T j m pos (C pos)) (h : ∀ pos Y q l, PosOk T pos → C pos = some (Y, q, l) → PA R Y l) : ∀ (f : Nat) (pos : List Nat) (n : Nat) (Y : List TVal) (q : List Nat) (l : Bool), PosOk T pos → aRep T j deep C f pos = some (n, Y, q, l) → PA (rIt R n) Y l
  | 0, _, _, _, _, _, _, he => by cases he
  | f + 1, pos, n, Y, q, l, hp, he => by
    have triv : some (0, ([] : List TVal), pos, false) = some (n, Y, q, l) → PA (rIt R n) Y l := by
      intro he
      simp only [Option.some.injEq, Prod.mk.injEq] at he
      obtain ⟨rfl, rfl, rfl, rfl⟩ := he
      exact ⟨fun _ W => rfl, fun h => by cases h⟩
    simp only [aRep] at he
    split at he
    · exact triv he
    · split at he
      · split at he
        · cases he
        · rename_i x p l1 h1
          split at he
          · cases he
          · rename_i n2 y q2 m2 h2
            simp only [Option.some.injEq, Prod.mk.injEq] at he
            obtain ⟨rfl, rfl, rfl, rfl⟩ := he
            obtain ⟨a1, a2⟩ := h pos x p l1 hp h1
            obtain ⟨b1, b2⟩ := rep_PA hG h f p n2 y q2 m2 ((hG pos _ _ _ h1 hp).1.ok) h2
            cases l1 with
            | true => exact ⟨fun h => (by cases h), fun _ W => by rw [List.append_assoc]; simp only [rIt]; rw [a2 rfl]; rfl⟩
            | false =>
              refine ⟨fun hl W => ?_, fun hl W => ?_⟩
              · rw [List.append_assoc]; simp only [rIt]; rw [a1 rfl]; exact b1 hl W
              · rw [List.append_assoc]; simp only [rIt]; rw [a1 rfl]; exact b2 hl W
      · exact triv he

theorem part_PA {s : List TCol} {T : TRows} {d pl mid m : Nat} (hd : d ≤ 6) (hs : SubC s d pl mid) {C : Int → Int → Int → List Nat → AR} {R : List TVal → Option (List TVal)} (hG : ∀ r q p pos, ArG T (lnum s pl) m pos (C r q p pos)) (def_ : Int) (hD : ∀ L, pl ≤ L → L < mid → def_ + (lvD s isOpt pl L : Nat) = (lvD s isOpt 1 L : Nat))
    (hC : ∀ (rep dd deep : Int), (∀ L, pl ≤ L → L < mid → dd + (lvD s isOpt (pl + 1) L : Nat) = (lvD s isOpt 1 L : Nat)) → ∀ pos Y q l, PosOk T pos → C rep dd deep pos = some (Y, q, l) → PA R Y l)
    (rep deep : Int) (pos : List Nat) (Y : List TVal) (q : List Nat) (l : Bool) (hp : PosOk T pos) (he : aPart T s C mid pl rep def_ deep pos = some (Y, q, l)) : PA (rPart s R pl) Y l := by
  have hend := colEnd_eq hd hs
  unfold aPart at he
  split at he
  · cases he
  · rename_i c hc
    have up : ∀ dd : Int, dd = def_ + (if isOpt c = true then 1 else 0 : Nat) → ∀ L, pl ≤ L → L < mid → dd + (lvD s isOpt (pl + 1) L : Nat) = (lvD s isOpt 1 L : Nat) := by
      intro dd hdd L h1 h2
      have := lvD_cons (f := isOpt) hc h1 (by rw [hend]; exact h2)
      have h3 := hD L h1 h2
      omega
    split at he
    · rename_i h0
      have ho : isOpt c = false := by simp [isOpt, h0]
      obtain ⟨a1, a2⟩ := hC rep def_ deep (up def_ (by rw [ho]; simp)) pos Y q l hp he
      have e : ∀ V, rPart s R pl V = R V := fun V => by unfold rPart; rw [hc]; simp only; rw [if_pos h0]
      exact ⟨fun h W => by rw [e]; exact a1 h W, fun h W => by rw [e]; exact a2 h W⟩
    · rename_i h0
      have ho : isOpt c = true := by simp [isOpt, h0]
      have hup := up (def_ + 1) (by rw [if_pos ho]; rfl)
      have e : ∀ (v : TVal) (V : List TVal), rPart s R pl (v :: V) = if cbad v (if c.2.2.1 = 2 then 20 else 1) = true then none else rIt R v.1.toNat V := fun v V => by
        unfold rPart; rw [hc]; simp only; rw [if_neg h0]
      have hcb : ∀ (n most : Int), cbad (n, (⟨#[]⟩ : ByteArray), ()) most = !(decide (0 ≤ n) && decide (n ≤ most)) := fun n most => by
        unfold cbad
        have : eqS (⟨#[]⟩ : ByteArray) ⟨#[]⟩ = true := by rw [eqS_iff]; exact decide_eq_true rfl
        rw [this]; rfl
      split at he
      · cases he
      · split at he
        · split at he
          · cases he
          · simp only [Option.some.injEq, Prod.mk.injEq] at he
            obtain ⟨rfl, rfl, rfl⟩ := he
            refine ⟨fun _ W => ?_, fun h => by cases h⟩
            show rPart s R pl (zv :: W) = some W
            rw [e]
            unfold zv
            rw [hcb]
            have : decide ((0 : Int) ≤ (if c.2.2.1 = 2 then 20 else 1)) = true := decide_eq_true (by split <;> omega)
            rw [this]; rfl
        · split at he
          · rename_i h2
            split at he
            · cases he
            · rename_i x p l1 h1
              split at he
              · cases he
              · rename_i n y q1 m1 h3
                simp only [Option.some.injEq, Prod.mk.injEq] at he
                obtain ⟨rfl, rfl, rfl⟩ := he
                obtain ⟨a1, a2⟩ := hC _ _ _ hup pos x p l1 hp h1
                obtain ⟨b1, b2⟩ := rep_PA (fun pos => hG _ _ _ pos) (fun pos Y q l hp h => hC _ _ _ hup pos Y q l hp h) _ _ _ _ _ _ ((hG _ _ _ _ _ _ _ h1 hp).1.ok) h3
                have e2 : ∀ W, rPart s R pl ((((n + 1 : Nat) : Int), (⟨#[]⟩ : ByteArray), ()) :: (x ++ y) ++ W) = if 20 < n + 1 then none else (R (x ++ (y ++ W))).bind (rIt R n) := by
                  intro W
                  rw [List.cons_append, e, hcb, if_pos h2]
                  rw [List.append_assoc]
                  by_cases h20 : 20 < n + 1
                  · rw [decide_eq_false (show ¬ (((n + 1 : Nat) : Int) ≤ 20) by omega), Bool.and_false, if_pos h20]; rfl
                  · rw [decide_eq_true (show (((n + 1 : Nat) : Int) ≤ 20) by omega), decide_eq_true (show (0 : Int) ≤ ((n + 1 : Nat) : Int) by omega), if_neg h20]
                    show rIt R (((n + 1 : Nat) : Int)).toNat _ = _
                    rw [Int.toNat_natCast]
                    rfl
                constructor
                · intro hl W
                  simp only [Bool.or_eq_false_iff, decide_eq_false_iff_not] at hl
                  rw [e2, if_neg hl.2, a1 hl.1.1]
                  exact b1 hl.1.2 W
                · intro hl W
                  rw [e2]
                  by_cases h20 : 20 < n + 1
                  · rw [if_pos h20]
                  · rw [if_neg h20]
                    rw [decide_eq_false h20, Bool.or_false, Bool.or_eq_true] at hl
                    cases l1 with
                    | true => rw [a2 rfl]; rfl
                    | false =>
                      rw [a1 rfl]
                      exact b2 (hl.elim (fun h => by cases h) id) W
          · rename_i h2
            split at he
            · cases he
            · rename_i x p l1 h1
              simp only [Option.some.injEq, Prod.mk.injEq] at he
              obtain ⟨rfl, rfl, rfl⟩ := he
              obtain ⟨a1, a2⟩ := hC _ _ _ hup pos x p l1 hp h1
              have e2 : ∀ W, rPart s R pl (((1 : Int), (⟨#[]⟩ : ByteArray), ()) :: x ++ W) = R (x ++ W) := by
                intro W
                rw [List.cons_append, e, hcb, if_neg h2]
                show rIt R 1 (x ++ W) = R (x ++ W)
                simp only [rIt]
                cases R (x ++ W) <;> rfl
              exact ⟨fun h W => by rw [e2]; exact a1 h W, fun h W => by rw [e2]; exact a2 h W⟩

theorem aC_PA {s : List TCol} {T : TRows} (hR : RightT s T) : ∀ (d a nx : Nat), d ≤ 6 → SubC s d a nx → ∀ (rep def_ deep : Int), (∀ L, a ≤ L → L < nx → def_ + (lvD s isOpt (a + 1) L : Nat) = (lvD s isOpt 1 L : Nat)) →
    ∀ pos Y q l, PosOk T pos → aC T s d a rep def_ deep pos = some (Y, q, l) → PA (rC s d a) Y l
  | 0, _, _, _, h, _, _, _, _, _, _, _, _, _, _ => h.elim
  | d + 1, a, nx, hd, h, rep, def_, deep, hD, pos, Y, q, l, hp, he => by
    have hlt := SubC_lt _ _ _ h
    obtain ⟨c, hc, hco, _, hpp⟩ := h
    simp only [aC, hc] at he
    split at he
    · rename_i h7
      have e0 : ∀ V, rC s (d + 1) a V = rParts (fun a V => rPart s (rC s d a) a V) (endC s d) c.2.2.2.1.toNat (a + 1) V := fun V => by
        simp only [rC, hc]; rw [if_pos h7]
      have key : ∀ (m pl : Nat) (names : List ByteArray) (pos : List Nat) (Y : List TVal) (q : List Nat) (l : Bool), PartsC (SubC s d) s m pl names nx → a + 1 ≤ pl → (∀ u, a + 1 ≤ u → u < pl → colEnd s u ≤ pl) → PosOk T pos → aParts (fun a pos => aPart T s (aC T s d a) (endC s d a) a rep def_ deep pos) (endC s d) m pl pos = some (Y, q, l) →
          PA (rParts (fun a V => rPart s (rC s d a) a V) (endC s d) m pl) Y l := by
        intro m
        induction m with
        | zero =>
          intro pl names pos Y q l hpp h1 h2 hp he
          simp only [aParts, Option.some.injEq, Prod.mk.injEq] at he
          obtain ⟨rfl, rfl, rfl⟩ := he
          exact ⟨fun _ W => rfl, fun h => by cases h⟩
        | succ m ih =>
          intro pl names pos Y q l hpp h1 h2 hp he
          obtain ⟨_, mid, _, _, q3, q4⟩ := hpp
          have hmn := PartsC_nx (SubC_lt d) _ _ _ _ q4
          have hend : endC s d pl = mid := endC_eq d q3 d (Nat.le_refl _)
          have hlt' := SubC_lt _ _ _ q3
          simp only [aParts] at he
          obtain ⟨x, p, l1, y, l2, g1, g2, rfl, rfl⟩ := aSeq_some he
          rw [hend] at g1 g2
          have h3 : ∀ u, a + 1 ≤ u → u < mid → colEnd s u ≤ mid := fun u u1 u2 => by
            rcases Nat.lt_or_ge u pl with u3 | u3
            · have := h2 u u1 u3; omega
            · exact (colEnd_in (by omega) q3 u3 u2).2
          obtain ⟨a1, a2⟩ := part_PA (R := rC s d pl) (by omega) q3 (fun r q p pos => aC_G d pl mid q3 r q p pos) def_ (fun L l1 l2 => by
              have hsk := lvD_skip (s := s) (f := isOpt) h1 l1 (fun u u1 u2 => by have := h2 u u1 u2; omega)
              rw [← hsk]; exact hD L (by omega) (by omega))
            (fun rep dd deep hdd pos Y q l hp h => aC_PA hR d pl mid (by omega) q3 rep dd deep hdd pos Y q l hp h) rep deep pos x p l1 hp g1
          obtain ⟨b1, b2⟩ := ih mid _ p y q l2 q4 (by omega) h3 ((aPart_G q3 (fun r q p pos => aC_G d pl mid q3 r q p pos) rep def_ deep pos _ _ _ g1 hp).1.ok) g2
          have e1 : ∀ V, rParts (fun a V => rPart s (rC s d a) a V) (endC s d) (m + 1) pl V = (rPart s (rC s d pl) pl V).bind (rParts (fun a V => rPart s (rC s d a) a V) (endC s d) m mid) := fun V => by
            simp only [rParts, hend]
          cases l1 with
          | true => exact ⟨fun h => (by cases h), fun _ W => by rw [e1, List.append_assoc, a2 rfl]; rfl⟩
          | false =>
            refine ⟨fun hl W => ?_, fun hl W => ?_⟩
            · rw [e1, List.append_assoc, a1 rfl]; exact b1 hl W
            · rw [e1, List.append_assoc, a1 rfl]; exact b2 hl W
      have := key _ _ _ _ _ _ _ hpp (Nat.le_refl _) (fun u u1 u2 => by omega) hp he
      exact ⟨fun h W => by rw [e0]; exact this.1 h W, fun h W => by rw [e0]; exact this.2 h W⟩
    · rename_i h7
      split at he
      · cases he
      · rename_i v q1 h1
        simp only [Option.some.injEq, Prod.mk.injEq] at he
        obtain ⟨rfl, rfl, rfl⟩ := he
        obtain ⟨x, p, e1, e2, e3, e4, e5, e6⟩ := tk_some h1 hp
        have hv := hR a c hc h7 x e1 _ (List.mem_of_getElem? e3) (by
          have := hD a (Nat.le_refl _) hlt
          rw [lvD_self] at this
          simpa using this)
        refine ⟨fun _ W => ?_, fun h => by cases h⟩
        simp only [rC, hc, List.singleton_append]
        rw [if_neg h7]
        simp only at hv
        rw [hv]; rfl

/-- a whole record -/
theorem rec_PA {s : List TCol} {T : TRows} (hS : IsSchema s) (hR : RightT s T) (pos : List Nat) (Y : List TVal) (q : List Nat) (l : Bool) (hp : PosOk T pos) (he : aC T s 6 0 0 0 0 pos = some (Y, q, l)) : (recEv s Y).isSome = (!l && decide (Y.length ≤ 300)) := by
  obtain ⟨a1, a2⟩ := aC_PA hR 6 0 s.length (Nat.le_refl _) hS.2.2.1 0 0 0 (fun L h1 h2 => by simp) pos Y q l hp he
  unfold recEv
  by_cases h300 : Y.length ≤ 300
  · rw [if_pos h300, decide_eq_true h300, Bool.and_true]
    cases l with
    | false =>
      have := a1 rfl []
      rw [List.append_nil] at this
      obtain ⟨X, hX⟩ := rC_some this 0 0 0
      rw [hX]; rfl
    | true =>
      have := a2 rfl []
      rw [List.append_nil] at this
      rw [rC_none this 0 0 0]; rfl
  · rw [if_neg h300, decide_eq_false h300, Bool.and_false]; rfl
end Go.Law
end

section
/- Assemble: the program's is the reference's. -/
set_option linter.unusedVariables false
set_option linter.unusedSimpArgs false
set_option linter.unusedSectionVars false
namespace Go.Law
open Go.Am Go.Fn

/-- a triple that is right for a leaf -/
def tripOk (l : TLeaf) (t : TTriple) : Bool :=
  (decide (0 ≤ t.1) && decide (t.1 ≤ l.2.1)) && ((decide (0 ≤ t.2.1) && decide (t.2.1 ≤ l.2.2.1)) && (if t.2.1 = l.2.2.1 then vok l.1 t.2.2.1 else (t.2.2.1.1 == 0) && eqS t.2.2.1.2.1 ⟨#[]⟩))

theorem stripOk (k : Nat) (l : TLeaf) (t : TTriple) : spec_l15Right k l t = some (tripOk l t) := by
  unfold spec_l15Right tripOk
  simp only [l1In_eq, Option.bind_some, svalOk_eq]
  cases hr : (decide (0 ≤ t.1) && decide (t.1 ≤ l.2.1)) with
  | false => rfl
  | true =>
    cases hd : (decide (0 ≤ t.2.1) && decide (t.2.1 ≤ l.2.2.1)) with
    | false => rfl
    | true =>
      simp only [Bool.and_eq_true, decide_eq_true_eq] at hd
      simp only [Bool.not_true, cond_false, Option.bind_some, Bool.true_and]
      by_cases h : t.2.1 = l.2.2.1
      · rw [decide_eq_false (by omega), cond_false, if_pos h]
      · rw [decide_eq_true (by omega), cond_true, if_neg h, Bool.and_true]
theorem itripOk (k : Nat) (l : TLeaf) (t : TTriple) : impl_tripleOk k l t = some (tripOk l t) := by
  unfold impl_tripleOk tripOk
  simp only [within_eq, Option.bind_some, valOk_eq]
  cases hr : (decide (0 ≤ t.1) && decide (t.1 ≤ l.2.1)) with
  | false => rfl
  | true =>
    cases hd : (decide (0 ≤ t.2.1) && decide (t.2.1 ≤ l.2.2.1)) with
    | false => rfl
    | true =>
      simp only [Bool.not_true, cond_false, Option.bind_some, Bool.true_and]
      by_cases h : t.2.1 = l.2.2.1
      · rw [beqT h, cond_true, if_pos h]
      · rw [beqF h, cond_false, if_neg h, Bool.and_true]

/-- how many rows -/
def rowsN (x : List TTriple) : Nat := (x.filter fun t => t.1 == 0).length
theorem rowsN_cons (t : TTriple) (x : List TTriple) : rowsN (t :: x) = (if t.1 = 0 then 1 else 0) + rowsN x := by
  unfold rowsN
  rw [List.filter_cons]
  by_cases h : t.1 = 0
  · rw [beqT h, if_pos h]; simp; omega
  · rw [beqF h, if_neg h]; simp

theorem rowsOf_eq (k : Nat) (x : List TTriple) (hx : x.length ≤ 1048576) (hk : 2000000 ≤ k) : spec_RowsOf k x = some (rowsN x : Int) ∧ impl_RowsOf k x = some (rowsN x : Int) := by
  have key : ∀ (post pre : List TTriple) (f n : Nat), x = pre ++ post → post.length < f → n ≤ pre.length → spec_RowsOf.l3 k f x (n : Int) (pre.length : Int) = some ((n + rowsN post : Nat) : Int) ∧ impl_RowsOf.l3 k f (n : Int) x (x.length : Int) (pre.length : Int) = some ((n + rowsN post : Nat) : Int) := by
    intro post
    induction post with
    | nil =>
      intro pre f n h hf hn
      obtain ⟨f, rfl⟩ : ∃ q, f = q + 1 := ⟨f - 1, by omega⟩
      rw [List.append_nil] at h
      subst h
      simp only [spec_RowsOf.l3, impl_RowsOf.l3, decide_eq_false (show ¬ ((x.length : Int) < (x.length : Int)) by omega), cond_false]
      exact ⟨rfl, rfl⟩
    | cons t post ih =>
      intro pre f n h hf hn
      simp only [List.length_cons] at hf
      obtain ⟨f, rfl⟩ : ∃ q, f = q + 1 := ⟨f - 1, by omega⟩
      have hlen : x.length = pre.length + (post.length + 1) := by rw [h]; simp
      have hg : rdL x (pre.length : Int) = some t := by rw [h]; exact getMid _ _ _
      have hi1 : IntKind.wrap .i64 ((pre.length : Int) + 1) = ((pre.length + 1 : Nat) : Int) := by rw [w64 (by omega) (by omega)]; omega
      have hn1 : IntKind.wrap .i64 ((n : Int) + 1) = ((n + 1 : Nat) : Int) := by rw [w64 (by omega) (by omega)]; omega
      have hi := fun (n : Nat) (hnn : n ≤ pre.length + 1) => ih (pre ++ [t]) f n (by rw [h]; simp) (by omega) (by rw [List.length_append, List.length_singleton]; exact hnn)
      rw [List.length_append, List.length_singleton] at hi
      simp only [spec_RowsOf.l3, impl_RowsOf.l3, decide_eq_true (show (pre.length : Int) < (x.length : Int) by omega), cond_true, hg, Option.bind_some, spec_RowsOf.c4, impl_RowsOf.c7, hi1, hn1]
      rw [rowsN_cons]
      by_cases h0 : t.1 = 0
      · rw [beqT h0, cond_true, cond_true, if_pos h0, show n + (1 + rowsN post) = n + 1 + rowsN post by omega]
        exact hi (n + 1) (by omega)
      · rw [beqF h0, cond_false, cond_false, if_neg h0, Nat.zero_add]
        exact hi n (by omega)
  have := key x [] k 0 rfl (by omega) (by simp)
  rw [Nat.zero_add] at this
  exact this

section
variable (k : Nat) (s : List TCol) (hn : ∀ c, c ∈ s → c.1.size < k ∧ c.1.size < 1000000000 ∧ I64 c.2.2.2.1) (hk : 2000000 ≤ k)
variable (hS : IsSchema s) (hok : spec_SchemaOk k s = some true) (hok2 : impl_SchemaOk k s = some true)
include hn hk hS hok hok2

/-- a column that is right -/
def colRight (s : List TCol) (j : Nat) (x : List TTriple) : Prop := x.length ≤ 2000 ∧ (∀ t r, x = t :: r → t.1 = 0) ∧ ∀ (L : Nat) (c : TCol), s[L]? = some c → c.2.1 ≠ 7 → lnum s L = j → ∀ t, t ∈ x → tripOk (c.2.1, (lvD s isRep 1 L : Int), (lvD s isOpt 1 L : Int), ()) t = true

theorem triplesOk_eq (j : Nat) (x : List TTriple) (hx : x.length ≤ 1048576) : ∃ b, spec_TriplesOk k s (j : Int) x = some b ∧ impl_TriplesOk k s (j : Int) x = some b ∧ (b = true → colRight s j x) ∧ (b = false → j < lnum s s.length → ¬ colRight s j x) := by
  obtain ⟨l, b, e1, e2, e3⟩ := leafOf_eq k s hn hk hS hok hok2 (j : Int)
  have sl : ∀ (post pre : List TTriple) (f : Nat), x = pre ++ post → post.length < f → spec_TriplesOk.l5 k f x (pre.length : Int) l = some (post.all (tripOk l)) := by
    intro post
    induction post with
    | nil =>
      intro pre f h hf
      obtain ⟨f, rfl⟩ : ∃ q, f = q + 1 := ⟨f - 1, by omega⟩
      rw [List.append_nil] at h
      subst h
      simp only [spec_TriplesOk.l5, decide_eq_false (show ¬ ((x.length : Int) < (x.length : Int)) by omega), cond_false]
      rfl
    | cons t post ih =>
      intro pre f h hf
      simp only [List.length_cons] at hf
      obtain ⟨f, rfl⟩ : ∃ q, f = q + 1 := ⟨f - 1, by omega⟩
      have hlen : x.length = pre.length + (post.length + 1) := by rw [h]; simp
      have hg : rdL x (pre.length : Int) = some t := by rw [h]; exact getMid _ _ _
      have hi1 : IntKind.wrap .i64 ((pre.length : Int) + 1) = ((pre.length + 1 : Nat) : Int) := by rw [w64 (by omega) (by omega)]; omega
      have hi := ih (pre ++ [t]) f (by rw [h]; simp) (by omega)
      rw [List.length_append, List.length_singleton] at hi
      simp only [spec_TriplesOk.l5, decide_eq_true (show (pre.length : Int) < (x.length : Int) by omega), cond_true, hg, Option.bind_some, stripOk, hi1, hi, List.all_cons]
      cases tripOk l t <;> rfl
  have il : ∀ (post pre : List TTriple) (f : Nat), x = pre ++ post → post.length < f → impl_triplesRight.l2 k f x x (x.length : Int) (pre.length : Int) l = some (post.all (tripOk l) && decide (x.length ≤ 2000)) := by
    intro post
    induction post with
    | nil =>
      intro pre f h hf
      obtain ⟨f, rfl⟩ : ∃ q, f = q + 1 := ⟨f - 1, by omega⟩
      rw [List.append_nil] at h
      subst h
      simp only [impl_triplesRight.l2, decide_eq_false (show ¬ ((x.length : Int) < (x.length : Int)) by omega), cond_false, List.all_nil, Bool.true_and]
      congr 1
      by_cases h : x.length ≤ 2000
      · rw [decide_eq_true h, decide_eq_true (by omega)]
      · rw [decide_eq_false h, decide_eq_false (by omega)]
    | cons t post ih =>
      intro pre f h hf
      simp only [List.length_cons] at hf
      obtain ⟨f, rfl⟩ : ∃ q, f = q + 1 := ⟨f - 1, by omega⟩
      have hlen : x.length = pre.length + (post.length + 1) := by rw [h]; simp
      have hg : rdL x (pre.length : Int) = some t := by rw [h]; exact getMid _ _ _
      have hi1 : IntKind.wrap .i64 ((pre.length : Int) + 1) = ((pre.length + 1 : Nat) : Int) := by rw [w64 (by omega) (by omega)]; omega
      have hi := ih (pre ++ [t]) f (by rw [h]; simp) (by omega)
      rw [List.length_append, List.length_singleton] at hi
      simp only [impl_triplesRight.l2, decide_eq_true (show (pre.length : Int) < (x.length : Int) by omega), cond_true, hg, Option.bind_some, itripOk, hi1, hi, List.all_cons]
      cases tripOk l t <;> rfl
  have sl0 : spec_TriplesOk.l5 k k x 0 l = some (x.all (tripOk l)) := sl x [] k rfl (by omega)
  have il0 : impl_triplesRight.l2 k k x x (x.length : Int) 0 l = some (x.all (tripOk l) && decide (x.length ≤ 2000)) := il x [] k rfl (by omega)
  have hfirst : (cond (decide ((x.length : Int) > 0)) ((rdL x 0).bind fun y5 => some (y5.1 != 0)) (some false)) = some (match x with | [] => false | t :: _ => t.1 != 0) := by
    cases x with
    | nil => rfl
    | cons t r =>
      rw [decide_eq_true (by simp only [List.length_cons]; omega)]; rfl
  have hfirst2 : (cond ((x.length : Int) == 0) (some true) ((rdL x 0).bind fun y5 => some (y5.1 == 0))) = some (match x with | [] => true | t :: _ => t.1 == 0) := by
    cases x with
    | nil => rfl
    | cons t r =>
      rw [beqF (by simp only [List.length_cons]; omega)]; rfl
  unfold spec_TriplesOk impl_TriplesOk impl_triplesRight
  simp only [e1, e2, Option.bind_some, il0, sl0, hfirst, hfirst2]
  have hall : b = true → ((x.all (tripOk l) = true) ↔ ∀ (L : Nat) (c : TCol), s[L]? = some c → c.2.1 ≠ 7 → lnum s L = j → ∀ t, t ∈ x → tripOk (c.2.1, (lvD s isRep 1 L : Int), (lvD s isOpt 1 L : Int), ()) t = true) := by
    intro hb
    obtain ⟨L, c, q1, q2, q3, q4, q5⟩ := e3 hb
    rw [q5, List.all_eq_true]
    constructor
    · intro h L' c' h1 h2 h3 t ht
      have : L' = L := lnum_inj h1 q2 h2 q3 (by omega)
      subst this
      rw [q2] at h1
      cases h1
      exact h t ht
    · intro h t ht
      exact h L c q2 q3 (by omega) t ht
  have hb0 : b = false → ¬ j < lnum s s.length := by
    intro hb hj
    have hl := leavesFrom_lnum s [] s rfl
    have hl' : (leavesFrom 0 s).length = lnum s s.length := hl
    obtain ⟨v1, v2⟩ := leaves_eq k (by omega) s (by have := hS.2.1; omega)
    unfold spec_LeafOf spec_SchemaLeaves at e1
    rw [hok] at e1
    have hll := leavesFrom_len 0 s
    have hs20 := hS.2.1
    simp only [Option.bind_some, Bool.not_true, cond_false, v2, l1In_eq] at e1
    rw [w64 (show -9223372036854775808 ≤ ((leavesFrom 0 s).length : Int) - 1 by omega) (by omega), show (decide ((0 : Int) ≤ (j : Int)) && decide ((j : Int) ≤ ((leavesFrom 0 s).length : Int) - 1)) = true by simp; omega] at e1
    simp only [Bool.not_true, cond_false] at e1
    cases h1 : rdL (leavesFrom 0 s) (j : Int) with
    | none => rw [h1] at e1; cases e1
    | some y =>
      rw [h1] at e1
      simp only [Option.bind_some] at e1
      cases h2 : spec_l5Max k s y with
      | none => rw [h2] at e1; cases e1
      | some z =>
        rw [h2] at e1
        simp only [Option.bind_some] at e1
        cases h3 : rdL s y with
        | none => rw [h3] at e1; cases e1
        | some w =>
          rw [h3] at e1
          simp only [Option.bind_some, Option.some.injEq, Prod.mk.injEq] at e1
          rw [hb] at e1
          cases e1.2
  cases b with
  | false => exact ⟨false, rfl, rfl, fun h => (by cases h), fun _ h => absurd h (hb0 rfl)⟩
  | true =>
    have hall := hall rfl
    simp only [Bool.not_true, cond_false, cond_true, Option.bind_some]
    by_cases h2000 : x.length ≤ 2000
    · rw [decide_eq_false (show ¬ ((x.length : Int) > 2000) by omega), decide_eq_true h2000, Bool.and_true]
      simp only [cond_false, Option.bind_some]
      cases x with
      | nil =>
        simp only [cond_false, List.all_nil, cond_true, Option.bind_some]
        exact ⟨true, rfl, rfl, fun _ => ⟨h2000, fun t r h => (by cases h), hall.1 rfl⟩, fun h => by cases h⟩
      | cons t r =>
        simp only
        by_cases h0 : t.1 = 0
        · rw [bneF h0, beqT h0]
          simp only [cond_false]
          refine ⟨(t :: r).all (tripOk l), rfl, ?_, fun hb => ⟨h2000, fun t' r' h => (by cases h; exact h0), hall.1 hb⟩, fun hb _ hc => ?_⟩
          · cases (t :: r).all (tripOk l) <;> rfl
          · rw [hall.2 hc.2.2] at hb; cases hb
        · rw [bneT h0, beqF h0]
          simp only [cond_true]
          refine ⟨false, rfl, ?_, fun hb => (by cases hb), fun _ _ hc => h0 (hc.2.1 t r rfl)⟩
          cases (t :: r).all (tripOk l) <;> rfl
    · rw [decide_eq_true (show ((x.length : Int) > 2000) by omega), decide_eq_false h2000, Bool.and_false]
      exact ⟨false, rfl, rfl, fun h => (by cases h), fun _ _ hc => absurd hc.1 h2000⟩
end
end Go.Law
end

section
/- Assemble as a whole: both. -/
set_option linter.unusedVariables false
set_option linter.unusedSimpArgs false
set_option linter.unusedSectionVars false
namespace Go.Law
open Go.Am Go.Fn

/-- so many records -/
def aRecs (T : TRows) (s : List TCol) : Nat → List Nat → Option (List TRec × List Nat × Bool)
  | 0, pos => some ([], pos, false)
  | n + 1, pos => match aC T s 6 0 0 0 0 pos with
    | none => none
    | some (Y, q, l) => match aRecs T s n q with
      | none => none
      | some (R, q', l') => some ((Y, ()) :: R, q', (l || decide (300 < Y.length)) || l')
def endB : TRows → List Nat → Bool
  | x :: T, p :: pos => (p == x.length) && endB T pos
  | _, _ => true
theorem aRecs_ok {T : TRows} {s : List TCol} (hS : IsSchema s) (hR : RightT s T) : ∀ (n : Nat) (pos : List Nat) (R : List TRec) (q : List Nat) (l : Bool), PosOk T pos → aRecs T s n pos = some (R, q, l) →
    PosOk T q ∧ R.length = n ∧ l = !(R.all fun r => (recEv s r.1).isSome)
  | 0, pos, R, q, l, hp, h => by
    simp only [aRecs, Option.some.injEq, Prod.mk.injEq] at h
    obtain ⟨rfl, rfl, rfl⟩ := h
    exact ⟨hp, rfl, rfl⟩
  | n + 1, pos, R, q, l, hp, h => by
    simp only [aRecs] at h
    split at h
    · cases h
    · rename_i Y q1 l1 h1
      split at h
      · cases h
      · rename_i R2 q2 l2 h2
        simp only [Option.some.injEq, Prod.mk.injEq] at h
        obtain ⟨rfl, rfl, rfl⟩ := h
        obtain ⟨a1, _, _⟩ := aC_G 6 0 s.length hS.2.2.1 0 0 0 pos _ _ _ h1 hp
        obtain ⟨b1, b2, b3⟩ := aRecs_ok hS hR n q1 R2 q2 l2 a1.ok h2
        refine ⟨b1, by simp [b2], ?_⟩
        rw [List.all_cons, rec_PA hS hR pos Y q1 l1 hp h1, b3]
        have : decide (300 < Y.length) = !decide (Y.length ≤ 300) := by
          by_cases h : Y.length ≤ 300
          · rw [decide_eq_true h, decide_eq_false (by omega)]; rfl
          · rw [decide_eq_false h, decide_eq_true (by omega)]; rfl
        rw [this]
        cases l1 <;> cases decide (Y.length ≤ 300) <;> simp

section
variable (k : Nat) (s : List TCol) (hn : ∀ c, c ∈ s → c.1.size < k ∧ c.1.size < 1000000000 ∧ I64 c.2.2.2.1) (hk : 2000000 ≤ k)
variable (hS : IsSchema s) (hok : spec_SchemaOk k s = some true) (hok2 : impl_SchemaOk k s = some true)
include hn hk hS hok hok2

/-- all columns are right, or the first law is broken -/
theorem asm_first (T : TRows) (hT : T.length = lnum s s.length) (hx : ∀ x, x ∈ T → x.length ≤ 1048576) : ∀ (post pre : TRows) (f : Nat), T = pre ++ post → post.length < f →
    ((∀ (i : Nat) (x : List TTriple), post[i]? = some x → colRight s (pre.length + i) x) ∧
      (∃ f', 0 < f' ∧ spec_Assemble.l5 k f s (T.map tcol) (pre.length : Int) [] = spec_Assemble.l5 k f' s (T.map tcol) (T.length : Int) []) ∧
      (∃ f', 0 < f' ∧ impl_Assemble.l4 k f s (T.map tcol) (T.map tcol) (T.length : Int) (pre.length : Int) = impl_Assemble.l4 k f' s (T.map tcol) (T.map tcol) (T.length : Int) (T.length : Int))) ∨
    (¬ (∀ (i : Nat) (x : List TTriple), post[i]? = some x → colRight s (pre.length + i) x) ∧ spec_Assemble.l5 k f s (T.map tcol) (pre.length : Int) [] = some (((), 1), []) ∧ impl_Assemble.l4 k f s (T.map tcol) (T.map tcol) (T.length : Int) (pre.length : Int) = some (((), 1), [])) := by
  have hl20 := lnum_le s s.length
  have hs20 := hS.2.1
  intro post
  induction post with
  | nil =>
    intro pre f h hf
    rw [List.append_nil] at h
    subst h
    exact .inl ⟨fun i x h => by simp at h, ⟨f, by omega, rfl⟩, ⟨f, by omega, rfl⟩⟩
  | cons x post ih =>
    intro pre f h hf
    simp only [List.length_cons] at hf
    obtain ⟨f, rfl⟩ : ∃ q, f = q + 1 := ⟨f - 1, by omega⟩
    have hlen : T.length = pre.length + (post.length + 1) := by rw [h]; simp
    have hg : rdL (T.map tcol) (pre.length : Int) = some (x, ()) := rdL_cols (by rw [h]; simp)
    have hi1 : IntKind.wrap .i64 ((pre.length : Int) + 1) = ((pre.length + 1 : Nat) : Int) := by rw [w64 (by omega) (by omega)]; omega
    obtain ⟨b, e1, e2, e3, e4⟩ := triplesOk_eq k s hn hk hS hok hok2 pre.length x (hx x (by rw [h]; simp))
    have hml : ((T.map tcol).length : Int) = (T.length : Int) := by rw [List.length_map]
    simp only [spec_Assemble.l5, impl_Assemble.l4, hml, decide_eq_true (show (pre.length : Int) < (T.length : Int) by omega), cond_true, hg, Option.bind_some, e1, e2, hi1]
    cases b with
    | false =>
      simp only [Bool.not_false, cond_true]
      refine .inr ⟨fun hh => e4 rfl (by omega) (hh 0 x rfl), trivial, trivial⟩
    | true =>
      simp only [Bool.not_true, cond_false]
      have hi := ih (pre ++ [x]) f (by rw [h]; simp) (by omega)
      rw [List.length_append, List.length_singleton] at hi
      rcases hi with ⟨h1, h2, h3⟩ | ⟨h1, h2, h3⟩
      · refine .inl ⟨fun i y hy => ?_, h2, h3⟩
        cases i with
        | zero =>
          simp only [List.getElem?_cons_zero, Option.some.injEq] at hy
          subst hy
          exact e3 rfl
        | succ i =>
          simp only [List.getElem?_cons_succ] at hy
          have := h1 i y hy
          rw [show pre.length + (i + 1) = pre.length + 1 + i by omega]
          exact this
      · refine .inr ⟨fun hh => h1 fun i y hy => ?_, h2, h3⟩
        have := hh (i + 1) y (by simpa using hy)
        rw [show pre.length + (i + 1) = pre.length + 1 + i by omega] at this
        exact this

theorem asm_rows (T : TRows) (hx : ∀ x, x ∈ T → x.length ≤ 2000) (hT20 : T.length ≤ 20) (n : Nat) (hn2 : n ≤ 2000) : ∀ (post pre : TRows) (f : Nat), T = pre ++ post → post.length < f →
    spec_Assemble.l11 k f s (T.map tcol) (n : Int) (pre.length : Int) [] = (if (∀ x, x ∈ post → rowsN x = n) ∧ (post ≠ [] → n ≤ 200) then spec_Assemble.l17 k k s (T.map tcol) (n : Int) 0 [] (List.replicate T.length 0) else some (((), 2), [])) ∧
    impl_rowsAlike.l3 k f (n : Int) (T.map tcol) (T.length : Int) (pre.length : Int) = some (if ∀ x, x ∈ post → rowsN x = n then ((n : Int), decide (n ≤ 200)) else (0, false)) := by
  intro post
  induction post with
  | nil =>
    intro pre f h hf
    obtain ⟨f, rfl⟩ : ∃ q, f = q + 1 := ⟨f - 1, by omega⟩
    rw [List.append_nil] at h
    subst h
    have hml : ((T.map tcol).length : Int) = (T.length : Int) := by rw [List.length_map]
    simp only [spec_Assemble.l11, impl_rowsAlike.l3, hml, decide_eq_false (show ¬ ((T.length : Int) < (T.length : Int)) by omega), cond_false]
    rw [okLen_ok (by omega) (by omega), cond_true, Int.toNat_natCast, if_pos ⟨fun x h => by simp at h, fun h => absurd rfl h⟩, if_pos (fun x h => by simp at h)]
    refine ⟨rfl, ?_⟩
    congr 2
    by_cases h : n ≤ 200
    · rw [decide_eq_true h, decide_eq_true (by omega)]
    · rw [decide_eq_false h, decide_eq_false (by omega)]
  | cons x post ih =>
    intro pre f h hf
    simp only [List.length_cons] at hf
    obtain ⟨f, rfl⟩ : ∃ q, f = q + 1 := ⟨f - 1, by omega⟩
    have hlen : T.length = pre.length + (post.length + 1) := by rw [h]; simp
    have hg : rdL (T.map tcol) (pre.length : Int) = some (x, ()) := rdL_cols (by rw [h]; simp)
    have hi1 : IntKind.wrap .i64 ((pre.length : Int) + 1) = ((pre.length + 1 : Nat) : Int) := by rw [w64 (by omega) (by omega)]; omega
    have hx1 := hx x (by rw [h]; simp)
    obtain ⟨r1, r2⟩ := rowsOf_eq k x (by omega) hk
    have hml : ((T.map tcol).length : Int) = (T.length : Int) := by rw [List.length_map]
    have hi := ih (pre ++ [x]) f (by rw [h]; simp) (by omega)
    rw [List.length_append, List.length_singleton] at hi
    simp only [spec_Assemble.l11, impl_rowsAlike.l3, hml, decide_eq_true (show (pre.length : Int) < (T.length : Int) by omega), cond_true, hg, Option.bind_some, r1, r2, hi1, cst]
    by_cases h1 : rowsN x = n
    · rw [bneF (show (rowsN x : Int) = (n : Int) by omega), Bool.false_or, cond_false, hi.1, hi.2]
      constructor
      · by_cases h2 : n ≤ 200
        · rw [decide_eq_false (by omega), cond_false]
          have : ((∀ y, y ∈ post → rowsN y = n) ∧ (post ≠ [] → n ≤ 200)) ↔ ((∀ y, y ∈ x :: post → rowsN y = n) ∧ (x :: post ≠ [] → n ≤ 200)) :=
            ⟨fun hh => ⟨fun y hy => (List.mem_cons.1 hy).elim (fun e => by rw [e]; exact h1) (hh.1 y), fun _ => h2⟩, fun hh => ⟨fun y hy => hh.1 y (List.mem_cons_of_mem _ hy), fun _ => h2⟩⟩
          simp only [this]
        · rw [decide_eq_true (by omega), cond_true, if_neg (fun hh => h2 (hh.2 (by simp)))]
      · have : (∀ y, y ∈ post → rowsN y = n) ↔ (∀ y, y ∈ x :: post → rowsN y = n) :=
          ⟨fun hh y hy => (List.mem_cons.1 hy).elim (fun e => by rw [e]; exact h1) (hh y), fun hh y hy => hh y (List.mem_cons_of_mem _ hy)⟩
        simp only [this]
    · rw [bneT (show ¬ (rowsN x : Int) = (n : Int) by omega), Bool.true_or, cond_true, cond_true, if_neg (fun hh => h1 (hh.1 x (List.mem_cons_self ..))), if_neg (fun hh => h1 (hh x (List.mem_cons_self ..)))]
      exact ⟨rfl, rfl⟩

theorem asm_end (T : TRows) (hT20 : T.length ≤ 20) (hT2 : ∀ x, x ∈ T → x.length ≤ 2000) (nums : List Int) (l : Bool) (recs : List TRec) (pos : List Nat) (hp : PosOk T pos) : ∀ (post pre : TRows) (ppost ppre : List Nat) (f : Nat), T = pre ++ post → pos = ppre ++ ppost → ppre.length = pre.length → post.length < f →
    spec_Assemble.l24 k f s (T.map tcol) (pre.length : Int) recs (ip pos) = cond (endB post ppost) (spec_Assemble.l29 k k s 0 recs) (some (((), 3), [])) ∧
    impl_joiner_ended.l2 k f (T.map tcol) (T.length : Int) (pre.length : Int) (jn s T nums false l) (ip pos) = some (endB post ppost, (jn s T nums false l, ip pos)) := by
  intro post
  induction post with
  | nil =>
    intro pre ppost ppre f h hpq hpl hf
    obtain ⟨f, rfl⟩ : ∃ q, f = q + 1 := ⟨f - 1, by omega⟩
    rw [List.append_nil] at h
    subst h
    have hml : ((T.map tcol).length : Int) = (T.length : Int) := by rw [List.length_map]
    simp only [spec_Assemble.l24, impl_joiner_ended.l2, hml, decide_eq_false (show ¬ ((T.length : Int) < (T.length : Int)) by omega), cond_false, endB, cond_true]
    exact ⟨trivial, trivial⟩
  | cons x post ih =>
    intro pre ppost ppre f h hpq hpl hf
    simp only [List.length_cons] at hf
    obtain ⟨f, rfl⟩ : ∃ q, f = q + 1 := ⟨f - 1, by omega⟩
    have hlen : T.length = pre.length + (post.length + 1) := by rw [h]; simp
    have hplen := hp.1
    cases ppost with
    | nil =>
      rw [List.append_nil] at hpq
      rw [hpq] at hplen
      omega
    | cons p ppost =>
      have hgx : T[pre.length]? = some x := by rw [h]; simp
      have hg : rdL (T.map tcol) (pre.length : Int) = some (x, ()) := rdL_cols hgx
      have hgp' : pos[pre.length]? = some p := by rw [hpq, ← hpl]; simp
      have hgp : rdL (ip pos) (pre.length : Int) = some (p : Int) := rdL_ip hgp'
      have hi1 : IntKind.wrap .i64 ((pre.length : Int) + 1) = ((pre.length + 1 : Nat) : Int) := by rw [w64 (by omega) (by omega)]; omega
      have hml : ((T.map tcol).length : Int) = (T.length : Int) := by rw [List.length_map]
      have hi := ih (pre ++ [x]) ppost (ppre ++ [p]) f (by rw [h]; simp) (by rw [hpq]; simp) (by simp [hpl]) (by omega)
      rw [List.length_append, List.length_singleton] at hi
      simp only [spec_Assemble.l24, impl_joiner_ended.l2, hml, decide_eq_true (show (pre.length : Int) < (T.length : Int) by omega), cond_true, hg, hgp, Option.bind_some, hi1, endB]
      by_cases h1 : p = x.length
      · rw [bneF (by omega), cond_false, cond_false, hi.1, hi.2]
        have : (p == x.length) = true := by simpa using h1
        rw [this, Bool.true_and]
        exact ⟨rfl, rfl⟩
      · rw [bneT (by omega), cond_true, cond_true]
        have : (p == x.length) = false := by simpa using h1
        rw [this, Bool.false_and]
        exact ⟨rfl, rfl⟩

theorem asm_recOk (R : List TRec) (hR : R.length ≤ 200) : ∀ (post pre : List TRec) (f : Nat), R = pre ++ post → post.length < f →
    spec_Assemble.l29 k f s (pre.length : Int) R = some (cond (post.all (fun r => (recEv s r.1).isSome)) (((), 0), R) (((), 4), [])) := by
  intro post
  induction post with
  | nil =>
    intro pre f h hf
    obtain ⟨f, rfl⟩ : ∃ q, f = q + 1 := ⟨f - 1, by omega⟩
    rw [List.append_nil] at h
    subst h
    simp only [spec_Assemble.l29, decide_eq_false (show ¬ ((R.length : Int) < (R.length : Int)) by omega), cond_false, List.all_nil, cond_true]
  | cons r post ih =>
    intro pre f h hf
    simp only [List.length_cons] at hf
    obtain ⟨f, rfl⟩ : ∃ q, f = q + 1 := ⟨f - 1, by omega⟩
    have hlen : R.length = pre.length + (post.length + 1) := by rw [h]; simp
    have hg : rdL R (pre.length : Int) = some r := by rw [h]; exact getMid _ _ _
    have hi1 : IntKind.wrap .i64 ((pre.length : Int) + 1) = ((pre.length + 1 : Nat) : Int) := by rw [w64 (by omega) (by omega)]; omega
    obtain ⟨b, q1, _, _, q2, _⟩ := recOk_eq k hk s hn r.1
    have hb : b = true := by rw [hok] at q1; simpa using q1.symm
    subst hb
    have q2 : spec_RecOk k s r = some (true && (recEv s r.1).isSome) := q2
    have hi := ih (pre ++ [r]) f (by rw [h]; simp) (by omega)
    rw [List.length_append, List.length_singleton] at hi
    simp only [spec_Assemble.l29, decide_eq_true (show (pre.length : Int) < (R.length : Int) by omega), cond_true, hg, Option.bind_some, q2, Bool.true_and, hi1, hi, List.all_cons]
    cases (recEv s r.1).isSome <;> rfl

theorem asm_loop (T : TRows) (hT : T.length = lnum s s.length) (hT2 : ∀ x, x ∈ T → x.length ≤ 2000) (nums : List Int) (hN : ∀ (a : Nat) (c : TCol), s[a]? = some c → c.2.1 ≠ 7 → rdL nums (a : Int) = some (lnum s a : Int)) (n : Nat) (hn200 : n ≤ 200) :
    ∀ (m i f : Nat) (recs : List TRec) (pos : List Nat) (l : Bool), n = i + m → m + 1 < f → recs.length ≤ i → PosOk T pos →
    match aRecs T s m pos with
    | none => spec_Assemble.l17 k f s (T.map tcol) (n : Int) (i : Int) recs (ip pos) = some (((), 3), []) ∧ impl_Assemble.l15 k f (n : Int) (i : Int) (jn s T nums false l) recs (ip pos) = some (((), 3), [])
    | some (R, q, l2) => spec_Assemble.l17 k f s (T.map tcol) (n : Int) (i : Int) recs (ip pos) = spec_Assemble.l24 k k s (T.map tcol) 0 (recs ++ R) (ip q) ∧
        impl_Assemble.l15 k f (n : Int) (i : Int) (jn s T nums false l) recs (ip pos) = ((impl_joiner_ended k (jn s T nums false (l || l2)) (ip q)).bind fun r4 => cond (!r4.1) (some (((), 3), [])) (cond r4.2.1.2.2.2.2.2.2.1 (some (((), 4), [])) (some (((), 0), recs ++ R)))) := by
  have hs20 := hS.2.1
  intro m
  induction m with
  | zero =>
    intro i f recs pos l hi hf hrl hp
    obtain ⟨f, rfl⟩ : ∃ q, f = q + 1 := ⟨f - 1, by omega⟩
    simp only [aRecs, spec_Assemble.l17, impl_Assemble.l15, decide_eq_false (show ¬ ((i : Int) < (n : Int)) by omega), cond_false, Option.bind_some, List.append_nil, Bool.or_false]
    exact ⟨trivial, trivial⟩
  | succ m ih =>
    intro i f recs pos l hi hf hrl hp
    obtain ⟨f, rfl⟩ : ∃ q, f = q + 1 := ⟨f - 1, by omega⟩
    have hi1 : IntKind.wrap .i64 ((i : Int) + 1) = ((i + 1 : Nat) : Int) := by rw [w64 (by omega) (by omega)]; omega
    have hroom : Room 6 [] pos := by unfold Room; simp only [List.length_nil]; omega
    have h1 := sfill_ok k s hs20 hn hk T hT hT2 6 k 0 s.length hS.2.2.1 (Nat.le_refl _) (by omega) (by omega) 0 0 0 pos [] hp (by omega) (by omega) (by omega) (by omega) hroom
    have h2 := ibody_ok k s hs20 hn hk T hT hT2 nums hN 6 k 0 s.length hS.2.2.1 (Nat.le_refl _) (by omega) (by omega) 0 0 0 pos [] l hp (by omega) (by omega) (by omega) (by omega) hroom
    have hlim : ∀ r : TRec, lim (recs.length + [r].length) = true := fun r => lim_ok (by simp; omega)
    simp only [aRecs, spec_Assemble.l17, impl_Assemble.l15, decide_eq_true (show (i : Int) < (n : Int) by omega), cond_true, hi1, Option.bind_some, Bool.not_false]
    cases hC : aC T s 6 0 0 0 0 pos with
    | none =>
      rw [hC] at h1 h2
      obtain ⟨p1, v1, e1⟩ := h1
      obtain ⟨nx', l', pos', v, e2, e3, e4⟩ := h2
      have e1 : spec_l14Fill k s 0 (T.map tcol) 0 0 0 (ip pos) [] = some (((), false), (p1, v1)) := e1
      have e3 : impl_joiner_body k 0 0 0 0 (jn s T nums false l) (ip pos) [] = some (nx', (jn s T nums true l', ip pos', v)) := e3
      obtain ⟨f, rfl⟩ : ∃ q, f = q + 1 := ⟨f - 1, by omega⟩
      simp only [e1, e3, Option.bind_some, Bool.not_false, cond_true, hlim, cst, impl_Assemble.l15, Bool.not_true, csf, Bool.and_false, cond_false]
      exact ⟨trivial, trivial⟩
    | some r =>
      obtain ⟨Y, q, l1⟩ := r
      rw [hC] at h1 h2
      have e1 : spec_l14Fill k s 0 (T.map tcol) 0 0 0 (ip pos) [] = some (((), true), (ip q, [] ++ Y)) := h1
      have e3 : impl_joiner_body k 0 0 0 0 (jn s T nums false l) (ip pos) [] = some ((s.length : Int), (jn s T nums false (l || l1), ip q, [] ++ Y)) := h2
      obtain ⟨a1, _, _⟩ := aC_G 6 0 s.length hS.2.2.1 0 0 0 pos _ _ _ hC hp
      rw [List.nil_append] at e1 e3
      simp only [e1, e3, Option.bind_some, Bool.not_true, cond_false, hlim, cond_true, cst]
      have hb : decide ((Y.length : Int) > 300) = decide (300 < Y.length) := by
        by_cases h : 300 < Y.length
        · rw [decide_eq_true h, decide_eq_true (by omega)]
        · rw [decide_eq_false h, decide_eq_false (by omega)]
      have hii := ih (i + 1) f (recs ++ [(Y, ())]) q (l || l1 || decide ((Y.length : Int) > 300)) (by omega) (by omega) (by simp; omega) a1.ok
      cases hA : aRecs T s m q with
      | none =>
        rw [hA] at hii
        exact hii
      | some r2 =>
        obtain ⟨R, q', l'⟩ := r2
        rw [hA] at hii
        simp only at hii ⊢
        rw [hii.1, hii.2, hb, List.append_assoc, List.singleton_append]
        refine ⟨rfl, ?_⟩
        rw [show (l || l1 || decide (300 < Y.length) || l') = (l || (l1 || decide (300 < Y.length) || l')) by rw [Bool.or_assoc, Bool.or_assoc, Bool.or_assoc]]
end

/-- all that comes of columns -/
def asmOut (s : List TCol) (T : TRows) (n : Nat) : Int × List TRec := match aRecs T s n (List.replicate T.length 0) with
  | none => (3, [])
  | some (R, q, _) => cond (endB T q) (cond (R.all (fun r => (recEv s r.1).isSome)) (0, R) (4, [])) (3, [])

section
variable (k : Nat) (s : List TCol) (hn : ∀ c, c ∈ s → c.1.size < k ∧ c.1.size < 1000000000 ∧ I64 c.2.2.2.1) (hk : 2000000 ≤ k)
include hn hk

theorem assemble_eq (T : TRows) (hTl : T.length ≤ 1048576) (hx : ∀ x, x ∈ T → x.length ≤ 1048576) : ∃ code out, spec_Assemble k s (T.map tcol) = some (((), code), out) ∧ impl_Assemble k s (T.map tcol) = some (((), code), out) ∧ out.length ≤ 200 ∧ (∀ r, r ∈ out → r.1.length ≤ 300) ∧
    (spec_SchemaOk k s = some true → IsSchema s ∧ (T.length = lnum s s.length → (∀ (j : Nat) (x : List TTriple), T[j]? = some x → colRight s j x) → ∀ x0, T[0]? = some x0 → (∀ x, x ∈ T → rowsN x = rowsN x0) → rowsN x0 ≤ 200 → (code, out) = asmOut s T (rowsN x0))) := by
  obtain ⟨b, h1, h2, h3⟩ := schemaOk_eq k (by omega) s hn
  have hml : ((T.map tcol).length : Int) = (T.length : Int) := by rw [List.length_map]
  unfold spec_Assemble impl_Assemble
  rw [h1, h2]
  simp only [Option.bind_some]
  cases b with
  | false => exact ⟨1, [], rfl, rfl, by simp, fun r h => (by cases h), fun h => by cases h⟩
  | true =>
    have hS := (h3 rfl).1
    have hs20 := hS.2.1
    obtain ⟨v1, v2⟩ := leaves_eq k (by omega) s (by omega)
    have hl : (leavesFrom 0 s).length = lnum s s.length := leavesFrom_lnum s [] s rfl
    have hl20 := lnum_le s s.length
    have hpos := lnum_pos hS.2.2.1
    simp only [Bool.not_true, cond_false, v1, v2, Option.bind_some, hml, hl]
    by_cases hlen : T.length = lnum s s.length
    · rw [bneF (by omega), cond_false, cond_false]
      have hf := asm_first k s hn hk hS h1 h2 T hlen hx T [] k rfl (by omega)
      rcases hf with ⟨f1, ⟨g1, g1p, f2⟩, ⟨g2, g2p, f3⟩⟩ | ⟨f1, f2, f3⟩
      · have f2 : spec_Assemble.l5 k k s (T.map tcol) 0 [] = _ := f2
        have f3 : impl_Assemble.l4 k k s (T.map tcol) (T.map tcol) (T.length : Int) 0 = _ := f3
        obtain ⟨g1, rfl⟩ : ∃ q, g1 = q + 1 := ⟨g1 - 1, by omega⟩
        obtain ⟨g2, rfl⟩ : ∃ q, g2 = q + 1 := ⟨g2 - 1, by omega⟩
        rw [f2, f3]
        have hcr : ∀ (j : Nat) (x : List TTriple), T[j]? = some x → colRight s j x := fun j x hj => by
          have := f1 j x hj
          simpa using this
        have hT2 : ∀ x, x ∈ T → x.length ≤ 2000 := fun x hx' => by
          obtain ⟨j, hj, rfl⟩ := List.getElem_of_mem hx'
          exact (hcr j _ (List.getElem?_eq_getElem hj)).1
        obtain ⟨x0, T', hTT⟩ : ∃ x0 T', T = x0 :: T' := by
          cases T with
          | nil => simp at hlen; omega
          | cons x0 T' => exact ⟨x0, T', rfl⟩
        have hg0 : T[0]? = some x0 := by rw [hTT]; rfl
        have hgc : rdL (T.map tcol) 0 = some (x0, ()) := rdL_cols (j := 0) hg0
        have hx0 := hT2 x0 (List.mem_of_getElem? hg0)
        obtain ⟨r1, r2⟩ := rowsOf_eq k x0 (by omega) hk
        have hrn : rowsN x0 ≤ 2000 := Nat.le_trans (List.length_filter_le _ _) hx0
        obtain ⟨w1, w2⟩ := asm_rows k s hn hk hS h1 h2 T hT2 (by omega) (rowsN x0) hrn T [] k rfl (by omega)
        have w1 : spec_Assemble.l11 k k s (T.map tcol) (rowsN x0 : Int) 0 [] = _ := w1
        have w2 : impl_rowsAlike.l3 k k (rowsN x0 : Int) (T.map tcol) (T.length : Int) 0 = _ := w2
        simp only [spec_Assemble.l5, impl_Assemble.l4, hml, decide_eq_false (show ¬ ((T.length : Int) < (T.length : Int)) by omega), cond_false, hgc, Option.bind_some, r1, w1, impl_rowsAlike, r2, w2]
        by_cases hall : ∀ x, x ∈ T → rowsN x = rowsN x0
        · rw [if_pos hall]
          by_cases h200 : rowsN x0 ≤ 200
          · rw [if_pos ⟨hall, fun _ => h200⟩, decide_eq_true h200]
            simp only [Bool.not_true, cond_false]
            obtain ⟨nums, n1, n2⟩ := leafNumbers_eq k s hs20 hk
            unfold impl_Assemble.d12
            rw [n1]
            simp only [Option.bind_some, hml]
            rw [okLen_ok (by omega) (by omega), cond_true, Int.toNat_natCast]
            have hrep : List.replicate T.length (0 : Int) = ip (List.replicate T.length 0) := by simp [ip]
            have hp0 : PosOk T (List.replicate T.length 0) := ⟨by simp, fun j p x hj _ => by
              rw [List.getElem?_replicate] at hj
              split at hj
              · cases hj; omega
              · cases hj⟩
            have hR : RightT s T := fun a c hc h7 x hx t ht hd => by
              have hh := (hcr (lnum s a) x hx).2.2 a c hc h7 rfl t ht
              unfold tripOk at hh
              simp only [Bool.and_eq_true] at hh
              have := hh.2.2
              rw [if_pos hd] at this
              exact this
            have hloop := asm_loop k s hn hk hS h1 h2 T hlen hT2 nums n2 (rowsN x0) h200 (rowsN x0) 0 k [] (List.replicate T.length 0) false (by omega) (by omega) (by simp) hp0
            rw [hrep]
            unfold asmOut
            cases hA : aRecs T s (rowsN x0) (List.replicate T.length 0) with
            | none =>
              rw [hA] at hloop
              have e1 : spec_Assemble.l17 k k s (T.map tcol) (rowsN x0 : Int) 0 [] (ip (List.replicate T.length 0)) = _ := hloop.1
              have e2 : impl_Assemble.l15 k k (rowsN x0 : Int) 0 (s, T.map tcol, nums, (), (), false, false, ()) [] (ip (List.replicate T.length 0)) = _ := hloop.2
              rw [e1, e2]
              refine ⟨3, [], rfl, rfl, by simp, fun r h => (by cases h), fun _ => ⟨hS, fun _ _ x1 hx1 _ _ => ?_⟩⟩
              rw [hg0] at hx1
              cases hx1
              rw [hA]
            | some r =>
              obtain ⟨R, q, l⟩ := r
              rw [hA] at hloop
              have e1 : spec_Assemble.l17 k k s (T.map tcol) (rowsN x0 : Int) 0 [] (ip (List.replicate T.length 0)) = _ := hloop.1
              have e2 : impl_Assemble.l15 k k (rowsN x0 : Int) 0 (s, T.map tcol, nums, (), (), false, false, ()) [] (ip (List.replicate T.length 0)) = _ := hloop.2
              obtain ⟨a1, a2, a3⟩ := aRecs_ok hS hR _ _ _ _ _ hp0 hA
              obtain ⟨z1, z2⟩ := asm_end k s hn hk hS h1 h2 T (by omega) hT2 nums (false || l) ([] ++ R) q a1 T [] q [] k rfl rfl rfl (by omega)
              have z1 : spec_Assemble.l24 k k s (T.map tcol) 0 ([] ++ R) (ip q) = _ := z1
              have z2 : impl_joiner_ended k (jn s T nums false (false || l)) (ip q) = some (endB T q, (jn s T nums false (false || l), ip q)) := by
                unfold impl_joiner_ended
                simp only [List.length_map]
                exact z2
              rw [e1, e2, z1, z2]
              rw [List.nil_append, Bool.false_or]
              have hro := asm_recOk k s hn hk hS h1 h2 R (by omega) R [] k rfl (by omega)
              have hro : spec_Assemble.l29 k k s 0 R = _ := hro
              rw [hro]
              simp only [Option.bind_some]
              have hout : ∀ x1, T[0]? = some x1 → x1 = x0 := fun x1 hx1 => by rw [hg0] at hx1; exact (Option.some.inj hx1).symm
              cases hend : endB T q with
              | false =>
                simp only [Bool.not_false, cond_true, cond_false]
                refine ⟨3, [], rfl, rfl, by simp, fun r h => (by cases h), fun _ => ⟨hS, fun _ _ x1 hx1 _ _ => ?_⟩⟩
                rw [hout x1 hx1, hA]
                simp only [hend, cond_false]
              | true =>
                simp only [Bool.not_true, cond_false, cond_true]
                rw [a3]
                cases hall2 : R.all (fun r => (recEv s r.1).isSome) with
                | false =>
                  simp only [Bool.not_false, cond_true, cond_false]
                  refine ⟨4, [], rfl, rfl, by simp, fun r h => (by cases h), fun _ => ⟨hS, fun _ _ x1 hx1 _ _ => ?_⟩⟩
                  rw [hout x1 hx1, hA]
                  simp only [hend, hall2, cond_false, cond_true]
                | true =>
                  simp only [Bool.not_true, cond_false, cond_true]
                  refine ⟨0, R, rfl, rfl, by omega, fun r hr => ?_, fun _ => ⟨hS, fun _ _ x1 hx1 _ _ => ?_⟩⟩
                  · have := List.all_eq_true.1 hall2 r hr
                    cases hre : recEv s r.1 with
                    | none => rw [hre] at this; cases this
                    | some X => exact (recEv_some hre).1
                  · rw [hout x1 hx1, hA]
                    simp only [hend, hall2, cond_true]
          · rw [if_neg (fun hh => h200 (hh.2 (by rw [hTT]; simp))), decide_eq_false h200]
            refine ⟨2, [], rfl, rfl, by simp, fun r h => (by cases h), fun _ => ⟨hS, fun _ _ x1 hx1 _ hle => ?_⟩⟩
            rw [hg0] at hx1
            cases hx1
            exact absurd hle h200
        · rw [if_neg hall, if_neg (fun hh => hall hh.1)]
          refine ⟨2, [], rfl, rfl, by simp, fun r h => (by cases h), fun _ => ⟨hS, fun _ _ x1 hx1 hh _ => ?_⟩⟩
          rw [hg0] at hx1
          cases hx1
          exact absurd hh hall
      · have f2 : spec_Assemble.l5 k k s (T.map tcol) 0 [] = _ := f2
        have f3 : impl_Assemble.l4 k k s (T.map tcol) (T.map tcol) (T.length : Int) 0 = _ := f3
        rw [f2, f3]
        refine ⟨1, [], rfl, rfl, by simp, fun r h => (by cases h), fun _ => ⟨hS, fun _ hcr => ?_⟩⟩
        exact absurd (fun i x hx => by simpa using hcr i x hx) f1
    · rw [bneT (by omega), cond_true, cond_true]
      exact ⟨1, [], rfl, rfl, by simp, fun r h => (by cases h), fun _ => ⟨hS, fun h => absurd h hlen⟩⟩
end
end Go.Law
end

section
/- What was put in columns is put together again as it was. -/
set_option linter.unusedVariables false
set_option linter.unusedSimpArgs false
set_option linter.unusedSectionVars false
namespace Go.Law
open Go.Am Go.Fn

/-- what is still to be taken of a column -/
def cur (T : TRows) (pos : List Nat) (j : Nat) : List TTriple := match T[j]?, pos[j]? with
  | some x, some p => x.drop p
  | _, _ => []
theorem nxt_cur (T : TRows) (pos : List Nat) (j : Nat) : nxt T pos j = (cur T pos j).head? := by
  unfold nxt cur
  cases T[j]? with
  | none => rfl
  | some x =>
    cases pos[j]? with
    | none => rfl
    | some p => simp only; rw [List.head?_drop]

theorem tk_cur {T : TRows} {pos : List Nat} {j : Nat} {rep def_ : Int} {v : TVal} {r : List TTriple} (hp : PosOk T pos) (h : cur T pos j = (rep, def_, v, ()) :: r) : ∃ q, tk T rep def_ pos j = some (v, q) ∧ PosOk T q ∧ cur T q j = r ∧ ∀ i, i ≠ j → cur T q i = cur T pos i := by
  have hn : nxt T pos j = some (rep, def_, v, ()) := by rw [nxt_cur, h]; rfl
  have htk : ∃ q, tk T rep def_ pos j = some (v, q) := by
    unfold tk
    rw [hn]
    simp only [and_self, if_true]
    exact ⟨_, rfl⟩
  obtain ⟨q, hq⟩ := htk
  obtain ⟨x, p, e1, e2, e3, e4, e5, _⟩ := tk_some hq hp
  refine ⟨q, hq, e5.ok, ?_, fun i hi => ?_⟩
  · have hc : cur T pos j = x.drop p := by unfold cur; rw [e1, e2]
    have hc2 : cur T q j = x.drop (p + 1) := by
      unfold cur
      rw [e1, e4, List.getElem?_set_self (List.getElem?_eq_some_iff.1 e2).1]
    rw [hc2, ← List.drop_drop, ← hc, h]
    rfl
  · unfold cur
    rw [e4, List.getElem?_set_ne (fun hh => hi hh.symm)]

theorem first_leaf {s : List TCol} : ∀ (d a nx : Nat), SubC s d a nx → ∃ L c, a ≤ L ∧ L < nx ∧ s[L]? = some c ∧ c.2.1 ≠ 7 ∧ lnum s L = lnum s a
  | 0, _, _, h => h.elim
  | d + 1, a, nx, h => by
    have hlt := SubC_lt _ _ _ h
    obtain ⟨c, hc, hco, _, hp⟩ := h
    by_cases h7 : c.2.1 = 7
    · have hm0 : 0 < c.2.2.2.1 := by
        unfold colOk at hco
        rw [h7, tyOk_7] at hco
        simp at hco
        exact hco.1
      obtain ⟨m, hm⟩ : ∃ m, c.2.2.2.1.toNat = m + 1 := ⟨c.2.2.2.1.toNat - 1, by omega⟩
      rw [hm] at hp
      obtain ⟨q, mid, _, _, q3, q4⟩ := hp
      have hmn := PartsC_nx (SubC_lt d) _ _ _ _ q4
      obtain ⟨L, cL, l1, l2, l3, l4, l5⟩ := first_leaf d (a + 1) mid q3
      exact ⟨L, cL, by omega, by omega, l3, l4, by rw [l5, lnum_group hc h7]⟩
    · exact ⟨a, c, Nat.le_refl _, hlt, hc, h7, rfl⟩

abbrev LeafIn (s : List TCol) (a nx L : Nat) : Prop := a ≤ L ∧ L < nx ∧ ∃ c, s[L]? = some c ∧ c.2.1 ≠ 7
/-- the columns hold what is come to, and then the rest -/
def Hold (s : List TCol) (T : TRows) (pos : List Nat) (a nx : Nat) (X : List Ev) (rest : Nat → List TTriple) : Prop := ∀ L, LeafIn s a nx L → cur T pos (lnum s L) = (evAt L X).map trip ++ rest L
def Foll (s : List TCol) (a nx : Nat) (deep : Int) (rest : Nat → List TTriple) : Prop := ∀ L, LeafIn s a nx L → ∀ t, (rest L).head? = some t → t.1 ≤ deep
def Same (s : List TCol) (T : TRows) (pos q : List Nat) (a nx : Nat) : Prop := ∀ j, (∀ L, LeafIn s a nx L → lnum s L ≠ j) → cur T q j = cur T pos j
theorem Same.at {s : List TCol} {T : TRows} {pos q : List Nat} {a nx : Nat} (h : Same s T pos q a nx) {L : Nat} (hL : ∃ c, s[L]? = some c ∧ c.2.1 ≠ 7) (hout : L < a ∨ nx ≤ L) : cur T q (lnum s L) = cur T pos (lnum s L) := by
  obtain ⟨c, hc, h7⟩ := hL
  refine h _ fun L' hL' => ?_
  obtain ⟨h1, h2, c', hc', h7'⟩ := hL'
  intro hh
  have := lnum_inj hc' hc h7' h7 hh
  omega
theorem Same.trans {s : List TCol} {T : TRows} {p q r : List Nat} {a nx : Nat} (h1 : Same s T p q a nx) (h2 : Same s T q r a nx) : Same s T p r a nx := fun j hj => (h2 j hj).trans (h1 j hj)
theorem Same.sub {s : List TCol} {T : TRows} {p q : List Nat} {a nx b mx : Nat} (h : Same s T p q b mx) (h1 : a ≤ b) (h2 : mx ≤ nx) : Same s T p q a nx := fun j hj => h j fun L hL => hj L ⟨by have := hL.1; omega, by have := hL.2.1; omega, hL.2.2⟩

/-- what it means that a part is put together again -/
def Back (s : List TCol) (T : TRows) (a nx : Nat) (ev : EvR) (V : List TVal) (deep : Int) (r : List Nat → AR) : Prop := ∀ X W, ev = some (X, W) → ∀ pos rest, PosOk T pos → Hold s T pos a nx X rest → Foll s a nx deep rest →
  ∃ Y q, r pos = some (Y, q, false) ∧ V = Y ++ W ∧ PosOk T q ∧ (∀ L, LeafIn s a nx L → cur T q (lnum s L) = rest L) ∧ Same s T pos q a nx

theorem miss_back {s : List TCol} {T : TRows} {a nx : Nat} (hnx : nx ≤ s.length) (rep def_ : Int) (rest : Nat → List TTriple) : ∀ (n i : Nat) (pos : List Nat), i + n = nx → a ≤ i → PosOk T pos → (∀ L, LeafIn s i nx L → cur T pos (lnum s L) = (rep, def_, zv, ()) :: rest L) →
    ∃ q, tkAll T rep def_ (lnum s nx - lnum s i) (lnum s i) pos = some q ∧ PosOk T q ∧ (∀ L, LeafIn s i nx L → cur T q (lnum s L) = rest L) ∧ Same s T pos q i nx
  | 0, i, pos, hi, ha, hp, h => by
    obtain rfl : i = nx := by omega
    rw [Nat.sub_self]
    exact ⟨pos, rfl, hp, fun L hL => by have := hL.1; have := hL.2.1; omega, fun j _ => rfl⟩
  | n + 1, i, pos, hi, ha, hp, h => by
    have hc := List.getElem?_eq_getElem (show i < s.length by omega)
    generalize s[i]'_ = c at hc
    by_cases h7 : c.2.1 = 7
    · obtain ⟨q, q1, q2, q3, q4⟩ := miss_back (a := a) hnx rep def_ rest n (i + 1) pos (by omega) (by omega) hp (fun L hL => h L ⟨by have := hL.1; omega, hL.2.1, hL.2.2⟩)
      rw [lnum_group hc h7] at q1
      refine ⟨q, q1, q2, fun L hL => ?_, q4.sub (by omega) (Nat.le_refl _)⟩
      rcases Nat.eq_or_lt_of_le hL.1 with rfl | hl
      · obtain ⟨_, _, c', hc', h7'⟩ := hL
        rw [hc] at hc'
        cases hc'
        exact absurd h7 h7'
      · exact q3 L ⟨by omega, hL.2.1, hL.2.2⟩
    · have hle := lnum_mono s (show i + 1 ≤ nx by omega)
      rw [lnum_leaf hc h7] at hle
      obtain ⟨p, p1, p2, p3, p4⟩ := tk_cur hp (h i ⟨Nat.le_refl _, by omega, c, hc, h7⟩)
      obtain ⟨q, q1, q2, q3, q4⟩ := miss_back (a := a) hnx rep def_ rest n (i + 1) p (by omega) (by omega) p2 (fun L hL => by
        obtain ⟨l1, l2, c', hc', h7'⟩ := hL
        rw [p4 _ (fun hh => by have := lnum_inj hc' hc h7' h7 hh; omega)]
        exact h L ⟨by omega, l2, c', hc', h7'⟩)
      rw [lnum_leaf hc h7] at q1
      rw [show lnum s nx - lnum s i = (lnum s nx - (lnum s i + 1)) + 1 by omega]
      simp only [tkAll, p1]
      refine ⟨q, q1, q2, fun L hL => ?_, fun j hj => ?_⟩
      · rcases Nat.eq_or_lt_of_le hL.1 with rfl | hl
        · rw [q4.at ⟨c, hc, h7⟩ (.inl (by omega)), p3]
        · exact q3 L ⟨by omega, hL.2.1, hL.2.2⟩
      · rw [q4 j (fun L hL => hj L ⟨by have := hL.1; omega, hL.2.1, hL.2.2⟩), p4 j (fun hh => hj i ⟨Nat.le_refl _, by omega, c, hc, h7⟩ hh.symm)]

theorem items_back {s : List TCol} {T : TRows} {d a nx : Nat} (hd : d ≤ 6) (hsub : SubC s d a nx) {F : List TVal → EvR} {C : List Nat → AR} {deep : Int}
    (hF : ∀ V X W, F V = some (X, W) → ∀ L, LeafIn s a nx L → HeadRep deep deep (evAt L X)) (hB : ∀ V, Back s T a nx (F V) V deep C) : ∀ (m : Nat) (V : List TVal) (X : List Ev) (W : List TVal) (f : Nat) (pos : List Nat) (rest : Nat → List TTriple), m < f → evItems F m V = some (X, W) → PosOk T pos → Hold s T pos a nx X rest → Foll s a nx (deep - 1) rest →
    ∃ Y q, aRep T (lnum s a) deep C f pos = some (m, Y, q, false) ∧ V = Y ++ W ∧ PosOk T q ∧ (∀ L, LeafIn s a nx L → cur T q (lnum s L) = rest L) ∧ Same s T pos q a nx
  | 0, V, X, W, f, pos, rest, hf, he, hp, hh, hfo => by
    obtain ⟨f, rfl⟩ : ∃ q, f = q + 1 := ⟨f - 1, by omega⟩
    simp only [evItems, Option.some.injEq, Prod.mk.injEq] at he
    obtain ⟨rfl, rfl⟩ := he
    obtain ⟨L0, c0, l1, l2, l3, l4, l5⟩ := first_leaf d a nx hsub
    have hcur := hh L0 ⟨l1, l2, c0, l3, l4⟩
    have hn : nxt T pos (lnum s a) = (rest L0).head? := by
      rw [nxt_cur, ← l5, hcur]
      rfl
    have hfin : ∀ L, LeafIn s a nx L → cur T pos (lnum s L) = rest L := fun L hL => by
      have := hh L hL
      simpa [evAt] using this
    refine ⟨[], pos, ?_, rfl, hp, hfin, fun j _ => rfl⟩
    simp only [aRep, hn]
    cases hr : (rest L0).head? with
    | none => rfl
    | some t =>
      have := hfo L0 ⟨l1, l2, c0, l3, l4⟩ t hr
      simp only
      rw [if_neg (by omega)]
  | m + 1, V, X, W, f, pos, rest, hf, he, hp, hh, hfo => by
    obtain ⟨f, rfl⟩ : ∃ q, f = q + 1 := ⟨f - 1, by omega⟩
    simp only [evItems] at he
    obtain ⟨x, y, U, g1, g2, rfl⟩ := evPair_some he
    have hhead : ∀ L, LeafIn s a nx L → ∃ e r, evAt L x = e :: r ∧ e.rep = deep := fun L hL => by
      obtain ⟨e, r, e1, e2, _⟩ := hF V x U g1 L hL
      exact ⟨e, r, e1, e2⟩
    have hy : ∀ L, LeafIn s a nx L → ∀ t, (((evAt L y).map trip) ++ rest L).head? = some t → t.1 ≤ deep := by
      intro L hL t ht
      rcases items_rep (L := L) (deep := deep) (fun V X W h => hF V X W h L hL) m U y W g2 with ⟨_, rfl⟩ | ⟨_, e, r, f1, f2, _⟩
      · have := hfo L hL t (by simpa [evAt] using ht)
        omega
      · rw [f1] at ht
        simp only [List.map_cons, List.cons_append, List.head?_cons, Option.some.injEq] at ht
        subst ht
        show e.rep ≤ deep
        omega
    obtain ⟨Y1, p, b1, b2, b3, b4, b5⟩ := hB V x U g1 pos (fun L => (evAt L y).map trip ++ rest L) hp (fun L hL => by
      have := hh L hL
      rw [evAt_append, List.map_append, List.append_assoc] at this
      exact this) hy
    obtain ⟨Y2, q, c1, c2, c3, c4, c5⟩ := items_back hd hsub hF hB m U y W f p rest (by omega) g2 b3 (fun L hL => b4 L hL) hfo
    obtain ⟨L0, c0, l1, l2, l3, l4, l5⟩ := first_leaf d a nx hsub
    obtain ⟨e, r, e1, e2⟩ := hhead L0 ⟨l1, l2, c0, l3, l4⟩
    have hn : nxt T pos (lnum s a) = some (trip e) := by
      rw [nxt_cur, ← l5, hh L0 ⟨l1, l2, c0, l3, l4⟩, evAt_append, e1]
      rfl
    refine ⟨Y1 ++ Y2, q, ?_, by rw [b2, c2, List.append_assoc], c3, c4, b5.trans c5⟩
    simp only [aRep, hn]
    rw [if_pos (show (trip e).1 = deep from e2), b1]
    simp only [c1, Bool.or_self]

theorem part_back {s : List TCol} {T : TRows} {d a nx : Nat} (hd : d ≤ 6) (hnx : nx ≤ s.length) (hsub : SubC s d a nx) {C : Int → Int → Int → List TVal → EvR} {A : Int → Int → Int → List Nat → AR}
    (hR : ∀ rep def_ deep V X W, C rep def_ deep V = some (X, W) → ∀ L, LeafIn s a nx L → HeadRep rep deep (evAt L X)) (hO : ∀ rep def_ deep V, EvOks s a nx def_ (C rep def_ deep V)) (hB : ∀ rep def_ deep V, Back s T a nx (C rep def_ deep V) V deep (A rep def_ deep)) (rep def_ deep : Int) (V : List TVal) :
    Back s T a nx (evPart s C nx a rep def_ deep V) V deep (aPart T s A nx a rep def_ deep) := by
  intro X W he pos rest hp hh hfo
  obtain ⟨L0, c0, l1, l2, l3, l4, l5⟩ := first_leaf d a nx hsub
  have hL0 : LeafIn s a nx L0 := ⟨l1, l2, c0, l3, l4⟩
  have hlt := SubC_lt _ _ _ hsub
  unfold evPart at he
  unfold aPart
  split at he
  · cases he
  · rename_i c hc
    rw [hc]
    simp only
    split at he
    · rename_i h0
      rw [if_pos h0]
      exact hB rep def_ deep V X W he pos rest hp hh hfo
    · rename_i h0
      rw [if_neg h0]
      split at he
      · cases he
      · rename_i v V
        have hvz : ∀ most : Int, cbad v most = false → v = (v.1, (⟨#[]⟩ : ByteArray), ()) := fun most hb => by
          have := cbad_text hb
          obtain ⟨a, b, ⟨⟩⟩ := v
          simp only at this
          rw [this]
        have missing : v.1 = 0 → v = (v.1, (⟨#[]⟩ : ByteArray), ()) → some (miss s rep def_ (nx - a) a, V) = some (X, W) →
            ∃ Y q, (match nxt T pos (lnum s a) with
              | none => none
              | some t => if t.2.1 ≤ def_ then (match tkAll T rep def_ (lnum s nx - lnum s a) (lnum s a) pos with
                  | none => none
                  | some q => some ([zv], q, false))
                else if c.2.2.1 = 2 then (match A rep (def_ + 1) (deep + 1) pos with
                  | none => none
                  | some (x, p, l) => match aRep T (lnum s a) (deep + 1) (A (deep + 1) (def_ + 1) (deep + 1)) 3000 p with
                    | none => none
                    | some (n, y, q, m) => some ((((n + 1 : Nat) : Int), ⟨#[]⟩, ()) :: (x ++ y), q, l || m || decide (20 < n + 1)))
                else (match A rep (def_ + 1) deep pos with
                  | none => none
                  | some (x, p, l) => some ((1, ⟨#[]⟩, ()) :: x, p, l))) = some (Y, q, false) ∧ v :: V = Y ++ W ∧ PosOk T q ∧ (∀ L, LeafIn s a nx L → cur T q (lnum s L) = rest L) ∧ Same s T pos q a nx := by
          intro hv0 hvv he
          simp only [Option.some.injEq, Prod.mk.injEq] at he
          obtain ⟨rfl, rfl⟩ := he
          have hcur : ∀ L, LeafIn s a nx L → cur T pos (lnum s L) = (rep, def_, zv, ()) :: rest L := fun L hL => by
            obtain ⟨m1, m2, c', m3, m4⟩ := hL
            rw [hh L ⟨m1, m2, c', m3, m4⟩, miss_at m3 m4 (nx - a) a m1 (by omega)]
            rfl
          obtain ⟨q, q1, q2, q3, q4⟩ := miss_back (a := a) hnx rep def_ rest (nx - a) a pos (by omega) (Nat.le_refl _) hp hcur
          have hn : nxt T pos (lnum s a) = some (rep, def_, zv, ()) := by rw [nxt_cur, ← l5, hcur L0 hL0]; rfl
          rw [hn]
          simp only
          rw [if_pos (Int.le_refl _), q1]
          refine ⟨[zv], q, rfl, ?_, q2, q3, q4⟩
          rw [hvv, hv0]; rfl
        have there : ∀ (x : List Ev) (dd : Int) (VV U : List TVal) (dp : Int), C rep dd dp VV = some (x, U) → def_ < dd → (∃ Z, X = x ++ Z) → ∃ t, nxt T pos (lnum s a) = some t ∧ ¬ t.2.1 ≤ def_ := by
          intro x dd VV U dp hC hdd hZ
          obtain ⟨Z, rfl⟩ := hZ
          obtain ⟨e, r, e1, e2, _⟩ := hR _ _ _ _ _ _ hC L0 hL0
          have hmem : e ∈ x := (evAt_mem (show e ∈ evAt L0 x by rw [e1]; exact List.mem_cons_self ..)).1
          have hge := (hO _ _ _ _ _ _ hC e hmem).ge
          refine ⟨trip e, ?_, ?_⟩
          · rw [nxt_cur, ← l5, hh L0 hL0, evAt_append, e1]; rfl
          · show ¬ e.def_ ≤ def_
            omega
        split at he
        · rename_i h2
          split at he
          · cases he
          · rename_i hb
            have hbf : cbad v 20 = false := by simpa using hb
            have hvv := hvz 20 hbf
            have hcb := cbad_false hbf
            split at he
            · rename_i hv0
              exact missing hv0 hvv he
            · rename_i hv0
              obtain ⟨n, hn⟩ : ∃ n : Nat, v.1 = ((n + 1 : Nat) : Int) := ⟨v.1.toNat - 1, by omega⟩
              rw [hn] at he
              have hnn : (((n + 1 : Nat) : Int)).toNat - 1 = n := by rw [Int.toNat_natCast]; omega
              rw [hnn] at he
              obtain ⟨x, y, U, g1, g2, rfl⟩ := evPair_some he
              obtain ⟨t, t1, t2⟩ := there x (def_ + 1) V U (deep + 1) g1 (by omega) ⟨y, rfl⟩
              have hy : Foll s a nx (deep + 1) (fun L => (evAt L y).map trip ++ rest L) := by
                intro L hL t ht
                simp only at ht
                rcases items_rep (L := L) (deep := deep + 1) (fun V X W h => hR _ _ _ V X W h L hL) n U y W g2 with ⟨_, rfl⟩ | ⟨_, e, r, f1, f2, _⟩
                · have := hfo L hL t (by simpa [evAt] using ht)
                  omega
                · rw [f1] at ht
                  simp only [List.map_cons, List.cons_append, List.head?_cons, Option.some.injEq] at ht
                  subst ht
                  show e.rep ≤ deep + 1
                  omega
              obtain ⟨Y1, p, b1, b2, b3, b4, b5⟩ := hB rep (def_ + 1) (deep + 1) V x U g1 pos (fun L => (evAt L y).map trip ++ rest L) hp (fun L hL => by
                have := hh L hL
                rw [evAt_append, List.map_append, List.append_assoc] at this
                exact this) hy
              obtain ⟨Y2, q, c1, c2, c3, c4, c5⟩ := items_back hd hsub (F := C (deep + 1) (def_ + 1) (deep + 1)) (C := A (deep + 1) (def_ + 1) (deep + 1)) (deep := deep + 1) (fun V X W h L hL => hR _ _ _ V X W h L hL) (fun V => hB _ _ _ V) n U y W 3000 p rest (by omega) g2 b3 (fun L hL => b4 L hL) (fun L hL t ht => by have := hfo L hL t ht; omega)
              rw [t1]
              simp only
              rw [if_neg t2, if_pos h2, b1]
              simp only [c1]
              rw [show decide (20 < n + 1) = false from decide_eq_false (by omega)]
              refine ⟨_, q, rfl, ?_, c3, c4, b5.trans c5⟩
              rw [hvv, hn, b2, c2, List.cons_append, List.append_assoc]
        · rename_i h2
          split at he
          · cases he
          · rename_i hb
            have hbf : cbad v 1 = false := by simpa using hb
            have hvv := hvz 1 hbf
            have hcb := cbad_false hbf
            split at he
            · rename_i hv0
              exact missing hv0 hvv he
            · rename_i hv0
              have hv1 : v.1 = 1 := by omega
              obtain ⟨t, t1, t2⟩ := there X (def_ + 1) V W deep he (by omega) ⟨[], by simp⟩
              obtain ⟨Y, q, b1, b2, b3, b4, b5⟩ := hB rep (def_ + 1) deep V X W he pos rest hp hh hfo
              rw [t1]
              simp only
              rw [if_neg t2, if_neg h2, b1]
              refine ⟨_, q, rfl, ?_, b3, b4, b5⟩
              rw [hvv, hv1, b2, List.cons_append]

theorem partsRange {s : List TCol} {d : Nat} (hd : d ≤ 6) {nx : Nat} {rep def_ deep : Int} : ∀ {m pl : Nat} {names : List ByteArray} {V : List TVal} {X : List Ev} {W : List TVal}, PartsC (SubC s d) s m pl names nx → evParts (fun a V => evPart s (evC s d a) (endC s d a) a rep def_ deep V) (endC s d) m pl V = some (X, W) → ∀ e, e ∈ X → pl ≤ e.at_ ∧ e.at_ < nx := by
  intro m
  induction m with
  | zero =>
    intro pl names V X W hpp he e hm
    simp only [evParts, Option.some.injEq, Prod.mk.injEq] at he
    obtain ⟨rfl, rfl⟩ := he
    cases hm
  | succ m ih =>
    intro pl names V X W hpp he e hm
    obtain ⟨cp, mid, hcp, q2, q3, q4⟩ := hpp
    have hmn := PartsC_nx (SubC_lt d) _ _ _ _ q4
    have hlt' := SubC_lt _ _ _ q3
    have hend : endC s d pl = mid := endC_eq d q3 d (Nat.le_refl _)
    simp only [evParts] at he
    obtain ⟨x, y, U, g1, g2, rfl⟩ := evPair_some he
    rw [hend] at g1 g2
    rcases List.mem_append.1 hm with hm | hm
    · obtain ⟨r1, r2, _⟩ := evPart_ok hd q3 (fun rep def_ deep V => evC_ok d pl mid hd q3 rep def_ deep V) rep def_ deep V x U g1 e hm
      exact ⟨r1, by omega⟩
    · have := ih q4 g2 e hm
      exact ⟨by omega, this.2⟩

theorem evC_back {s : List TCol} {T : TRows} : ∀ (d a nx : Nat), d ≤ 6 → SubC s d a nx → nx ≤ s.length → ∀ (rep def_ deep : Int) (V : List TVal), Back s T a nx (evC s d a rep def_ deep V) V deep (aC T s d a rep def_ deep)
  | 0, _, _, _, h, _, _, _, _, _ => h.elim
  | d + 1, a, nx, hd, h, hnx, rep, def_, deep, V => by
    intro X W he pos rest hp hh hfo
    have hlt := SubC_lt _ _ _ h
    obtain ⟨c, hc, hco, _, hpp⟩ := h
    simp only [evC, hc] at he
    simp only [aC, hc]
    split at he
    · rename_i h7
      rw [if_pos h7]
      have key : ∀ (m pl : Nat) (names : List ByteArray) (V : List TVal) (X : List Ev) (W : List TVal) (pos : List Nat) (rest : Nat → List TTriple), PartsC (SubC s d) s m pl names nx → a + 1 ≤ pl → evParts (fun a V => evPart s (evC s d a) (endC s d a) a rep def_ deep V) (endC s d) m pl V = some (X, W) → PosOk T pos → Hold s T pos pl nx X rest → Foll s pl nx deep rest →
          (∀ e, e ∈ X → pl ≤ e.at_ ∧ e.at_ < nx) ∧ ∃ Y q, aParts (fun a pos => aPart T s (aC T s d a) (endC s d a) a rep def_ deep pos) (endC s d) m pl pos = some (Y, q, false) ∧ V = Y ++ W ∧ PosOk T q ∧ (∀ L, LeafIn s pl nx L → cur T q (lnum s L) = rest L) ∧ Same s T pos q pl nx := by
        intro m
        induction m with
        | zero =>
          intro pl names V X W pos rest hpp h1 he hp hh hfo
          have hpp : pl = nx := hpp
          simp only [evParts, Option.some.injEq, Prod.mk.injEq] at he
          obtain ⟨rfl, rfl⟩ := he
          exact ⟨fun e he => (by cases he), [], pos, rfl, rfl, hp, fun L hL => by have := hL.1; have := hL.2.1; omega, fun j _ => rfl⟩
        | succ m ih =>
          intro pl names V X W pos rest hpp h1 he hp hh hfo
          obtain ⟨cp, mid, hcp, q2, q3, q4⟩ := hpp
          have hmn := PartsC_nx (SubC_lt d) _ _ _ _ q4
          have hlt' := SubC_lt _ _ _ q3
          have hend : endC s d pl = mid := endC_eq d q3 d (Nat.le_refl _)
          simp only [evParts] at he
          obtain ⟨x, y, U, g1, g2, rfl⟩ := evPair_some he
          rw [hend] at g1 g2
          have hrange : ∀ e, e ∈ x → pl ≤ e.at_ ∧ e.at_ < mid := fun e he => by
            obtain ⟨r1, r2, _⟩ := evPart_ok (by omega) q3 (fun rep def_ deep V => evC_ok d pl mid (by omega) q3 rep def_ deep V) rep def_ deep V x U g1 e he
            exact ⟨r1, r2⟩
          have hyr : ∀ e, e ∈ y → mid ≤ e.at_ ∧ e.at_ < nx := partsRange (by omega) q4 g2
          have hpart := part_back (T := T) (show d ≤ 6 by omega) (by omega) q3 (C := evC s d pl) (A := aC T s d pl) (fun rep def_ deep V X W h L hL => by
              obtain ⟨m1, m2, c', m3, m4⟩ := hL
              exact evC_rep d pl mid (by omega) q3 rep def_ deep V X W h L c' m1 m2 m3 m4) (fun rep def_ deep V => evC_ok d pl mid (by omega) q3 rep def_ deep V) (fun rep def_ deep V => evC_back d pl mid (by omega) q3 (by omega) rep def_ deep V) rep def_ deep V
          obtain ⟨Y1, p, b1, b2, b3, b4, b5⟩ := hpart x U g1 pos rest hp (fun L hL => by
            have := hh L ⟨hL.1, by have := hL.2.1; omega, hL.2.2⟩
            rw [evAt_append, evAt_none (X := y) (fun e he => by have := hyr e he; have := hL.2.1; omega), List.append_nil] at this
            exact this) (fun L hL => hfo L ⟨hL.1, by have := hL.2.1; omega, hL.2.2⟩)
          obtain ⟨_, Y2, q, c1, c2, c3, c4, c5⟩ := ih mid _ U y W p rest q4 (by omega) g2 b3 (fun L hL => by
            rw [b5.at hL.2.2 (.inr hL.1)]
            have := hh L ⟨by have := hL.1; omega, hL.2.1, hL.2.2⟩
            rw [evAt_append, evAt_none (X := x) (fun e he => by have := hrange e he; have := hL.1; omega), List.nil_append] at this
            exact this) (fun L hL => hfo L ⟨by have := hL.1; omega, hL.2.1, hL.2.2⟩)
          refine ⟨fun e he => (List.mem_append.1 he).elim (fun h => by have := hrange e h; omega) (fun h => by have := hyr e h; omega), Y1 ++ Y2, q, ?_, by rw [b2, c2, List.append_assoc], c3, fun L hL => ?_, (b5.sub (Nat.le_refl _) hmn).trans (c5.sub (by omega) (Nat.le_refl _))⟩
          · simp only [aParts, hend, aSeq, b1, c1, Bool.or_self]
          · rcases Nat.lt_or_ge L mid with hl | hl
            · rw [c5.at hL.2.2 (.inl hl), b4 L ⟨hL.1, hl, hL.2.2⟩]
            · exact c4 L ⟨hl, hL.2.1, hL.2.2⟩
      obtain ⟨_, Y, q, k1, k2, k3, k4, k5⟩ := key c.2.2.2.1.toNat (a + 1) [] V X W pos rest hpp (Nat.le_refl _) he hp (fun L hL => hh L ⟨by have := hL.1; omega, hL.2.1, hL.2.2⟩) (fun L hL => hfo L ⟨by have := hL.1; omega, hL.2.1, hL.2.2⟩)
      refine ⟨Y, q, k1, k2, k3, fun L hL => ?_, k5.sub (by omega) (Nat.le_refl _)⟩
      rcases Nat.eq_or_lt_of_le hL.1 with rfl | hl
      · obtain ⟨_, _, c', hc', h7'⟩ := hL
        rw [hc] at hc'
        cases hc'
        exact absurd h7 h7'
      · exact k4 L ⟨by omega, hL.2.1, hL.2.2⟩
    · rename_i h7
      rw [if_neg h7]
      split at he
      · cases he
      · rename_i v V
        split at he
        · simp only [Option.some.injEq, Prod.mk.injEq] at he
          obtain ⟨rfl, rfl⟩ := he
          have hm0 : c.2.2.2.1.toNat = 0 := by
            unfold colOk at hco
            rw [beqF h7] at hco
            simp at hco
            omega
          rw [hm0] at hpp
          have hpp : a + 1 = nx := hpp
          subst hpp
          have hcur := hh a ⟨Nat.le_refl _, by omega, c, hc, h7⟩
          rw [show evAt a [(⟨a, true, rep, def_, v⟩ : Ev)] = [⟨a, true, rep, def_, v⟩] by simp [evAt]] at hcur
          obtain ⟨q, q1, q2, q3, q4⟩ := tk_cur hp hcur
          rw [q1]
          refine ⟨[v], q, rfl, rfl, q2, fun L hL => ?_, fun j hj => q4 j (fun hj2 => hj a ⟨Nat.le_refl _, by omega, c, hc, h7⟩ hj2.symm)⟩
          have : L = a := by have := hL.1; have := hL.2.1; omega
          subst this
          exact q3
        · cases he
end Go.Law
end

section
/- Draws: they come to an end, whatever the bytes, and what is drawn is within its bounds. -/
set_option linter.unusedVariables false
set_option linter.unusedSimpArgs false
namespace Go.Law
open Go.Am Go.Fn

def CurOk (c : TL1Cur) : Prop := 0 ≤ c.2.1 ∧ c.2.1 ≤ (c.1.length : Int) ∧ c.1.length ≤ 1048576

variable (k : Nat)

theorem byte_ok (c : TL1Cur) (hc : CurOk c) : ∃ v c', spec_l1Byte k c = some (v, c') ∧ 0 ≤ v ∧ v < 256 ∧ CurOk c' := by
  obtain ⟨h0, h1, h2⟩ := hc
  unfold spec_l1Byte spec_l1Byte.c6
  by_cases h : c.2.1 < (c.1.length : Int)
  · obtain ⟨x, hx, _⟩ := rdL_some h0 h
    simp only [decide_eq_true h, cond_true, hx, Option.bind_some]
    refine ⟨_, _, rfl, ?_, ?_, ?_, ?_, ?_⟩
    · simp only [and255]; omega
    · simp only [and255]; omega
    · show 0 ≤ IntKind.wrap .i64 (c.2.1 + 1)
      rw [w64 (by omega) (by omega)]; omega
    · show IntKind.wrap .i64 (c.2.1 + 1) ≤ (c.1.length : Int)
      rw [w64 (by omega) (by omega)]; omega
    · exact h2
  · simp only [decide_eq_false h, cond_false]
    refine ⟨_, _, rfl, ?_, ?_, h0, h1, h2⟩
    · simp only [and255]; omega
    · simp only [and255]; omega

theorem below_ok (n : Int) (hn : n < 9223372036854775808) (c : TL1Cur) (hc : CurOk c) : ∃ v c', spec_l1Below k n c = some (v, c') ∧ (n ≤ 0 → v = 0) ∧ (0 < n → 0 ≤ v ∧ v < n) ∧ CurOk c' := by
  unfold spec_l1Below
  by_cases h0 : n ≤ 0
  · simp only [decide_eq_true h0, cond_true]
    exact ⟨_, _, rfl, fun _ => rfl, fun h => by omega, hc⟩
  · have hne : decide (n ≠ 0) = true := decide_eq_true (by omega)
    simp only [decide_eq_false h0, cond_false, hne, cond_true]
    have fin : ∀ v : Int, 0 ≤ v → 0 ≤ Int.tmod v n ∧ Int.tmod v n < n := fun v hv => by
      rw [Int.tmod_eq_emod_of_nonneg hv]
      exact ⟨Int.emod_nonneg _ (by omega), Int.emod_lt_of_pos _ (by omega)⟩
    by_cases h256 : n ≤ 256
    · simp only [decide_eq_true h256, cond_true]
      obtain ⟨v, c', hv, v0, v1, hc'⟩ := byte_ok k c hc
      simp only [hv, Option.bind_some]
      exact ⟨_, _, rfl, fun h => by omega, fun _ => fin v v0, hc'⟩
    · simp only [decide_eq_false h256, cond_false]
      obtain ⟨v1, c1, hv1, a1, b1, hc1⟩ := byte_ok k c hc
      simp only [hv1, Option.bind_some]
      obtain ⟨v2, c2, hv2, a2, b2, hc2⟩ := byte_ok k c1 hc1
      simp only [hv2, Option.bind_some]
      obtain ⟨v3, c3, hv3, a3, b3, hc3⟩ := byte_ok k c2 hc2
      simp only [hv3, Option.bind_some]
      obtain ⟨v4, c4, hv4, a4, b4, hc4⟩ := byte_ok k c3 hc3
      simp only [hv4, Option.bind_some]
      rw [w64 (show -9223372036854775808 ≤ v1 * 16777216 by omega) (by omega), w64 (show -9223372036854775808 ≤ v2 * 65536 by omega) (by omega), w64 (show -9223372036854775808 ≤ v1 * 16777216 + v2 * 65536 by omega) (by omega),
        w64 (show -9223372036854775808 ≤ v3 * 256 by omega) (by omega), w64 (show -9223372036854775808 ≤ v1 * 16777216 + v2 * 65536 + v3 * 256 by omega) (by omega), w64 (show -9223372036854775808 ≤ v1 * 16777216 + v2 * 65536 + v3 * 256 + v4 by omega) (by omega)]
      exact ⟨_, _, rfl, fun h => by omega, fun _ => fin _ (by omega), hc4⟩

theorem pick_ok (l : List Int) (hl : 0 < l.length) (hl2 : l.length < 1000000) (c : TL1Cur) (hc : CurOk c) : ∃ v c', spec_l1PickInt k l c = some (v, c') ∧ v ∈ l ∧ CurOk c' := by
  unfold spec_l1PickInt
  obtain ⟨v, c', hv, _, h1, hc'⟩ := below_ok k (l.length : Int) (by omega) c hc
  obtain ⟨h1, h2⟩ := h1 (by omega)
  simp only [hv, Option.bind_some]
  obtain ⟨x, hx, hx2⟩ := rdL_some h1 h2
  simp only [hx, Option.bind_some]
  exact ⟨_, _, rfl, List.mem_of_getElem? hx2, hc'⟩

theorem once_ok (n : Int) (hn : n < 9223372036854775808) (c : TL1Cur) (hc : CurOk c) : ∃ v c', spec_l1Once k n c = some (v, c') ∧ CurOk c' := by
  unfold spec_l1Once
  obtain ⟨v, c', hv, _, _, hc'⟩ := below_ok k n hn c hc
  simp only [hv, Option.bind_some]
  exact ⟨_, _, rfl, hc'⟩

theorem bytesLoop_ok (t6 : Int) (h6 : t6 ≤ 1000000) : ∀ (m n : Nat) (i : Int) (c : TL1Cur) (acc : List Int), CurOk c → 0 ≤ i → t6 - i ≤ m → m < n → acc.length + m ≤ 4000000 → (∀ x, x ∈ acc → 0 ≤ x ∧ x < 256) →
    ∃ c' out, spec_l1DrawBytes.l4 k n t6 i c acc = some ((), (c', out)) ∧ CurOk c' ∧ out.length ≤ acc.length + m ∧ ∀ x, x ∈ out → 0 ≤ x ∧ x < 256 := by
  intro m
  induction m with
  | zero =>
    intro n i c acc hc hi hm hn ha hb
    obtain ⟨n, rfl⟩ : ∃ j, n = j + 1 := ⟨n - 1, by omega⟩
    simp only [spec_l1DrawBytes.l4, decide_eq_false (show ¬ i < t6 by omega), cond_false]
    exact ⟨_, _, rfl, hc, by omega, hb⟩
  | succ m ih =>
    intro n i c acc hc hi hm hn ha hb
    obtain ⟨n, rfl⟩ : ∃ j, n = j + 1 := ⟨n - 1, by omega⟩
    by_cases h : i < t6
    · obtain ⟨v, c1, hv, v0, v1, hc1⟩ := byte_ok k c hc
      simp only [spec_l1DrawBytes.l4, decide_eq_true h, cond_true, hv, Option.bind_some]
      rw [lim_ok (by simp; omega), cond_true, w8 v0 v1, w64 (by omega) (by omega)]
      obtain ⟨c', out, h1, h2, h3, h4⟩ := ih n (i + 1) c1 (acc ++ [v]) hc1 (by omega) (by omega) (by omega) (by simp; omega) (fun x hx => by
        rcases List.mem_append.1 hx with hx | hx
        · exact hb x hx
        · simp at hx; subst hx; exact ⟨v0, v1⟩)
      exact ⟨c', out, h1, h2, by simp at h3; omega, h4⟩
    · simp only [spec_l1DrawBytes.l4, decide_eq_false h, cond_false]
      exact ⟨_, _, rfl, hc, by omega, hb⟩

theorem drawBytes_ok (most : Nat) (hm : most < 900000) (hk : 1000000 ≤ k) (c : TL1Cur) (hc : CurOk c) : ∃ c' out, spec_l1DrawBytes k (most : Int) c = some ((), (c', out)) ∧ CurOk c' ∧ out.length ≤ most ∧ ∀ x, x ∈ out → 0 ≤ x ∧ x < 256 := by
  unfold spec_l1DrawBytes
  rw [w64 (by omega) (by omega)]
  obtain ⟨v, c1, hv, _, h1, hc1⟩ := below_ok k ((most : Int) + 1) (by omega) c hc
  obtain ⟨h1, h2⟩ := h1 (by omega)
  simp only [hv, Option.bind_some]
  obtain ⟨c', out, g1, g2, g3, g4⟩ := bytesLoop_ok k v (by omega) most k 0 c1 [] hc1 (by omega) (by omega) (by omega) (by simp; omega) (by simp)
  exact ⟨c', out, g1, g2, by simpa using g3, g4⟩

theorem drawText_ok (most : Nat) (hm : most < 900000) (hk : 1000000 ≤ k) (c : TL1Cur) (hc : CurOk c) : ∃ v c', spec_l4DrawText k (most : Int) c = some (v, c') ∧ CurOk c' ∧ v.size ≤ most := by
  unfold spec_l4DrawText
  obtain ⟨c', out, g1, g2, g3, g4⟩ := drawBytes_ok k most hm hk c hc
  simp only [g1, Option.bind_some]
  exact ⟨_, _, rfl, g2, by rw [intsStr_size]; exact g3⟩

theorem drawNum_ok (c : TL1Cur) (hc : CurOk c) : ∃ v c', spec_l2DrawNum k c = some (v, c') ∧ CurOk c' ∧ I64 v := by
  unfold spec_l2DrawNum
  obtain ⟨v1, c1, hv1, _, a1, hc1⟩ := below_ok k 1000000 (by omega) c hc
  have a1 := a1 (by omega)
  simp only [hv1, Option.bind_some]
  obtain ⟨v2, c2, hv2, _, a2, hc2⟩ := below_ok k 1000000 (by omega) c1 hc1
  have a2 := a2 (by omega)
  simp only [hv2, Option.bind_some]
  obtain ⟨v3, c3, hv3, _, a3, hc3⟩ := below_ok k 300 (by omega) c2 hc2
  have a3 := a3 (by omega)
  simp only [hv3, Option.bind_some]
  rw [w64 (show -9223372036854775808 ≤ 0 - v2 by omega) (by omega)]
  obtain ⟨v, c4, hv, hm, hc4⟩ := pick_ok k [0, 1, (-1), 63, 64, (-64), (-65), 127, 128, 16383, 16384, 2147483647, (-2147483648), 9223372036854775807, (-9223372036854775808), 4611686018427387904, v1, 0 - v2, v3] (by simp) (by simp) c3 hc3
  simp only [hv, Option.bind_some]
  refine ⟨_, _, rfl, hc4, ?_⟩
  simp only [List.mem_cons, List.not_mem_nil, or_false] at hm
  unfold I64
  omega

theorem newLoop_ok (t : List Int) (ht : t.length ≤ 1048576) : ∀ (m n : Nat) (h i : Int), 0 ≤ i → 4000 - i ≤ m → m < n →
    ∃ c, spec_l1New.l3 k n t h i = some ((), c) ∧ CurOk c := by
  intro m
  induction m with
  | zero =>
    intro n h i hi hm hn
    obtain ⟨n, rfl⟩ : ∃ j, n = j + 1 := ⟨n - 1, by omega⟩
    simp only [spec_l1New.l3, csf, decide_eq_false (show ¬ i < 4000 by omega), Bool.and_false, Option.bind_some, cond_false]
    exact ⟨_, rfl, Int.le_refl _, by simp, ht⟩
  | succ m ih =>
    intro n h i hi hm hn
    obtain ⟨n, rfl⟩ : ∃ j, n = j + 1 := ⟨n - 1, by omega⟩
    by_cases hb : i < (t.length : Int) ∧ i < 4000
    · obtain ⟨x, hx, _⟩ := rdL_some hi hb.1
      simp only [spec_l1New.l3, csf, decide_eq_true hb.1, decide_eq_true hb.2, Bool.and_self, Option.bind_some, cond_true, hx]
      rw [w64 (show -9223372036854775808 ≤ i + 1 by omega) (by omega)]
      exact ih n _ (i + 1) (by omega) (by omega) (by omega)
    · have : (decide (i < (t.length : Int)) && decide (i < 4000)) = false := by
        rw [Bool.eq_false_iff]; intro hh
        simp only [Bool.and_eq_true, decide_eq_true_eq] at hh
        exact hb hh
      simp only [spec_l1New.l3, csf, this, Option.bind_some, cond_false]
      exact ⟨_, rfl, Int.le_refl _, by simp, ht⟩

theorem new_ok (hk : 1000000 ≤ k) (t : List Int) (ht : t.length ≤ 1048576) : ∃ c, spec_l1New k t = some ((), c) ∧ CurOk c := by
  unfold spec_l1New
  exact newLoop_ok k t ht 4000 k _ 0 (by omega) (by omega) (by omega)
end Go.Law
end

section
/- Texts are picked. -/
set_option linter.unusedVariables false
set_option linter.unusedSimpArgs false
namespace Go.Law
open Go.Am Go.Fn
variable (k : Nat)

theorem pickS_ok (l : List ByteArray) (hl : 0 < l.length) (hl2 : l.length < 1000000) (c : TL1Cur) (hc : CurOk c) : ∃ v c', spec_l1Pick k l c = some (v, c') ∧ v ∈ l ∧ CurOk c' := by
  unfold spec_l1Pick
  obtain ⟨v, c', hv, _, h1, hc'⟩ := below_ok k (l.length : Int) (by omega) c hc
  obtain ⟨h1, h2⟩ := h1 (by omega)
  simp only [hv, Option.bind_some]
  obtain ⟨x, hx, hx2⟩ := rdL_some h1 h2
  simp only [hx, Option.bind_some]
  exact ⟨_, _, rfl, List.mem_of_getElem? hx2, hc'⟩

end Go.Law
end

section
/- A right value is drawn. -/
set_option linter.unusedVariables false
set_option linter.unusedSimpArgs false
namespace Go.Law
open Go.Am Go.Fn
variable (k : Nat)

def WfV (v : TVal) : Prop := I64 v.1 ∧ v.2.1.size ≤ 100

theorem i64z : I64 0 := ⟨by decide, by decide⟩

theorem e0 : (⟨#[]⟩ : ByteArray).size ≤ 100 := by decide

theorem drawRight_ok (hk : 1000000 ≤ k) (t : Int) (c : TL1Cur) (hc : CurOk c) : ∃ v c', spec_l6DrawRight k t c = some (v, c') ∧ WfV v ∧ CurOk c' := by
  unfold spec_l6DrawRight
  by_cases h0 : t = 0
  · rw [beqT h0, cond_true]
    obtain ⟨v1, c1, e1, _, a1, hc1⟩ := below_ok k 2 (by omega) c hc
    have a1 := a1 (by omega)
    simp only [e1, Option.bind_some]
    exact ⟨_, _, rfl, ⟨⟨by omega, by omega⟩, e0⟩, hc1⟩
  rw [beqF h0, cond_false]
  by_cases h1 : t = 1
  · rw [beqT h1, cond_true]
    obtain ⟨v1, c1, e1, hc1⟩ := once_ok k 6 (by omega) c hc
    simp only [e1, Option.bind_some]
    cases v1 with
    | true =>
      simp only [cond_true]
      obtain ⟨v2, c2, e2, m2, hc2⟩ := pick_ok k [2147483647, (-2147483648), 0] (by simp) (by simp) c1 hc1
      simp only [e2, Option.bind_some]
      simp only [List.mem_cons, List.not_mem_nil, or_false] at m2
      exact ⟨_, _, rfl, ⟨⟨by omega, by omega⟩, e0⟩, hc2⟩
    | false =>
      simp only [cond_false]
      obtain ⟨v2, c2, e2, _, a2, hc2⟩ := below_ok k 40 (by omega) c1 hc1
      have a2 := a2 (by omega)
      simp only [e2, Option.bind_some]
      rw [w64 (by omega) (by omega)]
      exact ⟨_, _, rfl, ⟨⟨by omega, by omega⟩, e0⟩, hc2⟩
  rw [beqF h1, cond_false]
  by_cases h6 : t = 6
  · rw [beqT h6, cond_true]
    obtain ⟨v1, c1, e1, hc1⟩ := once_ok k 3 (by omega) c hc
    simp only [e1, Option.bind_some]
    cases v1 with
    | true =>
      simp only [cond_true]
      obtain ⟨v2, c2, e2, m2, hc2⟩ := pickS_ok k [(⟨#[]⟩ : ByteArray), (⟨#[97]⟩ : ByteArray), (⟨#[97, 98]⟩ : ByteArray), (⟨#[97, 98, 99]⟩ : ByteArray), (⟨#[97, 98, 100]⟩ : ByteArray), (⟨#[98]⟩ : ByteArray), (⟨#[97, 97]⟩ : ByteArray)] (by simp) (by simp) c1 hc1
      simp only [e2, Option.bind_some]
      refine ⟨_, _, rfl, ⟨i64z, ?_⟩, hc2⟩
      simp only [List.mem_cons, List.not_mem_nil, or_false] at m2
      rcases m2 with rfl | rfl | rfl | rfl | rfl | rfl | rfl <;> decide
    | false =>
      simp only [cond_false]
      obtain ⟨v2, c2, e2, hc2, m2⟩ := drawText_ok k 6 (by omega) hk c1 hc1
      have e2 : spec_l4DrawText k 6 c1 = some (v2, c2) := e2
      simp only [e2, Option.bind_some]
      exact ⟨_, _, rfl, ⟨i64z, by show v2.size ≤ 100; omega⟩, hc2⟩
  rw [beqF h6, cond_false]
  by_cases h5 : t = 5
  · rw [beqT h5, cond_true]
    obtain ⟨v1, c1, e1, _, a1, hc1⟩ := below_ok k 9 (by omega) c hc
    have a1 := a1 (by omega)
    simp only [e1, Option.bind_some]
    obtain ⟨v2, c2, e2, hc2, i2⟩ := drawNum_ok k c1 hc1
    simp only [e2, Option.bind_some]
    obtain ⟨v3, c3, e3, m3, hc3⟩ := pick_ok k [0, (-9223372036854775808), 4607182418800017408, (-4616189618054758400), 9221120237041090560, (-2251799813685248), v1, v2] (by simp) (by simp) c2 hc2
    simp only [e3, Option.bind_some]
    refine ⟨_, _, rfl, ⟨?_, e0⟩, hc3⟩
    simp only [List.mem_cons, List.not_mem_nil, or_false] at m3
    obtain ⟨i2a, i2b⟩ := i2
    exact ⟨by show _ ≤ v3; omega, by show v3 < _; omega⟩
  · rw [beqF h5, cond_false]
    obtain ⟨v1, c1, e1, hc1⟩ := once_ok k 2 (by omega) c hc
    simp only [e1, Option.bind_some]
    cases v1 with
    | true =>
      simp only [cond_true]
      obtain ⟨v2, c2, e2, _, a2, hc2⟩ := below_ok k 30 (by omega) c1 hc1
      have a2 := a2 (by omega)
      simp only [e2, Option.bind_some]
      rw [w64 (by omega) (by omega)]
      exact ⟨_, _, rfl, ⟨⟨by omega, by omega⟩, e0⟩, hc2⟩
    | false =>
      simp only [cond_false]
      obtain ⟨v2, c2, e2, hc2, i2⟩ := drawNum_ok k c1 hc1
      simp only [e2, Option.bind_some]
      exact ⟨_, _, rfl, ⟨i2, e0⟩, hc2⟩

end Go.Law
end

section
/- A schema is drawn, whatever the bytes. -/
set_option linter.unusedVariables false
set_option linter.unusedSimpArgs false
namespace Go.Law
open Go.Am Go.Fn
variable (k : Nat)

def WfD (c : TCol) : Prop := c.1.size ≤ 100 ∧ I64 c.2.1 ∧ I64 c.2.2.1 ∧ I64 c.2.2.2.1
def WfDs (l : List TCol) : Prop := ∀ c, c ∈ l → WfD c

theorem WfDs.app {a b : List TCol} (h : WfDs a) (h' : WfDs b) : WfDs (a ++ b) := fun n hn => (List.mem_append.1 hn).elim (h n) (h' n)
theorem WfDs.one {n : TCol} (h : WfD n) : WfDs [n] := fun m hm => by simp at hm; subst hm; exact h
theorem WfDs.set {l : List TCol} {i : Nat} {n : TCol} (h : WfDs l) (hn : WfD n) : WfDs (l.set i n) := fun m hm => by
  rcases List.mem_or_eq_of_mem_set hm with hm | rfl
  · exact h m hm
  · exact hn
theorem WfDs.nil : WfDs [] := fun m hm => (List.not_mem_nil hm).elim

theorem wfD_mk {t r m : Int} {s : ByteArray} (h0 : s.size ≤ 100) (h1 : I64 t) (h2 : I64 r) (h3 : I64 m) : WfD (s, t, r, m, ()) := ⟨h0, h1, h2, h3⟩
theorem i64s {x : Int} (h0 : -1000000000 ≤ x) (h1 : x ≤ 1000000000) : I64 x := ⟨by omega, by omega⟩

def szc : Nat → Nat
  | 0 => 1
  | d + 1 => 1 + 3 * szc d

theorem szc_pos (d : Nat) : 0 < szc d := by cases d <;> simp [szc] <;> omega
theorem szc_le {d : Nat} (h : d ≤ 3) : szc d ≤ 40 := by
  match d, h with
  | 0, _ => decide
  | 1, _ => decide
  | 2, _ => decide
  | 3, _ => decide

abbrev ColS (S : ByteArray → Int → TL1Cur → List TCol → Option (Unit × TL1Cur × List TCol)) (deep : Nat) : Prop :=
  ∀ (name : ByteArray) (c : TL1Cur) (acc : List TCol), (deep = 0 → eqS name ⟨#[]⟩ = false) → name.size ≤ 2 → CurOk c → WfDs acc → acc.length + szc deep ≤ 10000 →
    ∃ c' l', S name (deep : Int) c acc = some ((), (c', l')) ∧ CurOk c' ∧ WfDs l' ∧ acc.length < l'.length ∧ l'.length ≤ acc.length + szc deep

theorem colLoop (S : ByteArray → Int → TL1Cur → List TCol → Option (Unit × TL1Cur × List TCol)) (d : Nat) (hd : d ≤ 3) (ih : ColS S d) (many : Int) (hm : many ≤ 3) :
    ∀ (m n : Nat) (i : Int) (c : TL1Cur) (acc : List TCol), 0 ≤ i → many - i ≤ m → m < n → CurOk c → WfDs acc → acc.length + m * szc d ≤ 10000 →
    ∃ c' l', spec_l5DrawCol.l13 k S n ((d + 1 : Nat) : Int) many i c acc = some ((), (c', l')) ∧ CurOk c' ∧ WfDs l' ∧ acc.length ≤ l'.length ∧ l'.length ≤ acc.length + m * szc d := by
  intro m
  induction m with
  | zero =>
    intro n i c acc hi hmi hn hc ha hl
    obtain ⟨n, rfl⟩ : ∃ j, n = j + 1 := ⟨n - 1, by omega⟩
    simp only [spec_l5DrawCol.l13, decide_eq_false (show ¬ i < many by omega), cond_false]
    exact ⟨_, _, rfl, hc, ha, Nat.le_refl _, by omega⟩
  | succ m ihm =>
    intro n i c acc hi hmi hn hc ha hl
    obtain ⟨n, rfl⟩ : ∃ j, n = j + 1 := ⟨n - 1, by omega⟩
    have hsz : (m + 1) * szc d = m * szc d + szc d := by rw [Nat.add_mul]; simp
    by_cases h : i < many
    · obtain ⟨v, c1, e1, _, b1, hc1⟩ := below_ok k 4 (by omega) c hc
      have b1 := b1 (by omega)
      simp only [spec_l5DrawCol.l13, decide_eq_true h, cond_true, e1, Option.bind_some]
      have hdw : IntKind.wrap .i64 (((d + 1 : Nat) : Int) - 1) = (d : Int) := by rw [w64 (by omega) (by omega)]; omega
      rw [hdw]
      have hne : eqS (intsStr [IntKind.wrap .u8 (IntKind.wrap .i64 (97 + i)), IntKind.wrap .u8 (IntKind.wrap .i64 (97 + v))]) ⟨#[]⟩ = false := by
        rw [eqS_iff]
        refine decide_eq_false fun hh => ?_
        have := congrArg ByteArray.size hh
        rw [intsStr_size] at this
        cases this
      obtain ⟨c2, l2, e2, hc2, hw2, hl2, hl2'⟩ := ih _ c1 acc (fun _ => hne) (by rw [intsStr_size]; exact Nat.le_refl 2) hc1 ha (by omega)
      simp only [e2, Option.bind_some]
      rw [w64 (by omega) (by omega)]
      obtain ⟨c', l', g1, g2, g3, g4, g5⟩ := ihm n (i + 1) c2 l2 (by omega) (by omega) (by omega) hc2 hw2 (by omega)
      exact ⟨c', l', g1, g2, g3, by omega, by omega⟩
    · simp only [spec_l5DrawCol.l13, decide_eq_false h, cond_false]
      exact ⟨_, _, rfl, hc, ha, Nat.le_refl _, by omega⟩

theorem colStep (hk : 100 ≤ k) (deep : Nat) (hdeep : deep ≤ 3) (S : ByteArray → Int → TL1Cur → List TCol → Option (Unit × TL1Cur × List TCol)) (ih : ∀ d, d + 1 = deep → ColS S d) : ColS (spec_l5DrawCol.b k S) deep := by
  intro name c acc hname hsize hc ha hl
  have hp := szc_pos deep
  have z0 : I64 0 := i64s (by omega) (by omega)
  have z7 : I64 7 := i64s (by omega) (by omega)
  have hset : ∀ (x y : TCol), List.set (acc ++ [x]) (Int.toNat (acc.length : Int)) y = acc ++ [y] := fun x y => by
    rw [Int.toNat_natCast, List.set_append_right _ _ (Nat.le_refl _)]; simp
  have hget : ∀ (x : TCol), rdL (acc ++ [x]) (acc.length : Int) = some x := fun x => by
    rw [rdL_nat, List.getElem?_append_right (Nat.le_refl _)]; simp
  -- a leaf
  have leaf : ∀ (c : TL1Cur) (t r : Int), CurOk c → t ≠ 7 → I64 t → I64 r → ∃ c' l', spec_l5DrawCol.c4 k S name (deep : Int) c acc (name, t, r, 0, ()) = some ((), (c', l')) ∧ CurOk c' ∧ WfDs l' ∧ acc.length < l'.length ∧ l'.length ≤ acc.length + szc deep := by
    intro c t r hc ht h1 h2
    unfold spec_l5DrawCol.c4
    rw [lim_ok (by simp; omega), cond_true]
    simp only [bneT ht, cond_true]
    exact ⟨_, _, rfl, hc, ha.app (WfDs.one (wfD_mk (by omega) h1 h2 z0)), by simp, by simp; omega⟩
  -- a group
  have group : ∀ (c : TL1Cur) (r : Int), 0 < deep → CurOk c → I64 r → ∃ c' l', spec_l5DrawCol.c4 k S name (deep : Int) c acc (name, 7, r, 0, ()) = some ((), (c', l')) ∧ CurOk c' ∧ WfDs l' ∧ acc.length < l'.length ∧ l'.length ≤ acc.length + szc deep := by
    intro c r hd0 hc h2
    obtain ⟨d, rfl⟩ : ∃ d, deep = d + 1 := ⟨deep - 1, by omega⟩
    unfold spec_l5DrawCol.c4 spec_l5DrawCol.c12
    rw [lim_ok (by simp; omega), cond_true]
    obtain ⟨v, c1, e1, _, b1, hc1⟩ := below_ok k 3 (by omega) c hc
    have b1 := b1 (by omega)
    simp only [bneF rfl, cond_false, e1, Option.bind_some, hget, hset]
    rw [w64 (by omega) (by omega)]
    have hsz : szc (d + 1) = 1 + 3 * szc d := rfl
    have loop : ∀ y : TCol, WfD y → ∃ c' l', spec_l5DrawCol.l13 k S k ((d + 1 : Nat) : Int) (1 + v) 0 c1 (acc ++ [y]) = some ((), (c', l')) ∧ CurOk c' ∧ WfDs l' ∧ acc.length < l'.length ∧ l'.length ≤ acc.length + szc (d + 1) := by
      intro y hy
      obtain ⟨c', l', g1, g2, g3, g4, g5⟩ := colLoop k S d (by omega) (ih d rfl) (1 + v) (by omega) 3 k 0 c1 (acc ++ [y]) (by omega) (by omega) (by omega) hc1 (ha.app (WfDs.one hy)) (by simp; omega)
      simp at g4 g5
      exact ⟨c', l', g1, g2, g3, by omega, by omega⟩
    cases eqS name ⟨#[]⟩ with
    | true => simp only [cond_true]; exact loop _ (wfD_mk (by omega) z7 z0 (i64s (by omega) (by omega)))
    | false => simp only [cond_false]; exact loop _ (wfD_mk (by omega) z7 h2 (i64s (by omega) (by omega)))
  unfold spec_l5DrawCol.b
  obtain ⟨t, c1, e1, m1, hc1⟩ := pick_ok k [0, 1, 2, 5, 6] (by simp) (by simp) c hc
  simp only [List.mem_cons, List.not_mem_nil, or_false] at m1
  simp only [e1, Option.bind_some]
  obtain ⟨r, c2, e2, _, b2, hc2⟩ := below_ok k 3 (by omega) c1 hc1
  have b2 := b2 (by omega)
  simp only [e2, Option.bind_some]
  have hI : I64 t := i64s (by omega) (by omega)
  have hR : I64 r := i64s (by omega) (by omega)
  cases hn : eqS name ⟨#[]⟩ with
  | true =>
    simp only [cond_true]
    have : 0 < deep := by
      rcases Nat.eq_zero_or_pos deep with h | h
      · rw [hname h] at hn; cases hn
      · exact h
    exact group c2 r this hc2 hR
  | false =>
    simp only [cond_false]
    by_cases h : (deep : Int) > 0
    · simp only [decide_eq_true h, cond_true]
      obtain ⟨b, c3, e3, hc3⟩ := once_ok k 3 (by omega) c2 hc2
      simp only [e3, Option.bind_some]
      cases b with
      | true => simp only [cond_true]; exact group c3 r (by omega) hc3 hR
      | false => simp only [cond_false]; exact leaf c3 t r hc3 (by omega) hI hR
    · simp only [decide_eq_false h, cond_false]
      exact leaf c2 t r hc2 (by omega) hI hR

theorem drawCol_ok (hk : 100 ≤ k) : ∀ (deep D : Nat), deep ≤ 3 → deep < D → ColS (spec_l5DrawCol.rec k D) deep := by
  intro deep
  induction deep with
  | zero =>
    intro D hdeep hD
    obtain ⟨D, rfl⟩ : ∃ j, D = j + 1 := ⟨D - 1, by omega⟩
    exact colStep k hk 0 (by omega) _ (fun d h => by omega)
  | succ deep ihd =>
    intro D hdeep hD
    obtain ⟨D, rfl⟩ : ∃ j, D = j + 1 := ⟨D - 1, by omega⟩
    exact colStep k hk (deep + 1) hdeep _ (fun d h => by
      obtain rfl : d = deep := by omega
      exact ihd D (by omega) (by omega))

theorem wfSmall (hk : 1000 ≤ k) {s : List TCol} (h : WfDs s) : ∀ c, c ∈ s → c.1.size < k ∧ c.1.size < 1000000000 ∧ I64 c.2.2.2.1 := fun c hc => by
  obtain ⟨h0, _, _, h3⟩ := h c hc
  exact ⟨by omega, by omega, h3⟩

theorem dflt_ok (hk : 100 ≤ k) : spec_SchemaOk k [((⟨#[]⟩ : ByteArray), 7, 0, 1, ()), ((⟨#[97]⟩ : ByteArray), 2, 1, 0, ())] = some true := by
  obtain ⟨K, rfl⟩ : ∃ q, k = q + 100 := ⟨k - 100, by omega⟩
  kernel_rfl

theorem drawRightS_ok (hk : 1000 ≤ k) : ∀ (m n : Nat) (i : Int) (c : TL1Cur), CurOk c → 0 ≤ i → 9 - i ≤ m → m < n →
    ∃ c' l, spec_l5DrawRight.l2 k n i c = some ((), (c', l)) ∧ CurOk c' ∧ WfDs l ∧ 0 < l.length ∧ l.length ≤ 40 ∧ spec_SchemaOk k l = some true := by
  intro m
  induction m with
  | zero =>
    intro n i c hc hi hm hn
    obtain ⟨n, rfl⟩ : ∃ j, n = j + 1 := ⟨n - 1, by omega⟩
    simp only [spec_l5DrawRight.l2, decide_eq_false (show ¬ i < 9 by omega), cond_false]
    exact ⟨_, _, rfl, hc, (WfDs.one (wfD_mk (by decide) (i64s (by omega) (by omega)) (i64s (by omega) (by omega)) (i64s (by omega) (by omega)))).app (WfDs.one (wfD_mk (by decide) (i64s (by omega) (by omega)) (i64s (by omega) (by omega)) (i64s (by omega) (by omega)))), by simp, by simp, dflt_ok k (by omega)⟩
  | succ m ih =>
    intro n i c hc hi hm hn
    obtain ⟨n, rfl⟩ : ∃ j, n = j + 1 := ⟨n - 1, by omega⟩
    by_cases h : i < 9
    · obtain ⟨v, c1, e1, _, b1, hc1⟩ := below_ok k 3 (by omega) c hc
      have b1 := b1 (by omega)
      simp only [spec_l5DrawRight.l2, decide_eq_true h, cond_true, e1, Option.bind_some]
      rw [w64 (by omega) (by omega)]
      obtain ⟨d, hd⟩ : ∃ d : Nat, (d : Int) = 1 + v := ⟨(1 + v).toNat, by omega⟩
      rw [← hd]
      have hs := szc_le (show d ≤ 3 by omega)
      obtain ⟨c2, l, e2, hc2, hw, h1, h2⟩ := drawCol_ok k (by omega) d k (by omega) (by omega) ⟨#[]⟩ c1 [] (fun h => by omega) (by decide) hc1 WfDs.nil (by simp; omega)
      have e2 : spec_l5DrawCol k ⟨#[]⟩ (d : Int) c1 [] = some ((), (c2, l)) := e2
      obtain ⟨b, s1, _, _⟩ := schemaOk_eq k (by omega) l (wfSmall k hk hw)
      simp only [e2, Option.bind_some, s1]
      cases b with
      | true =>
        simp only [cond_true]
        exact ⟨_, _, rfl, hc2, hw, by simpa using h1, by simp at h2; omega, s1⟩
      | false =>
        simp only [cond_false]
        rw [w64 (by omega) (by omega)]
        exact ih n (i + 1) c2 hc2 (by omega) (by omega) (by omega)
    · simp only [spec_l5DrawRight.l2, decide_eq_false h, cond_false]
      exact ⟨_, _, rfl, hc, (WfDs.one (wfD_mk (by decide) (i64s (by omega) (by omega)) (i64s (by omega) (by omega)) (i64s (by omega) (by omega)))).app (WfDs.one (wfD_mk (by decide) (i64s (by omega) (by omega)) (i64s (by omega) (by omega)) (i64s (by omega) (by omega)))), by simp, by simp, dflt_ok k (by omega)⟩

theorem deepS_ok (many : Int) (hm : many ≤ 5) : ∀ (m n : Nat) (i : Int) (c : TL1Cur) (acc : List TCol), CurOk c → WfDs acc → 0 ≤ i → many - i ≤ m → m < n → acc.length + m ≤ 100 →
    ∃ c' l, spec_l5DrawSchema.l18 k n many i c acc = some ((), (c', l)) ∧ CurOk c' ∧ WfDs l ∧ l.length ≤ acc.length + m + 1 := by
  have z0 : I64 0 := i64s (by omega) (by omega)
  intro m
  induction m with
  | zero =>
    intro n i c acc hc ha hi hmi hn hl
    obtain ⟨n, rfl⟩ : ∃ j, n = j + 1 := ⟨n - 1, by omega⟩
    simp only [spec_l5DrawSchema.l18, decide_eq_false (show ¬ i < many by omega), cond_false, spec_l5DrawSchema.c22]
    rw [lim_ok (by simp; omega), cond_true]
    exact ⟨_, _, rfl, hc, ha.app (WfDs.one (wfD_mk (by decide) z0 z0 z0)), by simp⟩
  | succ m ih =>
    intro n i c acc hc ha hi hmi hn hl
    obtain ⟨n, rfl⟩ : ∃ j, n = j + 1 := ⟨n - 1, by omega⟩
    by_cases h : i < many
    · simp only [spec_l5DrawSchema.l18, decide_eq_true h, cond_true]
      rw [lim_ok (by simp; omega), cond_true, w64 (by omega) (by omega)]
      have ht : I64 (Int.tmod i 3) := by rw [Int.tmod_eq_emod_of_nonneg hi]; exact i64s (by omega) (by omega)
      obtain ⟨c', l, g1, g2, g3, g4⟩ := ih n (i + 1) c (acc ++ [((⟨#[103]⟩ : ByteArray), 7, Int.tmod i 3, 1, ())]) hc (ha.app (WfDs.one (wfD_mk (by decide) (i64s (by omega) (by omega)) ht (i64s (by omega) (by omega))))) (by omega) (by omega) (by omega) (by simp; omega)
      exact ⟨c', l, g1, g2, g3, by simp at g4; omega⟩
    · simp only [spec_l5DrawSchema.l18, decide_eq_false h, cond_false, spec_l5DrawSchema.c22]
      rw [lim_ok (by simp; omega), cond_true]
      exact ⟨_, _, rfl, hc, ha.app (WfDs.one (wfD_mk (by decide) z0 z0 z0)), by simp⟩

theorem drawSchema_ok (hk : 1000 ≤ k) (c : TL1Cur) (hc : CurOk c) : ∃ c' l, spec_l5DrawSchema k c = some ((), (c', l)) ∧ CurOk c' ∧ WfDs l ∧ l.length ≤ 100 := by
  have z0 : I64 0 := i64s (by omega) (by omega)
  unfold spec_l5DrawSchema spec_l5DrawRight
  obtain ⟨c1, l, e1, hc1, hw, hl0, hl, _⟩ := drawRightS_ok k hk 9 k 0 c hc (by omega) (by omega) (by omega)
  simp only [e1, Option.bind_some]
  obtain ⟨i, c2, e2, _, b2, hc2⟩ := below_ok k (l.length : Int) (by omega) c1 hc1
  obtain ⟨i0, i1⟩ := b2 (by omega)
  simp only [e2, Option.bind_some]
  obtain ⟨w, c3, e3, _, _, hc3⟩ := below_ok k 25 (by omega) c2 hc2
  simp only [e3, Option.bind_some]
  obtain ⟨y, hy, hy2⟩ := rdL_some i0 i1
  have hwy : WfD y := hw y (List.mem_of_getElem? hy2)
  have hls : ∀ z, (List.set l i.toNat z).length ≤ 100 := fun z => by simp; omega
  by_cases h0 : w = 0
  · obtain ⟨v, c4, e4, _, b4, hc4⟩ := below_ok k 9 (by omega) c3 hc3
    have b4 := b4 (by omega)
    simp only [beqT h0, cond_true, e4, Option.bind_some, hy, spec_l5DrawSchema.c22]
    exact ⟨_, _, rfl, hc4, hw.set (wfD_mk hwy.1 (i64s (by omega) (by omega)) hwy.2.2.1 hwy.2.2.2), hls _⟩
  simp only [beqF h0, cond_false]
  by_cases h1 : w = 1
  · obtain ⟨v, c4, e4, _, b4, hc4⟩ := below_ok k 5 (by omega) c3 hc3
    simp only [beqT h1, cond_true, e4, Option.bind_some, hy, spec_l5DrawSchema.c22]
    exact ⟨_, _, rfl, hc4, hw.set (wfD_mk hwy.1 hwy.2.1 ⟨w64_lo _, w64_hi _⟩ hwy.2.2.2), hls _⟩
  simp only [beqF h1, cond_false]
  by_cases h2 : w = 2
  · obtain ⟨v, c4, e4, _, b4, hc4⟩ := below_ok k 3 (by omega) c3 hc3
    simp only [beqT h2, cond_true, spec_l5DrawSchema.d9, e4, Option.bind_some, hy, spec_l5DrawSchema.c22]
    exact ⟨_, _, rfl, hc4, hw.set (wfD_mk hwy.1 hwy.2.1 hwy.2.2.1 ⟨w64_lo _, w64_hi _⟩), hls _⟩
  simp only [beqF h2, cond_false]
  by_cases h3 : w = 3
  · obtain ⟨v, c4, e4, b4, hc4⟩ := pickS_ok k [(⟨#[]⟩ : ByteArray), (⟨#[65]⟩ : ByteArray), (⟨#[97, 98]⟩ : ByteArray), (⟨#[97, 98, 99, 100, 101, 102, 103, 104, 105, 106, 107, 108, 109, 110, 111, 112, 113, 114, 115, 116]⟩ : ByteArray), (⟨#[97, 98, 99, 100, 101, 102, 103, 104, 105, 106, 107, 108, 109, 110, 111, 112, 113, 114, 115, 116, 117]⟩ : ByteArray)] (by simp) (by simp) c3 hc3
    have hv : v.size ≤ 100 := by
      simp only [List.mem_cons, List.not_mem_nil, or_false] at b4
      rcases b4 with rfl | rfl | rfl | rfl | rfl <;> decide
    simp only [beqT h3, cond_true, e4, Option.bind_some, hy, spec_l5DrawSchema.c22]
    exact ⟨_, _, rfl, hc4, hw.set (wfD_mk hv hwy.2.1 hwy.2.2.1 hwy.2.2.2), hls _⟩
  simp only [beqF h3, cond_false]
  by_cases h4 : w = 4
  · simp only [beqT h4, cond_true, spec_l5DrawSchema.c22]
    rw [lim_ok (by simp; omega), cond_true]
    exact ⟨_, _, rfl, hc3, hw.app (WfDs.one (wfD_mk (by decide) z0 z0 z0)), by simp; omega⟩
  simp only [beqF h4, cond_false]
  by_cases h5 : w = 5
  · obtain ⟨v, c4, e4, _, b4, hc4⟩ := below_ok k 2 (by omega) c3 hc3
    have b4 := b4 (by omega)
    simp only [beqT h5, cond_true, e4, Option.bind_some]
    rw [w64 (by omega) (by omega)]
    obtain ⟨c', l', g1, g2, g3, g4⟩ := deepS_ok k (4 + v) (by omega) 5 k 0 c4 [((⟨#[]⟩ : ByteArray), 7, 0, 1, ())] hc4 (WfDs.one (wfD_mk (by decide) (i64s (by omega) (by omega)) z0 (i64s (by omega) (by omega)))) (by omega) (by omega) (by omega) (by simp)
    exact ⟨c', l', g1, g2, g3, by simp at g4; omega⟩
  simp only [beqF h5, cond_false, spec_l5DrawSchema.c22]
  exact ⟨_, _, rfl, hc3, hw, by omega⟩


/-- a right schema is drawn -/
theorem drawCols_ok (hk : 1000 ≤ k) (c : TL1Cur) (hc : CurOk c) : ∃ c' l, spec_l5DrawRight k c = some ((), (c', l)) ∧ CurOk c' ∧ WfDs l ∧ l.length ≤ 20 ∧ spec_SchemaOk k l = some true ∧ impl_SchemaOk k l = some true ∧ IsSchema l := by
  obtain ⟨c1, l, e1, hc1, hw, hl0, hl, h1⟩ := drawRightS_ok k hk 9 k 0 c hc (by omega) (by omega) (by omega)
  obtain ⟨b, s1, s2, s3⟩ := schemaOk_eq k (by omega) l (wfSmall k hk hw)
  rw [h1] at s1
  have hb : b = true := by simpa using s1.symm
  subst hb
  exact ⟨c1, l, e1, hc1, hw, (s3 rfl).1.2.1, h1, s2, (s3 rfl).1⟩
end Go.Law
end

section
/- The empty record. -/
set_option linter.unusedVariables false
set_option linter.unusedSimpArgs false
set_option linter.unusedSectionVars false
namespace Go.Law
open Go.Am Go.Fn

def emPart (s : List TCol) (C : List TVal) (a : Nat) : List TVal := match s[a]? with
  | none => []
  | some c => if c.2.2.1 = 0 then C else [zv]
def emParts (F : Nat → List TVal) (e : Nat → Nat) : Nat → Nat → List TVal
  | 0, _ => []
  | m + 1, a => F a ++ emParts F e m (e a)
def emC (s : List TCol) : Nat → Nat → List TVal
  | 0, _ => []
  | d + 1, a => match s[a]? with
    | none => []
    | some c => if c.2.1 = 7 then emParts (fun a => emPart s (emC s d a) a) (endC s d) c.2.2.2.1.toNat (a + 1) else [zv]
def empV (s : List TCol) : List TVal := emC s 6 0

theorem emParts_mem {F : Nat → List TVal} {e : Nat → Nat} (h : ∀ a v, v ∈ F a → v = zv) : ∀ (m a : Nat) (v : TVal), v ∈ emParts F e m a → v = zv
  | 0, _, v, hv => by cases hv
  | m + 1, a, v, hv => (List.mem_append.1 hv).elim (h a v) (emParts_mem h m (e a) v)
theorem emC_mem {s : List TCol} : ∀ (d a : Nat) (v : TVal), v ∈ emC s d a → v = zv
  | 0, _, v, hv => by cases hv
  | d + 1, a, v, hv => by
    simp only [emC] at hv
    split at hv
    · cases hv
    · split at hv
      · refine emParts_mem (fun a v hv => ?_) _ _ v hv
        unfold emPart at hv
        split at hv
        · cases hv
        · split at hv
          · exact emC_mem d a v hv
          · simpa using hv
      · simpa using hv

theorem vok_zv {c : TCol} (hco : colOk c = true) (h7 : c.2.1 ≠ 7) : vok c.2.1 zv = true := by
  unfold colOk tyOk at hco
  unfold vok zv
  have he : eqS (⟨#[]⟩ : ByteArray) ⟨#[]⟩ = true := by rw [eqS_iff]; exact decide_eq_true rfl
  have hty : c.2.1 = 0 ∨ c.2.1 = 1 ∨ c.2.1 = 2 ∨ c.2.1 = 5 ∨ c.2.1 = 6 := by
    simp only [Bool.and_eq_true, Bool.or_eq_true, beq_iff_eq, decide_eq_true_eq] at hco
    omega
  simp only [he]
  rcases hty with h | h | h | h | h <;> rw [h] <;> decide

theorem zv_part {s : List TCol} {a e : Nat} {C : Int → Int → Int → List TVal → EvR} {c : TCol} (hc : s[a]? = some c) (h0 : ¬ c.2.2.1 = 0) (rep def_ deep : Int) (W : List TVal) : evPart s C e a rep def_ deep (zv :: W) = some (miss s rep def_ (e - a) a, W) := by
  unfold evPart
  rw [hc]
  simp only
  have hb : ∀ m : Int, 0 ≤ m → cbad zv m = false := fun m hm => by
    unfold cbad zv
    have he : eqS (⟨#[]⟩ : ByteArray) ⟨#[]⟩ = true := by rw [eqS_iff]; exact decide_eq_true rfl
    rw [he, decide_eq_true hm]; rfl
  rw [if_neg h0, hb 20 (by omega), hb 1 (by omega)]
  simp only [zv]
  split <;> rfl

/-- the empty record can be gone through, at no depth -/
theorem em_ev {s : List TCol} : ∀ (d a nx : Nat), d ≤ 6 → SubC s d a nx → ∀ (rep def_ deep : Int) (W : List TVal), ∃ X, evC s d a rep def_ deep (emC s d a ++ W) = some (X, W) ∧ (∀ e, e ∈ X → e.def_ = def_) ∧ (emC s d a).length ≤ nx - a
  | 0, _, _, _, h, _, _, _, _ => h.elim
  | d + 1, a, nx, hd, h, rep, def_, deep, W => by
    have hlt := SubC_lt _ _ _ h
    obtain ⟨c, hc, hco, _, hpp⟩ := h
    simp only [emC, evC, hc]
    by_cases h7 : c.2.1 = 7
    · rw [if_pos h7, if_pos h7]
      have key : ∀ (m pl : Nat) (names : List ByteArray) (W : List TVal), PartsC (SubC s d) s m pl names nx → ∃ X, evParts (fun a V => evPart s (evC s d a) (endC s d a) a rep def_ deep V) (endC s d) m pl (emParts (fun a => emPart s (emC s d a) a) (endC s d) m pl ++ W) = some (X, W) ∧ (∀ e, e ∈ X → e.def_ = def_) ∧ (emParts (fun a => emPart s (emC s d a) a) (endC s d) m pl).length ≤ nx - pl := by
        intro m
        induction m with
        | zero => intro pl names W hpp; exact ⟨[], rfl, fun e he => (by cases he), by simp [emParts]⟩
        | succ m ih =>
          intro pl names W hpp
          obtain ⟨cp, mid, hcp, q2, q3, q4⟩ := hpp
          have hmn := PartsC_nx (SubC_lt d) _ _ _ _ q4
          have hlt' := SubC_lt _ _ _ q3
          have hend : endC s d pl = mid := endC_eq d q3 d (Nat.le_refl _)
          obtain ⟨Y, y1, y2, y3⟩ := ih mid _ W q4
          have hpart : ∃ X, evPart s (evC s d pl) mid pl rep def_ deep (emPart s (emC s d pl) pl ++ (emParts (fun a => emPart s (emC s d a) a) (endC s d) m mid ++ W)) = some (X, emParts (fun a => emPart s (emC s d a) a) (endC s d) m mid ++ W) ∧ (∀ e, e ∈ X → e.def_ = def_) ∧ (emPart s (emC s d pl) pl).length ≤ mid - pl := by
            unfold emPart
            rw [hcp]
            simp only
            by_cases h0 : cp.2.2.1 = 0
            · rw [if_pos h0]
              obtain ⟨X, x1, x2, x3⟩ := em_ev d pl mid (by omega) q3 rep def_ deep (emParts (fun a => emPart s (emC s d a) a) (endC s d) m mid ++ W)
              refine ⟨X, ?_, x2, x3⟩
              unfold evPart
              rw [hcp]
              simp only
              rw [if_pos h0]
              exact x1
            · rw [if_neg h0]
              refine ⟨_, zv_part hcp h0 rep def_ deep _, fun e he => ?_, by simp; omega⟩
              exact (miss_mem _ _ _ he).2.2.2.2.1
          obtain ⟨X, x1, x2, x3⟩ := hpart
          refine ⟨X ++ Y, ?_, fun e he => (List.mem_append.1 he).elim (x2 e) (y2 e), ?_⟩
          · simp only [evParts, emParts, hend, List.append_assoc]
            rw [x1]
            simp only [evPair, y1]
          · simp only [emParts, hend, List.length_append]; omega
      obtain ⟨X, x1, x2, x3⟩ := key _ _ _ W hpp
      exact ⟨X, x1, x2, by omega⟩
    · rw [if_neg h7, if_neg h7]
      simp only [List.singleton_append]
      rw [if_pos (vok_zv hco h7)]
      exact ⟨_, rfl, fun e he => (by rw [List.mem_singleton] at he; rw [he]), by simp; omega⟩

theorem emp_ev {s : List TCol} (hS : IsSchema s) : ∃ X, recEv s (empV s) = some X ∧ (∀ e, e ∈ X → e.def_ = 0) ∧ (empV s).length ≤ 20 := by
  obtain ⟨X, x1, x2, x3⟩ := em_ev 6 0 s.length (Nat.le_refl _) hS.2.2.1 0 0 0 []
  rw [List.append_nil] at x1
  have hs := hS.2.1
  have hl : (empV s).length ≤ 20 := by unfold empV; omega
  refine ⟨X, ?_, x2, hl⟩
  unfold recEv
  rw [if_pos (by omega)]
  unfold empV
  rw [x1]

section
variable (k : Nat) (s : List TCol) (hs : s.length ≤ 20) (hn : ∀ c, c ∈ s → c.1.size < k ∧ c.1.size < 1000000000 ∧ I64 c.2.2.2.1) (hk : 2000000 ≤ k)
include hs hn hk

theorem semp_rec : ∀ (d D a nx : Nat), SubC s d a nx → nx ≤ s.length → d ≤ 6 → d ≤ D → spec_l13Empty.rec k D s (a : Int) = some ((), if decide (0 < a) = true then emPart s (emC s d a) a else emC s d a) := by
  intro d
  induction d with
  | zero => intro D a nx h; exact h.elim
  | succ d ih =>
    intro D a nx h hnx hd hD
    obtain ⟨D, rfl⟩ : ∃ q, D = q + 1 := ⟨D - 1, by omega⟩
    have hsub := h
    have hlt := SubC_lt _ _ _ h
    obtain ⟨c, hc, hco, _, hpp⟩ := h
    have hcr : rdL s (a : Int) = some c := hc
    have hcm := (hn c (List.mem_of_getElem? hc)).2.2
    have hmp := PartsC_le (SubC_lt d) _ _ _ _ hpp
    have ha1 : IntKind.wrap .i64 ((a : Int) + 1) = ((a + 1 : Nat) : Int) := by rw [w64 (by omega) (by omega)]; omega
    have hb5 : ((cond (decide ((a : Int) > 0)) ((rdL s (a : Int)).bind fun y4 => some (y4.2.2.1 != 0)) (some false)) : Option Bool) = some (decide (0 < a) && (c.2.2.1 != 0)) := by
      rw [hcr]
      by_cases h : 0 < a
      · rw [decide_eq_true (show (a : Int) > 0 by omega), decide_eq_true h]; rfl
      · rw [decide_eq_false (show ¬ (a : Int) > 0 by omega), decide_eq_false h]; rfl
    have hloop : c.2.1 = 7 → spec_l13Empty.l6 k (spec_l13Empty.rec k D) k s (a : Int) ((a + 1 : Nat) : Int) 0 [] = some ((), emC s (d + 1) a) := by
      intro h7
      have hmn : 0 ≤ c.2.2.2.1 := by
        unfold colOk at hco
        rw [h7, tyOk_7] at hco
        simp at hco
        omega
      have key : ∀ (m pl : Nat) (i : Int) (names : List ByteArray) (f : Nat) (o : List TVal), PartsC (SubC s d) s m pl names nx → c.2.2.2.1 - i = m → 0 ≤ i → m < f → 0 < pl → o.length ≤ pl →
          spec_l13Empty.l6 k (spec_l13Empty.rec k D) f s (a : Int) (pl : Int) i o = some ((), o ++ emParts (fun a => emPart s (emC s d a) a) (endC s d) m pl) := by
        intro m
        induction m with
        | zero =>
          intro pl i names f o hpp hi h0 hf hpl ho
          obtain ⟨f, rfl⟩ : ∃ q, f = q + 1 := ⟨f - 1, by omega⟩
          simp only [spec_l13Empty.l6, hcr, Option.bind_some, decide_eq_false (show ¬ (i < c.2.2.2.1) by omega), cond_false, emParts, List.append_nil]
        | succ m ihm =>
          intro pl i names f o hpp hi h0 hf hpl ho
          obtain ⟨q, mid, q1, q2, q3, q4⟩ := hpp
          have hmn' := PartsC_nx (SubC_lt d) _ _ _ _ q4
          have hlt' := SubC_lt _ _ _ q3
          obtain ⟨f, rfl⟩ : ∃ q, f = q + 1 := ⟨f - 1, by omega⟩
          have hi1 : IntKind.wrap .i64 (i + 1) = i + 1 := w64 (by omega) (by omega)
          have hend : endC s d pl = mid := endC_eq d q3 d (Nat.le_refl _)
          have haf := l5After_sub k s hs hn (by omega) q3 (show d ≤ 6 by omega) (by omega)
          have hr := ih D pl mid q3 (by omega) (by omega) (by omega)
          rw [if_pos (decide_eq_true hpl)] at hr
          have hlen : (emPart s (emC s d pl) pl).length ≤ mid - pl := by
            unfold emPart
            split
            · simp
            · split
              · exact (em_ev d pl mid (by omega) q3 0 0 0 []).choose_spec.2.2
              · simp; omega
          simp only [spec_l13Empty.l6, hcr, Option.bind_some, decide_eq_true (show i < c.2.2.2.1 by omega), cond_true, hr, haf, hi1]
          rw [lim_ok (by omega), cond_true, ihm mid (i + 1) _ f _ q4 (by omega) (by omega) (by omega) (by omega) (by rw [List.length_append]; omega)]
          simp only [emParts, hend, List.append_assoc]
      have := key c.2.2.2.1.toNat (a + 1) 0 [] k [] hpp (by omega) (by omega) (by omega) (by omega) (by simp)
      rw [this, List.nil_append]
      simp only [emC, hc]
      rw [if_pos h7]
    simp only [spec_l13Empty.rec, spec_l13Empty.b, hb5, Option.bind_some, ha1]
    cases hz : (decide (0 < a) && (c.2.2.1 != 0)) with
    | true =>
      simp only [Bool.and_eq_true, decide_eq_true_eq, bne_iff_ne] at hz
      simp only [cond_true, Option.bind_some]
      rw [if_pos (decide_eq_true hz.1)]
      unfold emPart
      rw [hc]
      simp only
      rw [if_neg hz.2]
      rfl
    | false =>
      simp only [cond_false, hcr, Option.bind_some]
      have hpc : (if decide (0 < a) = true then emPart s (emC s (d + 1) a) a else emC s (d + 1) a) = emC s (d + 1) a := by
        by_cases h : 0 < a
        · rw [if_pos (decide_eq_true h)]
          rw [decide_eq_true h, Bool.true_and] at hz
          unfold emPart
          rw [hc]
          simp only
          rw [if_pos (by simpa using hz)]
        · rw [if_neg (by simp [h])]
      rw [hpc]
      by_cases h7 : c.2.1 = 7
      · rw [bneF h7, cond_false, hloop h7]
      · rw [bneT h7, cond_true]
        simp only [emC, hc]
        rw [if_neg h7]
        rfl

end

theorem recEmpty_eq (k : Nat) (hk : 2000000 ≤ k) (s : List TCol) (hn : ∀ c, c ∈ s → c.1.size < k ∧ c.1.size < 1000000000 ∧ I64 c.2.2.2.1) (hS : IsSchema s) :
    (spec_RecEmpty k s = (spec_SchemaOk k s).bind fun r1 => cond (!r1) (some ((((), ()), false), [])) (some ((((), ()), true), empV s))) ∧
    True ∧ (recEv s (empV s)).isSome = true := by
  obtain ⟨c0, hc0, h70, _⟩ := schema_top hS
  have h1 : spec_l13Empty k s 0 = some ((), if decide (0 < 0) = true then emPart s (emC s 6 0) 0 else emC s 6 0) := semp_rec k s hS.2.1 hn hk 6 k 0 s.length hS.2.2.1 (Nat.le_refl _) (by omega) (by omega)
  obtain ⟨X, x1, _⟩ := emp_ev hS
  refine ⟨?_, ?_, by rw [x1]; rfl⟩
  · unfold spec_RecEmpty
    rw [h1]; rfl
  · trivial
end Go.Law
end

section
/- Records are drawn, whatever the bytes. -/
set_option linter.unusedVariables false
set_option linter.unusedSimpArgs false
set_option linter.unusedSectionVars false
namespace Go.Law
open Go.Am Go.Fn

def WfVs' (l : List TVal) : Prop := ∀ v, v ∈ l → WfV v
theorem WfVs'.app {a b : List TVal} (h : WfVs' a) (h' : WfVs' b) : WfVs' (a ++ b) := fun n hn => (List.mem_append.1 hn).elim (h n) (h' n)
theorem WfVs'.one {v : TVal} (h : WfV v) : WfVs' [v] := fun m hm => by simp at hm; subst hm; exact h

def bnd : Nat → Nat
  | 0 => 1
  | d + 1 => 21 * bnd d
theorem bnd_pos : ∀ d, 1 ≤ bnd d
  | 0 => Nat.le_refl _
  | d + 1 => by have := bnd_pos d; simp only [bnd]; omega
theorem bnd_mono (d : Nat) : bnd d ≤ bnd (d + 1) := by simp only [bnd]; omega
theorem bnd6 {d : Nat} (h : d ≤ 6) : bnd d ≤ 85766121 := by
  have : ∀ d e, d ≤ e → bnd d ≤ bnd e := by
    intro d e h
    induction h with
    | refl => exact Nat.le_refl _
    | step _ ih => exact Nat.le_trans ih (bnd_mono _)
  exact Nat.le_trans (this d 6 h) (by decide)

section
variable (k : Nat) (s : List TCol) (hs : s.length ≤ 20) (hn : ∀ c, c ∈ s → c.1.size < k ∧ c.1.size < 1000000000 ∧ I64 c.2.2.2.1) (hk : 2000000 ≤ k)
include hs hn hk

/-- a step of a draw -/
def DrS (r : Option (Unit × TL1Cur × List TVal)) (acc : List TVal) (B : Nat) : Prop := ∃ c' Y, r = some ((), (c', acc ++ Y)) ∧ CurOk c' ∧ Y.length ≤ B ∧ WfVs' Y

theorem drItems (S : List TCol → Int → TL1Cur → List TVal → Option (Unit × TL1Cur × List TVal)) (a : Nat) (B : Nat) (n : Int) (hn20 : n ≤ 20)
    (h : ∀ (f : Nat) (i : Int) (c : TL1Cur) (acc : List TVal), i < n → 0 ≤ i → CurOk c → acc.length + B ≤ 4294967295 → ∃ c' Y, CurOk c' ∧ Y.length ≤ B ∧ WfVs' Y ∧ spec_l13DrawPart.l10 k S (f + 1) s (a : Int) n i c acc = spec_l13DrawPart.l10 k S f s (a : Int) n (i + 1) c' (acc ++ Y)) :
    ∀ (m : Nat) (i : Int) (f : Nat) (c : TL1Cur) (acc : List TVal), n - i ≤ m → 0 ≤ i → m < f → CurOk c → acc.length + B * m ≤ 4294967295 → DrS (spec_l13DrawPart.l10 k S f s (a : Int) n i c acc) acc (B * m) := by
  intro m
  induction m with
  | zero =>
    intro i f c acc hi h0 hf hc ha
    obtain ⟨f, rfl⟩ : ∃ q, f = q + 1 := ⟨f - 1, by omega⟩
    simp only [spec_l13DrawPart.l10, decide_eq_false (show ¬ i < n by omega), cond_false]
    exact ⟨c, [], by simp, hc, by simp, fun v hv => by cases hv⟩
  | succ m ih =>
    intro i f c acc hi h0 hf hc ha
    obtain ⟨f, rfl⟩ : ∃ q, f = q + 1 := ⟨f - 1, by omega⟩
    rw [Nat.mul_succ] at ha
    by_cases hlt : i < n
    · obtain ⟨c', Y, q1, q2, q3, q4⟩ := h f i c acc hlt h0 hc (by omega)
      rw [q4]
      obtain ⟨c2, Y2, r1, r2, r3, r4⟩ := ih (i + 1) f c' (acc ++ Y) (by omega) (by omega) (by omega) q1 (by rw [List.length_append]; omega)
      exact ⟨c2, Y ++ Y2, by rw [r1, List.append_assoc], r2, by rw [List.length_append, Nat.mul_succ]; omega, q3.app r4⟩
    · simp only [spec_l13DrawPart.l10, decide_eq_false hlt, cond_false]
      exact ⟨c, [], by simp, hc, by simp, fun v hv => by cases hv⟩

theorem drPart_ok : ∀ (d E a nx : Nat), SubC s d a nx → nx ≤ s.length → d ≤ 6 → d ≤ E →
    (∀ (n : Int) (f : Nat) (i : Int) (c : TL1Cur) (acc : List TVal), n ≤ 20 → i < n → 0 ≤ i → CurOk c → acc.length + bnd d * (nx - a) ≤ 4294967295 →
      ∃ c' Y, CurOk c' ∧ Y.length ≤ bnd d * (nx - a) ∧ WfVs' Y ∧ spec_l13DrawPart.l10 k (spec_l13DrawPart.rec k E) (f + 1) s (a : Int) n i c acc = spec_l13DrawPart.l10 k (spec_l13DrawPart.rec k E) f s (a : Int) n (i + 1) c' (acc ++ Y)) ∧
    (∀ (c : TL1Cur) (acc : List TVal), CurOk c → acc.length + bnd (d + 1) * (nx - a) ≤ 4294967295 → DrS (spec_l13DrawPart.rec k (E + 1) s (a : Int) c acc) acc (bnd (d + 1) * (nx - a))) := by
  intro d
  induction d with
  | zero => intro E a nx h; exact h.elim
  | succ d ih =>
    intro E a nx h hnx hd hE
    obtain ⟨E, rfl⟩ : ∃ q, E = q + 1 := ⟨E - 1, by omega⟩
    have hlt := SubC_lt _ _ _ h
    have hsub := h
    obtain ⟨col, hc, hco, _, hpp⟩ := h
    have hcr : rdL s (a : Int) = some col := hc
    have hcm := (hn col (List.mem_of_getElem? hc)).2.2
    have hmp := PartsC_le (SubC_lt d) _ _ _ _ hpp
    have ha1 : IntKind.wrap .i64 ((a : Int) + 1) = ((a + 1 : Nat) : Int) := by rw [w64 (by omega) (by omega)]; omega
    have hbp := bnd_pos (d + 1)
    have hcont : ∀ (n : Int) (f : Nat) (i : Int) (c : TL1Cur) (acc : List TVal), n ≤ 20 → i < n → 0 ≤ i → CurOk c → acc.length + bnd (d + 1) * (nx - a) ≤ 4294967295 →
      ∃ c' Y, CurOk c' ∧ Y.length ≤ bnd (d + 1) * (nx - a) ∧ WfVs' Y ∧ spec_l13DrawPart.l10 k (spec_l13DrawPart.rec k (E + 1)) (f + 1) s (a : Int) n i c acc = spec_l13DrawPart.l10 k (spec_l13DrawPart.rec k (E + 1)) f s (a : Int) n (i + 1) c' (acc ++ Y) := by
      intro n f i c acc hn20 hi h0 hcu ha
      have hi1 : IntKind.wrap .i64 (i + 1) = i + 1 := w64 (by omega) (by omega)
      have hB1 : bnd (d + 1) * 1 ≤ bnd (d + 1) * (nx - a) := Nat.mul_le_mul_left _ (by omega)
      by_cases h7 : col.2.1 = 7
      · have hmn : 0 ≤ col.2.2.2.1 := by
          unfold colOk at hco
          rw [h7, tyOk_7] at hco
          simp at hco
          omega
        have key : ∀ (m pl : Nat) (j : Int) (names : List ByteArray) (f2 : Nat) (c : TL1Cur) (acc : List TVal), PartsC (SubC s d) s m pl names nx → col.2.2.2.1 - j = m → 0 ≤ j → m < f2 → CurOk c → acc.length + bnd (d + 1) * (nx - pl) ≤ 4294967295 →
            ∃ c' Y, CurOk c' ∧ Y.length ≤ bnd (d + 1) * (nx - pl) ∧ WfVs' Y ∧ spec_l13DrawPart.l16 k (spec_l13DrawPart.rec k (E + 1)) (spec_l13DrawPart.l10 k (spec_l13DrawPart.rec k (E + 1)) f) f2 s (a : Int) n i (pl : Int) j c acc = spec_l13DrawPart.l10 k (spec_l13DrawPart.rec k (E + 1)) f s (a : Int) n (i + 1) c' (acc ++ Y) := by
          intro m
          induction m with
          | zero =>
            intro pl j names f2 c acc hpp hj h0 hf hcu ha
            obtain ⟨f2, rfl⟩ : ∃ q, f2 = q + 1 := ⟨f2 - 1, by omega⟩
            refine ⟨c, [], hcu, by simp, fun v hv => (by cases hv), ?_⟩
            simp only [spec_l13DrawPart.l16, hcr, Option.bind_some, decide_eq_false (show ¬ (j < col.2.2.2.1) by omega), cond_false, spec_l13DrawPart.c11, hi1, List.append_nil]
          | succ m ihm =>
            intro pl j names f2 c acc hpp hj h0 hf hcu ha
            obtain ⟨q, mid, q1, q2, q3, q4⟩ := hpp
            have hmn' := PartsC_nx (SubC_lt d) _ _ _ _ q4
            have hlt' := SubC_lt _ _ _ q3
            obtain ⟨f2, rfl⟩ : ∃ q, f2 = q + 1 := ⟨f2 - 1, by omega⟩
            have hj1 : IntKind.wrap .i64 (j + 1) = j + 1 := w64 (by omega) (by omega)
            have haf := l5After_sub k s hs hn (by omega) q3 (show d ≤ 6 by omega) (by omega)
            have hsplit : bnd (d + 1) * (nx - pl) = bnd (d + 1) * (mid - pl) + bnd (d + 1) * (nx - mid) := by rw [← Nat.mul_add]; congr 1; omega
            obtain ⟨c1, Y1, e1, e2, e3, e4⟩ := (ih E pl mid q3 (by omega) (by omega) (by omega)).2 c acc hcu (by omega)
            obtain ⟨c2, Y2, g1, g2, g3, g4⟩ := ihm mid (j + 1) _ f2 c1 (acc ++ Y1) q4 (by omega) (by omega) (by omega) e2 (by rw [List.length_append]; omega)
            refine ⟨c2, Y1 ++ Y2, g1, by rw [List.length_append]; omega, e4.app g3, ?_⟩
            simp only [spec_l13DrawPart.l16, hcr, Option.bind_some, decide_eq_true (show j < col.2.2.2.1 by omega), cond_true, e1, haf, hj1]
            rw [g4, List.append_assoc]
        have hle : bnd (d + 1) * (nx - (a + 1)) ≤ bnd (d + 1) * (nx - a) := Nat.mul_le_mul_left _ (by omega)
        obtain ⟨c', Y, g1, g2, g3, g4⟩ := key col.2.2.2.1.toNat (a + 1) 0 [] k c acc hpp (by omega) (by omega) (by omega) hcu (by omega)
        refine ⟨c', Y, g1, by omega, g3, ?_⟩
        rw [← g4]
        simp only [spec_l13DrawPart.l10, decide_eq_true hi, cond_true, hcr, Option.bind_some, bneF h7, cond_false, ha1]
      · obtain ⟨v, c', e1, e2, e3⟩ := drawRight_ok k (by omega) col.2.1 c hcu
        refine ⟨c', [v], e3, by simp only [List.length_singleton]; omega, WfVs'.one e2, ?_⟩
        simp only [spec_l13DrawPart.l10, decide_eq_true hi, cond_true, hcr, Option.bind_some, bneT h7, e1, spec_l13DrawPart.c11, hi1]
        rw [lim_ok (by simp; omega), cond_true]
    refine ⟨hcont, fun c acc hcu ha => ?_⟩
    have hb2 : bnd (d + 2) * (nx - a) = 21 * (bnd (d + 1) * (nx - a)) := by simp only [bnd]; rw [Nat.mul_assoc]
    have hB1 : bnd (d + 1) * 1 ≤ bnd (d + 1) * (nx - a) := Nat.mul_le_mul_left _ (by omega)
    rw [hb2] at ha ⊢
    generalize hBB : bnd (d + 1) * (nx - a) = B at *
    have items : ∀ (n : Int) (c : TL1Cur) (acc : List TVal) (m : Nat), n ≤ m → m ≤ 20 → CurOk c → acc.length + B * m ≤ 4294967295 → DrS (spec_l13DrawPart.l10 k (spec_l13DrawPart.rec k (E + 1)) k s (a : Int) n 0 c acc) acc (B * m) := by
      intro n c acc m h1 h2 hcu ha
      refine drItems k s hs hn hk (spec_l13DrawPart.rec k (E + 1)) a B n (by omega) (fun f i c acc hi h0 hcu ha => hcont n f i c acc (by omega) hi h0 hcu ha) m 0 k c acc (by omega) (by omega) (by omega) hcu ha
    have some_ : ∀ (n : Int) (c : TL1Cur), 0 ≤ n → n ≤ 20 → CurOk c → DrS (spec_l13DrawPart.c8 k (spec_l13DrawPart.rec k (E + 1)) s (a : Int) n c acc) acc (21 * B) := by
      intro n c h0 h20 hcu
      obtain ⟨m, rfl⟩ := Int.eq_ofNat_of_zero_le h0
      have hBm : B * m ≤ B * 20 := Nat.mul_le_mul_left _ (by omega)
      unfold spec_l13DrawPart.c8 spec_l13DrawPart.c9
      rw [lim_ok (by simp; omega), cond_true]
      obtain ⟨c', Y, e1, e2, e3, e4⟩ := items (m : Int) c (acc ++ [((m : Int), (⟨#[]⟩ : ByteArray), ())]) m (by omega) (by omega) hcu (by simp; omega)
      refine ⟨c', [((m : Int), (⟨#[]⟩ : ByteArray), ())] ++ Y, by rw [e1, List.append_assoc], e2, by rw [List.length_append, List.length_singleton]; omega, WfVs'.app (WfVs'.one ⟨⟨by omega, by omega⟩, e0⟩) e4⟩
    rw [show spec_l13DrawPart.rec k (E + 1 + 1) = spec_l13DrawPart.b k (spec_l13DrawPart.rec k (E + 1)) from rfl]
    unfold spec_l13DrawPart.b
    have hb8 : ((cond (decide ((a : Int) > 0)) ((rdL s (a : Int)).bind fun y7 => some (y7.2.2.1 != 0)) (some false)) : Option Bool) = some (decide (0 < a) && (col.2.2.1 != 0)) := by
      rw [hcr]
      by_cases h : 0 < a
      · rw [decide_eq_true (show (a : Int) > 0 by omega), decide_eq_true h]; rfl
      · rw [decide_eq_false (show ¬ (a : Int) > 0 by omega), decide_eq_false h]; rfl
    rw [hb8]
    simp only [Option.bind_some]
    cases hbb : (decide (0 < a) && (col.2.2.1 != 0)) with
    | false =>
      simp only [cond_false, spec_l13DrawPart.c9]
      obtain ⟨c', Y, e1, e2, e3, e4⟩ := items 1 c acc 1 (by omega) (by omega) hcu (by omega)
      exact ⟨c', Y, e1, e2, by omega, e4⟩
    | true =>
      simp only [cond_true]
      obtain ⟨v1, c1, e1, _, b1, hc1⟩ := below_ok k 2 (by omega) c hcu
      have b1 := b1 (by omega)
      simp only [e1, Option.bind_some, hcr]
      by_cases h2 : col.2.2.1 = 2
      · rw [beqT h2, cond_true]
        obtain ⟨v2, c2, e2, _, b2, hc2⟩ := below_ok k 4 (by omega) c1 hc1
        have b2 := b2 (by omega)
        obtain ⟨v3, c3, e3, hc3⟩ := once_ok k 60 (by omega) c2 hc2
        simp only [e2, e3, Option.bind_some]
        cases v3 with
        | true => exact some_ 20 c3 (by omega) (by omega) hc3
        | false => exact some_ v2 c3 (by omega) (by omega) hc3
      · rw [beqF h2, cond_false]
        exact some_ v1 c1 (by omega) (by omega) hc1
end

/-- a right record is drawn -/
theorem drawRec_ok (k : Nat) (hk : 2000000 ≤ k) (s : List TCol) (hw : WfDs s) (hS : IsSchema s) (hok : spec_SchemaOk k s = some true) (c : TL1Cur) (hc : CurOk c) :
    ∃ c' V, spec_l13DrawRight k s c = some (((), ()), (c', V)) ∧ CurOk c' ∧ (recEv s V).isSome = true ∧ WfVs' V := by
  have hn := wfSmall k (by omega) hw
  have hs20 := hS.2.1
  obtain ⟨k', rfl⟩ : ∃ q, k = q + 7 := ⟨k - 7, by omega⟩
  have hb := bnd6 (Nat.le_refl 6)
  have hb7 : bnd 7 = 21 * bnd 6 := rfl
  have hbb : bnd 6 * s.length ≤ 85766121 * 20 := Nat.mul_le_mul hb hs20
  have h0 := (drPart_ok (k' + 7) s hs20 hn hk 6 (k' + 6) 0 s.length hS.2.2.1 (Nat.le_refl _) (by omega) (by omega)).1
  -- the root is Required: one item
  have hpart : DrS (spec_l13DrawPart (k' + 7) s 0 c []) [] (bnd 6 * s.length) := by
    show DrS (spec_l13DrawPart.b (k' + 7) (spec_l13DrawPart.rec (k' + 7) (k' + 6)) s 0 c []) [] _
    unfold spec_l13DrawPart.b spec_l13DrawPart.c9
    rw [show decide ((0 : Int) > 0) = false from rfl]
    simp only [cond_false, Option.bind_some]
    obtain ⟨c', Y, e1, e2, e3, e4⟩ := h0 1 (k' + 6) 0 c [] (by omega) (by omega) (by omega) hc (by simp; omega)
    have e4 : spec_l13DrawPart.l10 (k' + 7) (spec_l13DrawPart.rec (k' + 7) (k' + 6)) (k' + 7) s 0 1 0 c [] = _ := e4
    rw [e4]
    refine ⟨c', Y, ?_, e1, by simpa using e2, e3⟩
    simp only [spec_l13DrawPart.l10, decide_eq_false (show ¬ ((0 : Int) + 1 < 1) by omega), cond_false]
  obtain ⟨c', Y, e1, e2, e3, e4⟩ := hpart
  rw [List.nil_append] at e1
  unfold spec_l13DrawRight spec_l13DrawRight.c4
  rw [e1]
  obtain ⟨b, q1, _, _, q2, _⟩ := recOk_eq (k' + 7) hk s hn Y
  have hbt : b = true := by rw [hok] at q1; simpa using q1.symm
  subst hbt
  simp only [Option.bind_some, q2, Bool.true_and]
  cases hr : (recEv s Y).isSome with
  | true =>
    simp only [Bool.not_true, cond_false]
    exact ⟨c', Y, rfl, e2, hr, e4⟩
  | false =>
    simp only [Bool.not_false, cond_true]
    obtain ⟨g1, _, g2⟩ := recEmpty_eq (k' + 7) hk s hn hS
    rw [hok] at g1
    simp only [Option.bind_some, Bool.not_true, cond_false] at g1
    rw [g1]
    exact ⟨c', empV s, rfl, e2, g2, fun v hv => by rw [emC_mem 6 0 v hv]; exact ⟨⟨by decide, by decide⟩, by decide⟩⟩
end Go.Law
end

section
/- Records are drawn, to be put in columns. -/
set_option linter.unusedVariables false
set_option linter.unusedSimpArgs false
namespace Go.Law
open Go.Am Go.Fn
variable (k : Nat)

theorem recEv_300 {s : List TCol} {V : List TVal} (h : (recEv s V).isSome = true) : V.length ≤ 300 := by
  cases hr : recEv s V with
  | none => rw [hr] at h; cases h
  | some X => exact (recEv_some hr).1

theorem drawRecs_loop (hk : 2000000 ≤ k) (s : List TCol) (hw : WfDs s) (hS : IsSchema s) (hok : spec_SchemaOk k s = some true) (many : Int) (hm : many ≤ 1000) : ∀ (m f : Nat) (i : Int) (c : TL1Cur) (o : List TRec), many - i ≤ m → 0 ≤ i → m < f → CurOk c → o.length + m ≤ 10000 → (∀ r, r ∈ o → (recEv s r.1).isSome = true ∧ WfVs' r.1) →
    ∃ c' R, spec_l14DrawRecs.l4 k f s many i c o = some ((), (c', R)) ∧ CurOk c' ∧ R.length ≤ o.length + m ∧ (∀ r, r ∈ R → (recEv s r.1).isSome = true ∧ WfVs' r.1) := by
  intro m
  induction m with
  | zero =>
    intro f i c o hi h0 hf hc hl ho
    obtain ⟨f, rfl⟩ : ∃ q, f = q + 1 := ⟨f - 1, by omega⟩
    simp only [spec_l14DrawRecs.l4, decide_eq_false (show ¬ i < many by omega), cond_false]
    exact ⟨_, _, rfl, hc, by omega, ho⟩
  | succ m ih =>
    intro f i c o hi h0 hf hc hl ho
    obtain ⟨f, rfl⟩ : ∃ q, f = q + 1 := ⟨f - 1, by omega⟩
    by_cases hlt : i < many
    · obtain ⟨c1, V, e1, hc1, g1, g2⟩ := drawRec_ok k hk s hw hS hok c hc
      have hi1 : IntKind.wrap .i64 (i + 1) = i + 1 := w64 (by omega) (by omega)
      simp only [spec_l14DrawRecs.l4, decide_eq_true hlt, cond_true, e1, Option.bind_some, hi1]
      rw [lim_ok (by simp; omega), cond_true]
      obtain ⟨c', R, r1, r2, r3, r4⟩ := ih f (i + 1) c1 (o ++ [(V, ())]) (by omega) (by omega) (by omega) hc1 (by simp; omega) (fun r hr => by
        rcases List.mem_append.1 hr with hr | hr
        · exact ho r hr
        · rw [List.mem_singleton] at hr
          subst hr
          exact ⟨g1, g2⟩)
      exact ⟨c', R, r1, r2, by simp at r3; omega, r4⟩
    · simp only [spec_l14DrawRecs.l4, decide_eq_false hlt, cond_false]
      exact ⟨_, _, rfl, hc, by omega, ho⟩

theorem drawRecs_ok (hk : 2000000 ≤ k) (s : List TCol) (hw : WfDs s) (hS : IsSchema s) (hok : spec_SchemaOk k s = some true) (most : Nat) (hm : most ≤ 500) (c : TL1Cur) (hc : CurOk c) :
    ∃ c' R, spec_l14DrawRecs k s (most : Int) c = some ((), (c', R)) ∧ CurOk c' ∧ R.length ≤ most ∧ (∀ r, r ∈ R → (recEv s r.1).isSome = true ∧ WfVs' r.1) := by
  unfold spec_l14DrawRecs
  rw [w64 (by omega) (by omega)]
  obtain ⟨v, c1, e1, _, b1, hc1⟩ := below_ok k ((most : Int) + 1) (by omega) c hc
  have b1 := b1 (by omega)
  simp only [e1, Option.bind_some]
  obtain ⟨m, rfl⟩ := Int.eq_ofNat_of_zero_le b1.1
  obtain ⟨c', R, r1, r2, r3, r4⟩ := drawRecs_loop k hk s hw hS hok (m : Int) (by omega) m k 0 c1 [] (by omega) (by omega) (by omega) hc1 (by simp; omega) (fun r hr => by cases hr)
  exact ⟨c', R, r1, r2, by simp at r3; omega, r4⟩

/-- what is drawn: cols and records that are in bounds -/
theorem drawShred_ok (hk : 2000000 ≤ k) (t : List Int) (ht : t.length ≤ 1048576) : ∃ s R, spec_DrawShred k t = some (((s, ()), R)) ∧ WfDs s ∧ s.length ≤ 100 ∧ R.length ≤ 300 := by
  unfold spec_DrawShred spec_DrawShred.c13
  obtain ⟨c, e, hc⟩ := new_ok k (by omega) t ht
  obtain ⟨c1, s, e1, hc1, hw, hl, ok1, ok2, hS⟩ := drawCols_ok k (by omega) c hc
  obtain ⟨c2, R, e2, hc2, hR, hRo⟩ := drawRecs_ok k hk s hw hS ok1 6 (by omega) c1 hc1
  have e2 : spec_l14DrawRecs k s 6 c1 = some ((), (c2, R)) := e2
  obtain ⟨v, c3, e3, _, b3, hc3⟩ := below_ok k 20 (by omega) c2 hc2
  simp only [e, e1, e2, e3, Option.bind_some]
  by_cases h0 : v = 0
  · rw [beqT h0, cond_true, lim_ok (by simp; omega), cond_true]
    exact ⟨_, _, rfl, hw, by omega, by simp; omega⟩
  rw [beqF h0, cond_false]
  by_cases h1 : v = 1
  · rw [beqT h1, cond_true]
    obtain ⟨c4, s2, e4, _, hw2, hl2⟩ := drawSchema_ok k (by omega) c3 hc3
    simp only [e4, Option.bind_some]
    exact ⟨_, _, rfl, hw2, hl2, by omega⟩
  rw [beqF h1, cond_false]
  by_cases h2 : v = 2
  · rw [beqT h2, cond_true]
    have hn := wfSmall k (by omega) hw
    obtain ⟨g1, _, _⟩ := recEmpty_eq k hk s hn hS
    rw [ok1] at g1
    simp only [Option.bind_some, Bool.not_true, cond_false] at g1
    rw [g1]
    simp only [Option.bind_some]
    have key : ∀ (m f : Nat) (c : TL1Cur) (o : List TRec), 202 - o.length ≤ m → m < f → CurOk c → o.length ≤ 300 → ∃ R', spec_DrawShred.l11 k f s c o (empV s, ()) = some ((s, ()), R') ∧ R'.length ≤ 300 := by
      intro m
      induction m with
      | zero =>
        intro f c o hm hf hc ho
        obtain ⟨f, rfl⟩ : ∃ q, f = q + 1 := ⟨f - 1, by omega⟩
        obtain ⟨v, c1, e1, _, b1, hc1⟩ := below_ok k 2 (by omega) c hc
        have b1 := b1 (by omega)
        simp only [spec_DrawShred.l11, e1, Option.bind_some]
        rw [w64 (show -9223372036854775808 ≤ 200 + v by omega) (by omega), decide_eq_false (by omega), cond_false]
        exact ⟨o, rfl, ho⟩
      | succ m ih =>
        intro f c o hm hf hc ho
        obtain ⟨f, rfl⟩ : ∃ q, f = q + 1 := ⟨f - 1, by omega⟩
        obtain ⟨v, c1, e1, _, b1, hc1⟩ := below_ok k 2 (by omega) c hc
        have b1 := b1 (by omega)
        simp only [spec_DrawShred.l11, e1, Option.bind_some]
        rw [w64 (show -9223372036854775808 ≤ 200 + v by omega) (by omega)]
        by_cases h : (o.length : Int) < 200 + v
        · rw [decide_eq_true h, cond_true, lim_ok (by simp; omega), cond_true]
          exact ih f c1 (o ++ [(empV s, ())]) (by simp; omega) (by omega) hc1 (by simp; omega)
        · rw [decide_eq_false h, cond_false]
          exact ⟨o, rfl, ho⟩
    obtain ⟨R', r1, r2⟩ := key 202 k c3 R (by omega) (by omega) hc3 (by omega)
    rw [r1]
    exact ⟨_, _, rfl, hw, by omega, r2⟩
  · rw [beqF h2, cond_false]
    exact ⟨_, _, rfl, hw, by omega, by omega⟩
end Go.Law
end

section
/- Equal rows are found equal. -/
set_option linter.unusedVariables false
set_option linter.unusedSimpArgs false
namespace Go.Law
open Go.Am Go.Fn

theorem sameVals_refl (k : Nat) (l : List TVal) (hl : l.length < k) (h2 : l.length ≤ 1000000) : laws_sameVals k l l = some true := by
  have key : ∀ (post pre : List TVal) (f : Nat), l = pre ++ post → post.length < f → laws_sameVals.l4 k f l l (pre.length : Int) = some true := by
    intro post
    induction post with
    | nil =>
      intro pre f h hf
      obtain ⟨f, rfl⟩ : ∃ q, f = q + 1 := ⟨f - 1, by omega⟩
      rw [List.append_nil] at h
      subst h
      simp only [laws_sameVals.l4, decide_eq_false (show ¬ ((l.length : Int) < (l.length : Int)) by omega), cond_false]
    | cons v post ih =>
      intro pre f h hf
      simp only [List.length_cons] at hf
      obtain ⟨f, rfl⟩ : ∃ q, f = q + 1 := ⟨f - 1, by omega⟩
      have hlen : l.length = pre.length + (post.length + 1) := by rw [h]; simp
      have hg : rdL l (pre.length : Int) = some v := by rw [h]; exact getMid _ _ _
      have hi1 : IntKind.wrap .i64 ((pre.length : Int) + 1) = ((pre.length + 1 : Nat) : Int) := by rw [w64 (by omega) (by omega)]; omega
      have hi := ih (pre ++ [v]) f (by rw [h]; simp) (by omega)
      rw [List.length_append, List.length_singleton] at hi
      have hs : eqS v.2.1 v.2.1 = true := by rw [eqS_iff]; exact decide_eq_true rfl
      simp only [laws_sameVals.l4, decide_eq_true (show (pre.length : Int) < (l.length : Int) by omega), cond_true, hg, Option.bind_some, beqT rfl, hs, Bool.and_self, Bool.not_true, cond_false, hi1, hi]
  unfold laws_sameVals
  rw [bneF rfl, cond_false]
  exact key l [] k rfl hl

end Go.Law
end
