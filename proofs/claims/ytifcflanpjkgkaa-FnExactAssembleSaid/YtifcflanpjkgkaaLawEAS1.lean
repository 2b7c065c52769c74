import Derived.Test.YtifcflanpjkgkaaLawEAS0
import Derived.Test.YtifcflanpjkgkaaAmRow
set_option linter.unnecessarySimpa false
set_option linter.unusedSimpArgs false
set_option linter.unusedVariables false
set_option linter.unusedSectionVars false
section
/- The program puts records together as told in LawJoin. -/
set_option linter.unusedVariables false
set_option linter.unusedSimpArgs false
set_option linter.unusedSectionVars false
namespace Go.Law
open Go.Am Go.Fn

/-- a joiner -/
abbrev jn (s : List TCol) (T : TRows) (nums : List Int) (b l : Bool) : TJoinerB := (s, T.map tcol, nums, (), (), b, l, ())
/-- what a joiner says, by what is told in LawJoin -/
def IM (s : List TCol) (T : TRows) (nums : List Int) (r : Option (Int × TJoinerB × (List Int) × (List TVal))) (nx : Int) (l : Bool) (vals : List TVal) (a : AR) : Prop := match a with
  | none => ∃ nx' l' pos' v, PosOk T pos' ∧ r = some (nx', (jn s T nums true l', ip pos', v)) ∧ vals.length ≤ v.length
  | some (Y, q, m) => r = some (nx, (jn s T nums false (l || m), ip q, vals ++ Y))

section
variable (k : Nat) (s : List TCol) (hs : s.length ≤ 20) (hn : ∀ c, c ∈ s → c.1.size < k ∧ c.1.size < 1000000000 ∧ I64 c.2.2.2.1) (hk : 2000000 ≤ k)
variable (T : TRows) (hT : T.length = lnum s s.length) (hT2 : ∀ x, x ∈ T → x.length ≤ 2000)
variable (nums : List Int) (hN : ∀ (a : Nat) (c : TCol), s[a]? = some c → c.2.1 ≠ 7 → rdL nums (a : Int) = some (lnum s a : Int))
include hs hn hk hT hT2 hN

theorem ipeek_eq : ∀ (d a nx f : Nat), SubC s d a nx → nx ≤ s.length → d < f → ∀ (b l : Bool) (pos : List Nat) (vals : List TVal) (t0 : TTriple), PosOk T pos →
    impl_joiner_peek.l1 k f (a : Int) (jn s T nums b l) (ip pos) vals t0 = some (match nxt T pos (lnum s a) with
      | none => (((0, 0, zv, ()), false), (jn s T nums b l, ip pos, vals))
      | some t => ((t, true), (jn s T nums b l, ip pos, vals))) := by
  intro d
  induction d with
  | zero => intro a nx f h; exact h.elim
  | succ d ih =>
    intro a nx f h hnx hf b l pos vals t0 hp
    obtain ⟨f, rfl⟩ : ∃ q, f = q + 1 := ⟨f - 1, by omega⟩
    have hlt := SubC_lt _ _ _ h
    obtain ⟨c, hc, hco, _, hpp⟩ := h
    have ha1 : IntKind.wrap .i64 ((a : Int) + 1) = ((a + 1 : Nat) : Int) := by rw [w64 (by omega) (by omega)]; omega
    simp only [impl_joiner_peek.l1, rdL_nat, hc, Option.bind_some]
    by_cases h7 : c.2.1 = 7
    · have hm0 : 0 < c.2.2.2.1 := by
        unfold colOk at hco
        rw [h7, tyOk_7] at hco
        simp at hco
        exact hco.1
      obtain ⟨m, hm⟩ : ∃ m, c.2.2.2.1.toNat = m + 1 := ⟨c.2.2.2.1.toNat - 1, by omega⟩
      rw [hm] at hpp
      obtain ⟨q, mid, _, _, q3, q4⟩ := hpp
      have hmn := PartsC_nx (SubC_lt d) _ _ _ _ q4
      have := ih (a + 1) mid f q3 (by omega) (by omega) b l pos vals t0 hp
      rw [lnum_group hc h7] at this
      rw [beqT h7, cond_true, ha1, this]
    · rw [beqF h7, cond_false, ← rdL_nat, hN a c hc h7]
      obtain ⟨x, p, g1, g2, g3, g4⟩ := posGet k s hs hn hk T hT hT2 hp (lnum_lt hc h7)
      have hx : nxt T pos (lnum s a) = x[p]? := by unfold nxt; rw [g1, g2]
      simp only [Option.bind_some, rdL_ip g2, rdL_cols g1]
      rw [hx]
      by_cases hpl : p < x.length
      · rw [beqF (by omega), cond_false, List.getElem?_eq_getElem hpl]
        simp only [rdL_nat, List.getElem?_eq_getElem hpl, Option.bind_some]
      · rw [beqT (by omega), cond_true, List.getElem?_eq_none (by omega)]
        rfl

theorem ipeek {d a nx : Nat} (h : SubC s d a nx) (hd : d ≤ 7) (hnx : nx ≤ s.length) (b l : Bool) (pos : List Nat) (vals : List TVal) (hp : PosOk T pos) :
    impl_joiner_peek k (a : Int) (jn s T nums b l) (ip pos) vals = some (match nxt T pos (lnum s a) with
      | none => (((0, 0, zv, ()), false), (jn s T nums b l, ip pos, vals))
      | some t => ((t, true), (jn s T nums b l, ip pos, vals))) :=
  ipeek_eq k s hs hn hk T hT hT2 nums hN d a nx k h hnx (by omega) b l pos vals _ hp

theorem itake_eq {a : Nat} {c : TCol} (hc : s[a]? = some c) (h7 : c.2.1 ≠ 7) {d nx : Nat} (hsub : SubC s d a nx) (hd : d ≤ 7) (hnx : nx ≤ s.length) (b l : Bool) (rep def_ : Int) (pos : List Nat) (vals : List TVal) (hp : PosOk T pos) :
    impl_joiner_take k (a : Int) rep def_ (jn s T nums b l) (ip pos) vals = some (match b, tk T rep def_ pos (lnum s a) with
      | false, some (v, q) => (v, (jn s T nums false l, ip q, vals))
      | _, _ => (zv, (jn s T nums true l, ip pos, vals))) := by
  have hpk := ipeek k s hs hn hk T hT hT2 nums hN hsub hd hnx b l pos vals hp
  unfold impl_joiner_take
  rw [hpk]
  obtain ⟨x, p, g1, g2, g3, g4⟩ := posGet k s hs hn hk T hT hT2 hp (lnum_lt hc h7)
  have hpw : IntKind.wrap .i64 ((p : Int) + 1) = ((p + 1 : Nat) : Int) := by rw [w64 (by omega) (by omega)]; omega
  have hgd : pos.getD (lnum s a) 0 = p := by rw [List.getD_eq_getElem?_getD, g2]; rfl
  unfold tk
  cases b with
  | true =>
    cases nxt T pos (lnum s a) with
    | none => rfl
    | some t => rfl
  | false =>
    cases nxt T pos (lnum s a) with
    | none => rfl
    | some t =>
      simp only [Option.bind_some, Bool.not_true, cond_false]
      by_cases c1 : t.1 = rep
      · rw [bneF c1]
        simp only [cond_false, Option.bind_some]
        by_cases c2 : t.2.1 = def_
        · rw [bneF c2, cond_false, hN a c hc h7]
          simp only [Option.bind_some, rdL_ip g2, hpw, Int.toNat_natCast, ip_set]
          rw [if_pos ⟨c1, c2⟩, hgd]
        · rw [bneT c2, cond_true, if_neg (fun q => c2 q.2)]; rfl
      · rw [bneT c1]
        simp only [cond_true, Option.bind_some]
        rw [if_neg (fun q => c1 q.1)]; rfl

theorem imiss_eq {d a nx : Nat} (h : SubC s d a nx) (hd : d ≤ 6) (hnx : nx ≤ s.length) (rep def_ : Int) (l : Bool) (vals : List TVal) : ∀ (n i f : Nat) (b : Bool) (pos : List Nat), i + n = nx → a ≤ i → n < f → PosOk T pos →
    (b = true → impl_joiner_missing.l3 k f rep def_ (nx : Int) (i : Int) (jn s T nums b l) (ip pos) vals = some ((nx : Int), (jn s T nums true l, ip pos, vals))) ∧
    (b = false → match tkAll T rep def_ (lnum s nx - lnum s i) (lnum s i) pos with
      | none => ∃ pos', PosOk T pos' ∧ impl_joiner_missing.l3 k f rep def_ (nx : Int) (i : Int) (jn s T nums b l) (ip pos) vals = some ((nx : Int), (jn s T nums true l, ip pos', vals))
      | some q => impl_joiner_missing.l3 k f rep def_ (nx : Int) (i : Int) (jn s T nums b l) (ip pos) vals = some ((nx : Int), (jn s T nums false l, ip q, vals))) := by
  intro n
  induction n with
  | zero =>
    intro i f b pos hi ha hf hp
    obtain ⟨f, rfl⟩ : ∃ q, f = q + 1 := ⟨f - 1, by omega⟩
    obtain rfl : i = nx := by omega
    rw [Nat.sub_self]
    simp only [impl_joiner_missing.l3, decide_eq_false (show ¬ ((i : Int) < (i : Int)) by omega), cond_false, tkAll]
    exact ⟨fun hb => by rw [hb], fun hb => by rw [hb]⟩
  | succ n ih =>
    intro i f b pos hi ha hf hp
    obtain ⟨f, rfl⟩ : ∃ q, f = q + 1 := ⟨f - 1, by omega⟩
    have hc := List.getElem?_eq_getElem (show i < s.length by omega)
    generalize s[i] = c at hc
    have hi1 : IntKind.wrap .i64 ((i : Int) + 1) = ((i + 1 : Nat) : Int) := by rw [w64 (by omega) (by omega)]; omega
    have hcr : rdL s (i : Int) = some c := hc
    simp only [impl_joiner_missing.l3, decide_eq_true (show (i : Int) < (nx : Int) by omega), cond_true, hcr, Option.bind_some, impl_joiner_missing.c4, hi1]
    by_cases h7 : c.2.1 = 7
    · rw [bneF h7, cond_false, ← lnum_group hc h7]
      exact ih (i + 1) f b pos (by omega) (by omega) (by omega) hp
    · obtain ⟨nx', e1, e2⟩ := sub_at d a nx h i ha (by omega)
      rw [bneT h7, cond_true, itake_eq k s hs hn hk T hT hT2 nums hN hc h7 e1 (by omega) (by omega) b l rep def_ pos vals hp]
      have hle := lnum_mono s (show i + 1 ≤ nx by omega)
      rw [lnum_leaf hc h7] at hle
      cases b with
      | true =>
        simp only [Option.bind_some]
        refine ⟨fun _ => (ih (i + 1) f true pos (by omega) (by omega) (by omega) hp).1 rfl, fun hb => by cases hb⟩
      | false =>
        refine ⟨fun hb => (by cases hb), fun _ => ?_⟩
        rw [show lnum s nx - lnum s i = (lnum s nx - (lnum s i + 1)) + 1 by omega]
        simp only [tkAll]
        cases htk : tk T rep def_ pos (lnum s i) with
        | none =>
          simp only [Option.bind_some]
          exact ⟨pos, hp, (ih (i + 1) f true pos (by omega) (by omega) (by omega) hp).1 rfl⟩
        | some r =>
          obtain ⟨v, q⟩ := r
          obtain ⟨_, _, _, _, _, _, a1, _⟩ := tk_some htk hp
          have hh := (ih (i + 1) f false q (by omega) (by omega) (by omega) a1.ok).2 rfl
          rw [lnum_leaf hc h7] at hh
          simp only [Option.bind_some]
          exact hh

theorem imissing {d a nx : Nat} (h : SubC s d a nx) (hd : d ≤ 6) (hnx : nx ≤ s.length) (rep def_ : Int) (l : Bool) (vals : List TVal) (b : Bool) (pos : List Nat) (hp : PosOk T pos) :
    (b = true → impl_joiner_missing k (a : Int) rep def_ (jn s T nums b l) (ip pos) vals = some ((nx : Int), (jn s T nums true l, ip pos, vals))) ∧
    (b = false → match tkAll T rep def_ (lnum s nx - lnum s a) (lnum s a) pos with
      | none => ∃ pos', PosOk T pos' ∧ impl_joiner_missing k (a : Int) rep def_ (jn s T nums b l) (ip pos) vals = some ((nx : Int), (jn s T nums true l, ip pos', vals))
      | some q => impl_joiner_missing k (a : Int) rep def_ (jn s T nums b l) (ip pos) vals = some ((nx : Int), (jn s T nums false l, ip q, vals))) := by
  have haf := colAfter_sub k s hs hn (by omega) h hd hnx
  have hlt := SubC_lt _ _ _ h
  have := imiss_eq k s hs hn hk T hT hT2 nums hN h hd hnx rep def_ l vals (nx - a) a k b pos (by omega) (Nat.le_refl _) (by omega) hp
  unfold impl_joiner_missing
  rw [haf]
  exact this

theorem irep_eq (S : Int → Int → Int → Int → TJoinerB → (List Int) → (List TVal) → Option (Int × TJoinerB × (List Int) × (List TVal))) (d a e m : Nat) (hm : m ≤ 7) (hd : d ≤ 6) (hsub : SubC s d a e) (he : e ≤ s.length) (C : List Nat → AR) (hC : ∀ pos, ArG T (lnum s a) m pos (C pos)) (def_ deep : Int)
    (hS : ∀ pos vals l, PosOk T pos → Room m vals pos → IM s T nums (S (a : Int) deep def_ deep (jn s T nums false l) (ip pos) vals) e l vals (C pos)) :
    ∀ (N f f2 n : Nat) (pos : List Nat) (vals : List TVal) (l : Bool) (p : Nat), pos[lnum s a]? = some p → 2000 - p ≤ N → p ≤ 2000 → N + 1 < f → N < f2 → n + N ≤ 100000 → PosOk T pos → Room m vals pos →
      match aRep T (lnum s a) deep C f2 pos with
      | none => ∃ n' l' pos' v, PosOk T pos' ∧ impl_joiner_repeat.l4 k S f (a : Int) def_ deep (n : Int) (jn s T nums false l) (ip pos) vals = some (n', (jn s T nums true l', ip pos', v)) ∧ vals.length ≤ v.length
      | some (i, Y, q, m) => impl_joiner_repeat.l4 k S f (a : Int) def_ deep (n : Int) (jn s T nums false l) (ip pos) vals = some (((n + i : Nat) : Int), (jn s T nums false (l || m), ip q, vals ++ Y)) := by
  have hlp := lnum_pos hsub
  have hle := lnum_mono s he
  have hj : lnum s a < lnum s s.length := by omega
  intro N
  induction N with
  | zero =>
    intro f f2 n pos vals l p hp hN' hp2 hf hf2 hnN hpo hroom
    obtain ⟨f, rfl⟩ : ∃ q, f = q + 1 := ⟨f - 1, by omega⟩
    obtain ⟨f2, rfl⟩ : ∃ q, f2 = q + 1 := ⟨f2 - 1, by omega⟩
    have hno : nxt T pos (lnum s a) = none := by
      obtain ⟨x, p', g1, g2, g3, g4⟩ := posGet k s hs hn hk T hT hT2 hpo hj
      rw [hp] at g2
      cases g2
      unfold nxt
      rw [g1, hp]
      exact List.getElem?_eq_none (by omega)
    have hpk := ipeek k s hs hn hk T hT hT2 nums hN hsub (by omega) he false l pos vals hpo
    rw [hno] at hpk
    simp only [aRep, hno, impl_joiner_repeat.l4, hpk, Option.bind_some, Bool.not_false, cond_true, cond_false, List.append_nil, Nat.add_zero, Bool.or_false]
  | succ N ih =>
    intro f f2 n pos vals l p hp hN' hp2 hf hf2 hnN hpo hroom
    obtain ⟨f, rfl⟩ : ∃ q, f = q + 1 := ⟨f - 1, by omega⟩
    obtain ⟨f2, rfl⟩ : ∃ q, f2 = q + 1 := ⟨f2 - 1, by omega⟩
    have hpk := ipeek k s hs hn hk T hT hT2 nums hN hsub (by omega) he false l pos vals hpo
    simp only [aRep, impl_joiner_repeat.l4]
    cases hno : nxt T pos (lnum s a) with
    | none =>
      rw [hno] at hpk
      simp only [hpk, Option.bind_some, Bool.not_false, cond_true, cond_false, List.append_nil, Nat.add_zero, Bool.or_false]
    | some t =>
      rw [hno] at hpk
      simp only [hpk, Option.bind_some, Bool.not_true, cond_false]
      by_cases ht : t.1 = deep
      · rw [if_pos ht, bneF ht]
        have hcnt : IntKind.wrap .i64 ((n : Int) + 1) = ((n + 1 : Nat) : Int) := by rw [w64 (by omega) (by omega)]; omega
        have hs' := hS pos vals l hpo hroom
        simp only [cond_false, hcnt]
        cases hCp : C pos with
        | none =>
          rw [hCp] at hs'
          obtain ⟨nx', l', pos', v, e1, e2, e3⟩ := hs'
          obtain ⟨f, rfl⟩ : ∃ q, f = q + 1 := ⟨f - 1, by omega⟩
          have hpk2 := ipeek k s hs hn hk T hT hT2 nums hN hsub (by omega) he true l' pos' v e1
          simp only [e2, Option.bind_some, impl_joiner_repeat.l4, hpk2]
          refine ⟨((n + 1 : Nat) : Int), l', pos', v, e1, ?_, e3⟩
          cases nxt T pos' (lnum s a) <;> rfl
        | some r =>
          obtain ⟨x, q, l1⟩ := r
          rw [hCp] at hs'
          have e1 : S (a : Int) deep def_ deep (jn s T nums false l) (ip pos) vals = some ((e : Int), (jn s T nums false (l || l1), ip q, vals ++ x)) := hs'
          obtain ⟨a1, a2, pa, pb, a3, a4, a5⟩ := hC pos _ _ _ hCp hpo
          rw [hp] at a3
          cases a3
          obtain ⟨xr, pb', g1, g2, g3, g4⟩ := posGet k s hs hn hk T hT hT2 a1.ok hj
          rw [a4] at g2
          cases g2
          simp only [e1, Option.bind_some]
          have hi := ih f f2 (n + 1) q (vals ++ x) (l || l1) pb a4 (by omega) (by omega) (by omega) (by omega) (by omega) a1.ok (Room.more hroom a1.sum a2 hm)
          cases hrep : aRep T (lnum s a) deep C f2 q with
          | none =>
            rw [hrep] at hi
            obtain ⟨n', l', pos', v, e1, e2, e3⟩ := hi
            exact ⟨n', l', pos', v, e1, e2, by rw [List.length_append] at e3; omega⟩
          | some r2 =>
            obtain ⟨i, Y, q2, l2⟩ := r2
            rw [hrep] at hi
            simp only at hi ⊢
            rw [hi, List.append_assoc, show n + 1 + i = n + (i + 1) by omega, Bool.or_assoc]
      · rw [if_neg ht, bneT ht]
        simp only [cond_true, List.append_nil, Nat.add_zero, Bool.or_false]

theorem ipart_eq (d D a e : Nat) (hd : d ≤ 6) (he : e ≤ s.length) (hsub : SubC s d a e) (C : Int → Int → Int → List Nat → AR) (c : TCol) (hc : s[a]? = some c) (hr : c.2.2.1 = 0 ∨ c.2.2.1 = 1 ∨ c.2.2.1 = 2) (hG : ∀ r q p pos, ArG T (lnum s a) d pos (C r q p pos))
    (hC : ∀ (D : Nat), 3 * d ≤ D → ∀ (rep def_ deep : Int) (pos : List Nat) (vals : List TVal) (l : Bool), PosOk T pos → 0 ≤ def_ → def_ + d ≤ 1001 → 0 ≤ deep → deep + d ≤ 1001 → Room d vals pos → IM s T nums ((impl_joiner_body.rec k D).1 (a : Int) rep def_ deep (jn s T nums false l) (ip pos) vals) e l vals (C rep def_ deep pos)) (hD : 3 * d + 1 ≤ D)
    (rep def_ deep : Int) (pos : List Nat) (vals : List TVal) (l : Bool) (hp : PosOk T pos) (b0 : 0 ≤ def_) (b1 : def_ + 1 + d ≤ 1001) (b2 : 0 ≤ deep) (b3 : deep + 1 + d ≤ 1001) (hroom : Room (d + 1) vals pos) :
    IM s T nums ((impl_joiner_body.rec k (D + 1)).2.1 (a : Int) rep def_ deep (jn s T nums false l) (ip pos) vals) e l vals (aPart T s C e a rep def_ deep pos) := by
  have hd1 : IntKind.wrap .i64 (def_ + 1) = def_ + 1 := w64 (by omega) (by omega)
  have hq1 : IntKind.wrap .i64 (deep + 1) = deep + 1 := w64 (by omega) (by omega)
  have hlt := SubC_lt _ _ _ hsub
  have hlp := lnum_pos hsub
  have hle := lnum_mono s he
  have hj : lnum s a < lnum s s.length := by omega
  have hsum := pos_sum hp (Tlen k s hs hn hk T hT hT2) hT2
  have hcr : rdL s (a : Int) = some c := hc
  have haf := colAfter_sub k s hs hn (by omega) hsub hd he
  obtain ⟨D, rfl⟩ : ∃ q, D = q + 1 := ⟨D - 1, by omega⟩
  rw [show impl_joiner_body.rec k (D + 1 + 1) = (impl_joiner_body.b k (impl_joiner_body.rec k (D + 1)).1 (impl_joiner_body.rec k (D + 1)).2.1 (impl_joiner_body.rec k (D + 1)).2.2, impl_joiner_col.b k (impl_joiner_body.rec k (D + 1)).1 (impl_joiner_body.rec k (D + 1)).2.1 (impl_joiner_body.rec k (D + 1)).2.2, impl_joiner_repeat.b k (impl_joiner_body.rec k (D + 1)).1 (impl_joiner_body.rec k (D + 1)).2.1 (impl_joiner_body.rec k (D + 1)).2.2) from rfl]
  simp only [impl_joiner_col.b, hcr, Option.bind_some, aPart, hc]
  by_cases h0 : c.2.2.1 = 0
  · rw [beqT h0, cond_true, if_pos h0]
    have := hC (D + 1) (by omega) rep def_ deep pos vals l hp b0 (by omega) b2 (by omega) (hroom.le (by omega))
    cases hCp : C rep def_ deep pos with
    | none =>
      rw [hCp] at this
      obtain ⟨nx', l', pos', v, e1, e2, e3⟩ := this
      rw [e2]
      exact ⟨nx', l', pos', v, e1, rfl, e3⟩
    | some r =>
      obtain ⟨Y, q, m⟩ := r
      rw [hCp] at this
      have e1 : (impl_joiner_body.rec k (D + 1)).1 (a : Int) rep def_ deep (jn s T nums false l) (ip pos) vals = some ((e : Int), (jn s T nums false (l || m), ip q, vals ++ Y)) := this
      rw [e1]
      rfl
  · rw [beqF h0, cond_false, if_neg h0]
    have hpk := ipeek k s hs hn hk T hT hT2 nums hN hsub (by omega) he false l pos vals hp
    have hlim : lim (vals.length + ([(0, (⟨#[]⟩ : ByteArray), ())] : List TVal).length) = true := by have := Room.lim hroom hsum (show 1 ≤ 10 by omega); simpa using this
    rw [hpk]
    cases hno : nxt T pos (lnum s a) with
    | none =>
      have hm := (imissing k s hs hn hk T hT hT2 nums hN hsub hd he rep def_ l (vals ++ [(0, (⟨#[]⟩ : ByteArray), ())]) true pos hp).1 rfl
      simp only [Option.bind_some, Bool.not_false, cond_true, impl_joiner_col.c6, hlim, decide_eq_true (show (0 : Int) ≤ def_ by omega)]
      have hm : impl_joiner_missing k (a : Int) rep def_ (s, T.map tcol, nums, (), (), true, l, ()) (ip pos) (vals ++ [(0, (⟨#[]⟩ : ByteArray), ())]) = _ := hm
      rw [hm]
      exact ⟨_, l, pos, _, hp, rfl, by simp⟩
    | some t =>
      simp only [Option.bind_some, Bool.not_true, cond_false, impl_joiner_col.c6, hlim, cond_true]
      by_cases hdf : t.2.1 ≤ def_
      · rw [decide_eq_true hdf, cond_true, if_pos hdf]
        have hm := (imissing k s hs hn hk T hT hT2 nums hN hsub hd he rep def_ l (vals ++ [(0, (⟨#[]⟩ : ByteArray), ())]) false pos hp).2 rfl
        cases hta : tkAll T rep def_ (lnum s e - lnum s a) (lnum s a) pos with
        | none =>
          rw [hta] at hm
          obtain ⟨pos', e1, e2⟩ := hm
          rw [e2]
          exact ⟨_, l, pos', _, e1, rfl, by simp⟩
        | some q =>
          rw [hta] at hm
          simp only at hm ⊢
          rw [hm]
          show _ = _
          rw [Bool.or_false]; rfl
      · rw [decide_eq_false hdf, cond_false, if_neg hdf]
        simp only [hcr, Option.bind_some]
        have hget : ∀ (v : TVal) (y : List TVal), rdL (vals ++ v :: y) (vals.length : Int) = some v := fun v y => getMid vals y v
        by_cases h2 : c.2.2.1 = 2
        · rw [beqT h2, cond_true, if_pos h2, hq1, hd1]
          have hs' := hC D (by omega) rep (def_ + 1) (deep + 1) pos (vals ++ [(0, (⟨#[]⟩ : ByteArray), ())]) l hp (by omega) (by omega) (by omega) (by omega) (hroom.one _)
          rw [show impl_joiner_body.rec k (D + 1) = (impl_joiner_body.b k (impl_joiner_body.rec k D).1 (impl_joiner_body.rec k D).2.1 (impl_joiner_body.rec k D).2.2, impl_joiner_col.b k (impl_joiner_body.rec k D).1 (impl_joiner_body.rec k D).2.1 (impl_joiner_body.rec k D).2.2, impl_joiner_repeat.b k (impl_joiner_body.rec k D).1 (impl_joiner_body.rec k D).2.1 (impl_joiner_body.rec k D).2.2) from rfl]
          simp only [impl_joiner_repeat.b]
          cases hCp : C rep (def_ + 1) (deep + 1) pos with
          | none =>
            rw [hCp] at hs'
            obtain ⟨nx', l', pos', v, e1, e2, e3⟩ := hs'
            have hpk2 := ipeek k s hs hn hk T hT hT2 nums hN hsub (by omega) he true l' pos' v e1
            have e3' : vals.length < v.length := by simp at e3; omega
            have hv : rdL v (vals.length : Int) = some v[vals.length] := by rw [rdL_nat, List.getElem?_eq_getElem e3']
            have hl4 : impl_joiner_repeat.l4 k (impl_joiner_body.rec k D).1 k (a : Int) (def_ + 1) (deep + 1) 0 (jn s T nums true l') (ip pos') v = some (0, (jn s T nums true l', ip pos', v)) := by
              conv => lhs; arg 3; rw [show k = (k - 1) + 1 by omega]
              simp only [impl_joiner_repeat.l4, hpk2, Option.bind_some]
              cases nxt T pos' (lnum s a) <;> rfl
            simp only [e2, Option.bind_some, hl4, impl_joiner_col.c15, hv, haf, cst]
            refine ⟨(e : Int), _, pos', _, e1, rfl, ?_⟩
            simp; omega
          | some r =>
            obtain ⟨y, q, l1⟩ := r
            rw [hCp] at hs'
            have e1 : (impl_joiner_body.rec k D).1 (a : Int) rep (def_ + 1) (deep + 1) (jn s T nums false l) (ip pos) (vals ++ [(0, (⟨#[]⟩ : ByteArray), ())]) = some ((e : Int), (jn s T nums false (l || l1), ip q, (vals ++ [(0, (⟨#[]⟩ : ByteArray), ())]) ++ y)) := hs'
            obtain ⟨a1, a2, pa, pb, a3, a4, a5⟩ := hG _ _ _ pos _ _ _ hCp hp
            obtain ⟨xr, pb', r1, r2, r3, r4⟩ := posGet k s hs hn hk T hT hT2 a1.ok hj
            rw [a4] at r2
            cases r2
            have hroom1 : Room d ((vals ++ [(0, (⟨#[]⟩ : ByteArray), ())]) ++ y) q := Room.more (hroom.one _) a1.sum a2 (by omega)
            have hi := irep_eq k s hs hn hk T hT hT2 nums hN (impl_joiner_body.rec k D).1 d a e d (by omega) hd hsub he (C (deep + 1) (def_ + 1) (deep + 1)) (fun pos => hG _ _ _ pos) (def_ + 1) (deep + 1)
              (fun pos vals l hpo hrm => hC D (by omega) _ _ _ pos vals l hpo (by omega) (by omega) (by omega) (by omega) hrm) (2000 - pb) k 3000 0 q ((vals ++ [(0, (⟨#[]⟩ : ByteArray), ())]) ++ y) (l || l1) pb a4 (Nat.le_refl _) (by omega) (by omega) (by omega) (by omega) a1.ok hroom1
            simp only [e1, Option.bind_some]
            cases hrep : aRep T (lnum s a) (deep + 1) (C (deep + 1) (def_ + 1) (deep + 1)) 3000 q with
            | none =>
              rw [hrep] at hi
              obtain ⟨n', l', pos', v, f1, f2, f3⟩ := hi
              have f2 : impl_joiner_repeat.l4 k (impl_joiner_body.rec k D).1 k (a : Int) (def_ + 1) (deep + 1) 0 (jn s T nums false (l || l1)) (ip q) ((vals ++ [(0, (⟨#[]⟩ : ByteArray), ())]) ++ y) = _ := f2
              have f3' : vals.length < v.length := by simp at f3; omega
              have hv : rdL v (vals.length : Int) = some v[vals.length] := by rw [rdL_nat, List.getElem?_eq_getElem f3']
              simp only [f2, Option.bind_some, impl_joiner_col.c15, hv, haf, cst]
              refine ⟨(e : Int), _, pos', _, f1, rfl, ?_⟩
              simp; omega
            | some r5 =>
              obtain ⟨i, Y, q2, l2⟩ := r5
              rw [hrep] at hi
              have hi : impl_joiner_repeat.l4 k (impl_joiner_body.rec k D).1 k (a : Int) (def_ + 1) (deep + 1) 0 (jn s T nums false (l || l1)) (ip q) ((vals ++ [(0, (⟨#[]⟩ : ByteArray), ())]) ++ y) = some (((0 + i : Nat) : Int), (jn s T nums false (l || l1 || l2), ip q2, ((vals ++ [(0, (⟨#[]⟩ : ByteArray), ())]) ++ y) ++ Y)) := hi
              have hib : i ≤ 3000 := by
                have key : ∀ (f : Nat) (pos : List Nat) (n : Nat) (Y : List TVal) (q : List Nat) (l : Bool), aRep T (lnum s a) (deep + 1) (C (deep + 1) (def_ + 1) (deep + 1)) f pos = some (n, Y, q, l) → n ≤ f := by
                  intro f
                  induction f with
                  | zero => intro pos n Y q l h; cases h
                  | succ f ihf =>
                    intro pos n Y q l h
                    simp only [aRep] at h
                    split at h
                    · simp only [Option.some.injEq, Prod.mk.injEq] at h; omega
                    · split at h
                      · split at h
                        · cases h
                        · split at h
                          · cases h
                          · rename_i h2
                            have := ihf _ _ _ _ _ h2
                            simp only [Option.some.injEq, Prod.mk.injEq] at h; omega
                      · simp only [Option.some.injEq, Prod.mk.injEq] at h; omega
                exact key _ _ _ _ _ _ hrep
              have hcnt : IntKind.wrap .i64 (1 + ((0 + i : Nat) : Int)) = ((i + 1 : Nat) : Int) := by rw [w64 (by omega) (by omega)]; omega
              simp only [List.append_assoc, List.singleton_append, List.cons_append, List.nil_append] at hi
              simp only [hi, Option.bind_some, impl_joiner_col.c15, List.append_assoc, List.singleton_append, List.cons_append, List.nil_append, hget, haf, setMid, hcnt, cst]
              show _ = _
              have hb : ((l || l1 || l2) || decide (((i + 1 : Nat) : Int) > 20)) = (l || (l1 || l2 || decide (20 < i + 1))) := by
                have : decide (((i + 1 : Nat) : Int) > 20) = decide (20 < i + 1) := by
                  by_cases h : 20 < i + 1
                  · rw [decide_eq_true h, decide_eq_true (by omega)]
                  · rw [decide_eq_false h, decide_eq_false (by omega)]
                rw [this, Bool.or_assoc, Bool.or_assoc, Bool.or_assoc]
              rw [hb]
        · rw [beqF h2, cond_false, if_neg h2, hd1]
          have hs' := hC (D + 1) (by omega) rep (def_ + 1) deep pos (vals ++ [(0, (⟨#[]⟩ : ByteArray), ())]) l hp (by omega) (by omega) (by omega) (by omega) (hroom.one _)
          cases hCp : C rep (def_ + 1) deep pos with
          | none =>
            rw [hCp] at hs'
            obtain ⟨nx', l', pos', v, e1, e2, e3⟩ := hs'
            have e3' : vals.length < v.length := by simp at e3; omega
            have hv : rdL v (vals.length : Int) = some v[vals.length] := by rw [rdL_nat, List.getElem?_eq_getElem e3']
            simp only [e2, Option.bind_some, impl_joiner_col.c15, hv, haf, cst]
            refine ⟨(e : Int), _, pos', _, e1, rfl, ?_⟩
            simp; omega
          | some r =>
            obtain ⟨y, q, l1⟩ := r
            rw [hCp] at hs'
            have e1 : (impl_joiner_body.rec k (D + 1)).1 (a : Int) rep (def_ + 1) deep (jn s T nums false l) (ip pos) (vals ++ [(0, (⟨#[]⟩ : ByteArray), ())]) = some ((e : Int), (jn s T nums false (l || l1), ip q, (vals ++ [(0, (⟨#[]⟩ : ByteArray), ())]) ++ y)) := hs'
            simp only [e1, Option.bind_some, impl_joiner_col.c15, List.append_assoc, List.singleton_append, hget, haf, setMid, cst]
            show _ = _
            rw [show decide ((1 : Int) > 20) = false from rfl, Bool.or_false]

theorem ibody_ok : ∀ (d D a nx : Nat), SubC s d a nx → nx ≤ s.length → d ≤ 6 → 3 * d ≤ D → ∀ (rep def_ deep : Int) (pos : List Nat) (vals : List TVal) (l : Bool), PosOk T pos → 0 ≤ def_ → def_ + d ≤ 1001 → 0 ≤ deep → deep + d ≤ 1001 → Room d vals pos →
    IM s T nums ((impl_joiner_body.rec k D).1 (a : Int) rep def_ deep (jn s T nums false l) (ip pos) vals) nx l vals (aC T s d a rep def_ deep pos) := by
  intro d
  induction d with
  | zero => intro D a nx h; exact h.elim
  | succ d ih =>
    intro D a nx h hnx hd hD rep def_ deep pos vals l hp b0 b1 b2 b3 hroom
    obtain ⟨D, rfl⟩ : ∃ q, D = q + 2 := ⟨D - 2, by omega⟩
    have hsub := h
    have hlt := SubC_lt _ _ _ h
    obtain ⟨c, hc, hco, _, hpp⟩ := h
    have hcm := (hn c (List.mem_of_getElem? hc)).2.2
    have hmp := PartsC_le (SubC_lt d) _ _ _ _ hpp
    have ha1 : IntKind.wrap .i64 ((a : Int) + 1) = ((a + 1 : Nat) : Int) := by rw [w64 (by omega) (by omega)]; omega
    have hsum := pos_sum hp (Tlen k s hs hn hk T hT hT2) hT2
    have hcr : rdL s (a : Int) = some c := hc
    rw [show impl_joiner_body.rec k (D + 2) = (impl_joiner_body.b k (impl_joiner_body.rec k (D + 1)).1 (impl_joiner_body.rec k (D + 1)).2.1 (impl_joiner_body.rec k (D + 1)).2.2, impl_joiner_col.b k (impl_joiner_body.rec k (D + 1)).1 (impl_joiner_body.rec k (D + 1)).2.1 (impl_joiner_body.rec k (D + 1)).2.2, impl_joiner_repeat.b k (impl_joiner_body.rec k (D + 1)).1 (impl_joiner_body.rec k (D + 1)).2.1 (impl_joiner_body.rec k (D + 1)).2.2) from rfl]
    simp only [impl_joiner_body.b, hcr, Option.bind_some, aC, hc]
    by_cases h7 : c.2.1 = 7
    · rw [bneF h7, cond_false, if_pos h7, ha1]
      have hmn : 0 ≤ c.2.2.2.1 := by
        unfold colOk at hco
        rw [h7, tyOk_7] at hco
        simp at hco
        omega
      have key : ∀ (m pl : Nat) (i : Int) (names : List ByteArray) (f : Nat) (pos : List Nat) (vals : List TVal) (l : Bool), PartsC (SubC s d) s m pl names nx → c.2.2.2.1 - i = m → 0 ≤ i → m < f → PosOk T pos → Room (d + 1) vals pos →
          IM s T nums (impl_joiner_body.l7 k (impl_joiner_body.rec k (D + 1)).2.1 f rep def_ deep (pl : Int) c.2.2.2.1 i (jn s T nums false l) (ip pos) vals) nx l vals (aParts (fun a pos => aPart T s (aC T s d a) (endC s d a) a rep def_ deep pos) (endC s d) m pl pos) := by
        intro m
        induction m with
        | zero =>
          intro pl i names f pos vals l hpp hi h0 hf hp hroom
          obtain ⟨f, rfl⟩ : ∃ q, f = q + 1 := ⟨f - 1, by omega⟩
          have hpp : pl = nx := hpp
          subst hpp
          simp only [aParts, IM, impl_joiner_body.l7, decide_eq_false (show ¬ (i < c.2.2.2.1) by omega), cond_false, List.append_nil, impl_joiner_body.c11, Bool.or_false]
        | succ m ihm =>
          intro pl i names f pos vals l hpp hi h0 hf hp hroom
          obtain ⟨q, mid, q1, q2, q3, q4⟩ := hpp
          have hmn' := PartsC_nx (SubC_lt d) _ _ _ _ q4
          obtain ⟨f, rfl⟩ : ∃ q, f = q + 1 := ⟨f - 1, by omega⟩
          have hi1 : IntKind.wrap .i64 (i + 1) = i + 1 := w64 (by omega) (by omega)
          have hend : endC s d pl = mid := endC_eq d q3 d (Nat.le_refl _)
          have hpart : IM s T nums ((impl_joiner_body.rec k (D + 1)).2.1 (pl : Int) rep def_ deep (jn s T nums false l) (ip pos) vals) mid l vals (aPart T s (aC T s d pl) mid pl rep def_ deep pos) := by
            obtain ⟨d', rfl⟩ : ∃ q, d = q + 1 := ⟨d - 1, by cases d with
              | zero => exact q3.elim
              | succ d => omega⟩
            have q3' := q3
            obtain ⟨c', hc', hco', _, _⟩ := q3
            have hrep : c'.2.2.1 = 0 ∨ c'.2.2.1 = 1 ∨ c'.2.2.1 = 2 := by
              unfold colOk at hco'
              simp only [Bool.and_eq_true, decide_eq_true_eq] at hco'
              omega
            exact ipart_eq k s hs hn hk T hT hT2 nums hN (d' + 1) D pl mid (by omega) (by omega) q3' (aC T s (d' + 1) pl) c' hc' hrep (fun r q p pos => aC_G _ pl mid q3' r q p pos)
              (fun D' hD' rep def_ deep pos vals l h1 h2 h3 h4 h5 h6 => ih D' pl mid q3' (by omega) (by omega) hD' rep def_ deep pos vals l h1 h2 h3 h4 h5 h6) (by omega) rep def_ deep pos vals l hp b0 (by omega) b2 (by omega) hroom
          simp only [aParts, hend]
          simp only [impl_joiner_body.l7, decide_eq_true (show i < c.2.2.2.1 by omega), cond_true, cond_false, hi1]
          cases hap : aPart T s (aC T s d pl) mid pl rep def_ deep pos with
          | none =>
            rw [hap] at hpart
            obtain ⟨nx', l', pos', v, e1, e2, e3⟩ := hpart
            simp only [e2, Option.bind_some, aSeq]
            obtain ⟨f, rfl⟩ : ∃ q, f = q + 1 := ⟨f - 1, by omega⟩
            refine ⟨nx', l', pos', v, e1, ?_, e3⟩
            simp only [impl_joiner_body.l7, impl_joiner_body.c11]
            by_cases hlt : i + 1 < c.2.2.2.1
            · rw [decide_eq_true hlt]; rfl
            · rw [decide_eq_false hlt]; rfl
          | some r =>
            obtain ⟨Y, q5, l1⟩ := r
            rw [hap] at hpart
            have e : (impl_joiner_body.rec k (D + 1)).2.1 (pl : Int) rep def_ deep (jn s T nums false l) (ip pos) vals = some ((mid : Int), (jn s T nums false (l || l1), ip q5, vals ++ Y)) := hpart
            obtain ⟨a1, a2, _⟩ := aPart_G q3 (fun r q p pos => aC_G d pl mid q3 r q p pos) rep def_ deep pos _ _ _ hap hp
            have hi := ihm mid (i + 1) _ f q5 (vals ++ Y) (l || l1) q4 (by omega) (by omega) (by omega) a1.ok (Room.more hroom a1.sum a2 (by omega))
            simp only [e, Option.bind_some, aSeq]
            cases har : aParts (fun a pos => aPart T s (aC T s d a) (endC s d a) a rep def_ deep pos) (endC s d) m mid q5 with
            | none =>
              rw [har] at hi
              obtain ⟨nx', l', pos', v, e1, e2, e3⟩ := hi
              exact ⟨nx', l', pos', v, e1, e2, by rw [List.length_append] at e3; omega⟩
            | some r6 =>
              obtain ⟨Y2, q6, l6⟩ := r6
              rw [har] at hi
              simp only [IM] at hi ⊢
              rw [hi, List.append_assoc, Bool.or_assoc]
      exact key c.2.2.2.1.toNat (a + 1) 0 [] k pos vals l hpp (by omega) (by omega) (by omega) hp hroom
    · rw [bneT h7, cond_true, if_neg h7]
      have hm0 : c.2.2.2.1.toNat = 0 := by
        unfold colOk at hco
        rw [beqF h7] at hco
        simp at hco
        omega
      rw [hm0] at hpp
      have hpp : a + 1 = nx := hpp
      subst hpp
      rw [itake_eq k s hs hn hk T hT hT2 nums hN hc h7 hsub (by omega) hnx false l rep def_ pos vals hp]
      have hlim : ∀ v : TVal, lim (vals.length + [v].length) = true := fun v => by have := Room.lim hroom hsum (show 1 ≤ 10 by omega); simpa using this
      cases htk : tk T rep def_ pos (lnum s a) with
      | none =>
        simp only [Option.bind_some, hlim, cond_true]
        exact ⟨_, l, pos, _, hp, rfl, by simp⟩
      | some r =>
        obtain ⟨v, q⟩ := r
        simp only [Option.bind_some, hlim, cond_true, ha1]
        show _ = _
        rw [Bool.or_false]
end
end Go.Law
end

section
/- What is put together is a record, if it is not too large. -/
set_option linter.unusedVariables false
set_option linter.unusedSimpArgs false
set_option linter.unusedSectionVars false
namespace Go.Law
open Go.Am Go.Fn

/-- what a part of a record is, that is put together -/
def PA (C : List TVal → Option (List TVal)) (Y : List TVal) (l : Bool) : Prop := (l = false → ∀ W, C (Y ++ W) = some W) ∧ (l = true → ∀ W, C (Y ++ W) = none)

/-- values are right where they are -/
def RightT (s : List TCol) (T : TRows) : Prop := ∀ (a : Nat) (c : TCol), s[a]? = some c → c.2.1 ≠ 7 → ∀ x, T[lnum s a]? = some x → ∀ t, t ∈ x → t.2.1 = (lvD s isOpt 1 a : Nat) → vok c.2.1 t.2.2.1 = true

theorem rep_PA {T : TRows} {j m : Nat} {deep : Int} {C : List Nat → AR} {R : List TVal → Option (List TVal)} (hG : ∀ pos, ArG T j m pos (C pos)) (h : ∀ pos Y q l, PosOk T pos → C pos = some (Y, q, l) → PA R Y l) : ∀ (f : Nat) (pos : List Nat) (n : Nat) (Y : List TVal) (q : List Nat) (l : Bool), PosOk T pos → aRep T j deep C f pos = some (n, Y, q, l) → PA (rIt R n) Y l
  | 0, _, _, _, _, _, _, he => by cases he
  | f + 1, pos, n, Y, q, l, hp, he => by
    have triv : some (0, ([] : List TVal), pos, false) = some (n, Y, q, l) → PA (rIt R n) Y l := by
      intro he
      simp only [Option.some.injEq, Prod.mk.injEq] at he
      obtain ⟨rfl, rfl, rfl, rfl⟩ := he
      exact ⟨fun _ W => rfl, fun h => by cases h⟩
    simp only [aRep] at he
    split at he
    · exact triv he
    · split at he
      · split at he
        · cases he
        · rename_i x p l1 h1
          split at he
          · cases he
          · rename_i n2 y q2 m2 h2
            simp only [Option.some.injEq, Prod.mk.injEq] at he
            obtain ⟨rfl, rfl, rfl, rfl⟩ := he
            obtain ⟨a1, a2⟩ := h pos x p l1 hp h1
            obtain ⟨b1, b2⟩ := rep_PA hG h f p n2 y q2 m2 ((hG pos _ _ _ h1 hp).1.ok) h2
            cases l1 with
            | true => exact ⟨fun h => (by cases h), fun _ W => by rw [List.append_assoc]; simp only [rIt]; rw [a2 rfl]; rfl⟩
            | false =>
              refine ⟨fun hl W => ?_, fun hl W => ?_⟩
              · rw [List.append_assoc]; simp only [rIt]; rw [a1 rfl]; exact b1 hl W
              · rw [List.append_assoc]; simp only [rIt]; rw [a1 rfl]; exact b2 hl W
      · exact triv he

theorem part_PA {s : List TCol} {T : TRows} {d pl mid m : Nat} (hd : d ≤ 6) (hs : SubC s d pl mid) {C : Int → Int → Int → List Nat → AR} {R : List TVal → Option (List TVal)} (hG : ∀ r q p pos, ArG T (lnum s pl) m pos (C r q p pos)) (def_ : Int) (hD : ∀ L, pl ≤ L → L < mid → def_ + (lvD s isOpt pl L : Nat) = (lvD s isOpt 1 L : Nat))
    (hC : ∀ (rep dd deep : Int), (∀ L, pl ≤ L → L < mid → dd + (lvD s isOpt (pl + 1) L : Nat) = (lvD s isOpt 1 L : Nat)) → ∀ pos Y q l, PosOk T pos → C rep dd deep pos = some (Y, q, l) → PA R Y l)
    (rep deep : Int) (pos : List Nat) (Y : List TVal) (q : List Nat) (l : Bool) (hp : PosOk T pos) (he : aPart T s C mid pl rep def_ deep pos = some (Y, q, l)) : PA (rPart s R pl) Y l := by
  have hend := colEnd_eq hd hs
  unfold aPart at he
  split at he
  · cases he
  · rename_i c hc
    have up : ∀ dd : Int, dd = def_ + (if isOpt c = true then 1 else 0 : Nat) → ∀ L, pl ≤ L → L < mid → dd + (lvD s isOpt (pl + 1) L : Nat) = (lvD s isOpt 1 L : Nat) := by
      intro dd hdd L h1 h2
      have := lvD_cons (f := isOpt) hc h1 (by rw [hend]; exact h2)
      have h3 := hD L h1 h2
      omega
    split at he
    · rename_i h0
      have ho : isOpt c = false := by simp [isOpt, h0]
      obtain ⟨a1, a2⟩ := hC rep def_ deep (up def_ (by rw [ho]; simp)) pos Y q l hp he
      have e : ∀ V, rPart s R pl V = R V := fun V => by unfold rPart; rw [hc]; simp only; rw [if_pos h0]
      exact ⟨fun h W => by rw [e]; exact a1 h W, fun h W => by rw [e]; exact a2 h W⟩
    · rename_i h0
      have ho : isOpt c = true := by simp [isOpt, h0]
      have hup := up (def_ + 1) (by rw [if_pos ho]; rfl)
      have e : ∀ (v : TVal) (V : List TVal), rPart s R pl (v :: V) = if cbad v (if c.2.2.1 = 2 then 20 else 1) = true then none else rIt R v.1.toNat V := fun v V => by
        unfold rPart; rw [hc]; simp only; rw [if_neg h0]
      have hcb : ∀ (n most : Int), cbad (n, (⟨#[]⟩ : ByteArray), ()) most = !(decide (0 ≤ n) && decide (n ≤ most)) := fun n most => by
        unfold cbad
        have : eqS (⟨#[]⟩ : ByteArray) ⟨#[]⟩ = true := by rw [eqS_iff]; exact decide_eq_true rfl
        rw [this]; rfl
      split at he
      · cases he
      · split at he
        · split at he
          · cases he
          · simp only [Option.some.injEq, Prod.mk.injEq] at he
            obtain ⟨rfl, rfl, rfl⟩ := he
            refine ⟨fun _ W => ?_, fun h => by cases h⟩
            show rPart s R pl (zv :: W) = some W
            rw [e]
            unfold zv
            rw [hcb]
            have : decide ((0 : Int) ≤ (if c.2.2.1 = 2 then 20 else 1)) = true := decide_eq_true (by split <;> omega)
            rw [this]; rfl
        · split at he
          · rename_i h2
            split at he
            · cases he
            · rename_i x p l1 h1
              split at he
              · cases he
              · rename_i n y q1 m1 h3
                simp only [Option.some.injEq, Prod.mk.injEq] at he
                obtain ⟨rfl, rfl, rfl⟩ := he
                obtain ⟨a1, a2⟩ := hC _ _ _ hup pos x p l1 hp h1
                obtain ⟨b1, b2⟩ := rep_PA (fun pos => hG _ _ _ pos) (fun pos Y q l hp h => hC _ _ _ hup pos Y q l hp h) _ _ _ _ _ _ ((hG _ _ _ _ _ _ _ h1 hp).1.ok) h3
                have e2 : ∀ W, rPart s R pl ((((n + 1 : Nat) : Int), (⟨#[]⟩ : ByteArray), ()) :: (x ++ y) ++ W) = if 20 < n + 1 then none else (R (x ++ (y ++ W))).bind (rIt R n) := by
                  intro W
                  rw [List.cons_append, e, hcb, if_pos h2]
                  rw [List.append_assoc]
                  by_cases h20 : 20 < n + 1
                  · rw [decide_eq_false (show ¬ (((n + 1 : Nat) : Int) ≤ 20) by omega), Bool.and_false, if_pos h20]; rfl
                  · rw [decide_eq_true (show (((n + 1 : Nat) : Int) ≤ 20) by omega), decide_eq_true (show (0 : Int) ≤ ((n + 1 : Nat) : Int) by omega), if_neg h20]
                    show rIt R (((n + 1 : Nat) : Int)).toNat _ = _
                    rw [Int.toNat_natCast]
                    rfl
                constructor
                · intro hl W
                  simp only [Bool.or_eq_false_iff, decide_eq_false_iff_not] at hl
                  rw [e2, if_neg hl.2, a1 hl.1.1]
                  exact b1 hl.1.2 W
                · intro hl W
                  rw [e2]
                  by_cases h20 : 20 < n + 1
                  · rw [if_pos h20]
                  · rw [if_neg h20]
                    rw [decide_eq_false h20, Bool.or_false, Bool.or_eq_true] at hl
                    cases l1 with
                    | true => rw [a2 rfl]; rfl
                    | false =>
                      rw [a1 rfl]
                      exact b2 (hl.elim (fun h => by cases h) id) W
          · rename_i h2
            split at he
            · cases he
            · rename_i x p l1 h1
              simp only [Option.some.injEq, Prod.mk.injEq] at he
              obtain ⟨rfl, rfl, rfl⟩ := he
              obtain ⟨a1, a2⟩ := hC _ _ _ hup pos x p l1 hp h1
              have e2 : ∀ W, rPart s R pl (((1 : Int), (⟨#[]⟩ : ByteArray), ()) :: x ++ W) = R (x ++ W) := by
                intro W
                rw [List.cons_append, e, hcb, if_neg h2]
                show rIt R 1 (x ++ W) = R (x ++ W)
                simp only [rIt]
                cases R (x ++ W) <;> rfl
              exact ⟨fun h W => by rw [e2]; exact a1 h W, fun h W => by rw [e2]; exact a2 h W⟩

theorem aC_PA {s : List TCol} {T : TRows} (hR : RightT s T) : ∀ (d a nx : Nat), d ≤ 6 → SubC s d a nx → ∀ (rep def_ deep : Int), (∀ L, a ≤ L → L < nx → def_ + (lvD s isOpt (a + 1) L : Nat) = (lvD s isOpt 1 L : Nat)) →
    ∀ pos Y q l, PosOk T pos → aC T s d a rep def_ deep pos = some (Y, q, l) → PA (rC s d a) Y l
  | 0, _, _, _, h, _, _, _, _, _, _, _, _, _, _ => h.elim
  | d + 1, a, nx, hd, h, rep, def_, deep, hD, pos, Y, q, l, hp, he => by
    have hlt := SubC_lt _ _ _ h
    obtain ⟨c, hc, hco, _, hpp⟩ := h
    simp only [aC, hc] at he
    split at he
    · rename_i h7
      have e0 : ∀ V, rC s (d + 1) a V = rParts (fun a V => rPart s (rC s d a) a V) (endC s d) c.2.2.2.1.toNat (a + 1) V := fun V => by
        simp only [rC, hc]; rw [if_pos h7]
      have key : ∀ (m pl : Nat) (names : List ByteArray) (pos : List Nat) (Y : List TVal) (q : List Nat) (l : Bool), PartsC (SubC s d) s m pl names nx → a + 1 ≤ pl → (∀ u, a + 1 ≤ u → u < pl → colEnd s u ≤ pl) → PosOk T pos → aParts (fun a pos => aPart T s (aC T s d a) (endC s d a) a rep def_ deep pos) (endC s d) m pl pos = some (Y, q, l) →
          PA (rParts (fun a V => rPart s (rC s d a) a V) (endC s d) m pl) Y l := by
        intro m
        induction m with
        | zero =>
          intro pl names pos Y q l hpp h1 h2 hp he
          simp only [aParts, Option.some.injEq, Prod.mk.injEq] at he
          obtain ⟨rfl, rfl, rfl⟩ := he
          exact ⟨fun _ W => rfl, fun h => by cases h⟩
        | succ m ih =>
          intro pl names pos Y q l hpp h1 h2 hp he
          obtain ⟨_, mid, _, _, q3, q4⟩ := hpp
          have hmn := PartsC_nx (SubC_lt d) _ _ _ _ q4
          have hend : endC s d pl = mid := endC_eq d q3 d (Nat.le_refl _)
          have hlt' := SubC_lt _ _ _ q3
          simp only [aParts] at he
          obtain ⟨x, p, l1, y, l2, g1, g2, rfl, rfl⟩ := aSeq_some he
          rw [hend] at g1 g2
          have h3 : ∀ u, a + 1 ≤ u → u < mid → colEnd s u ≤ mid := fun u u1 u2 => by
            rcases Nat.lt_or_ge u pl with u3 | u3
            · have := h2 u u1 u3; omega
            · exact (colEnd_in (by omega) q3 u3 u2).2
          obtain ⟨a1, a2⟩ := part_PA (R := rC s d pl) (by omega) q3 (fun r q p pos => aC_G d pl mid q3 r q p pos) def_ (fun L l1 l2 => by
              have hsk := lvD_skip (s := s) (f := isOpt) h1 l1 (fun u u1 u2 => by have := h2 u u1 u2; omega)
              rw [← hsk]; exact hD L (by omega) (by omega))
            (fun rep dd deep hdd pos Y q l hp h => aC_PA hR d pl mid (by omega) q3 rep dd deep hdd pos Y q l hp h) rep deep pos x p l1 hp g1
          obtain ⟨b1, b2⟩ := ih mid _ p y q l2 q4 (by omega) h3 ((aPart_G q3 (fun r q p pos => aC_G d pl mid q3 r q p pos) rep def_ deep pos _ _ _ g1 hp).1.ok) g2
          have e1 : ∀ V, rParts (fun a V => rPart s (rC s d a) a V) (endC s d) (m + 1) pl V = (rPart s (rC s d pl) pl V).bind (rParts (fun a V => rPart s (rC s d a) a V) (endC s d) m mid) := fun V => by
            simp only [rParts, hend]
          cases l1 with
          | true => exact ⟨fun h => (by cases h), fun _ W => by rw [e1, List.append_assoc, a2 rfl]; rfl⟩
          | false =>
            refine ⟨fun hl W => ?_, fun hl W => ?_⟩
            · rw [e1, List.append_assoc, a1 rfl]; exact b1 hl W
            · rw [e1, List.append_assoc, a1 rfl]; exact b2 hl W
      have := key _ _ _ _ _ _ _ hpp (Nat.le_refl _) (fun u u1 u2 => by omega) hp he
      exact ⟨fun h W => by rw [e0]; exact this.1 h W, fun h W => by rw [e0]; exact this.2 h W⟩
    · rename_i h7
      split at he
      · cases he
      · rename_i v q1 h1
        simp only [Option.some.injEq, Prod.mk.injEq] at he
        obtain ⟨rfl, rfl, rfl⟩ := he
        obtain ⟨x, p, e1, e2, e3, e4, e5, e6⟩ := tk_some h1 hp
        have hv := hR a c hc h7 x e1 _ (List.mem_of_getElem? e3) (by
          have := hD a (Nat.le_refl _) hlt
          rw [lvD_self] at this
          simpa using this)
        refine ⟨fun _ W => ?_, fun h => by cases h⟩
        simp only [rC, hc, List.singleton_append]
        rw [if_neg h7]
        simp only at hv
        rw [hv]; rfl

/-- a whole record -/
theorem rec_PA {s : List TCol} {T : TRows} (hS : IsSchema s) (hR : RightT s T) (pos : List Nat) (Y : List TVal) (q : List Nat) (l : Bool) (hp : PosOk T pos) (he : aC T s 6 0 0 0 0 pos = some (Y, q, l)) : (recEv s Y).isSome = (!l && decide (Y.length ≤ 300)) := by
  obtain ⟨a1, a2⟩ := aC_PA hR 6 0 s.length (Nat.le_refl _) hS.2.2.1 0 0 0 (fun L h1 h2 => by simp) pos Y q l hp he
  unfold recEv
  by_cases h300 : Y.length ≤ 300
  · rw [if_pos h300, decide_eq_true h300, Bool.and_true]
    cases l with
    | false =>
      have := a1 rfl []
      rw [List.append_nil] at this
      obtain ⟨X, hX⟩ := rC_some this 0 0 0
      rw [hX]; rfl
    | true =>
      have := a2 rfl []
      rw [List.append_nil] at this
      rw [rC_none this 0 0 0]; rfl
  · rw [if_neg h300, decide_eq_false h300, Bool.and_false]; rfl
end Go.Law
end

section
/- Assemble: the program's is the reference's. -/
set_option linter.unusedVariables false
set_option linter.unusedSimpArgs false
set_option linter.unusedSectionVars false
namespace Go.Law
open Go.Am Go.Fn

/-- a triple that is right for a leaf -/
def tripOk (l : TLeaf) (t : TTriple) : Bool :=
  (decide (0 ≤ t.1) && decide (t.1 ≤ l.2.1)) && ((decide (0 ≤ t.2.1) && decide (t.2.1 ≤ l.2.2.1)) && (if t.2.1 = l.2.2.1 then vok l.1 t.2.2.1 else (t.2.2.1.1 == 0) && eqS t.2.2.1.2.1 ⟨#[]⟩))

theorem stripOk (k : Nat) (l : TLeaf) (t : TTriple) : spec_l15Right k l t = some (tripOk l t) := by
  unfold spec_l15Right tripOk
  simp only [l1In_eq, Option.bind_some, svalOk_eq]
  cases hr : (decide (0 ≤ t.1) && decide (t.1 ≤ l.2.1)) with
  | false => rfl
  | true =>
    cases hd : (decide (0 ≤ t.2.1) && decide (t.2.1 ≤ l.2.2.1)) with
    | false => rfl
    | true =>
      simp only [Bool.and_eq_true, decide_eq_true_eq] at hd
      simp only [Bool.not_true, cond_false, Option.bind_some, Bool.true_and]
      by_cases h : t.2.1 = l.2.2.1
      · rw [decide_eq_false (by omega), cond_false, if_pos h]
      · rw [decide_eq_true (by omega), cond_true, if_neg h, Bool.and_true]
theorem itripOk (k : Nat) (l : TLeaf) (t : TTriple) : impl_tripleOk k l t = some (tripOk l t) := by
  unfold impl_tripleOk tripOk
  simp only [within_eq, Option.bind_some, valOk_eq]
  cases hr : (decide (0 ≤ t.1) && decide (t.1 ≤ l.2.1)) with
  | false => rfl
  | true =>
    cases hd : (decide (0 ≤ t.2.1) && decide (t.2.1 ≤ l.2.2.1)) with
    | false => rfl
    | true =>
      simp only [Bool.not_true, cond_false, Option.bind_some, Bool.true_and]
      by_cases h : t.2.1 = l.2.2.1
      · rw [beqT h, cond_true, if_pos h]
      · rw [beqF h, cond_false, if_neg h, Bool.and_true]

/-- how many rows -/
def rowsN (x : List TTriple) : Nat := (x.filter fun t => t.1 == 0).length
theorem rowsN_cons (t : TTriple) (x : List TTriple) : rowsN (t :: x) = (if t.1 = 0 then 1 else 0) + rowsN x := by
  unfold rowsN
  rw [List.filter_cons]
  by_cases h : t.1 = 0
  · rw [beqT h, if_pos h]; simp; omega
  · rw [beqF h, if_neg h]; simp

theorem rowsOf_eq (k : Nat) (x : List TTriple) (hx : x.length ≤ 1048576) (hk : 2000000 ≤ k) : spec_RowsOf k x = some (rowsN x : Int) ∧ impl_RowsOf k x = some (rowsN x : Int) := by
  have key : ∀ (post pre : List TTriple) (f n : Nat), x = pre ++ post → post.length < f → n ≤ pre.length → spec_RowsOf.l3 k f x (n : Int) (pre.length : Int) = some ((n + rowsN post : Nat) : Int) ∧ impl_RowsOf.l3 k f (n : Int) x (x.length : Int) (pre.length : Int) = some ((n + rowsN post : Nat) : Int) := by
    intro post
    induction post with
    | nil =>
      intro pre f n h hf hn
      obtain ⟨f, rfl⟩ : ∃ q, f = q + 1 := ⟨f - 1, by omega⟩
      rw [List.append_nil] at h
      subst h
      simp only [spec_RowsOf.l3, impl_RowsOf.l3, decide_eq_false (show ¬ ((x.length : Int) < (x.length : Int)) by omega), cond_false]
      exact ⟨rfl, rfl⟩
    | cons t post ih =>
      intro pre f n h hf hn
      simp only [List.length_cons] at hf
      obtain ⟨f, rfl⟩ : ∃ q, f = q + 1 := ⟨f - 1, by omega⟩
      have hlen : x.length = pre.length + (post.length + 1) := by rw [h]; simp
      have hg : rdL x (pre.length : Int) = some t := by rw [h]; exact getMid _ _ _
      have hi1 : IntKind.wrap .i64 ((pre.length : Int) + 1) = ((pre.length + 1 : Nat) : Int) := by rw [w64 (by omega) (by omega)]; omega
      have hn1 : IntKind.wrap .i64 ((n : Int) + 1) = ((n + 1 : Nat) : Int) := by rw [w64 (by omega) (by omega)]; omega
      have hi := fun (n : Nat) (hnn : n ≤ pre.length + 1) => ih (pre ++ [t]) f n (by rw [h]; simp) (by omega) (by rw [List.length_append, List.length_singleton]; exact hnn)
      rw [List.length_append, List.length_singleton] at hi
      simp only [spec_RowsOf.l3, impl_RowsOf.l3, decide_eq_true (show (pre.length : Int) < (x.length : Int) by omega), cond_true, hg, Option.bind_some, spec_RowsOf.c4, impl_RowsOf.c7, hi1, hn1]
      rw [rowsN_cons]
      by_cases h0 : t.1 = 0
      · rw [beqT h0, cond_true, cond_true, if_pos h0, show n + (1 + rowsN post) = n + 1 + rowsN post by omega]
        exact hi (n + 1) (by omega)
      · rw [beqF h0, cond_false, cond_false, if_neg h0, Nat.zero_add]
        exact hi n (by omega)
  have := key x [] k 0 rfl (by omega) (by simp)
  rw [Nat.zero_add] at this
  exact this

section
variable (k : Nat) (s : List TCol) (hn : ∀ c, c ∈ s → c.1.size < k ∧ c.1.size < 1000000000 ∧ I64 c.2.2.2.1) (hk : 2000000 ≤ k)
variable (hS : IsSchema s) (hok : spec_SchemaOk k s = some true) (hok2 : impl_SchemaOk k s = some true)
include hn hk hS hok hok2

/-- a column that is right -/
def colRight (s : List TCol) (j : Nat) (x : List TTriple) : Prop := x.length ≤ 2000 ∧ (∀ t r, x = t :: r → t.1 = 0) ∧ ∀ (L : Nat) (c : TCol), s[L]? = some c → c.2.1 ≠ 7 → lnum s L = j → ∀ t, t ∈ x → tripOk (c.2.1, (lvD s isRep 1 L : Int), (lvD s isOpt 1 L : Int), ()) t = true

theorem triplesOk_eq (j : Nat) (x : List TTriple) (hx : x.length ≤ 1048576) : ∃ b, spec_TriplesOk k s (j : Int) x = some b ∧ impl_TriplesOk k s (j : Int) x = some b ∧ (b = true → colRight s j x) ∧ (b = false → j < lnum s s.length → ¬ colRight s j x) := by
  obtain ⟨l, b, e1, e2, e3⟩ := leafOf_eq k s hn hk hS hok hok2 (j : Int)
  have sl : ∀ (post pre : List TTriple) (f : Nat), x = pre ++ post → post.length < f → spec_TriplesOk.l5 k f x (pre.length : Int) l = some (post.all (tripOk l)) := by
    intro post
    induction post with
    | nil =>
      intro pre f h hf
      obtain ⟨f, rfl⟩ : ∃ q, f = q + 1 := ⟨f - 1, by omega⟩
      rw [List.append_nil] at h
      subst h
      simp only [spec_TriplesOk.l5, decide_eq_false (show ¬ ((x.length : Int) < (x.length : Int)) by omega), cond_false]
      rfl
    | cons t post ih =>
      intro pre f h hf
      simp only [List.length_cons] at hf
      obtain ⟨f, rfl⟩ : ∃ q, f = q + 1 := ⟨f - 1, by omega⟩
      have hlen : x.length = pre.length + (post.length + 1) := by rw [h]; simp
      have hg : rdL x (pre.length : Int) = some t := by rw [h]; exact getMid _ _ _
      have hi1 : IntKind.wrap .i64 ((pre.length : Int) + 1) = ((pre.length + 1 : Nat) : Int) := by rw [w64 (by omega) (by omega)]; omega
      have hi := ih (pre ++ [t]) f (by rw [h]; simp) (by omega)
      rw [List.length_append, List.length_singleton] at hi
      simp only [spec_TriplesOk.l5, decide_eq_true (show (pre.length : Int) < (x.length : Int) by omega), cond_true, hg, Option.bind_some, stripOk, hi1, hi, List.all_cons]
      cases tripOk l t <;> rfl
  have il : ∀ (post pre : List TTriple) (f : Nat), x = pre ++ post → post.length < f → impl_triplesRight.l2 k f x x (x.length : Int) (pre.length : Int) l = some (post.all (tripOk l) && decide (x.length ≤ 2000)) := by
    intro post
    induction post with
    | nil =>
      intro pre f h hf
      obtain ⟨f, rfl⟩ : ∃ q, f = q + 1 := ⟨f - 1, by omega⟩
      rw [List.append_nil] at h
      subst h
      simp only [impl_triplesRight.l2, decide_eq_false (show ¬ ((x.length : Int) < (x.length : Int)) by omega), cond_false, List.all_nil, Bool.true_and]
      congr 1
      by_cases h : x.length ≤ 2000
      · rw [decide_eq_true h, decide_eq_true (by omega)]
      · rw [decide_eq_false h, decide_eq_false (by omega)]
    | cons t post ih =>
      intro pre f h hf
      simp only [List.length_cons] at hf
      obtain ⟨f, rfl⟩ : ∃ q, f = q + 1 := ⟨f - 1, by omega⟩
      have hlen : x.length = pre.length + (post.length + 1) := by rw [h]; simp
      have hg : rdL x (pre.length : Int) = some t := by rw [h]; exact getMid _ _ _
      have hi1 : IntKind.wrap .i64 ((pre.length : Int) + 1) = ((pre.length + 1 : Nat) : Int) := by rw [w64 (by omega) (by omega)]; omega
      have hi := ih (pre ++ [t]) f (by rw [h]; simp) (by omega)
      rw [List.length_append, List.length_singleton] at hi
      simp only [impl_triplesRight.l2, decide_eq_true (show (pre.length : Int) < (x.length : Int) by omega), cond_true, hg, Option.bind_some, itripOk, hi1, hi, List.all_cons]
      cases tripOk l t <;> rfl
  have sl0 : spec_TriplesOk.l5 k k x 0 l = some (x.all (tripOk l)) := sl x [] k rfl (by omega)
  have il0 : impl_triplesRight.l2 k k x x (x.length : Int) 0 l = some (x.all (tripOk l) && decide (x.length ≤ 2000)) := il x [] k rfl (by omega)
  have hfirst : (cond (decide ((x.length : Int) > 0)) ((rdL x 0).bind fun y5 => some (y5.1 != 0)) (some false)) = some (match x with | [] => false | t :: _ => t.1 != 0) := by
    cases x with
    | nil => rfl
    | cons t r =>
      rw [decide_eq_true (by simp only [List.length_cons]; omega)]; rfl
  have hfirst2 : (cond ((x.length : Int) == 0) (some true) ((rdL x 0).bind fun y5 => some (y5.1 == 0))) = some (match x with | [] => true | t :: _ => t.1 == 0) := by
    cases x with
    | nil => rfl
    | cons t r =>
      rw [beqF (by simp only [List.length_cons]; omega)]; rfl
  unfold spec_TriplesOk impl_TriplesOk impl_triplesRight
  simp only [e1, e2, Option.bind_some, il0, sl0, hfirst, hfirst2]
  have hall : b = true → ((x.all (tripOk l) = true) ↔ ∀ (L : Nat) (c : TCol), s[L]? = some c → c.2.1 ≠ 7 → lnum s L = j → ∀ t, t ∈ x → tripOk (c.2.1, (lvD s isRep 1 L : Int), (lvD s isOpt 1 L : Int), ()) t = true) := by
    intro hb
    obtain ⟨L, c, q1, q2, q3, q4, q5⟩ := e3 hb
    rw [q5, List.all_eq_true]
    constructor
    · intro h L' c' h1 h2 h3 t ht
      have : L' = L := lnum_inj h1 q2 h2 q3 (by omega)
      subst this
      rw [q2] at h1
      cases h1
      exact h t ht
    · intro h t ht
      exact h L c q2 q3 (by omega) t ht
  have hb0 : b = false → ¬ j < lnum s s.length := by
    intro hb hj
    have hl := leavesFrom_lnum s [] s rfl
    have hl' : (leavesFrom 0 s).length = lnum s s.length := hl
    obtain ⟨v1, v2⟩ := leaves_eq k (by omega) s (by have := hS.2.1; omega)
    unfold spec_LeafOf spec_SchemaLeaves at e1
    rw [hok] at e1
    have hll := leavesFrom_len 0 s
    have hs20 := hS.2.1
    simp only [Option.bind_some, Bool.not_true, cond_false, v2, l1In_eq] at e1
    rw [w64 (show -9223372036854775808 ≤ ((leavesFrom 0 s).length : Int) - 1 by omega) (by omega), show (decide ((0 : Int) ≤ (j : Int)) && decide ((j : Int) ≤ ((leavesFrom 0 s).length : Int) - 1)) = true by simp; omega] at e1
    simp only [Bool.not_true, cond_false] at e1
    cases h1 : rdL (leavesFrom 0 s) (j : Int) with
    | none => rw [h1] at e1; cases e1
    | some y =>
      rw [h1] at e1
      simp only [Option.bind_some] at e1
      cases h2 : spec_l5Max k s y with
      | none => rw [h2] at e1; cases e1
      | some z =>
        rw [h2] at e1
        simp only [Option.bind_some] at e1
        cases h3 : rdL s y with
        | none => rw [h3] at e1; cases e1
        | some w =>
          rw [h3] at e1
          simp only [Option.bind_some, Option.some.injEq, Prod.mk.injEq] at e1
          rw [hb] at e1
          cases e1.2
  cases b with
  | false => exact ⟨false, rfl, rfl, fun h => (by cases h), fun _ h => absurd h (hb0 rfl)⟩
  | true =>
    have hall := hall rfl
    simp only [Bool.not_true, cond_false, cond_true, Option.bind_some]
    by_cases h2000 : x.length ≤ 2000
    · rw [decide_eq_false (show ¬ ((x.length : Int) > 2000) by omega), decide_eq_true h2000, Bool.and_true]
      simp only [cond_false, Option.bind_some]
      cases x with
      | nil =>
        simp only [cond_false, List.all_nil, cond_true, Option.bind_some]
        exact ⟨true, rfl, rfl, fun _ => ⟨h2000, fun t r h => (by cases h), hall.1 rfl⟩, fun h => by cases h⟩
      | cons t r =>
        simp only
        by_cases h0 : t.1 = 0
        · rw [bneF h0, beqT h0]
          simp only [cond_false]
          refine ⟨(t :: r).all (tripOk l), rfl, ?_, fun hb => ⟨h2000, fun t' r' h => (by cases h; exact h0), hall.1 hb⟩, fun hb _ hc => ?_⟩
          · cases (t :: r).all (tripOk l) <;> rfl
          · rw [hall.2 hc.2.2] at hb; cases hb
        · rw [bneT h0, beqF h0]
          simp only [cond_true]
          refine ⟨false, rfl, ?_, fun hb => (by cases hb), fun _ _ hc => h0 (hc.2.1 t r rfl)⟩
          cases (t :: r).all (tripOk l) <;> rfl
    · rw [decide_eq_true (show ((x.length : Int) > 2000) by omega), decide_eq_false h2000, Bool.and_false]
      exact ⟨false, rfl, rfl, fun h => (by cases h), fun _ _ hc => absurd hc.1 h2000⟩
end
end Go.Law
end

section
/- Assemble as a whole: both. -/
set_option linter.unusedVariables false
set_option linter.unusedSimpArgs false
set_option linter.unusedSectionVars false
namespace Go.Law
open Go.Am Go.Fn

/-- so many records -/
def aRecs (T : TRows) (s : List TCol) : Nat → List Nat → Option (List TRec × List Nat × Bool)
  | 0, pos => some ([], pos, false)
  | n + 1, pos => match aC T s 6 0 0 0 0 pos with
    | none => none
    | some (Y, q, l) => match aRecs T s n q with
      | none => none
      | some (R, q', l') => some ((Y, ()) :: R, q', (l || decide (300 < Y.length)) || l')
def endB : TRows → List Nat → Bool
  | x :: T, p :: pos => (p == x.length) && endB T pos
  | _, _ => true
theorem aRecs_ok {T : TRows} {s : List TCol} (hS : IsSchema s) (hR : RightT s T) : ∀ (n : Nat) (pos : List Nat) (R : List TRec) (q : List Nat) (l : Bool), PosOk T pos → aRecs T s n pos = some (R, q, l) →
    PosOk T q ∧ R.length = n ∧ l = !(R.all fun r => (recEv s r.1).isSome)
  | 0, pos, R, q, l, hp, h => by
    simp only [aRecs, Option.some.injEq, Prod.mk.injEq] at h
    obtain ⟨rfl, rfl, rfl⟩ := h
    exact ⟨hp, rfl, rfl⟩
  | n + 1, pos, R, q, l, hp, h => by
    simp only [aRecs] at h
    split at h
    · cases h
    · rename_i Y q1 l1 h1
      split at h
      · cases h
      · rename_i R2 q2 l2 h2
        simp only [Option.some.injEq, Prod.mk.injEq] at h
        obtain ⟨rfl, rfl, rfl⟩ := h
        obtain ⟨a1, _, _⟩ := aC_G 6 0 s.length hS.2.2.1 0 0 0 pos _ _ _ h1 hp
        obtain ⟨b1, b2, b3⟩ := aRecs_ok hS hR n q1 R2 q2 l2 a1.ok h2
        refine ⟨b1, by simp [b2], ?_⟩
        rw [List.all_cons, rec_PA hS hR pos Y q1 l1 hp h1, b3]
        have : decide (300 < Y.length) = !decide (Y.length ≤ 300) := by
          by_cases h : Y.length ≤ 300
          · rw [decide_eq_true h, decide_eq_false (by omega)]; rfl
          · rw [decide_eq_false h, decide_eq_true (by omega)]; rfl
        rw [this]
        cases l1 <;> cases decide (Y.length ≤ 300) <;> simp

section
variable (k : Nat) (s : List TCol) (hn : ∀ c, c ∈ s → c.1.size < k ∧ c.1.size < 1000000000 ∧ I64 c.2.2.2.1) (hk : 2000000 ≤ k)
variable (hS : IsSchema s) (hok : spec_SchemaOk k s = some true) (hok2 : impl_SchemaOk k s = some true)
include hn hk hS hok hok2

/-- all columns are right, or the first law is broken -/
theorem asm_first (T : TRows) (hT : T.length = lnum s s.length) (hx : ∀ x, x ∈ T → x.length ≤ 1048576) : ∀ (post pre : TRows) (f : Nat), T = pre ++ post → post.length < f →
    ((∀ (i : Nat) (x : List TTriple), post[i]? = some x → colRight s (pre.length + i) x) ∧
      (∃ f', 0 < f' ∧ spec_Assemble.l5 k f s (T.map tcol) (pre.length : Int) [] = spec_Assemble.l5 k f' s (T.map tcol) (T.length : Int) []) ∧
      (∃ f', 0 < f' ∧ impl_Assemble.l4 k f s (T.map tcol) (T.map tcol) (T.length : Int) (pre.length : Int) = impl_Assemble.l4 k f' s (T.map tcol) (T.map tcol) (T.length : Int) (T.length : Int))) ∨
    (¬ (∀ (i : Nat) (x : List TTriple), post[i]? = some x → colRight s (pre.length + i) x) ∧ spec_Assemble.l5 k f s (T.map tcol) (pre.length : Int) [] = some (((), 1), []) ∧ impl_Assemble.l4 k f s (T.map tcol) (T.map tcol) (T.length : Int) (pre.length : Int) = some (((), 1), [])) := by
  have hl20 := lnum_le s s.length
  have hs20 := hS.2.1
  intro post
  induction post with
  | nil =>
    intro pre f h hf
    rw [List.append_nil] at h
    subst h
    exact .inl ⟨fun i x h => by simp at h, ⟨f, by omega, rfl⟩, ⟨f, by omega, rfl⟩⟩
  | cons x post ih =>
    intro pre f h hf
    simp only [List.length_cons] at hf
    obtain ⟨f, rfl⟩ : ∃ q, f = q + 1 := ⟨f - 1, by omega⟩
    have hlen : T.length = pre.length + (post.length + 1) := by rw [h]; simp
    have hg : rdL (T.map tcol) (pre.length : Int) = some (x, ()) := rdL_cols (by rw [h]; simp)
    have hi1 : IntKind.wrap .i64 ((pre.length : Int) + 1) = ((pre.length + 1 : Nat) : Int) := by rw [w64 (by omega) (by omega)]; omega
    obtain ⟨b, e1, e2, e3, e4⟩ := triplesOk_eq k s hn hk hS hok hok2 pre.length x (hx x (by rw [h]; simp))
    have hml : ((T.map tcol).length : Int) = (T.length : Int) := by rw [List.length_map]
    simp only [spec_Assemble.l5, impl_Assemble.l4, hml, decide_eq_true (show (pre.length : Int) < (T.length : Int) by omega), cond_true, hg, Option.bind_some, e1, e2, hi1]
    cases b with
    | false =>
      simp only [Bool.not_false, cond_true]
      refine .inr ⟨fun hh => e4 rfl (by omega) (hh 0 x rfl), trivial, trivial⟩
    | true =>
      simp only [Bool.not_true, cond_false]
      have hi := ih (pre ++ [x]) f (by rw [h]; simp) (by omega)
      rw [List.length_append, List.length_singleton] at hi
      rcases hi with ⟨h1, h2, h3⟩ | ⟨h1, h2, h3⟩
      · refine .inl ⟨fun i y hy => ?_, h2, h3⟩
        cases i with
        | zero =>
          simp only [List.getElem?_cons_zero, Option.some.injEq] at hy
          subst hy
          exact e3 rfl
        | succ i =>
          simp only [List.getElem?_cons_succ] at hy
          have := h1 i y hy
          rw [show pre.length + (i + 1) = pre.length + 1 + i by omega]
          exact this
      · refine .inr ⟨fun hh => h1 fun i y hy => ?_, h2, h3⟩
        have := hh (i + 1) y (by simpa using hy)
        rw [show pre.length + (i + 1) = pre.length + 1 + i by omega] at this
        exact this

theorem asm_rows (T : TRows) (hx : ∀ x, x ∈ T → x.length ≤ 2000) (hT20 : T.length ≤ 20) (n : Nat) (hn2 : n ≤ 2000) : ∀ (post pre : TRows) (f : Nat), T = pre ++ post → post.length < f →
    spec_Assemble.l11 k f s (T.map tcol) (n : Int) (pre.length : Int) [] = (if (∀ x, x ∈ post → rowsN x = n) ∧ (post ≠ [] → n ≤ 200) then spec_Assemble.l17 k k s (T.map tcol) (n : Int) 0 [] (List.replicate T.length 0) else some (((), 2), [])) ∧
    impl_rowsAlike.l3 k f (n : Int) (T.map tcol) (T.length : Int) (pre.length : Int) = some (if ∀ x, x ∈ post → rowsN x = n then ((n : Int), decide (n ≤ 200)) else (0, false)) := by
  intro post
  induction post with
  | nil =>
    intro pre f h hf
    obtain ⟨f, rfl⟩ : ∃ q, f = q + 1 := ⟨f - 1, by omega⟩
    rw [List.append_nil] at h
    subst h
    have hml : ((T.map tcol).length : Int) = (T.length : Int) := by rw [List.length_map]
    simp only [spec_Assemble.l11, impl_rowsAlike.l3, hml, decide_eq_false (show ¬ ((T.length : Int) < (T.length : Int)) by omega), cond_false]
    rw [okLen_ok (by omega) (by omega), cond_true, Int.toNat_natCast, if_pos ⟨fun x h => by simp at h, fun h => absurd rfl h⟩, if_pos (fun x h => by simp at h)]
    refine ⟨rfl, ?_⟩
    congr 2
    by_cases h : n ≤ 200
    · rw [decide_eq_true h, decide_eq_true (by omega)]
    · rw [decide_eq_false h, decide_eq_false (by omega)]
  | cons x post ih =>
    intro pre f h hf
    simp only [List.length_cons] at hf
    obtain ⟨f, rfl⟩ : ∃ q, f = q + 1 := ⟨f - 1, by omega⟩
    have hlen : T.length = pre.length + (post.length + 1) := by rw [h]; simp
    have hg : rdL (T.map tcol) (pre.length : Int) = some (x, ()) := rdL_cols (by rw [h]; simp)
    have hi1 : IntKind.wrap .i64 ((pre.length : Int) + 1) = ((pre.length + 1 : Nat) : Int) := by rw [w64 (by omega) (by omega)]; omega
    have hx1 := hx x (by rw [h]; simp)
    obtain ⟨r1, r2⟩ := rowsOf_eq k x (by omega) hk
    have hml : ((T.map tcol).length : Int) = (T.length : Int) := by rw [List.length_map]
    have hi := ih (pre ++ [x]) f (by rw [h]; simp) (by omega)
    rw [List.length_append, List.length_singleton] at hi
    simp only [spec_Assemble.l11, impl_rowsAlike.l3, hml, decide_eq_true (show (pre.length : Int) < (T.length : Int) by omega), cond_true, hg, Option.bind_some, r1, r2, hi1, cst]
    by_cases h1 : rowsN x = n
    · rw [bneF (show (rowsN x : Int) = (n : Int) by omega), Bool.false_or, cond_false, hi.1, hi.2]
      constructor
      · by_cases h2 : n ≤ 200
        · rw [decide_eq_false (by omega), cond_false]
          have : ((∀ y, y ∈ post → rowsN y = n) ∧ (post ≠ [] → n ≤ 200)) ↔ ((∀ y, y ∈ x :: post → rowsN y = n) ∧ (x :: post ≠ [] → n ≤ 200)) :=
            ⟨fun hh => ⟨fun y hy => (List.mem_cons.1 hy).elim (fun e => by rw [e]; exact h1) (hh.1 y), fun _ => h2⟩, fun hh => ⟨fun y hy => hh.1 y (List.mem_cons_of_mem _ hy), fun _ => h2⟩⟩
          simp only [this]
        · rw [decide_eq_true (by omega), cond_true, if_neg (fun hh => h2 (hh.2 (by simp)))]
      · have : (∀ y, y ∈ post → rowsN y = n) ↔ (∀ y, y ∈ x :: post → rowsN y = n) :=
          ⟨fun hh y hy => (List.mem_cons.1 hy).elim (fun e => by rw [e]; exact h1) (hh y), fun hh y hy => hh y (List.mem_cons_of_mem _ hy)⟩
        simp only [this]
    · rw [bneT (show ¬ (rowsN x : Int) = (n : Int) by omega), Bool.true_or, cond_true, cond_true, if_neg (fun hh => h1 (hh.1 x (List.mem_cons_self ..))), if_neg (fun hh => h1 (hh x (List.mem_cons_self ..)))]
      exact ⟨rfl, rfl⟩

theorem asm_end (T : TRows) (hT20 : T.length ≤ 20) (hT2 : ∀ x, x ∈ T → x.length ≤ 2000) (nums : List Int) (l : Bool) (recs : List TRec) (pos : List Nat) (hp : PosOk T pos) : ∀ (post pre : TRows) (ppost ppre : List Nat) (f : Nat), T = pre ++ post → pos = ppre ++ ppost → ppre.length = pre.length → post.length < f →
    spec_Assemble.l24 k f s (T.map tcol) (pre.length : Int) recs (ip pos) = cond (endB post ppost) (spec_Assemble.l29 k k s 0 recs) (some (((), 3), [])) ∧
    impl_joiner_ended.l2 k f (T.map tcol) (T.length : Int) (pre.length : Int) (jn s T nums false l) (ip pos) = some (endB post ppost, (jn s T nums false l, ip pos)) := by
  intro post
  induction post with
  | nil =>
    intro pre ppost ppre f h hpq hpl hf
    obtain ⟨f, rfl⟩ : ∃ q, f = q + 1 := ⟨f - 1, by omega⟩
    rw [List.append_nil] at h
    subst h
    have hml : ((T.map tcol).length : Int) = (T.length : Int) := by rw [List.length_map]
    simp only [spec_Assemble.l24, impl_joiner_ended.l2, hml, decide_eq_false (show ¬ ((T.length : Int) < (T.length : Int)) by omega), cond_false, endB, cond_true]
    exact ⟨trivial, trivial⟩
  | cons x post ih =>
    intro pre ppost ppre f h hpq hpl hf
    simp only [List.length_cons] at hf
    obtain ⟨f, rfl⟩ : ∃ q, f = q + 1 := ⟨f - 1, by omega⟩
    have hlen : T.length = pre.length + (post.length + 1) := by rw [h]; simp
    have hplen := hp.1
    cases ppost with
    | nil =>
      rw [List.append_nil] at hpq
      rw [hpq] at hplen
      omega
    | cons p ppost =>
      have hgx : T[pre.length]? = some x := by rw [h]; simp
      have hg : rdL (T.map tcol) (pre.length : Int) = some (x, ()) := rdL_cols hgx
      have hgp' : pos[pre.length]? = some p := by rw [hpq, ← hpl]; simp
      have hgp : rdL (ip pos) (pre.length : Int) = some (p : Int) := rdL_ip hgp'
      have hi1 : IntKind.wrap .i64 ((pre.length : Int) + 1) = ((pre.length + 1 : Nat) : Int) := by rw [w64 (by omega) (by omega)]; omega
      have hml : ((T.map tcol).length : Int) = (T.length : Int) := by rw [List.length_map]
      have hi := ih (pre ++ [x]) ppost (ppre ++ [p]) f (by rw [h]; simp) (by rw [hpq]; simp) (by simp [hpl]) (by omega)
      rw [List.length_append, List.length_singleton] at hi
      simp only [spec_Assemble.l24, impl_joiner_ended.l2, hml, decide_eq_true (show (pre.length : Int) < (T.length : Int) by omega), cond_true, hg, hgp, Option.bind_some, hi1, endB]
      by_cases h1 : p = x.length
      · rw [bneF (by omega), cond_false, cond_false, hi.1, hi.2]
        have : (p == x.length) = true := by simpa using h1
        rw [this, Bool.true_and]
        exact ⟨rfl, rfl⟩
      · rw [bneT (by omega), cond_true, cond_true]
        have : (p == x.length) = false := by simpa using h1
        rw [this, Bool.false_and]
        exact ⟨rfl, rfl⟩

theorem asm_recOk (R : List TRec) (hR : R.length ≤ 200) : ∀ (post pre : List TRec) (f : Nat), R = pre ++ post → post.length < f →
    spec_Assemble.l29 k f s (pre.length : Int) R = some (cond (post.all (fun r => (recEv s r.1).isSome)) (((), 0), R) (((), 4), [])) := by
  intro post
  induction post with
  | nil =>
    intro pre f h hf
    obtain ⟨f, rfl⟩ : ∃ q, f = q + 1 := ⟨f - 1, by omega⟩
    rw [List.append_nil] at h
    subst h
    simp only [spec_Assemble.l29, decide_eq_false (show ¬ ((R.length : Int) < (R.length : Int)) by omega), cond_false, List.all_nil, cond_true]
  | cons r post ih =>
    intro pre f h hf
    simp only [List.length_cons] at hf
    obtain ⟨f, rfl⟩ : ∃ q, f = q + 1 := ⟨f - 1, by omega⟩
    have hlen : R.length = pre.length + (post.length + 1) := by rw [h]; simp
    have hg : rdL R (pre.length : Int) = some r := by rw [h]; exact getMid _ _ _
    have hi1 : IntKind.wrap .i64 ((pre.length : Int) + 1) = ((pre.length + 1 : Nat) : Int) := by rw [w64 (by omega) (by omega)]; omega
    obtain ⟨b, q1, _, _, q2, _⟩ := recOk_eq k hk s hn r.1
    have hb : b = true := by rw [hok] at q1; simpa using q1.symm
    subst hb
    have q2 : spec_RecOk k s r = some (true && (recEv s r.1).isSome) := q2
    have hi := ih (pre ++ [r]) f (by rw [h]; simp) (by omega)
    rw [List.length_append, List.length_singleton] at hi
    simp only [spec_Assemble.l29, decide_eq_true (show (pre.length : Int) < (R.length : Int) by omega), cond_true, hg, Option.bind_some, q2, Bool.true_and, hi1, hi, List.all_cons]
    cases (recEv s r.1).isSome <;> rfl

theorem asm_loop (T : TRows) (hT : T.length = lnum s s.length) (hT2 : ∀ x, x ∈ T → x.length ≤ 2000) (nums : List Int) (hN : ∀ (a : Nat) (c : TCol), s[a]? = some c → c.2.1 ≠ 7 → rdL nums (a : Int) = some (lnum s a : Int)) (n : Nat) (hn200 : n ≤ 200) :
    ∀ (m i f : Nat) (recs : List TRec) (pos : List Nat) (l : Bool), n = i + m → m + 1 < f → recs.length ≤ i → PosOk T pos →
    match aRecs T s m pos with
    | none => spec_Assemble.l17 k f s (T.map tcol) (n : Int) (i : Int) recs (ip pos) = some (((), 3), []) ∧ impl_Assemble.l15 k f (n : Int) (i : Int) (jn s T nums false l) recs (ip pos) = some (((), 3), [])
    | some (R, q, l2) => spec_Assemble.l17 k f s (T.map tcol) (n : Int) (i : Int) recs (ip pos) = spec_Assemble.l24 k k s (T.map tcol) 0 (recs ++ R) (ip q) ∧
        impl_Assemble.l15 k f (n : Int) (i : Int) (jn s T nums false l) recs (ip pos) = ((impl_joiner_ended k (jn s T nums false (l || l2)) (ip q)).bind fun r4 => cond (!r4.1) (some (((), 3), [])) (cond r4.2.1.2.2.2.2.2.2.1 (some (((), 4), [])) (some (((), 0), recs ++ R)))) := by
  have hs20 := hS.2.1
  intro m
  induction m with
  | zero =>
    intro i f recs pos l hi hf hrl hp
    obtain ⟨f, rfl⟩ : ∃ q, f = q + 1 := ⟨f - 1, by omega⟩
    simp only [aRecs, spec_Assemble.l17, impl_Assemble.l15, decide_eq_false (show ¬ ((i : Int) < (n : Int)) by omega), cond_false, Option.bind_some, List.append_nil, Bool.or_false]
    exact ⟨trivial, trivial⟩
  | succ m ih =>
    intro i f recs pos l hi hf hrl hp
    obtain ⟨f, rfl⟩ : ∃ q, f = q + 1 := ⟨f - 1, by omega⟩
    have hi1 : IntKind.wrap .i64 ((i : Int) + 1) = ((i + 1 : Nat) : Int) := by rw [w64 (by omega) (by omega)]; omega
    have hroom : Room 6 [] pos := by unfold Room; simp only [List.length_nil]; omega
    have h1 := sfill_ok k s hs20 hn hk T hT hT2 6 k 0 s.length hS.2.2.1 (Nat.le_refl _) (by omega) (by omega) 0 0 0 pos [] hp (by omega) (by omega) (by omega) (by omega) hroom
    have h2 := ibody_ok k s hs20 hn hk T hT hT2 nums hN 6 k 0 s.length hS.2.2.1 (Nat.le_refl _) (by omega) (by omega) 0 0 0 pos [] l hp (by omega) (by omega) (by omega) (by omega) hroom
    have hlim : ∀ r : TRec, lim (recs.length + [r].length) = true := fun r => lim_ok (by simp; omega)
    simp only [aRecs, spec_Assemble.l17, impl_Assemble.l15, decide_eq_true (show (i : Int) < (n : Int) by omega), cond_true, hi1, Option.bind_some, Bool.not_false]
    cases hC : aC T s 6 0 0 0 0 pos with
    | none =>
      rw [hC] at h1 h2
      obtain ⟨p1, v1, e1⟩ := h1
      obtain ⟨nx', l', pos', v, e2, e3, e4⟩ := h2
      have e1 : spec_l14Fill k s 0 (T.map tcol) 0 0 0 (ip pos) [] = some (((), false), (p1, v1)) := e1
      have e3 : impl_joiner_body k 0 0 0 0 (jn s T nums false l) (ip pos) [] = some (nx', (jn s T nums true l', ip pos', v)) := e3
      obtain ⟨f, rfl⟩ : ∃ q, f = q + 1 := ⟨f - 1, by omega⟩
      simp only [e1, e3, Option.bind_some, Bool.not_false, cond_true, hlim, cst, impl_Assemble.l15, Bool.not_true, csf, Bool.and_false, cond_false]
      exact ⟨trivial, trivial⟩
    | some r =>
      obtain ⟨Y, q, l1⟩ := r
      rw [hC] at h1 h2
      have e1 : spec_l14Fill k s 0 (T.map tcol) 0 0 0 (ip pos) [] = some (((), true), (ip q, [] ++ Y)) := h1
      have e3 : impl_joiner_body k 0 0 0 0 (jn s T nums false l) (ip pos) [] = some ((s.length : Int), (jn s T nums false (l || l1), ip q, [] ++ Y)) := h2
      obtain ⟨a1, _, _⟩ := aC_G 6 0 s.length hS.2.2.1 0 0 0 pos _ _ _ hC hp
      rw [List.nil_append] at e1 e3
      simp only [e1, e3, Option.bind_some, Bool.not_true, cond_false, hlim, cond_true, cst]
      have hb : decide ((Y.length : Int) > 300) = decide (300 < Y.length) := by
        by_cases h : 300 < Y.length
        · rw [decide_eq_true h, decide_eq_true (by omega)]
        · rw [decide_eq_false h, decide_eq_false (by omega)]
      have hii := ih (i + 1) f (recs ++ [(Y, ())]) q (l || l1 || decide ((Y.length : Int) > 300)) (by omega) (by omega) (by simp; omega) a1.ok
      cases hA : aRecs T s m q with
      | none =>
        rw [hA] at hii
        exact hii
      | some r2 =>
        obtain ⟨R, q', l'⟩ := r2
        rw [hA] at hii
        simp only at hii ⊢
        rw [hii.1, hii.2, hb, List.append_assoc, List.singleton_append]
        refine ⟨rfl, ?_⟩
        rw [show (l || l1 || decide (300 < Y.length) || l') = (l || (l1 || decide (300 < Y.length) || l')) by rw [Bool.or_assoc, Bool.or_assoc, Bool.or_assoc]]
end

/-- all that comes of columns -/
def asmOut (s : List TCol) (T : TRows) (n : Nat) : Int × List TRec := match aRecs T s n (List.replicate T.length 0) with
  | none => (3, [])
  | some (R, q, _) => cond (endB T q) (cond (R.all (fun r => (recEv s r.1).isSome)) (0, R) (4, [])) (3, [])

section
variable (k : Nat) (s : List TCol) (hn : ∀ c, c ∈ s → c.1.size < k ∧ c.1.size < 1000000000 ∧ I64 c.2.2.2.1) (hk : 2000000 ≤ k)
include hn hk

theorem assemble_eq (T : TRows) (hTl : T.length ≤ 1048576) (hx : ∀ x, x ∈ T → x.length ≤ 1048576) : ∃ code out, spec_Assemble k s (T.map tcol) = some (((), code), out) ∧ impl_Assemble k s (T.map tcol) = some (((), code), out) ∧ out.length ≤ 200 ∧ (∀ r, r ∈ out → r.1.length ≤ 300) ∧
    (spec_SchemaOk k s = some true → IsSchema s ∧ (T.length = lnum s s.length → (∀ (j : Nat) (x : List TTriple), T[j]? = some x → colRight s j x) → ∀ x0, T[0]? = some x0 → (∀ x, x ∈ T → rowsN x = rowsN x0) → rowsN x0 ≤ 200 → (code, out) = asmOut s T (rowsN x0))) := by
  obtain ⟨b, h1, h2, h3⟩ := schemaOk_eq k (by omega) s hn
  have hml : ((T.map tcol).length : Int) = (T.length : Int) := by rw [List.length_map]
  unfold spec_Assemble impl_Assemble
  rw [h1, h2]
  simp only [Option.bind_some]
  cases b with
  | false => exact ⟨1, [], rfl, rfl, by simp, fun r h => (by cases h), fun h => by cases h⟩
  | true =>
    have hS := (h3 rfl).1
    have hs20 := hS.2.1
    obtain ⟨v1, v2⟩ := leaves_eq k (by omega) s (by omega)
    have hl : (leavesFrom 0 s).length = lnum s s.length := leavesFrom_lnum s [] s rfl
    have hl20 := lnum_le s s.length
    have hpos := lnum_pos hS.2.2.1
    simp only [Bool.not_true, cond_false, v1, v2, Option.bind_some, hml, hl]
    by_cases hlen : T.length = lnum s s.length
    · rw [bneF (by omega), cond_false, cond_false]
      have hf := asm_first k s hn hk hS h1 h2 T hlen hx T [] k rfl (by omega)
      rcases hf with ⟨f1, ⟨g1, g1p, f2⟩, ⟨g2, g2p, f3⟩⟩ | ⟨f1, f2, f3⟩
      · have f2 : spec_Assemble.l5 k k s (T.map tcol) 0 [] = _ := f2
        have f3 : impl_Assemble.l4 k k s (T.map tcol) (T.map tcol) (T.length : Int) 0 = _ := f3
        obtain ⟨g1, rfl⟩ : ∃ q, g1 = q + 1 := ⟨g1 - 1, by omega⟩
        obtain ⟨g2, rfl⟩ : ∃ q, g2 = q + 1 := ⟨g2 - 1, by omega⟩
        rw [f2, f3]
        have hcr : ∀ (j : Nat) (x : List TTriple), T[j]? = some x → colRight s j x := fun j x hj => by
          have := f1 j x hj
          simpa using this
        have hT2 : ∀ x, x ∈ T → x.length ≤ 2000 := fun x hx' => by
          obtain ⟨j, hj, rfl⟩ := List.getElem_of_mem hx'
          exact (hcr j _ (List.getElem?_eq_getElem hj)).1
        obtain ⟨x0, T', hTT⟩ : ∃ x0 T', T = x0 :: T' := by
          cases T with
          | nil => simp at hlen; omega
          | cons x0 T' => exact ⟨x0, T', rfl⟩
        have hg0 : T[0]? = some x0 := by rw [hTT]; rfl
        have hgc : rdL (T.map tcol) 0 = some (x0, ()) := rdL_cols (j := 0) hg0
        have hx0 := hT2 x0 (List.mem_of_getElem? hg0)
        obtain ⟨r1, r2⟩ := rowsOf_eq k x0 (by omega) hk
        have hrn : rowsN x0 ≤ 2000 := Nat.le_trans (List.length_filter_le _ _) hx0
        obtain ⟨w1, w2⟩ := asm_rows k s hn hk hS h1 h2 T hT2 (by omega) (rowsN x0) hrn T [] k rfl (by omega)
        have w1 : spec_Assemble.l11 k k s (T.map tcol) (rowsN x0 : Int) 0 [] = _ := w1
        have w2 : impl_rowsAlike.l3 k k (rowsN x0 : Int) (T.map tcol) (T.length : Int) 0 = _ := w2
        simp only [spec_Assemble.l5, impl_Assemble.l4, hml, decide_eq_false (show ¬ ((T.length : Int) < (T.length : Int)) by omega), cond_false, hgc, Option.bind_some, r1, w1, impl_rowsAlike, r2, w2]
        by_cases hall : ∀ x, x ∈ T → rowsN x = rowsN x0
        · rw [if_pos hall]
          by_cases h200 : rowsN x0 ≤ 200
          · rw [if_pos ⟨hall, fun _ => h200⟩, decide_eq_true h200]
            simp only [Bool.not_true, cond_false]
            obtain ⟨nums, n1, n2⟩ := leafNumbers_eq k s hs20 hk
            unfold impl_Assemble.d12
            rw [n1]
            simp only [Option.bind_some, hml]
            rw [okLen_ok (by omega) (by omega), cond_true, Int.toNat_natCast]
            have hrep : List.replicate T.length (0 : Int) = ip (List.replicate T.length 0) := by simp [ip]
            have hp0 : PosOk T (List.replicate T.length 0) := ⟨by simp, fun j p x hj _ => by
              rw [List.getElem?_replicate] at hj
              split at hj
              · cases hj; omega
              · cases hj⟩
            have hR : RightT s T := fun a c hc h7 x hx t ht hd => by
              have hh := (hcr (lnum s a) x hx).2.2 a c hc h7 rfl t ht
              unfold tripOk at hh
              simp only [Bool.and_eq_true] at hh
              have := hh.2.2
              rw [if_pos hd] at this
              exact this
            have hloop := asm_loop k s hn hk hS h1 h2 T hlen hT2 nums n2 (rowsN x0) h200 (rowsN x0) 0 k [] (List.replicate T.length 0) false (by omega) (by omega) (by simp) hp0
            rw [hrep]
            unfold asmOut
            cases hA : aRecs T s (rowsN x0) (List.replicate T.length 0) with
            | none =>
              rw [hA] at hloop
              have e1 : spec_Assemble.l17 k k s (T.map tcol) (rowsN x0 : Int) 0 [] (ip (List.replicate T.length 0)) = _ := hloop.1
              have e2 : impl_Assemble.l15 k k (rowsN x0 : Int) 0 (s, T.map tcol, nums, (), (), false, false, ()) [] (ip (List.replicate T.length 0)) = _ := hloop.2
              rw [e1, e2]
              refine ⟨3, [], rfl, rfl, by simp, fun r h => (by cases h), fun _ => ⟨hS, fun _ _ x1 hx1 _ _ => ?_⟩⟩
              rw [hg0] at hx1
              cases hx1
              rw [hA]
            | some r =>
              obtain ⟨R, q, l⟩ := r
              rw [hA] at hloop
              have e1 : spec_Assemble.l17 k k s (T.map tcol) (rowsN x0 : Int) 0 [] (ip (List.replicate T.length 0)) = _ := hloop.1
              have e2 : impl_Assemble.l15 k k (rowsN x0 : Int) 0 (s, T.map tcol, nums, (), (), false, false, ()) [] (ip (List.replicate T.length 0)) = _ := hloop.2
              obtain ⟨a1, a2, a3⟩ := aRecs_ok hS hR _ _ _ _ _ hp0 hA
              obtain ⟨z1, z2⟩ := asm_end k s hn hk hS h1 h2 T (by omega) hT2 nums (false || l) ([] ++ R) q a1 T [] q [] k rfl rfl rfl (by omega)
              have z1 : spec_Assemble.l24 k k s (T.map tcol) 0 ([] ++ R) (ip q) = _ := z1
              have z2 : impl_joiner_ended k (jn s T nums false (false || l)) (ip q) = some (endB T q, (jn s T nums false (false || l), ip q)) := by
                unfold impl_joiner_ended
                simp only [List.length_map]
                exact z2
              rw [e1, e2, z1, z2]
              rw [List.nil_append, Bool.false_or]
              have hro := asm_recOk k s hn hk hS h1 h2 R (by omega) R [] k rfl (by omega)
              have hro : spec_Assemble.l29 k k s 0 R = _ := hro
              rw [hro]
              simp only [Option.bind_some]
              have hout : ∀ x1, T[0]? = some x1 → x1 = x0 := fun x1 hx1 => by rw [hg0] at hx1; exact (Option.some.inj hx1).symm
              cases hend : endB T q with
              | false =>
                simp only [Bool.not_false, cond_true, cond_false]
                refine ⟨3, [], rfl, rfl, by simp, fun r h => (by cases h), fun _ => ⟨hS, fun _ _ x1 hx1 _ _ => ?_⟩⟩
                rw [hout x1 hx1, hA]
                simp only [hend, cond_false]
              | true =>
                simp only [Bool.not_true, cond_false, cond_true]
                rw [a3]
                cases hall2 : R.all (fun r => (recEv s r.1).isSome) with
                | false =>
                  simp only [Bool.not_false, cond_true, cond_false]
                  refine ⟨4, [], rfl, rfl, by simp, fun r h => (by cases h), fun _ => ⟨hS, fun _ _ x1 hx1 _ _ => ?_⟩⟩
                  rw [hout x1 hx1, hA]
                  simp only [hend, hall2, cond_false, cond_true]
                | true =>
                  simp only [Bool.not_true, cond_false, cond_true]
                  refine ⟨0, R, rfl, rfl, by omega, fun r hr => ?_, fun _ => ⟨hS, fun _ _ x1 hx1 _ _ => ?_⟩⟩
                  · have := List.all_eq_true.1 hall2 r hr
                    cases hre : recEv s r.1 with
                    | none => rw [hre] at this; cases this
                    | some X => exact (recEv_some hre).1
                  · rw [hout x1 hx1, hA]
                    simp only [hend, hall2, cond_true]
          · rw [if_neg (fun hh => h200 (hh.2 (by rw [hTT]; simp))), decide_eq_false h200]
            refine ⟨2, [], rfl, rfl, by simp, fun r h => (by cases h), fun _ => ⟨hS, fun _ _ x1 hx1 _ hle => ?_⟩⟩
            rw [hg0] at hx1
            cases hx1
            exact absurd hle h200
        · rw [if_neg hall, if_neg (fun hh => hall hh.1)]
          refine ⟨2, [], rfl, rfl, by simp, fun r h => (by cases h), fun _ => ⟨hS, fun _ _ x1 hx1 hh _ => ?_⟩⟩
          rw [hg0] at hx1
          cases hx1
          exact absurd hh hall
      · have f2 : spec_Assemble.l5 k k s (T.map tcol) 0 [] = _ := f2
        have f3 : impl_Assemble.l4 k k s (T.map tcol) (T.map tcol) (T.length : Int) 0 = _ := f3
        rw [f2, f3]
        refine ⟨1, [], rfl, rfl, by simp, fun r h => (by cases h), fun _ => ⟨hS, fun _ hcr => ?_⟩⟩
        exact absurd (fun i x hx => by simpa using hcr i x hx) f1
    · rw [bneT (by omega), cond_true, cond_true]
      exact ⟨1, [], rfl, rfl, by simp, fun r h => (by cases h), fun _ => ⟨hS, fun h => absurd h hlen⟩⟩
end
end Go.Law
end

section
/- What the exact laws do around a call: rows of anything. -/
set_option linter.unusedVariables false
set_option linter.unusedSimpArgs false
namespace Go.Law
open Go.Am Go.Fn

def xtot {α : Type} (f : α → Nat) : List α → Nat
  | [] => 0
  | x :: r => f x + xtot f r
theorem xtot_le {α : Type} {f : α → Nat} {C : Nat} : ∀ (l : List α), (∀ x, x ∈ l → f x ≤ C) → xtot f l ≤ C * l.length
  | [], _ => Nat.zero_le _
  | x :: r, h => by
    have h1 := h x (List.mem_cons_self ..)
    have h2 := xtot_le r (fun y hy => h y (List.mem_cons_of_mem _ hy))
    simp only [xtot, List.length_cons, Nat.mul_add, Nat.mul_one]
    omega
theorem xtot_mem {α : Type} {f : α → Nat} : ∀ (l : List α) (x : α), x ∈ l → f x ≤ xtot f l
  | y :: r, x, h => by
    simp only [xtot]
    rcases List.mem_cons.1 h with rfl | h
    · omega
    · have := xtot_mem (f := f) r x h; omega

/-- a row of which no more is known than that it is not too long -/
def okL {α : Type} (P : α → Prop) (l : List α) : Prop := l.length ≤ 1048576 ∧ ∀ x, x ∈ l → P x
theorem okL.tot {α : Type} {P : α → Prop} {l : List α} (h : okL P l) {f : α → Nat} {C : Nat} (hc : ∀ x, P x → f x ≤ C) : xtot f l ≤ C * 1048576 := by
  have := xtot_le l (f := f) (C := C) (fun x hx => hc x (h.2 x hx))
  exact Nat.le_trans this (Nat.mul_le_mul_left _ h.1)

/-- a marked row -/
def mkL {α : Type} (mk : α → Int → α) (cnt : α → Nat) : List α → Int → List α
  | [], _ => []
  | x :: r, m => mk x m :: mkL mk cnt r (m + cnt x)
theorem mkL_len {α : Type} (mk : α → Int → α) (cnt : α → Nat) : ∀ (l : List α) (m : Int), (mkL mk cnt l m).length = l.length
  | [], _ => rfl
  | x :: r, m => by simp [mkL, mkL_len mk cnt r]

theorem nat1 {α : Type} (pre : List α) (h : pre.length ≤ 1048576) : IntKind.wrap .i64 ((pre.length : Int) + 1) = ((pre.length + 1 : Nat) : Int) := by rw [w64 (by omega) (by omega)]; omega
theorem ltMid {α : Type} (pre post : List α) (x : α) : decide ((pre.length : Int) < ((pre ++ x :: post).length : Int)) = true := decide_eq_true (by simp; omega)
theorem ltEnd {α : Type} (l : List α) : decide ((l.length : Int) < (l.length : Int)) = false := decide_eq_false (by omega)

theorem xto_gen {α : Type} (F : Nat → List α → Int → List α → Option (Unit × List α)) (z : α) (P : α → Prop)
    (h0 : ∀ n l o, F (n + 1) l (l.length : Int) o = some ((), o))
    (h1 : ∀ n pre x post o, P x → pre.length ≤ 1048576 → F (n + 1) (pre ++ x :: post) (pre.length : Int) (pre ++ z :: o) = F n (pre ++ x :: post) ((pre.length + 1 : Nat) : Int) (pre ++ x :: o)) :
    ∀ (post pre : List α) (n : Nat), post.length < n → pre.length + post.length ≤ 1048576 → (∀ x, x ∈ post → P x) → F n (pre ++ post) (pre.length : Int) (pre ++ List.replicate post.length z) = some ((), pre ++ post) := by
  intro post
  induction post with
  | nil =>
    intro pre n hn hl hP
    obtain ⟨n, rfl⟩ : ∃ j, n = j + 1 := ⟨n - 1, by omega⟩
    simp only [List.append_nil, List.length_nil, List.replicate_zero]
    exact h0 n pre pre
  | cons x post ih =>
    intro pre n hn hl hP
    obtain ⟨n, rfl⟩ : ∃ j, n = j + 1 := ⟨n - 1, by omega⟩
    simp only [List.length_cons] at hn hl
    have := ih (pre ++ [x]) n (by omega) (by simp; omega) (fun y hy => hP y (List.mem_cons_of_mem _ hy))
    rw [List.length_cons, List.replicate_succ, h1 n pre x post _ (hP x (List.mem_cons_self ..)) (by omega)]
    rw [List.length_append, List.length_singleton, List.append_assoc, List.singleton_append, List.append_assoc, List.singleton_append] at this
    exact this

theorem xeq_gen {α : Type} (F : Nat → List α → List α → Int → Option Bool) (P : α → Prop)
    (h0 : ∀ n l, F (n + 1) l l (l.length : Int) = some true)
    (h1 : ∀ n pre x post, P x → pre.length ≤ 1048576 → F (n + 1) (pre ++ x :: post) (pre ++ x :: post) (pre.length : Int) = F n (pre ++ x :: post) (pre ++ x :: post) ((pre.length + 1 : Nat) : Int)) :
    ∀ (post pre : List α) (n : Nat), post.length < n → pre.length + post.length ≤ 1048576 → (∀ x, x ∈ post → P x) → F n (pre ++ post) (pre ++ post) (pre.length : Int) = some true := by
  intro post
  induction post with
  | nil =>
    intro pre n hn hl hP
    obtain ⟨n, rfl⟩ : ∃ j, n = j + 1 := ⟨n - 1, by omega⟩
    simp only [List.append_nil]
    exact h0 n pre
  | cons x post ih =>
    intro pre n hn hl hP
    obtain ⟨n, rfl⟩ : ∃ j, n = j + 1 := ⟨n - 1, by omega⟩
    simp only [List.length_cons] at hn hl
    have := ih (pre ++ [x]) n (by omega) (by simp; omega) (fun y hy => hP y (List.mem_cons_of_mem _ hy))
    rw [h1 n pre x post (hP x (List.mem_cons_self ..)) (by omega)]
    rw [List.length_append, List.length_singleton, List.append_assoc, List.singleton_append] at this
    exact this

theorem xmark_gen {α : Type} (F : Nat → Int → Int → List α → Option (Int × List α)) (mk : α → Int → α) (cnt : α → Nat) (C : Nat) (P : α → Prop) (B : Int) (hC : ∀ x, P x → cnt x ≤ C)
    (h0 : ∀ n m l, F (n + 1) m (l.length : Int) l = some (m, l))
    (h1 : ∀ n m pre x post, P x → 0 ≤ m → m + cnt x ≤ B → pre.length ≤ 1048576 → F (n + 1) m (pre.length : Int) (pre ++ x :: post) = F n (m + cnt x) ((pre.length + 1 : Nat) : Int) (pre ++ mk x m :: post)) :
    ∀ (post pre : List α) (n : Nat) (m : Int), post.length < n → pre.length + post.length ≤ 1048576 → (∀ x, x ∈ post → P x) → 0 ≤ m → m + xtot cnt post ≤ B → F n m (pre.length : Int) (pre ++ post) = some (m + xtot cnt post, pre ++ mkL mk cnt post m) := by
  intro post
  induction post with
  | nil =>
    intro pre n m hn hl hP hm hB
    obtain ⟨n, rfl⟩ : ∃ j, n = j + 1 := ⟨n - 1, by omega⟩
    simp only [List.append_nil, xtot, mkL]
    rw [h0 n m pre]
    simp
  | cons x post ih =>
    intro pre n m hn hl hP hm hB
    obtain ⟨n, rfl⟩ : ∃ j, n = j + 1 := ⟨n - 1, by omega⟩
    simp only [List.length_cons, xtot] at hn hl hB
    have := ih (pre ++ [mk x m]) n (m + cnt x) (by omega) (by simp; omega) (fun y hy => hP y (List.mem_cons_of_mem _ hy)) (by omega) (by omega)
    rw [h1 n m pre x post (hP x (List.mem_cons_self ..)) hm (by omega) (by omega)]
    rw [List.length_append, List.length_singleton, List.append_assoc, List.singleton_append, List.append_assoc, List.singleton_append] at this
    rw [this]
    simp only [xtot, mkL]
    congr 2
    omega

theorem xheld_gen {α : Type} (F : Nat → List α → Int → Int → Option Int) (mk : α → Int → α) (cnt : α → Nat) (P : α → Prop) (B : Int)
    (h0 : ∀ n m l, F (n + 1) l m (l.length : Int) = some m)
    (h1 : ∀ n m pre x post, P x → 0 ≤ m → m + cnt x ≤ B → pre.length ≤ 1048576 → F (n + 1) (pre ++ mk x m :: post) m (pre.length : Int) = F n (pre ++ mk x m :: post) (m + cnt x) ((pre.length + 1 : Nat) : Int)) :
    ∀ (post pre : List α) (n : Nat) (m : Int), post.length < n → pre.length + post.length ≤ 1048576 → (∀ x, x ∈ post → P x) → 0 ≤ m → m + xtot cnt post ≤ B → F n (pre ++ mkL mk cnt post m) m (pre.length : Int) = some (m + xtot cnt post) := by
  intro post
  induction post with
  | nil =>
    intro pre n m hn hl hP hm hB
    obtain ⟨n, rfl⟩ : ∃ j, n = j + 1 := ⟨n - 1, by omega⟩
    simp only [List.append_nil, xtot, mkL]
    rw [h0 n m pre]
    simp
  | cons x post ih =>
    intro pre n m hn hl hP hm hB
    obtain ⟨n, rfl⟩ : ∃ j, n = j + 1 := ⟨n - 1, by omega⟩
    simp only [List.length_cons, xtot] at hn hl hB
    have := ih (pre ++ [mk x m]) n (m + cnt x) (by omega) (by simp; omega) (fun y hy => hP y (List.mem_cons_of_mem _ hy)) (by omega) (by omega)
    simp only [mkL, xtot]
    rw [h1 n m pre x _ (hP x (List.mem_cons_self ..)) hm (by omega) (by omega)]
    rw [List.length_append, List.length_singleton, List.append_assoc, List.singleton_append] at this
    rw [this]
    congr 1
    omega

/-- what is left of a measure -/
def szOut (s : Nat) (m : Int) : Int := if (s : Int) ≤ m then m - (s : Int) else -1
theorem szOut_pos {s : Nat} {m : Int} (h : (s : Int) ≤ m) : szOut s m = m - s := if_pos h
theorem szOut_neg {s : Nat} {m : Int} (h : ¬ (s : Int) ≤ m) : szOut s m = -1 := if_neg h
theorem szOut_zero {m : Int} (h : 0 ≤ m) : szOut 0 m = m := by rw [szOut_pos (by omega)]; omega
theorem szOut_add {s t : Nat} {m : Int} (h : (s : Int) ≤ m) : szOut t (m - s) = szOut (s + t) m := by
  unfold szOut
  split <;> split <;> omega

theorem xsz_gen {α : Type} (F : Nat → List α → Int → Int → Option Int) (sz : α → Nat) (P : α → Prop)
    (h0 : ∀ n m l, F (n + 1) l m (l.length : Int) = some m)
    (h1 : ∀ n m pre x post, P x → 0 ≤ m → m ≤ 1048576 → pre.length ≤ 1048576 → F (n + 1) (pre ++ x :: post) m (pre.length : Int) = cond (decide (szOut (sz x) m < 0)) (some (-1)) (F n (pre ++ x :: post) (szOut (sz x) m) ((pre.length + 1 : Nat) : Int))) :
    ∀ (post pre : List α) (n : Nat) (m : Int), post.length < n → pre.length + post.length ≤ 1048576 → (∀ x, x ∈ post → P x) → 0 ≤ m → m ≤ 1048576 → F n (pre ++ post) m (pre.length : Int) = some (szOut (xtot sz post) m) := by
  intro post
  induction post with
  | nil =>
    intro pre n m hn hl hP hm hB
    obtain ⟨n, rfl⟩ : ∃ j, n = j + 1 := ⟨n - 1, by omega⟩
    simp only [List.append_nil, xtot]
    rw [h0 n m pre, szOut_zero hm]
  | cons x post ih =>
    intro pre n m hn hl hP hm hB
    obtain ⟨n, rfl⟩ : ∃ j, n = j + 1 := ⟨n - 1, by omega⟩
    simp only [List.length_cons] at hn hl
    rw [h1 n m pre x post (hP x (List.mem_cons_self ..)) hm hB (by omega)]
    simp only [xtot]
    by_cases hx : (sz x : Int) ≤ m
    · have := ih (pre ++ [x]) n (m - sz x) (by omega) (by simp; omega) (fun y hy => hP y (List.mem_cons_of_mem _ hy)) (by omega) (by omega)
      rw [List.length_append, List.length_singleton, List.append_assoc, List.singleton_append] at this
      rw [szOut_pos hx, decide_eq_false (by omega), cond_false, this, szOut_add hx]
    · rw [szOut_neg hx, show decide ((-1 : Int) < 0) = true from rfl, cond_true, szOut_neg (by omega)]

/-- the size of a row: a step for each, and what is within -/
theorem xsz_top {α : Type} (G : List α → Int → Option Int) (F : Nat → List α → Int → Int → Option Int) (k : Nat) (sz : α → Nat) (hk : 2000000 ≤ k) (hG : ∀ l m, G l m = cond (decide (IntKind.wrap .i64 (m - (l.length : Int)) < 0)) (some (-1)) (F k l (IntKind.wrap .i64 (m - (l.length : Int))) 0))
    (l : List α) (m : Int) (h0 : 0 ≤ m) (h1 : m ≤ 1048576) (hl : l.length ≤ 9223372036854775807)
    (hF : l.length ≤ 1048576 → ∀ m, 0 ≤ m → m ≤ 1048576 → F k l m 0 = some (szOut (xtot sz l) m)) :
    G l m = some (szOut (l.length + xtot sz l) m) := by
  rw [hG, w64 (show -9223372036854775808 ≤ m - (l.length : Int) by omega) (by omega)]
  by_cases h : (l.length : Int) ≤ m
  · rw [decide_eq_false (by omega), cond_false, hF (by omega) _ (by omega) (by omega), szOut_add h]
  · rw [decide_eq_true (by omega), cond_true, szOut_neg (by omega)]

theorem i64_wf' {x : Int} (h : (Lit.int .i64 x).wf = true) : I64 x := by
  simp only [Lit.wf, Bool.and_eq_true, decide_eq_true_eq] at h
  have h1 : IntKind.min .i64 = -9223372036854775808 := by decide
  have h2 : IntKind.max .i64 = 9223372036854775807 := by decide
  rw [h1, h2] at h
  exact ⟨by omega, by omega⟩
end Go.Law
end

section
/- Copies, marks and looks. Printed by program. -/
set_option linter.unusedVariables false
set_option linter.unusedSimpArgs false
set_option maxRecDepth 4000
namespace Go.Law
open Go.Am Go.Fn
variable (k : Nat)

def okCol (x : TCol) : Prop := True
def goodCol (x : TCol) : Prop := x.1.size ≤ 9223372036854775807 ∧ I64 x.2.1 ∧ I64 x.2.2.1 ∧ I64 x.2.2.2.1
def cntCol (x : TCol) : Nat := 1 + 1 + 1 + 1
def szCol (x : TCol) : Nat := x.1.size + 0
def mkCol (k : Nat) (x : TCol) (m : Int) : TCol := (mtx k (m), m + 1, m + 1 + 1, m + 1 + 1 + 1, ())
theorem cntCol_le (x : TCol) (h : okCol x) : cntCol x ≤ 4 := by
  unfold cntCol
  omega
theorem okCol_of (x : TCol) (hg : goodCol x) (h : szCol x ≤ 1048576) : okCol x := by
  trivial
theorem goodCol_of {x : TCol} (h : GoodP (.st (.cons .str (.cons (.int .i64) (.cons (.int .i64) (.cons (.int .i64) .nil))))) x) : goodCol x := by
  have hm : maxLen ≤ 9223372036854775807 := by decide
  obtain ⟨q0, q1, q2, q3, _⟩ := h
  exact ⟨Nat.le_trans q0 hm, i64_wf' q1, i64_wf' q2, i64_wf' q3⟩

theorem xtoColS (hk : 2000000 ≤ k) (l : List TCol) (hl : okL okCol l) : laws_toColS k l = some ((), l) := by
  unfold laws_toColS
  have h := hl.1
  rw [okLen_ok (by omega) (by omega), cond_true]
  refine xto_gen (laws_toColS.l3 k) (((⟨#[]⟩ : ByteArray), 0, 0, 0, ()) : TCol) okCol ?_ ?_ l [] k (by omega) (by simpa using h) hl.2
  · intro n l o
    simp only [laws_toColS.l3, ltEnd, cond_false]
  · intro n pre x post o hx hp
    simp only [laws_toColS.l3, ltMid, cond_true, getMid, Option.bind_some, laws_toCol, laws_toColumn, laws_toPred, laws_toRec, laws_toTriple, laws_toVal, setMid, nat1 pre hp]

theorem xeqCol (hk : 2000000 ≤ k) (x : TCol) (hx : okCol x) : laws_eqCol k x x = some true := by
  simp only [bneF rfl, eqS_iff, decide_true, Bool.not_true, cond_false, Option.bind_some, bne_self_eq_false, laws_eqCol, laws_eqColumn, laws_eqPred, laws_eqRec, laws_eqTriple, laws_eqVal]

theorem xeqColS (hk : 2000000 ≤ k) (l : List TCol) (hl : okL okCol l) : laws_eqColS k l l = some true := by
  unfold laws_eqColS
  have h := hl.1
  simp only [bneF rfl, cond_false]
  refine xeq_gen (laws_eqColS.l4 k) okCol ?_ ?_ l [] k (by omega) (by simpa using h) hl.2
  · intro n l
    simp only [laws_eqColS.l4, ltEnd, cond_false]
  · intro n pre x post hx hp
    simp only [laws_eqColS.l4, ltMid, cond_true, getMid, Option.bind_some, xeqCol k hk x hx, Bool.not_true, cond_false, nat1 pre hp]

theorem xmarkColS (hk : 2000000 ≤ k) (l : List TCol) (hl : okL okCol l) (m : Int) (h0 : 0 ≤ m) (hm : m + (xtot cntCol l : Nat) ≤ 4611686018427387904) : laws_markColS k m l = some (m + (xtot cntCol l : Nat), mkL (mkCol k) cntCol l m) := by
  unfold laws_markColS
  have h := hl.1
  refine xmark_gen (laws_markColS.l2 k) (mkCol k) cntCol 4 okCol 4611686018427387904 cntCol_le ?_ ?_ l [] k m (by omega) (by simpa using h) hl.2 h0 hm
  · intro n m l
    simp only [laws_markColS.l2, ltEnd, cond_false]
  · intro n m pre x post hx h0 hm hp
    simp only [cntCol] at hm
    have e0 : IntKind.wrap .i64 (m + 1) = m + 1 := w64 (by omega) (by omega)
    have e1 : IntKind.wrap .i64 (m + 1 + 1) = m + 1 + 1 := w64 (by omega) (by omega)
    have e2 : IntKind.wrap .i64 (m + 1 + 1 + 1) = m + 1 + 1 + 1 := w64 (by omega) (by omega)
    have e3 : IntKind.wrap .i64 (m + 1 + 1 + 1 + 1) = m + 1 + 1 + 1 + 1 := w64 (by omega) (by omega)
    have eN : m + 1 + 1 + 1 + 1 = m + (cntCol x : Nat) := by simp only [cntCol] <;> omega
    simp only [laws_markColS.l2, ltMid, cond_true, getMid, Option.bind_some, setMid, e0, mtx_eq k (by omega) (m) (by omega), e1, e2, e3, nat1 pre hp]
    rw [eN]
    rfl

theorem xszCol (hk : 2000000 ≤ k) (x : TCol) (hg : goodCol x) (m : Int) (h0 : 0 ≤ m) (h1 : m ≤ 1048576) : laws_szCol k x m = some (szOut (szCol x) m) := by
  obtain ⟨g0, g1, g2, g3⟩ := hg
  unfold laws_szCol szCol
  rw [w64 (show -9223372036854775808 ≤ m - (x.1.size : Int) by omega) (by omega)]
  by_cases c0 : ((x.1.size : Nat) : Int) ≤ m
  rotate_left
  · rw [decide_eq_true (by omega), cond_true, szOut_neg (by omega)]
  rw [decide_eq_false (by omega), cond_false]
  rw [szOut_pos (by omega)]; congr 1 <;> omega

theorem xszColS (hk : 2000000 ≤ k) (l : List TCol) (hl : l.length ≤ 9223372036854775807) (hg : ∀ y, y ∈ l → goodCol y) (m : Int) (h0 : 0 ≤ m) (h1 : m ≤ 1048576) : laws_szColS k l m = some (szOut (l.length + xtot szCol l) m) := by
  refine xsz_top (laws_szColS k) (laws_szColS.l5 k) k szCol hk (fun l m => rfl) l m h0 h1 hl (fun hl m h0 h1 => ?_)
  refine xsz_gen (laws_szColS.l5 k) szCol goodCol ?_ ?_ l [] k m (by omega) (by simpa using hl) hg h0 h1
  · intro n m l
    simp only [laws_szColS.l5, ltEnd, cond_false]
  · intro n m pre x post hx h0 h1 hp
    simp only [laws_szColS.l5, ltMid, cond_true, getMid, Option.bind_some, nat1 pre hp]
    rw [xszCol k hk x hx m h0 h1]; rfl

def okVal (x : TVal) : Prop := True
def goodVal (x : TVal) : Prop := I64 x.1 ∧ x.2.1.size ≤ 9223372036854775807
def cntVal (x : TVal) : Nat := 1 + 1
def szVal (x : TVal) : Nat := x.2.1.size + 0
def mkVal (k : Nat) (x : TVal) (m : Int) : TVal := (m, mtx k (m + 1), ())
theorem cntVal_le (x : TVal) (h : okVal x) : cntVal x ≤ 2 := by
  unfold cntVal
  omega
theorem okVal_of (x : TVal) (hg : goodVal x) (h : szVal x ≤ 1048576) : okVal x := by
  trivial
theorem goodVal_of {x : TVal} (h : GoodP (.st (.cons (.int .i64) (.cons .str .nil))) x) : goodVal x := by
  have hm : maxLen ≤ 9223372036854775807 := by decide
  obtain ⟨q0, q1, _⟩ := h
  exact ⟨i64_wf' q0, Nat.le_trans q1 hm⟩

theorem xtoValS (hk : 2000000 ≤ k) (l : List TVal) (hl : okL okVal l) : laws_toValS k l = some ((), l) := by
  unfold laws_toValS
  have h := hl.1
  rw [okLen_ok (by omega) (by omega), cond_true]
  refine xto_gen (laws_toValS.l3 k) ((0, (⟨#[]⟩ : ByteArray), ()) : TVal) okVal ?_ ?_ l [] k (by omega) (by simpa using h) hl.2
  · intro n l o
    simp only [laws_toValS.l3, ltEnd, cond_false]
  · intro n pre x post o hx hp
    simp only [laws_toValS.l3, ltMid, cond_true, getMid, Option.bind_some, laws_toCol, laws_toColumn, laws_toPred, laws_toRec, laws_toTriple, laws_toVal, setMid, nat1 pre hp]

theorem xeqVal (hk : 2000000 ≤ k) (x : TVal) (hx : okVal x) : laws_eqVal k x x = some true := by
  simp only [bneF rfl, eqS_iff, decide_true, Bool.not_true, cond_false, Option.bind_some, bne_self_eq_false, laws_eqCol, laws_eqColumn, laws_eqPred, laws_eqRec, laws_eqTriple, laws_eqVal]

theorem xeqValS (hk : 2000000 ≤ k) (l : List TVal) (hl : okL okVal l) : laws_eqValS k l l = some true := by
  unfold laws_eqValS
  have h := hl.1
  simp only [bneF rfl, cond_false]
  refine xeq_gen (laws_eqValS.l4 k) okVal ?_ ?_ l [] k (by omega) (by simpa using h) hl.2
  · intro n l
    simp only [laws_eqValS.l4, ltEnd, cond_false]
  · intro n pre x post hx hp
    simp only [laws_eqValS.l4, ltMid, cond_true, getMid, Option.bind_some, xeqVal k hk x hx, Bool.not_true, cond_false, nat1 pre hp]

theorem xmarkValS (hk : 2000000 ≤ k) (l : List TVal) (hl : okL okVal l) (m : Int) (h0 : 0 ≤ m) (hm : m + (xtot cntVal l : Nat) ≤ 4611686018427387904) : laws_markValS k m l = some (m + (xtot cntVal l : Nat), mkL (mkVal k) cntVal l m) := by
  unfold laws_markValS
  have h := hl.1
  refine xmark_gen (laws_markValS.l2 k) (mkVal k) cntVal 2 okVal 4611686018427387904 cntVal_le ?_ ?_ l [] k m (by omega) (by simpa using h) hl.2 h0 hm
  · intro n m l
    simp only [laws_markValS.l2, ltEnd, cond_false]
  · intro n m pre x post hx h0 hm hp
    simp only [cntVal] at hm
    have e0 : IntKind.wrap .i64 (m + 1) = m + 1 := w64 (by omega) (by omega)
    have e1 : IntKind.wrap .i64 (m + 1 + 1) = m + 1 + 1 := w64 (by omega) (by omega)
    have eN : m + 1 + 1 = m + (cntVal x : Nat) := by simp only [cntVal] <;> omega
    simp only [laws_markValS.l2, ltMid, cond_true, getMid, Option.bind_some, setMid, e0, e1, mtx_eq k (by omega) (m + 1) (by omega), nat1 pre hp]
    rw [eN]
    rfl

theorem xheldValS (hk : 2000000 ≤ k) (l : List TVal) (hl : okL okVal l) (m : Int) (h0 : 0 ≤ m) (hm : m + (xtot cntVal l : Nat) ≤ 4611686018427387904) : laws_heldValS k (mkL (mkVal k) cntVal l m) m = some (m + (xtot cntVal l : Nat)) := by
  unfold laws_heldValS
  have h := hl.1
  refine xheld_gen (laws_heldValS.l2 k) (mkVal k) cntVal okVal 4611686018427387904 ?_ ?_ l [] k m (by omega) (by simpa using h) hl.2 h0 hm
  · intro n m l
    simp only [laws_heldValS.l2, ltEnd, cond_false]
  · intro n m pre x post hx h0 hm hp
    simp only [cntVal] at hm
    have e0 : IntKind.wrap .i64 (m + 1) = m + 1 := w64 (by omega) (by omega)
    have e1 : IntKind.wrap .i64 (m + 1 + 1) = m + 1 + 1 := w64 (by omega) (by omega)
    have eN : m + 1 + 1 = m + (cntVal x : Nat) := by simp only [cntVal] <;> omega
    simp only [laws_heldValS.l2, ltMid, cond_true]
    simp only [mkVal, laws_heldValS.d7, getMid, Option.bind_some, eqS_iff, decide_true, Bool.not_true, cond_false, bneF rfl, bne_self_eq_false, e0, e1, mtx_eq k (by omega) (m + 1) (by omega), nat1 pre hp]
    rw [eN]

theorem xszVal (hk : 2000000 ≤ k) (x : TVal) (hg : goodVal x) (m : Int) (h0 : 0 ≤ m) (h1 : m ≤ 1048576) : laws_szVal k x m = some (szOut (szVal x) m) := by
  obtain ⟨g0, g1⟩ := hg
  unfold laws_szVal szVal
  rw [w64 (show -9223372036854775808 ≤ m - (x.2.1.size : Int) by omega) (by omega)]
  by_cases c0 : ((x.2.1.size : Nat) : Int) ≤ m
  rotate_left
  · rw [decide_eq_true (by omega), cond_true, szOut_neg (by omega)]
  rw [decide_eq_false (by omega), cond_false]
  rw [szOut_pos (by omega)]; congr 1 <;> omega

theorem xszValS (hk : 2000000 ≤ k) (l : List TVal) (hl : l.length ≤ 9223372036854775807) (hg : ∀ y, y ∈ l → goodVal y) (m : Int) (h0 : 0 ≤ m) (h1 : m ≤ 1048576) : laws_szValS k l m = some (szOut (l.length + xtot szVal l) m) := by
  refine xsz_top (laws_szValS k) (laws_szValS.l5 k) k szVal hk (fun l m => rfl) l m h0 h1 hl (fun hl m h0 h1 => ?_)
  refine xsz_gen (laws_szValS.l5 k) szVal goodVal ?_ ?_ l [] k m (by omega) (by simpa using hl) hg h0 h1
  · intro n m l
    simp only [laws_szValS.l5, ltEnd, cond_false]
  · intro n m pre x post hx h0 h1 hp
    simp only [laws_szValS.l5, ltMid, cond_true, getMid, Option.bind_some, nat1 pre hp]
    rw [xszVal k hk x hx m h0 h1]; rfl

def okTriple (x : TTriple) : Prop := okVal x.2.2.1
def goodTriple (x : TTriple) : Prop := I64 x.1 ∧ I64 x.2.1 ∧ goodVal x.2.2.1
def cntTriple (x : TTriple) : Nat := 1 + 1 + cntVal x.2.2.1
def szTriple (x : TTriple) : Nat := szVal x.2.2.1 + 0
def mkTriple (k : Nat) (x : TTriple) (m : Int) : TTriple := (m, m + 1, (m + 1 + 1, mtx k (m + 1 + 1 + 1), ()), ())
theorem cntTriple_le (x : TTriple) (h : okTriple x) : cntTriple x ≤ 4 := by
  have h0 : okVal x.2.2.1 := h
  have g2 := cntVal_le x.2.2.1 h0
  unfold cntTriple
  omega
theorem okTriple_of (x : TTriple) (hg : goodTriple x) (h : szTriple x ≤ 1048576) : okTriple x := by
  obtain ⟨g0, g1, g2⟩ := hg
  unfold szTriple at h
  exact okVal_of _ g2 (by omega)
theorem goodTriple_of {x : TTriple} (h : GoodP (.st (.cons (.int .i64) (.cons (.int .i64) (.cons (.st (.cons (.int .i64) (.cons .str .nil))) .nil)))) x) : goodTriple x := by
  have hm : maxLen ≤ 9223372036854775807 := by decide
  obtain ⟨q0, q1, q2, _⟩ := h
  exact ⟨i64_wf' q0, i64_wf' q1, goodVal_of q2⟩

theorem xtoTripleS (hk : 2000000 ≤ k) (l : List TTriple) (hl : okL okTriple l) : laws_toTripleS k l = some ((), l) := by
  unfold laws_toTripleS
  have h := hl.1
  rw [okLen_ok (by omega) (by omega), cond_true]
  refine xto_gen (laws_toTripleS.l3 k) ((0, 0, (0, (⟨#[]⟩ : ByteArray), ()), ()) : TTriple) okTriple ?_ ?_ l [] k (by omega) (by simpa using h) hl.2
  · intro n l o
    simp only [laws_toTripleS.l3, ltEnd, cond_false]
  · intro n pre x post o hx hp
    simp only [laws_toTripleS.l3, ltMid, cond_true, getMid, Option.bind_some, laws_toCol, laws_toColumn, laws_toPred, laws_toRec, laws_toTriple, laws_toVal, setMid, nat1 pre hp]

theorem xeqTriple (hk : 2000000 ≤ k) (x : TTriple) (hx : okTriple x) : laws_eqTriple k x x = some true := by
  simp only [bneF rfl, eqS_iff, decide_true, Bool.not_true, cond_false, Option.bind_some, bne_self_eq_false, laws_eqCol, laws_eqColumn, laws_eqPred, laws_eqRec, laws_eqTriple, laws_eqVal]

theorem xeqTripleS (hk : 2000000 ≤ k) (l : List TTriple) (hl : okL okTriple l) : laws_eqTripleS k l l = some true := by
  unfold laws_eqTripleS
  have h := hl.1
  simp only [bneF rfl, cond_false]
  refine xeq_gen (laws_eqTripleS.l4 k) okTriple ?_ ?_ l [] k (by omega) (by simpa using h) hl.2
  · intro n l
    simp only [laws_eqTripleS.l4, ltEnd, cond_false]
  · intro n pre x post hx hp
    simp only [laws_eqTripleS.l4, ltMid, cond_true, getMid, Option.bind_some, xeqTriple k hk x hx, Bool.not_true, cond_false, nat1 pre hp]

theorem xmarkTripleS (hk : 2000000 ≤ k) (l : List TTriple) (hl : okL okTriple l) (m : Int) (h0 : 0 ≤ m) (hm : m + (xtot cntTriple l : Nat) ≤ 4611686018427387904) : laws_markTripleS k m l = some (m + (xtot cntTriple l : Nat), mkL (mkTriple k) cntTriple l m) := by
  unfold laws_markTripleS
  have h := hl.1
  refine xmark_gen (laws_markTripleS.l2 k) (mkTriple k) cntTriple 4 okTriple 4611686018427387904 cntTriple_le ?_ ?_ l [] k m (by omega) (by simpa using h) hl.2 h0 hm
  · intro n m l
    simp only [laws_markTripleS.l2, ltEnd, cond_false]
  · intro n m pre x post hx h0 hm hp
    simp only [cntTriple, cntVal] at hm
    have e0 : IntKind.wrap .i64 (m + 1) = m + 1 := w64 (by omega) (by omega)
    have e1 : IntKind.wrap .i64 (m + 1 + 1) = m + 1 + 1 := w64 (by omega) (by omega)
    have e2 : IntKind.wrap .i64 (m + 1 + 1 + 1) = m + 1 + 1 + 1 := w64 (by omega) (by omega)
    have e3 : IntKind.wrap .i64 (m + 1 + 1 + 1 + 1) = m + 1 + 1 + 1 + 1 := w64 (by omega) (by omega)
    have eN : m + 1 + 1 + 1 + 1 = m + (cntTriple x : Nat) := by simp only [cntTriple, cntVal] <;> omega
    simp only [laws_markTripleS.l2, ltMid, cond_true, getMid, Option.bind_some, setMid, e0, e1, e2, e3, mtx_eq k (by omega) (m + 1 + 1 + 1) (by omega), nat1 pre hp]
    rw [eN]
    rfl

theorem xheldTripleS (hk : 2000000 ≤ k) (l : List TTriple) (hl : okL okTriple l) (m : Int) (h0 : 0 ≤ m) (hm : m + (xtot cntTriple l : Nat) ≤ 4611686018427387904) : laws_heldTripleS k (mkL (mkTriple k) cntTriple l m) m = some (m + (xtot cntTriple l : Nat)) := by
  unfold laws_heldTripleS
  have h := hl.1
  refine xheld_gen (laws_heldTripleS.l2 k) (mkTriple k) cntTriple okTriple 4611686018427387904 ?_ ?_ l [] k m (by omega) (by simpa using h) hl.2 h0 hm
  · intro n m l
    simp only [laws_heldTripleS.l2, ltEnd, cond_false]
  · intro n m pre x post hx h0 hm hp
    simp only [cntTriple, cntVal] at hm
    have e0 : IntKind.wrap .i64 (m + 1) = m + 1 := w64 (by omega) (by omega)
    have e1 : IntKind.wrap .i64 (m + 1 + 1) = m + 1 + 1 := w64 (by omega) (by omega)
    have e2 : IntKind.wrap .i64 (m + 1 + 1 + 1) = m + 1 + 1 + 1 := w64 (by omega) (by omega)
    have e3 : IntKind.wrap .i64 (m + 1 + 1 + 1 + 1) = m + 1 + 1 + 1 + 1 := w64 (by omega) (by omega)
    have eN : m + 1 + 1 + 1 + 1 = m + (cntTriple x : Nat) := by simp only [cntTriple, cntVal] <;> omega
    simp only [laws_heldTripleS.l2, ltMid, cond_true]
    simp only [mkTriple, laws_heldTripleS.d13, getMid, Option.bind_some, eqS_iff, decide_true, Bool.not_true, cond_false, bneF rfl, bne_self_eq_false, e0, e1, e2, e3, mtx_eq k (by omega) (m + 1 + 1 + 1) (by omega), nat1 pre hp]
    rw [eN]

theorem xszTriple (hk : 2000000 ≤ k) (x : TTriple) (hg : goodTriple x) (m : Int) (h0 : 0 ≤ m) (h1 : m ≤ 1048576) : laws_szTriple k x m = some (szOut (szTriple x) m) := by
  obtain ⟨g0, g1, g2⟩ := hg
  unfold laws_szTriple szTriple
  rw [xszVal k hk x.2.2.1 g2 (m) (by omega) (by omega)]
  by_cases c0 : ((szVal x.2.2.1 : Nat) : Int) ≤ m
  rotate_left
  · rw [szOut_neg c0]; simp only [Option.bind_some, show decide ((-1 : Int) < 0) = true from rfl, cond_true]; rw [szOut_neg (by omega)]
  rw [szOut_pos c0]; simp only [Option.bind_some]; rw [decide_eq_false (by omega), cond_false]
  rw [szOut_pos (by omega)]; congr 1 <;> omega

theorem xszTripleS (hk : 2000000 ≤ k) (l : List TTriple) (hl : l.length ≤ 9223372036854775807) (hg : ∀ y, y ∈ l → goodTriple y) (m : Int) (h0 : 0 ≤ m) (h1 : m ≤ 1048576) : laws_szTripleS k l m = some (szOut (l.length + xtot szTriple l) m) := by
  refine xsz_top (laws_szTripleS k) (laws_szTripleS.l5 k) k szTriple hk (fun l m => rfl) l m h0 h1 hl (fun hl m h0 h1 => ?_)
  refine xsz_gen (laws_szTripleS.l5 k) szTriple goodTriple ?_ ?_ l [] k m (by omega) (by simpa using hl) hg h0 h1
  · intro n m l
    simp only [laws_szTripleS.l5, ltEnd, cond_false]
  · intro n m pre x post hx h0 h1 hp
    simp only [laws_szTripleS.l5, ltMid, cond_true, getMid, Option.bind_some, nat1 pre hp]
    rw [xszTriple k hk x hx m h0 h1]; rfl

def okColumn (x : TColumn) : Prop := okL okTriple x.1
def goodColumn (x : TColumn) : Prop := (x.1.length ≤ 9223372036854775807 ∧ ∀ y, y ∈ x.1 → goodTriple y)
def cntColumn (x : TColumn) : Nat := xtot cntTriple x.1
def szColumn (x : TColumn) : Nat := (x.1.length + xtot szTriple x.1) + 0
def mkColumn (k : Nat) (x : TColumn) (m : Int) : TColumn := (mkL (mkTriple k) cntTriple x.1 (m), ())
theorem cntColumn_le (x : TColumn) (h : okColumn x) : cntColumn x ≤ 4194304 := by
  have h0 : okL okTriple x.1 := h
  have g0 := okL.tot h0 cntTriple_le
  unfold cntColumn
  omega
theorem okColumn_of (x : TColumn) (hg : goodColumn x) (h : szColumn x ≤ 1048576) : okColumn x := by
  have g0 : (x.1.length ≤ 9223372036854775807 ∧ ∀ y, y ∈ x.1 → goodTriple y) := hg
  unfold szColumn at h
  exact ⟨by omega, fun y hy => okTriple_of y (g0.2 y hy) (by have := xtot_mem (f := szTriple) _ _ hy; omega)⟩
theorem goodColumn_of {e1 : TypeId} {x : TColumn} (h : GoodP (.st (.cons (.list e1 (.st (.cons (.int .i64) (.cons (.int .i64) (.cons (.st (.cons (.int .i64) (.cons .str .nil))) .nil))))) .nil)) x) : goodColumn x := by
  have hm : maxLen ≤ 9223372036854775807 := by decide
  obtain ⟨q0, _⟩ := h
  exact ⟨Nat.le_trans q0.1 hm, fun y hy => goodTriple_of (q0.2 y hy)⟩

theorem xtoColumnS (hk : 2000000 ≤ k) (l : List TColumn) (hl : okL okColumn l) : laws_toColumnS k l = some ((), l) := by
  unfold laws_toColumnS
  have h := hl.1
  rw [okLen_ok (by omega) (by omega), cond_true]
  refine xto_gen (laws_toColumnS.l3 k) (([], ()) : TColumn) okColumn ?_ ?_ l [] k (by omega) (by simpa using h) hl.2
  · intro n l o
    simp only [laws_toColumnS.l3, ltEnd, cond_false]
  · intro n pre x post o hx hp
    have o0 : okL okTriple x.1 := hx
    have k_o0 : okL okTriple x.1 := o0
    simp only [laws_toColumnS.l3, ltMid, cond_true, getMid, Option.bind_some, laws_toCol, laws_toColumn, laws_toPred, laws_toRec, laws_toTriple, laws_toVal, xtoTripleS k hk _ k_o0, setMid, nat1 pre hp]

theorem xeqColumn (hk : 2000000 ≤ k) (x : TColumn) (hx : okColumn x) : laws_eqColumn k x x = some true := by
  have o0 : okL okTriple x.1 := hx
  have k_o0 : okL okTriple x.1 := o0
  simp only [bneF rfl, eqS_iff, decide_true, Bool.not_true, cond_false, Option.bind_some, bne_self_eq_false, laws_eqCol, laws_eqColumn, laws_eqPred, laws_eqRec, laws_eqTriple, laws_eqVal, xeqTripleS k hk _ k_o0]

theorem xeqColumnS (hk : 2000000 ≤ k) (l : List TColumn) (hl : okL okColumn l) : laws_eqColumnS k l l = some true := by
  unfold laws_eqColumnS
  have h := hl.1
  simp only [bneF rfl, cond_false]
  refine xeq_gen (laws_eqColumnS.l4 k) okColumn ?_ ?_ l [] k (by omega) (by simpa using h) hl.2
  · intro n l
    simp only [laws_eqColumnS.l4, ltEnd, cond_false]
  · intro n pre x post hx hp
    simp only [laws_eqColumnS.l4, ltMid, cond_true, getMid, Option.bind_some, xeqColumn k hk x hx, Bool.not_true, cond_false, nat1 pre hp]

theorem xmarkColumnS (hk : 2000000 ≤ k) (l : List TColumn) (hl : okL okColumn l) (m : Int) (h0 : 0 ≤ m) (hm : m + (xtot cntColumn l : Nat) ≤ 4611686018427387904) : laws_markColumnS k m l = some (m + (xtot cntColumn l : Nat), mkL (mkColumn k) cntColumn l m) := by
  unfold laws_markColumnS
  have h := hl.1
  refine xmark_gen (laws_markColumnS.l2 k) (mkColumn k) cntColumn 4194304 okColumn 4611686018427387904 cntColumn_le ?_ ?_ l [] k m (by omega) (by simpa using h) hl.2 h0 hm
  · intro n m l
    simp only [laws_markColumnS.l2, ltEnd, cond_false]
  · intro n m pre x post hx h0 hm hp
    simp only [cntColumn] at hm
    have o0 : okL okTriple x.1 := hx
    have k_o0 : okL okTriple x.1 := o0
    have p0 : (0 : Int) ≤ (xtot cntTriple x.1 : Nat) := Int.natCast_nonneg _
    have r0 := xmarkTripleS k hk x.1 k_o0 (m) (by omega) (by omega)
    have eN : m + (xtot cntTriple x.1 : Nat) = m + (cntColumn x : Nat) := by simp only [cntColumn] <;> omega
    simp only [laws_markColumnS.l2, ltMid, cond_true, getMid, Option.bind_some, setMid, r0, nat1 pre hp]
    rw [eN]
    rfl

theorem xheldColumnS (hk : 2000000 ≤ k) (l : List TColumn) (hl : okL okColumn l) (m : Int) (h0 : 0 ≤ m) (hm : m + (xtot cntColumn l : Nat) ≤ 4611686018427387904) : laws_heldColumnS k (mkL (mkColumn k) cntColumn l m) m = some (m + (xtot cntColumn l : Nat)) := by
  unfold laws_heldColumnS
  have h := hl.1
  refine xheld_gen (laws_heldColumnS.l2 k) (mkColumn k) cntColumn okColumn 4611686018427387904 ?_ ?_ l [] k m (by omega) (by simpa using h) hl.2 h0 hm
  · intro n m l
    simp only [laws_heldColumnS.l2, ltEnd, cond_false]
  · intro n m pre x post hx h0 hm hp
    simp only [cntColumn] at hm
    have o0 : okL okTriple x.1 := hx
    have k_o0 : okL okTriple x.1 := o0
    have p0 : (0 : Int) ≤ (xtot cntTriple x.1 : Nat) := Int.natCast_nonneg _
    have r0 := xheldTripleS k hk x.1 k_o0 (m) (by omega) (by omega)
    have eN : m + (xtot cntTriple x.1 : Nat) = m + (cntColumn x : Nat) := by simp only [cntColumn] <;> omega
    simp only [laws_heldColumnS.l2, ltMid, cond_true]
    simp only [mkColumn, getMid, Option.bind_some, eqS_iff, decide_true, Bool.not_true, cond_false, bneF rfl, bne_self_eq_false, r0, decide_eq_false (show ¬ (m + (xtot cntTriple x.1 : Nat) < 0) by omega), nat1 pre hp]
    rw [eN]

theorem xszColumn (hk : 2000000 ≤ k) (x : TColumn) (hg : goodColumn x) (m : Int) (h0 : 0 ≤ m) (h1 : m ≤ 1048576) : laws_szColumn k x m = some (szOut (szColumn x) m) := by
  have g0 : (x.1.length ≤ 9223372036854775807 ∧ ∀ y, y ∈ x.1 → goodTriple y) := hg
  unfold laws_szColumn szColumn
  rw [xszTripleS k hk x.1 g0.1 g0.2 (m) (by omega) (by omega)]
  by_cases c0 : (((x.1.length + xtot szTriple x.1) : Nat) : Int) ≤ m
  rotate_left
  · rw [szOut_neg c0]; simp only [Option.bind_some, show decide ((-1 : Int) < 0) = true from rfl, cond_true]; rw [szOut_neg (by omega)]
  rw [szOut_pos c0]; simp only [Option.bind_some]; rw [decide_eq_false (by omega), cond_false]
  rw [szOut_pos (by omega)]; congr 1 <;> omega

theorem xszColumnS (hk : 2000000 ≤ k) (l : List TColumn) (hl : l.length ≤ 9223372036854775807) (hg : ∀ y, y ∈ l → goodColumn y) (m : Int) (h0 : 0 ≤ m) (h1 : m ≤ 1048576) : laws_szColumnS k l m = some (szOut (l.length + xtot szColumn l) m) := by
  refine xsz_top (laws_szColumnS k) (laws_szColumnS.l5 k) k szColumn hk (fun l m => rfl) l m h0 h1 hl (fun hl m h0 h1 => ?_)
  refine xsz_gen (laws_szColumnS.l5 k) szColumn goodColumn ?_ ?_ l [] k m (by omega) (by simpa using hl) hg h0 h1
  · intro n m l
    simp only [laws_szColumnS.l5, ltEnd, cond_false]
  · intro n m pre x post hx h0 h1 hp
    simp only [laws_szColumnS.l5, ltMid, cond_true, getMid, Option.bind_some, nat1 pre hp]
    rw [xszColumn k hk x hx m h0 h1]; rfl

def okPred (x : TPred) : Prop := okVal x.2.2.1
def goodPred (x : TPred) : Prop := I64 x.1 ∧ I64 x.2.1 ∧ goodVal x.2.2.1 ∧ I64 x.2.2.2.1 ∧ I64 x.2.2.2.2.1
def cntPred (x : TPred) : Nat := 1 + 1 + cntVal x.2.2.1 + 1 + 1
def szPred (x : TPred) : Nat := szVal x.2.2.1 + 0
def mkPred (k : Nat) (x : TPred) (m : Int) : TPred := (m, m + 1, (m + 1 + 1, mtx k (m + 1 + 1 + 1), ()), m + 1 + 1 + 1 + 1, m + 1 + 1 + 1 + 1 + 1, ())
theorem cntPred_le (x : TPred) (h : okPred x) : cntPred x ≤ 6 := by
  have h0 : okVal x.2.2.1 := h
  have g2 := cntVal_le x.2.2.1 h0
  unfold cntPred
  omega
theorem okPred_of (x : TPred) (hg : goodPred x) (h : szPred x ≤ 1048576) : okPred x := by
  obtain ⟨g0, g1, g2, g3, g4⟩ := hg
  unfold szPred at h
  exact okVal_of _ g2 (by omega)
theorem goodPred_of {x : TPred} (h : GoodP (.st (.cons (.int .i64) (.cons (.int .i64) (.cons (.st (.cons (.int .i64) (.cons .str .nil))) (.cons (.int .i64) (.cons (.int .i64) .nil)))))) x) : goodPred x := by
  have hm : maxLen ≤ 9223372036854775807 := by decide
  obtain ⟨q0, q1, q2, q3, q4, _⟩ := h
  exact ⟨i64_wf' q0, i64_wf' q1, goodVal_of q2, i64_wf' q3, i64_wf' q4⟩

theorem xtoPredS (hk : 2000000 ≤ k) (l : List TPred) (hl : okL okPred l) : laws_toPredS k l = some ((), l) := by
  unfold laws_toPredS
  have h := hl.1
  rw [okLen_ok (by omega) (by omega), cond_true]
  refine xto_gen (laws_toPredS.l3 k) ((0, 0, (0, (⟨#[]⟩ : ByteArray), ()), 0, 0, ()) : TPred) okPred ?_ ?_ l [] k (by omega) (by simpa using h) hl.2
  · intro n l o
    simp only [laws_toPredS.l3, ltEnd, cond_false]
  · intro n pre x post o hx hp
    simp only [laws_toPredS.l3, ltMid, cond_true, getMid, Option.bind_some, laws_toCol, laws_toColumn, laws_toPred, laws_toRec, laws_toTriple, laws_toVal, setMid, nat1 pre hp]

theorem xeqPred (hk : 2000000 ≤ k) (x : TPred) (hx : okPred x) : laws_eqPred k x x = some true := by
  simp only [bneF rfl, eqS_iff, decide_true, Bool.not_true, cond_false, Option.bind_some, bne_self_eq_false, laws_eqCol, laws_eqColumn, laws_eqPred, laws_eqRec, laws_eqTriple, laws_eqVal]

theorem xeqPredS (hk : 2000000 ≤ k) (l : List TPred) (hl : okL okPred l) : laws_eqPredS k l l = some true := by
  unfold laws_eqPredS
  have h := hl.1
  simp only [bneF rfl, cond_false]
  refine xeq_gen (laws_eqPredS.l4 k) okPred ?_ ?_ l [] k (by omega) (by simpa using h) hl.2
  · intro n l
    simp only [laws_eqPredS.l4, ltEnd, cond_false]
  · intro n pre x post hx hp
    simp only [laws_eqPredS.l4, ltMid, cond_true, getMid, Option.bind_some, xeqPred k hk x hx, Bool.not_true, cond_false, nat1 pre hp]

theorem xszPred (hk : 2000000 ≤ k) (x : TPred) (hg : goodPred x) (m : Int) (h0 : 0 ≤ m) (h1 : m ≤ 1048576) : laws_szPred k x m = some (szOut (szPred x) m) := by
  obtain ⟨g0, g1, g2, g3, g4⟩ := hg
  unfold laws_szPred szPred
  rw [xszVal k hk x.2.2.1 g2 (m) (by omega) (by omega)]
  by_cases c0 : ((szVal x.2.2.1 : Nat) : Int) ≤ m
  rotate_left
  · rw [szOut_neg c0]; simp only [Option.bind_some, show decide ((-1 : Int) < 0) = true from rfl, cond_true]; rw [szOut_neg (by omega)]
  rw [szOut_pos c0]; simp only [Option.bind_some]; rw [decide_eq_false (by omega), cond_false]
  rw [szOut_pos (by omega)]; congr 1 <;> omega

theorem xszPredS (hk : 2000000 ≤ k) (l : List TPred) (hl : l.length ≤ 9223372036854775807) (hg : ∀ y, y ∈ l → goodPred y) (m : Int) (h0 : 0 ≤ m) (h1 : m ≤ 1048576) : laws_szPredS k l m = some (szOut (l.length + xtot szPred l) m) := by
  refine xsz_top (laws_szPredS k) (laws_szPredS.l5 k) k szPred hk (fun l m => rfl) l m h0 h1 hl (fun hl m h0 h1 => ?_)
  refine xsz_gen (laws_szPredS.l5 k) szPred goodPred ?_ ?_ l [] k m (by omega) (by simpa using hl) hg h0 h1
  · intro n m l
    simp only [laws_szPredS.l5, ltEnd, cond_false]
  · intro n m pre x post hx h0 h1 hp
    simp only [laws_szPredS.l5, ltMid, cond_true, getMid, Option.bind_some, nat1 pre hp]
    rw [xszPred k hk x hx m h0 h1]; rfl

def okRec (x : TRec) : Prop := okL okVal x.1
def goodRec (x : TRec) : Prop := (x.1.length ≤ 9223372036854775807 ∧ ∀ y, y ∈ x.1 → goodVal y)
def cntRec (x : TRec) : Nat := xtot cntVal x.1
def szRec (x : TRec) : Nat := (x.1.length + xtot szVal x.1) + 0
def mkRec (k : Nat) (x : TRec) (m : Int) : TRec := (mkL (mkVal k) cntVal x.1 (m), ())
theorem cntRec_le (x : TRec) (h : okRec x) : cntRec x ≤ 2097152 := by
  have h0 : okL okVal x.1 := h
  have g0 := okL.tot h0 cntVal_le
  unfold cntRec
  omega
theorem okRec_of (x : TRec) (hg : goodRec x) (h : szRec x ≤ 1048576) : okRec x := by
  have g0 : (x.1.length ≤ 9223372036854775807 ∧ ∀ y, y ∈ x.1 → goodVal y) := hg
  unfold szRec at h
  exact ⟨by omega, fun y hy => okVal_of y (g0.2 y hy) (by have := xtot_mem (f := szVal) _ _ hy; omega)⟩
theorem goodRec_of {e1 : TypeId} {x : TRec} (h : GoodP (.st (.cons (.list e1 (.st (.cons (.int .i64) (.cons .str .nil)))) .nil)) x) : goodRec x := by
  have hm : maxLen ≤ 9223372036854775807 := by decide
  obtain ⟨q0, _⟩ := h
  exact ⟨Nat.le_trans q0.1 hm, fun y hy => goodVal_of (q0.2 y hy)⟩

theorem xtoRecS (hk : 2000000 ≤ k) (l : List TRec) (hl : okL okRec l) : laws_toRecS k l = some ((), l) := by
  unfold laws_toRecS
  have h := hl.1
  rw [okLen_ok (by omega) (by omega), cond_true]
  refine xto_gen (laws_toRecS.l3 k) (([], ()) : TRec) okRec ?_ ?_ l [] k (by omega) (by simpa using h) hl.2
  · intro n l o
    simp only [laws_toRecS.l3, ltEnd, cond_false]
  · intro n pre x post o hx hp
    have o0 : okL okVal x.1 := hx
    have k_o0 : okL okVal x.1 := o0
    simp only [laws_toRecS.l3, ltMid, cond_true, getMid, Option.bind_some, laws_toCol, laws_toColumn, laws_toPred, laws_toRec, laws_toTriple, laws_toVal, xtoValS k hk _ k_o0, setMid, nat1 pre hp]

theorem xeqRec (hk : 2000000 ≤ k) (x : TRec) (hx : okRec x) : laws_eqRec k x x = some true := by
  have o0 : okL okVal x.1 := hx
  have k_o0 : okL okVal x.1 := o0
  simp only [bneF rfl, eqS_iff, decide_true, Bool.not_true, cond_false, Option.bind_some, bne_self_eq_false, laws_eqCol, laws_eqColumn, laws_eqPred, laws_eqRec, laws_eqTriple, laws_eqVal, xeqValS k hk _ k_o0]

theorem xeqRecS (hk : 2000000 ≤ k) (l : List TRec) (hl : okL okRec l) : laws_eqRecS k l l = some true := by
  unfold laws_eqRecS
  have h := hl.1
  simp only [bneF rfl, cond_false]
  refine xeq_gen (laws_eqRecS.l4 k) okRec ?_ ?_ l [] k (by omega) (by simpa using h) hl.2
  · intro n l
    simp only [laws_eqRecS.l4, ltEnd, cond_false]
  · intro n pre x post hx hp
    simp only [laws_eqRecS.l4, ltMid, cond_true, getMid, Option.bind_some, xeqRec k hk x hx, Bool.not_true, cond_false, nat1 pre hp]

theorem xmarkRecS (hk : 2000000 ≤ k) (l : List TRec) (hl : okL okRec l) (m : Int) (h0 : 0 ≤ m) (hm : m + (xtot cntRec l : Nat) ≤ 4611686018427387904) : laws_markRecS k m l = some (m + (xtot cntRec l : Nat), mkL (mkRec k) cntRec l m) := by
  unfold laws_markRecS
  have h := hl.1
  refine xmark_gen (laws_markRecS.l2 k) (mkRec k) cntRec 2097152 okRec 4611686018427387904 cntRec_le ?_ ?_ l [] k m (by omega) (by simpa using h) hl.2 h0 hm
  · intro n m l
    simp only [laws_markRecS.l2, ltEnd, cond_false]
  · intro n m pre x post hx h0 hm hp
    simp only [cntRec] at hm
    have o0 : okL okVal x.1 := hx
    have k_o0 : okL okVal x.1 := o0
    have p0 : (0 : Int) ≤ (xtot cntVal x.1 : Nat) := Int.natCast_nonneg _
    have r0 := xmarkValS k hk x.1 k_o0 (m) (by omega) (by omega)
    have eN : m + (xtot cntVal x.1 : Nat) = m + (cntRec x : Nat) := by simp only [cntRec] <;> omega
    simp only [laws_markRecS.l2, ltMid, cond_true, getMid, Option.bind_some, setMid, r0, nat1 pre hp]
    rw [eN]
    rfl

theorem xheldRecS (hk : 2000000 ≤ k) (l : List TRec) (hl : okL okRec l) (m : Int) (h0 : 0 ≤ m) (hm : m + (xtot cntRec l : Nat) ≤ 4611686018427387904) : laws_heldRecS k (mkL (mkRec k) cntRec l m) m = some (m + (xtot cntRec l : Nat)) := by
  unfold laws_heldRecS
  have h := hl.1
  refine xheld_gen (laws_heldRecS.l2 k) (mkRec k) cntRec okRec 4611686018427387904 ?_ ?_ l [] k m (by omega) (by simpa using h) hl.2 h0 hm
  · intro n m l
    simp only [laws_heldRecS.l2, ltEnd, cond_false]
  · intro n m pre x post hx h0 hm hp
    simp only [cntRec] at hm
    have o0 : okL okVal x.1 := hx
    have k_o0 : okL okVal x.1 := o0
    have p0 : (0 : Int) ≤ (xtot cntVal x.1 : Nat) := Int.natCast_nonneg _
    have r0 := xheldValS k hk x.1 k_o0 (m) (by omega) (by omega)
    have eN : m + (xtot cntVal x.1 : Nat) = m + (cntRec x : Nat) := by simp only [cntRec] <;> omega
    simp only [laws_heldRecS.l2, ltMid, cond_true]
    simp only [mkRec, getMid, Option.bind_some, eqS_iff, decide_true, Bool.not_true, cond_false, bneF rfl, bne_self_eq_false, r0, decide_eq_false (show ¬ (m + (xtot cntVal x.1 : Nat) < 0) by omega), nat1 pre hp]
    rw [eN]

theorem xszRec (hk : 2000000 ≤ k) (x : TRec) (hg : goodRec x) (m : Int) (h0 : 0 ≤ m) (h1 : m ≤ 1048576) : laws_szRec k x m = some (szOut (szRec x) m) := by
  have g0 : (x.1.length ≤ 9223372036854775807 ∧ ∀ y, y ∈ x.1 → goodVal y) := hg
  unfold laws_szRec szRec
  rw [xszValS k hk x.1 g0.1 g0.2 (m) (by omega) (by omega)]
  by_cases c0 : (((x.1.length + xtot szVal x.1) : Nat) : Int) ≤ m
  rotate_left
  · rw [szOut_neg c0]; simp only [Option.bind_some, show decide ((-1 : Int) < 0) = true from rfl, cond_true]; rw [szOut_neg (by omega)]
  rw [szOut_pos c0]; simp only [Option.bind_some]; rw [decide_eq_false (by omega), cond_false]
  rw [szOut_pos (by omega)]; congr 1 <;> omega

theorem xszRecS (hk : 2000000 ≤ k) (l : List TRec) (hl : l.length ≤ 9223372036854775807) (hg : ∀ y, y ∈ l → goodRec y) (m : Int) (h0 : 0 ≤ m) (h1 : m ≤ 1048576) : laws_szRecS k l m = some (szOut (l.length + xtot szRec l) m) := by
  refine xsz_top (laws_szRecS k) (laws_szRecS.l5 k) k szRec hk (fun l m => rfl) l m h0 h1 hl (fun hl m h0 h1 => ?_)
  refine xsz_gen (laws_szRecS.l5 k) szRec goodRec ?_ ?_ l [] k m (by omega) (by simpa using hl) hg h0 h1
  · intro n m l
    simp only [laws_szRecS.l5, ltEnd, cond_false]
  · intro n m pre x post hx h0 h1 hp
    simp only [laws_szRecS.l5, ltMid, cond_true, getMid, Option.bind_some, nat1 pre hp]
    rw [xszRec k hk x hx m h0 h1]; rfl

end Go.Law
end

section
/- Small facts that the exact laws share. -/
set_option linter.unusedVariables false
set_option linter.unusedSimpArgs false
namespace Go.Law
open Go.Am Go.Fn

/-- what is good in a row of arguments -/
theorem goodL {t : Ty} {e : TypeId} {P : t.Den → Prop} (hP : ∀ x, GoodP t x → P x) {l : List t.Den} (h : GoodP (.list e t) l) : l.length ≤ 9223372036854775807 ∧ ∀ x, x ∈ l → P x :=
  ⟨Nat.le_trans h.1 (by decide), fun x hx => hP x (h.2 x hx)⟩

theorem goodCols {s : List TCol} (hg : ∀ x, x ∈ s → goodCol x) {k : Nat} (hk : 2000000 ≤ k) (hsz : xtot szCol s ≤ 1048576) : ∀ c, c ∈ s → c.1.size < k ∧ c.1.size < 1000000000 ∧ I64 c.2.2.2.1 := by
  intro c hc
  have h1 := xtot_mem (f := szCol) s c hc
  obtain ⟨_, _, _, h2⟩ := hg c hc
  have h3 : szCol c = c.1.size + 0 := rfl
  exact ⟨by omega, by omega, h2⟩
end Go.Law
end

section
/- FnExactAssemble -/
set_option linter.unusedVariables false
set_option linter.unusedSimpArgs false
namespace Go.Law
open Go.Am Go.Fn

theorem fnExactAssemble (s : List TCol) (hs : GoodP (.list 0 (.st (.cons .str (.cons (.int .i64) (.cons (.int .i64) (.cons (.int .i64) .nil)))))) s)
    (cols : List TColumn) (hr : GoodP (.list 0 (.st (.cons (.list 0 (.st (.cons (.int .i64) (.cons (.int .i64) (.cons (.st (.cons (.int .i64) (.cons .str .nil))) .nil))))) .nil))) cols) :
    ∃ k, laws_FnExactAssemble k s cols = some true := by
  have gs := goodL (P := goodCol) (fun x hx => goodCol_of hx) hs
  have gr := goodL (P := goodColumn) (fun x hx => goodColumn_of hx) hr
  clear hs hr
  refine ⟨3000000, ?_⟩
  generalize hk : 3000000 = k
  have hk' : 2000000 ≤ k := by omega
  clear hk
  unfold laws_FnExactAssemble
  rw [xszColS k hk' s gs.1 gs.2 1048576 (by omega) (by omega)]
  simp only [Option.bind_some]
  by_cases c1 : ((s.length + xtot szCol s : Nat) : Int) ≤ 1048576
  · rw [szOut_pos c1, decide_eq_false (by omega), cond_false, xszColumnS k hk' cols gr.1 gr.2 _ (by omega) (by omega)]
    simp only [Option.bind_some]
    by_cases c2 : ((cols.length + xtot szColumn cols : Nat) : Int) ≤ 1048576 - ((s.length + xtot szCol s : Nat) : Int)
    · rw [szOut_pos c2, decide_eq_false (by omega), cond_false]
      have os : okL okCol s := ⟨by omega, fun _ _ => trivial⟩
      have oR : okL okColumn cols := ⟨by omega, fun x hx => okColumn_of x (gr.2 x hx) (by have := xtot_mem (f := szColumn) cols x hx; omega)⟩
      have hn := goodCols gs.2 hk' (by omega)
      have hcols : (cols.map fun c => c.1).map tcol = cols := by
        rw [List.map_map]
        have : (tcol ∘ fun c : TColumn => c.1) = id := by funext c; rfl
        rw [this, List.map_id]
      obtain ⟨code, out, e1, e2, e3, e4, _⟩ := assemble_eq k s hn hk' (cols.map fun c => c.1) (by rw [List.length_map]; omega) (fun x hx => by
        obtain ⟨c, hc, rfl⟩ := List.mem_map.1 hx
        have : okL okTriple c.1 := oR.2 c hc
        exact this.1)
      rw [hcols] at e1 e2
      have oo : okL okRec out := ⟨by omega, fun x hx => (⟨by have := e4 x hx; omega, fun _ _ => trivial⟩ : okL okVal x.1)⟩
      have b1 := os.tot cntCol_le
      have b2 := oR.tot cntColumn_le
      have b3 := oo.tot cntRec_le
      have m1 := xmarkColS k hk' s os 1 (by omega) (by omega)
      have m2 := xmarkColumnS k hk' cols oR (1 + (xtot cntCol s : Nat)) (by omega) (by omega)
      have m3 := xmarkRecS k hk' out oo 1 (by omega) (by omega)
      have m4 := xheldRecS k hk' out oo 1 (by omega) (by omega)
      simp only [xtoColS k hk' s os, xtoColumnS k hk' cols oR, Option.bind_some, e1, e2, xeqRecS k hk' out oo, xeqColS k hk' s os, xeqColumnS k hk' cols oR, m1, m2, m3, m4, Bool.not_true, cond_false, beq_self_eq_true,
        decide_eq_false (show ¬ (1 + ((xtot cntCol s : Nat) : Int) + ((xtot cntColumn cols : Nat) : Int) < 0) by omega), decide_eq_false (show ¬ (1 + ((xtot cntRec out : Nat) : Int) < 0) by omega), bneF rfl]
    · rw [szOut_neg c2]; rfl
  · rw [szOut_neg c1]; rfl
end Go.Law
end
