/- A drawn schema is read from its tree as it was: the law. -/
import Derived.Test.YtmdmkakkodeniaaLawSchemaRead
import Derived.Test.YtmdmkakkodeniaaLawDrawSchema
import Derived.Test.YtmdmkakkodeniaaLawTreeTop
set_option linter.unusedVariables false
set_option linter.unusedSimpArgs false
namespace Go.Law
open Go.Am Go.Fn
attribute [-simp] List.length_flatten
variable (k : Nat)

theorem SubC_many {s : List TCol} : ∀ (d a b : Nat), SubC s d a b → ∀ i, a ≤ i → i < b → ∃ c, s[i]? = some c ∧ i + c.2.2.2.1.toNat < b
  | 0, _, _, h => h.elim
  | d + 1, a, b, ⟨c, h1, h2, h3, h4⟩ => by
    have key : ∀ (n pos : Nat) (names : List ByteArray) (nx : Nat), PartsC (SubC s d) s n pos names nx → ∀ i, pos ≤ i → i < nx → ∃ c, s[i]? = some c ∧ i + c.2.2.2.1.toNat < nx := by
      intro n
      induction n with
      | zero => intro pos names nx e i hi1 hi2; have e : pos = nx := e; omega
      | succ n ih =>
        intro pos names nx ⟨p, mid, _, _, hs, hp⟩ i hi1 hi2
        have hle := PartsC_le (SubC_lt d) _ _ _ _ hp
        rcases Nat.lt_or_ge i mid with h | h
        · obtain ⟨c, g1, g2⟩ := SubC_many d pos mid hs i hi1 h
          exact ⟨c, g1, by omega⟩
        · exact ih mid _ nx hp i h hi2
    intro i hi1 hi2
    rcases Nat.lt_or_ge a i with h | h
    · exact key _ _ _ _ h4 i (by omega) hi2
    · obtain rfl : i = a := by omega
      have hle := PartsC_le (SubC_lt d) _ _ _ _ h4
      exact ⟨c, h1, by omega⟩

theorem schema_facts {s : List TCol} (h : IsSchema s) : ∀ c, c ∈ s → colOk c = true ∧ c.1.size ≤ 20 ∧ c.2.2.2.1 ≤ 1000 := by
  intro c hc
  obtain ⟨h2, h20, hS, c0, e0, e1, e2, e3⟩ := h
  obtain ⟨i, hi, rfl⟩ := List.mem_iff_getElem.1 hc
  obtain ⟨c1, g1, g2, g3⟩ := SubC_all 6 0 s.length hS i (Nat.zero_le _) hi
  obtain ⟨c2, k1, k2⟩ := SubC_many 6 0 s.length hS i (Nat.zero_le _) hi
  rw [List.getElem?_eq_getElem hi] at g1 k1
  obtain rfl := Option.some.inj g1
  obtain rfl := Option.some.inj k1
  refine ⟨g2, ?_, by omega⟩
  rcases Nat.eq_zero_or_pos i with h0 | h0
  · subst h0
    rw [List.getElem?_eq_getElem hi] at e0
    rw [Option.some.inj e0, e1]
    decide
  · have := g3 h0
    unfold nameOk at this
    simp only [Bool.and_eq_true, decide_eq_true_eq] at this
    omega

theorem wfN_mk' {t i n m : Int} {s : ByteArray} (h1 : I64 t) (h2 : I64 i) (h3 : I64 n) (h4 : I64 m) (h5 : s.size ≤ 1073741824) : WfN (t, i, n, s, m, ()) := ⟨h1, h2, h3, h4, h5⟩

theorem i64_sm {x : Int} (h0 : -1000000000 ≤ x) (h1 : x ≤ 1000000000) : I64 x := ⟨by omega, by omega⟩

theorem colNode_wf {i : Nat} {c : TCol} (h : colOk c = true ∧ c.1.size ≤ 20 ∧ c.2.2.2.1 ≤ 1000) : ∀ n, n ∈ colNode i c → WfN n := by
  obtain ⟨hc, hn, hm⟩ := h
  unfold colOk at hc
  simp only [Bool.and_eq_true, Bool.or_eq_true, beq_iff_eq, decide_eq_true_eq] at hc
  obtain ⟨hc1, hc2, hc3⟩ := hc
  have e0 : (⟨#[]⟩ : ByteArray).size ≤ 1073741824 := by decide
  have hl := colParts_len i c
  have ht : 0 ≤ c.2.1 ∧ c.2.1 ≤ 7 := by
    rcases hc1 with h1 | h1
    · omega
    · have := h1.1
      unfold tyOk at this
      simp only [Bool.or_eq_true, beq_iff_eq] at this
      omega
  have hmm : 0 ≤ c.2.2.2.1 := by rcases hc1 with h1 | h1 <;> omega
  intro n hn'
  rcases List.mem_cons.1 hn' with rfl | hn'
  · exact wfN_mk' (i64_sm (by omega) (by omega)) (i64_sm (by omega) (by omega)) (i64_sm (by omega) (by omega)) (i64_sm (by omega) (by omega)) e0
  · have w1 : WfN (5, 1, c.2.1, (⟨#[]⟩ : ByteArray), 0, ()) := wfN_mk' (i64_sm (by omega) (by omega)) (i64_sm (by omega) (by omega)) (i64_sm (by omega) (by omega)) (i64_sm (by omega) (by omega)) e0
    have w3 : WfN (5, 3, c.2.2.1, (⟨#[]⟩ : ByteArray), 0, ()) := wfN_mk' (i64_sm (by omega) (by omega)) (i64_sm (by omega) (by omega)) (i64_sm (by omega) (by omega)) (i64_sm (by omega) (by omega)) e0
    have w4 : WfN (8, 4, 0, c.1, 0, ()) := wfN_mk' (i64_sm (by omega) (by omega)) (i64_sm (by omega) (by omega)) (i64_sm (by omega) (by omega)) (i64_sm (by omega) (by omega)) (by omega)
    have w5 : WfN (5, 5, c.2.2.2.1, (⟨#[]⟩ : ByteArray), 0, ()) := wfN_mk' (i64_sm (by omega) (by omega)) (i64_sm (by omega) (by omega)) (i64_sm (by omega) (by omega)) (i64_sm (by omega) (by omega)) e0
    unfold colParts at hn'
    simp only [List.mem_append] at hn'
    rcases hn' with ((h | h) | h) | h
    · split at h
      · cases h
      · simp at h; subst h; exact w1
    · split at h
      · simp at h; subst h; exact w3
      · cases h
    · simp at h; subst h; exact w4
    · split at h
      · simp at h; subst h; exact w5
      · cases h

theorem sTree_wf (s : List TCol) (hs : s.length ≤ 20) (h : ∀ c, c ∈ s → colOk c = true ∧ c.1.size ≤ 20 ∧ c.2.2.2.1 ≤ 1000) : ∀ n, n ∈ sTree s → WfN n := by
  have e0 : (⟨#[]⟩ : ByteArray).size ≤ 1073741824 := by decide
  have key : ∀ (r : List TCol) (i : Nat), (∀ c, c ∈ r → colOk c = true ∧ c.1.size ≤ 20 ∧ c.2.2.2.1 ≤ 1000) → ∀ n, n ∈ (colsFrom i r).flatten → WfN n := by
    intro r
    induction r with
    | nil => intro i _ n hn; simp [colsFrom] at hn
    | cons c r ih =>
      intro i hr n hn
      simp only [colsFrom, List.flatten_cons, List.mem_append] at hn
      rcases hn with hn | hn
      · exact colNode_wf (hr c (List.mem_cons_self ..)) n hn
      · exact ih (i + 1) (fun c hc => hr c (List.mem_cons_of_mem _ hc)) n hn
  intro n hn
  unfold sTree at hn
  rcases List.mem_cons.1 hn with rfl | hn
  · exact wfN_mk' (i64_sm (by omega) (by omega)) (i64_sm (by omega) (by omega)) (i64_sm (by omega) (by omega)) (i64_sm (by omega) (by omega)) e0
  rcases List.mem_cons.1 hn with rfl | hn
  · exact wfN_mk' (i64_sm (by omega) (by omega)) (i64_sm (by omega) (by omega)) (i64_sm (by omega) (by omega)) (i64_sm (by omega) (by omega)) e0
  exact key s 0 h n hn

theorem sameCols_loop (l : List TCol) (hl : l.length < 4611686018427387904) : ∀ (m n i : Nat), l.length - i < n → l.length = i + m → laws_sameCols.l4 k n l l (i : Int) = some true := by
  intro m
  induction m with
  | zero =>
    intro n i hn hi
    obtain ⟨n, rfl⟩ : ∃ j, n = j + 1 := ⟨n - 1, by omega⟩
    simp only [laws_sameCols.l4, decide_eq_false (show ¬ (i : Int) < (l.length : Int) by omega), cond_false]
  | succ m ih =>
    intro n i hn hi
    obtain ⟨n, rfl⟩ : ∃ j, n = j + 1 := ⟨n - 1, by omega⟩
    obtain ⟨x, hx1, hx2⟩ := rdL_some (xs := l) (i := (i : Int)) (by omega) (by omega)
    have hs : eqS x.1 x.1 = true := by rw [eqS_iff]; simp
    simp only [laws_sameCols.l4, decide_eq_true (show (i : Int) < (l.length : Int) by omega), cond_true, hx1, Option.bind_some, hs, beq_self_eq_true, Bool.and_self, Bool.not_true, cond_false]
    rw [w64 (by omega) (by omega), show ((i : Int) + 1) = ((i + 1 : Nat) : Int) by omega]
    exact ih n (i + 1) (by omega) (by omega)

theorem sameCols_refl (l : List TCol) (hl : l.length < k) (hl2 : l.length < 4611686018427387904) : laws_sameCols k l l = some true := by
  unfold laws_sameCols
  simp only [bneF rfl, cond_false]
  exact sameCols_loop k l hl2 l.length k 0 (by omega) (by omega)

theorem schema_law (hk : 2000 ≤ k) (code : List Int) (s : List TCol) (hd : spec_DrawSchemaTree k code = some ((), s)) (hw : WfDs s) (hlen : s.length ≤ 100) :
    laws_FnSchema k code = some true := by
  unfold laws_FnSchema laws_big
  simp only [Option.bind_some]
  by_cases hb : (code.length : Int) > 1048576
  · simp only [decide_eq_true hb, cond_true]
  · simp only [decide_eq_false hb, cond_false, hd, Option.bind_some]
    obtain ⟨b, g1, g2, g3⟩ := schemaOk_eq k (by omega) s (fun c hc => by
      obtain ⟨a1, a2, a3, a4⟩ := hw c hc
      exact ⟨by omega, by omega, a4⟩)
    cases b with
    | false =>
      have ht : impl_SchemaTree k s = some (((), false), []) := by
        unfold impl_SchemaTree
        simp only [g2, Option.bind_some, Bool.not_false, cond_true]
      have ha : impl_SchemaAfter k s 0 = some (-1) := by
        unfold impl_SchemaAfter
        simp only [g2, Option.bind_some, Bool.not_false, cond_true]
      simp only [ht, g1, g2, Option.bind_some, beq_self_eq_true, Bool.not_true, Bool.not_false, cond_true, cond_false, ha]
      rfl
    | true =>
      obtain ⟨hS, hca⟩ := g3 rfl
      have hfx := schema_facts hS
      have hwf := sTree_wf s hS.2.1 hfx
      have h82 := sTree_len s hS.2.1
      have ht := schemaTree_eq k (by omega) s hS g2
      have hsr := sTree_read k hk s hS.1 hS.2.1 hfx g1 (fun c hc => by
        obtain ⟨_, _, _, c0, e0, _, e2, _⟩ := hS
        rw [e0] at hc
        obtain rfl := Option.some.inj hc
        exact e2) hwf
      obtain ⟨b, r, q1, q2, _, _⟩ := schemaOf_eq k hk (sTree s) hwf (by omega) 0
      rw [hsr] at q1
      obtain ⟨rfl, rfl⟩ : b = true ∧ r = s := by
        have := Option.some.inj q1
        simp only [Prod.mk.injEq, true_and] at this
        exact ⟨this.1.symm, this.2.symm⟩
      obtain ⟨b, t1, _, t3⟩ := treeRound k hk (sTree r) hwf (by omega)
      have bt := treeOkEnc k hk _ _ (sTree_enc12 r hS.1 hS.2.1 hfx) (by have := h82; unfold sTree at this; omega) rfl rfl
      have bt : spec_TreeOk k (sTree r) = some true := bt
      rw [t1] at bt
      obtain rfl : b = true := by simpa using bt
      rcases t3 with ⟨h, _⟩ | ⟨_, B, p1, p2, _, p4⟩
      · cases h
      have p5 := p4 [] [] (by simp)
      simp only [List.nil_append, List.append_nil, List.length_nil, Nat.zero_add] at p5
      have p5 : impl_TreeRead k B 0 = some (((), (B.length : Int), 0), sTree r) := p5
      have hsame := sameCols_refl k r (by omega) (by omega)
      have ha : impl_SchemaAfter k r 0 = some (r.length : Int) := by
        unfold impl_SchemaAfter
        have c1 : (decide ((0 : Int) ≤ 0) && decide ((0 : Int) ≤ IntKind.wrap .i64 ((r.length : Int) - 1))) = true := by
          have := hS.1
          rw [w64 (by omega) (by omega)]; simp; omega
        simp only [g2, Option.bind_some, Bool.not_true, cond_false, within_eq, c1, hca]
      simp only [ht, g1, g2, Option.bind_some, beq_self_eq_true, Bool.not_true, cond_true, cond_false, p1, p5, q2, hsame, ha]

theorem fnSchema (x : List Int) : ∃ k, laws_FnSchema k x = some true := by
  refine ⟨1000000, ?_⟩
  by_cases h : (x.length : Int) > 1048576
  · unfold laws_FnSchema laws_big
    simp only [Option.bind_some, decide_eq_true h, cond_true]
  · obtain ⟨l, h1, h2, h3⟩ := drawSchemaTree_ok 1000000 (by omega) x (by omega)
    exact schema_law 1000000 (by omega) x l h1 h2 h3
end Go.Law
