import Derived.Test.YtbmgddnjdcagpaaLawSHC1
set_option linter.unnecessarySimpa false
set_option linter.unusedSimpArgs false
set_option linter.unusedVariables false
set_option linter.unusedSectionVars false
section
/- FnShred -/
set_option linter.unusedVariables false
set_option linter.unusedSimpArgs false
set_option linter.unusedSectionVars false
namespace Go.Law
open Go.Am Go.Fn

theorem sameRecs_refl (k : Nat) (l : List TRec) (hl : l.length < k) (h2 : l.length ≤ 1000000) (hv : ∀ r, r ∈ l → r.1.length < k ∧ r.1.length ≤ 1000000) : laws_sameRecs k l l = some true := by
  have key : ∀ (post pre : List TRec) (f : Nat), l = pre ++ post → post.length < f → laws_sameRecs.l4 k f l l (pre.length : Int) = some true := by
    intro post
    induction post with
    | nil =>
      intro pre f h hf
      obtain ⟨f, rfl⟩ : ∃ q, f = q + 1 := ⟨f - 1, by omega⟩
      rw [List.append_nil] at h
      subst h
      simp only [laws_sameRecs.l4, decide_eq_false (show ¬ ((l.length : Int) < (l.length : Int)) by omega), cond_false]
    | cons v post ih =>
      intro pre f h hf
      simp only [List.length_cons] at hf
      obtain ⟨f, rfl⟩ : ∃ q, f = q + 1 := ⟨f - 1, by omega⟩
      have hlen : l.length = pre.length + (post.length + 1) := by rw [h]; simp
      have hg : rdL l (pre.length : Int) = some v := by rw [h]; exact getMid _ _ _
      have hi1 : IntKind.wrap .i64 ((pre.length : Int) + 1) = ((pre.length + 1 : Nat) : Int) := by rw [w64 (by omega) (by omega)]; omega
      have hi := ih (pre ++ [v]) f (by rw [h]; simp) (by omega)
      rw [List.length_append, List.length_singleton] at hi
      obtain ⟨v1, v2⟩ := hv v (by rw [h]; simp)
      simp only [laws_sameRecs.l4, decide_eq_true (show (pre.length : Int) < (l.length : Int) by omega), cond_true, hg, Option.bind_some, sameVals_refl k v.1 v1 v2, Bool.not_true, cond_false, hi1, hi]
  unfold laws_sameRecs
  rw [bneF rfl, cond_false]
  exact key l [] k rfl hl

theorem recEv_head {s : List TCol} (hS : IsSchema s) {V : List TVal} {X : List Ev} (h : recEv s V = some X) {L : Nat} {c : TCol} (hc : s[L]? = some c) (h7 : c.2.1 ≠ 7) : HeadRep 0 0 (evAt L X) :=
  evC_rep 6 0 s.length (Nat.le_refl _) hS.2.2.1 0 0 0 V X [] (recEv_some h).2 L c (Nat.zero_le _) (List.getElem?_eq_some_iff.1 hc).1 hc h7

theorem recs_head {s : List TCol} (hS : IsSchema s) {L : Nat} {c : TCol} (hc : s[L]? = some c) (h7 : c.2.1 ≠ 7) : ∀ (R : List TRec) (X : List Ev), recsEv s R = some X → (∀ t, ((evAt L X).map trip).head? = some t → t.1 = 0) ∧ rowsN ((evAt L X).map trip) = R.length
  | [], X, h => by
    simp only [recsEv, Option.some.injEq] at h
    subst h
    exact ⟨fun t ht => by simp [evAt] at ht, rfl⟩
  | r :: R, X, h => by
    simp only [recsEv] at h
    split at h
    · cases h
    · rename_i Y hY
      split at h
      · cases h
      · rename_i Z hZ
        simp only [Option.some.injEq] at h
        subst h
        obtain ⟨e, q, e1, e2, e3⟩ := recEv_head hS hY hc h7
        obtain ⟨_, i2⟩ := recs_head hS hc h7 R Z hZ
        rw [evAt_append, e1]
        constructor
        · intro t ht
          simp only [List.cons_append, List.map_cons, List.head?_cons, Option.some.injEq] at ht
          subst ht
          exact e2
        · rw [List.cons_append, List.map_cons, rowsN_cons, if_pos (show (trip e).1 = 0 from e2), List.map_append]
          have happ : ∀ a b : List TTriple, rowsN (a ++ b) = rowsN a + rowsN b := fun a b => by simp [rowsN]
          have hq : rowsN (q.map trip) = 0 := by
            unfold rowsN
            rw [List.length_eq_zero_iff, List.filter_eq_nil_iff]
            intro t ht
            obtain ⟨x, hx, rfl⟩ := List.mem_map.1 ht
            have := e3 x hx
            simp only [beq_iff_eq]
            show ¬ x.rep = 0
            omega
          rw [happ, hq, i2, List.length_cons]; omega

theorem recs_RV {s : List TCol} (hS : IsSchema s) : ∀ (R : List TRec) (X : List Ev), recsEv s R = some X → ∀ e, e ∈ X → RV s 1 0 0 e
  | [], X, h, e, he => by
    simp only [recsEv, Option.some.injEq] at h
    subst h
    cases he
  | r :: R, X, h, e, he => by
    simp only [recsEv] at h
    split at h
    · cases h
    · rename_i Y hY
      split at h
      · cases h
      · rename_i Z hZ
        simp only [Option.some.injEq] at h
        subst h
        rcases List.mem_append.1 he with he | he
        · exact (evC_RV 6 0 s.length (Nat.le_refl _) hS.2.2.1 0 0 0 r.1 Y [] (recEv_some hY).2 e he).2
        · exact recs_RV hS R Z hZ e he

theorem recs_back {s : List TCol} (hS : IsSchema s) {T : TRows} : ∀ (R : List TRec) (X : List Ev) (pos : List Nat), recsEv s R = some X → PosOk T pos → Hold s T pos 0 s.length X (fun _ => []) →
    ∃ q l, aRecs T s R.length pos = some (R, q, l) ∧ (∀ L, LeafIn s 0 s.length L → cur T q (lnum s L) = []) ∧ R.all (fun r => (recEv s r.1).isSome) = true
  | [], X, pos, h, hp, hh => by
    simp only [recsEv, Option.some.injEq] at h
    subst h
    exact ⟨pos, false, rfl, fun L hL => by have := hh L hL; simpa [evAt] using this, rfl⟩
  | r :: R, X, pos, h, hp, hh => by
    simp only [recsEv] at h
    split at h
    · cases h
    · rename_i Y hY
      split at h
      · cases h
      · rename_i Z hZ
        simp only [Option.some.injEq] at h
        subst h
        obtain ⟨V, q, b1, b2, b3, b4, _⟩ := evC_back (T := T) 6 0 s.length (Nat.le_refl _) hS.2.2.1 (Nat.le_refl _) 0 0 0 r.1 Y [] (recEv_some hY).2 pos (fun L => (evAt L Z).map trip) hp (fun L hL => by
          have := hh L hL
          rw [evAt_append, List.map_append, List.append_nil] at this
          exact this) (fun L hL t ht => by
            obtain ⟨_, _, c, hc, h7⟩ := hL
            have := (recs_head hS hc h7 R Z hZ).1 t ht
            omega)
        rw [List.append_nil] at b2
        subst b2
        obtain ⟨q2, l, c1, c2, c3⟩ := recs_back hS R Z q hZ b3 (fun L hL => by rw [b4 L hL, List.append_nil])
        refine ⟨q2, (false || decide (300 < r.1.length)) || l, ?_, c2, ?_⟩
        · simp only [List.length_cons, aRecs, b1, c1]
        · rw [List.all_cons, hY, c3]; rfl

theorem end_of {s : List TCol} {T : TRows} (hT : T.length = lnum s s.length) {q : List Nat} (hq : PosOk T q) (h : ∀ j, j < T.length → cur T q j = []) : endB T q = true := by
  have key : ∀ (T : TRows) (q : List Nat), q.length = T.length → (∀ (j p : Nat) (x : List TTriple), q[j]? = some p → T[j]? = some x → p ≤ x.length) → (∀ j, j < T.length → cur T q j = []) → endB T q = true := by
    intro T
    induction T with
    | nil => intro q _ _ _; rfl
    | cons x T ih =>
      intro q hl hp h
      cases q with
      | nil => simp at hl
      | cons p q =>
        simp only [endB]
        have h0 := h 0 (by simp)
        have hc : cur (x :: T) (p :: q) 0 = x.drop p := rfl
        rw [hc, List.drop_eq_nil_iff] at h0
        have h1 := hp 0 p x rfl rfl
        have : (p == x.length) = true := by simp; omega
        rw [this, Bool.true_and]
        refine ih q (by simpa using hl) (fun j p' x' h1 h2 => hp (j + 1) p' x' (by simpa using h1) (by simpa using h2)) (fun j hj => ?_)
        have := h (j + 1) (by simp; omega)
        exact this
  exact key T q hq.1 hq.2 h

theorem fnShred (t : List Int) : ∃ k, laws_FnShred k t = some true := by
  refine ⟨3000000, ?_⟩
  generalize hk : 3000000 = k
  have hk' : 2000000 ≤ k := by omega
  clear hk
  unfold laws_FnShred laws_big
  by_cases hb : (t.length : Int) > 1048576
  · simp only [decide_eq_true hb, Option.bind_some, cond_true]
  · obtain ⟨s, R, e1, hw, hl, hR⟩ := drawShred_ok k hk' t (by omega)
    have hn := wfSmall k (by omega) hw
    obtain ⟨b, h1, h2, h3, h4, h5⟩ := shred_eq k s hn hk' R
    simp only [decide_eq_false hb, Option.bind_some, cond_false, e1, h4, h5, beq_self_eq_true, Bool.not_true]
    by_cases hc : b = true ∧ R.length ≤ 200
    · simp only [if_pos hc]
      obtain ⟨rfl, hR2⟩ := hc
      have hS := h3 rfl
      cases hsh : shr s R with
      | none => rfl
      | some T =>
        simp only [shrOut, Bool.not_true, cond_false]
        obtain ⟨X, hX, _, hTl, hT2⟩ := shr_some hsh
        have hl20 := lnum_le s s.length
        have hs20 := hS.2.1
        obtain ⟨hevs, _⟩ := recsEv_ok hS R X hX
        have hll : (leavesFrom 0 s).length = lnum s s.length := leavesFrom_lnum s [] s rfl
        have leafOfJ : ∀ j, j < T.length → ∃ L c, s[L]? = some c ∧ c.2.1 ≠ 7 ∧ lnum s L = j ∧ T[j]? = some ((evAt L X).map trip) := by
          intro j hj
          obtain ⟨a, f1, _, f3, c, f4, f5⟩ := leavesFrom_get s [] s rfl j _ (List.getElem?_eq_getElem (show j < (leavesFrom ([] : List TCol).length s).length by show j < (leavesFrom 0 s).length; omega))
          have f3 : lnum s a = 0 + j := f3
          refine ⟨a, c, f4, f5, by omega, ?_⟩
          have := shr_col hsh hX f4 f5
          rwa [show lnum s a = j by omega] at this
        have hrows : ∀ (j : Nat) (x : List TTriple), T[j]? = some x → rowsN x = R.length := by
          intro j x hx
          obtain ⟨L, c, g1, g2, g3, g4⟩ := leafOfJ j (List.getElem?_eq_some_iff.1 hx).1
          rw [hx] at g4
          cases g4
          exact (recs_head hS g1 g2 R X hX).2
        have hright : ∀ (j : Nat) (x : List TTriple), T[j]? = some x → colRight s j x := by
          intro j x hx
          obtain ⟨L, c, g1, g2, g3, g4⟩ := leafOfJ j (List.getElem?_eq_some_iff.1 hx).1
          rw [hx] at g4
          cases g4
          refine ⟨hT2 _ (List.mem_of_getElem? hx), fun t r ht => (recs_head hS g1 g2 R X hX).1 t (by rw [ht]; rfl), fun L' c' k1 k2 k3 t ht => ?_⟩
          have : L' = L := lnum_inj k1 g1 k2 g2 (by omega)
          subst this
          rw [g1] at k1
          cases k1
          obtain ⟨e, he, rfl⟩ := List.mem_map.1 ht
          obtain ⟨m1, m2⟩ := evAt_mem he
          have ho := hevs e m1
          obtain ⟨rv1, rv2, rv3⟩ := recs_RV hS R X hX e m1
          have hy := ho.yes
          have hno := ho.no
          have hge := ho.ge
          rw [m2, Nat.zero_add] at hy hno
          rw [m2] at rv1 rv2
          unfold tripOk
          simp only [Bool.and_eq_true, decide_eq_true_eq]
          refine ⟨⟨?_, ?_⟩, ⟨?_, ?_⟩, ?_⟩
          · show 0 ≤ e.rep
            omega
          · show e.rep ≤ (lvD s isRep 1 L' : Int)
            omega
          · show 0 ≤ e.def_
            omega
          · show e.def_ ≤ (lvD s isOpt 1 L' : Int)
            cases hlf : e.leaf with
            | true => have := hy hlf; omega
            | false => have := hno hlf; omega
          · show (if e.def_ = (lvD s isOpt 1 L' : Int) then vok c.2.1 e.v else (e.v.1 == 0) && eqS e.v.2.1 ⟨#[]⟩) = true
            cases hlf : e.leaf with
            | true =>
              rw [if_pos (by have := hy hlf; omega)]
              exact rv2 hlf c g1
            | false =>
              rw [if_neg (by have := hno hlf; omega), rv3 hlf]
              rw [show eqS zv.2.1 ⟨#[]⟩ = true by rw [eqS_iff]; exact decide_eq_true rfl]
              rfl
        -- what is put together
        have hp0 : PosOk T (List.replicate T.length 0) := ⟨by simp, fun j p x hj _ => by
          rw [List.getElem?_replicate] at hj
          split at hj
          · cases hj; omega
          · cases hj⟩
        obtain ⟨q, l, a1, a2, a3⟩ := recs_back hS (T := T) R X (List.replicate T.length 0) hX hp0 (fun L hL => by
          obtain ⟨_, _, c, hc, h7⟩ := hL
          have hg := shr_col hsh hX hc h7
          unfold cur
          rw [hg, List.getElem?_replicate, if_pos (List.getElem?_eq_some_iff.1 hg).1]
          simp)
        have hRT : RightT s T := fun a c hc h7 x hx t ht hd => by
          have hh := (hright (lnum s a) x hx).2.2 a c hc h7 rfl t ht
          unfold tripOk at hh
          simp only [Bool.and_eq_true] at hh
          have := hh.2.2
          rw [if_pos hd] at this
          exact this
        have hq := (aRecs_ok hS hRT _ _ _ _ _ hp0 a1).1
        have hend : endB T q = true := end_of hTl hq (fun j hj => by
          obtain ⟨L, c, g1, g2, g3, _⟩ := leafOfJ j hj
          rw [← g3]
          exact a2 L ⟨Nat.zero_le _, (List.getElem?_eq_some_iff.1 g1).1, c, g1, g2⟩)
        have hasm : asmOut s T R.length = (0, R) := by
          unfold asmOut
          rw [a1]
          simp only [hend, a3, cond_true]
        obtain ⟨code, out, _, z2, _, _, z5⟩ := assemble_eq k s hn hk' T (by omega) (fun x hx => by have := hT2 x hx; omega)
        have hpos := lnum_pos hS.2.2.1
        have h0 : 0 < T.length := by omega
        have z6 := (z5 h1).2 hTl hright T[0] (List.getElem?_eq_getElem h0) (fun x hx => by
          obtain ⟨j, hj, rfl⟩ := List.getElem_of_mem hx
          rw [hrows j _ (List.getElem?_eq_getElem hj), hrows 0 _ (List.getElem?_eq_getElem h0)]) (by rw [hrows 0 _ (List.getElem?_eq_getElem h0)]; exact hR2)
        rw [hrows 0 _ (List.getElem?_eq_getElem h0), hasm] at z6
        simp only [Prod.mk.injEq] at z6
        obtain ⟨rfl, rfl⟩ := z6
        have hloop : ∀ (post pre : TT) (f : Nat), T = pre ++ post → post.length < f → laws_FnShred.l11 k f s out (pre.length : Int) (T.map colOf) = some true := by
          intro post
          induction post with
          | nil =>
            intro pre f h hf
            obtain ⟨f, rfl⟩ : ∃ q, f = q + 1 := ⟨f - 1, by omega⟩
            rw [List.append_nil] at h
            subst h
            have z2 : impl_Assemble k s (T.map colOf) = some (((), 0), out) := z2
            simp only [laws_FnShred.l11, List.length_map, decide_eq_false (show ¬ ((T.length : Int) < (T.length : Int)) by omega), cond_false, z2, Option.bind_some, beq_self_eq_true, cond_true, sameRecs_refl k out (by omega) (by omega) (fun r hr => by
              have := List.all_eq_true.1 a3 r hr
              have := recEv_300 this
              exact ⟨by omega, by omega⟩)]
          | cons x post ih =>
            intro pre f h hf
            simp only [List.length_cons] at hf
            obtain ⟨f, rfl⟩ : ∃ q, f = q + 1 := ⟨f - 1, by omega⟩
            have hlen : T.length = pre.length + (post.length + 1) := by rw [h]; simp
            have hgx : T[pre.length]? = some x := by rw [h]; simp
            have hg : rdL (T.map colOf) (pre.length : Int) = some (x, ()) := by rw [rdL_nat, List.getElem?_map, hgx]; rfl
            have hi1 : IntKind.wrap .i64 ((pre.length : Int) + 1) = ((pre.length + 1 : Nat) : Int) := by rw [w64 (by omega) (by omega)]; omega
            have hi := ih (pre ++ [x]) f (by rw [h]; simp) (by omega)
            rw [List.length_append, List.length_singleton] at hi
            have hx2 := hT2 x (List.mem_of_getElem? hgx)
            obtain ⟨_, r2⟩ := rowsOf_eq k x (by omega) hk'
            obtain ⟨bb, _, t2, _, t4⟩ := triplesOk_eq k s hn hk' hS h1 h2 pre.length x (by omega)
            have hbb : bb = true := by
              cases bb with
              | true => rfl
              | false => exact absurd (hright _ _ hgx) (t4 rfl (by omega))
            subst hbb
            simp only [laws_FnShred.l11, List.length_map, decide_eq_true (show (pre.length : Int) < (T.length : Int) by omega), cond_true, hg, Option.bind_some, r2, hrows _ _ hgx, bneF rfl, cond_false, t2, Bool.not_true, hi1, hi]
        exact hloop T [] k rfl (by omega)
    · simp only [if_neg hc]; rfl
end Go.Law
end
