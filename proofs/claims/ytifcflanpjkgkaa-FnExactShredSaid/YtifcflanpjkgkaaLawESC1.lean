import Derived.Test.YtifcflanpjkgkaaLawESC0
set_option linter.unnecessarySimpa false
set_option linter.unusedSimpArgs false
set_option linter.unusedVariables false
set_option linter.unusedSectionVars false
section
/- FnExactShred -/
set_option linter.unusedVariables false
set_option linter.unusedSimpArgs false
namespace Go.Law
open Go.Am Go.Fn

/-- what is good in a row of arguments -/
theorem goodL {t : Ty} {e : TypeId} {P : t.Den → Prop} (hP : ∀ x, GoodP t x → P x) {l : List t.Den} (h : GoodP (.list e t) l) : l.length ≤ 9223372036854775807 ∧ ∀ x, x ∈ l → P x :=
  ⟨Nat.le_trans h.1 (by decide), fun x hx => hP x (h.2 x hx)⟩

theorem goodCols {s : List TCol} (hg : ∀ x, x ∈ s → goodCol x) {k : Nat} (hk : 2000000 ≤ k) (hsz : xtot szCol s ≤ 1048576) : ∀ c, c ∈ s → c.1.size < k ∧ c.1.size < 1000000000 ∧ I64 c.2.2.2.1 := by
  intro c hc
  have h1 := xtot_mem (f := szCol) s c hc
  obtain ⟨_, _, _, h2⟩ := hg c hc
  have h3 : szCol c = c.1.size + 0 := rfl
  exact ⟨by omega, by omega, h2⟩

theorem shr_ok {s : List TCol} (hs : s.length ≤ 20) {R : List TRec} {T : TT} (h : shr s R = some T) : T.length ≤ 20 ∧ ∀ x, x ∈ T → x.length ≤ 2000 := by
  unfold shr at h
  split at h
  · cases h
  · rename_i X hX
    simp only at h
    split at h
    · rename_i hsm
      simp only [Option.some.injEq] at h
      subst h
      constructor
      · have : ∀ (X : List Ev) (T : TT), (X.foldl (sstp s) T).length = T.length := by
          intro X
          induction X with
          | nil => intro T; rfl
          | cons e X ih =>
            intro T
            rw [List.foldl_cons, ih]
            unfold sstp
            split
            · rfl
            · simp
        rw [this]
        have := lnum_le s s.length
        simp [emptyT]; omega
      · intro x hx
        have := List.all_eq_true.1 hsm x hx
        simpa using this
    · cases h

theorem okTriples (x : List TTriple) (h : x.length ≤ 1048576) : okL okTriple x := ⟨h, fun _ _ => trivial⟩

theorem fnExactShred (s : List TCol) (hs : GoodP (.list 0 (.st (.cons .str (.cons (.int .i64) (.cons (.int .i64) (.cons (.int .i64) .nil)))))) s)
    (R : List TRec) (hr : GoodP (.list 0 (.st (.cons (.list 0 (.st (.cons (.int .i64) (.cons .str .nil)))) .nil))) R) :
    ∃ k, laws_FnExactShred k s R = some true := by
  have gs := goodL (P := goodCol) (fun x hx => goodCol_of hx) hs
  have gr := goodL (P := goodRec) (fun x hx => goodRec_of hx) hr
  clear hs hr
  refine ⟨3000000, ?_⟩
  generalize hk : 3000000 = k
  have hk' : 2000000 ≤ k := by omega
  clear hk
  unfold laws_FnExactShred
  rw [xszColS k hk' s gs.1 gs.2 1048576 (by omega) (by omega)]
  simp only [Option.bind_some]
  by_cases c1 : ((s.length + xtot szCol s : Nat) : Int) ≤ 1048576
  · rw [szOut_pos c1, decide_eq_false (by omega), cond_false, xszRecS k hk' R gr.1 gr.2 _ (by omega) (by omega)]
    simp only [Option.bind_some]
    by_cases c2 : ((R.length + xtot szRec R : Nat) : Int) ≤ 1048576 - ((s.length + xtot szCol s : Nat) : Int)
    · rw [szOut_pos c2, decide_eq_false (by omega), cond_false]
      have os : okL okCol s := ⟨by omega, fun _ _ => trivial⟩
      have oR : okL okRec R := ⟨by omega, fun x hx => okRec_of x (gr.2 x hx) (by have := xtot_mem (f := szRec) R x hx; omega)⟩
      have hn := goodCols gs.2 hk' (by omega)
      obtain ⟨b, e1, e2, e3, e4, e5⟩ := shred_eq k s hn hk' R (fun r hr => (oR.2 r hr).1)
      generalize hO : (if b = true ∧ R.length ≤ 200 then shrOut (shr s R) else (((), false), [])) = O at e4 e5
      obtain ⟨⟨⟨⟩, ok⟩, out⟩ := O
      have oo : okL okColumn out := by
        split at hO
        · rename_i hb
          have hS := e3 hb.1
          cases hsh : shr s R with
          | none =>
            rw [hsh] at hO
            simp only [shrOut, Prod.mk.injEq] at hO
            rw [← hO.2]
            exact ⟨by simp, fun x hx => by cases hx⟩
          | some T =>
            rw [hsh] at hO
            simp only [shrOut, Prod.mk.injEq] at hO
            obtain ⟨t1, t2⟩ := shr_ok hS.2.1 hsh
            rw [← hO.2]
            refine ⟨by simp; omega, fun x hx => ?_⟩
            obtain ⟨y, hy, rfl⟩ := List.mem_map.1 hx
            have := t2 y hy
            exact okTriples y (by omega)
        · simp only [Prod.mk.injEq] at hO
          rw [← hO.2]
          exact ⟨by simp, fun x hx => by cases hx⟩
      have b1 := os.tot cntCol_le
      have b2 := oR.tot cntRec_le
      have b3 := oo.tot cntColumn_le
      have m1 := xmarkColS k hk' s os 1 (by omega) (by omega)
      have m2 := xmarkRecS k hk' R oR (1 + (xtot cntCol s : Nat)) (by omega) (by omega)
      have m3 := xmarkColumnS k hk' out oo 1 (by omega) (by omega)
      have m4 := xheldColumnS k hk' out oo 1 (by omega) (by omega)
      simp only [xtoColS k hk' s os, xtoRecS k hk' R oR, Option.bind_some, e4, e5, xeqColumnS k hk' out oo, xeqColS k hk' s os, xeqRecS k hk' R oR, m1, m2, m3, m4, Bool.not_true, cond_false, beq_self_eq_true,
        decide_eq_false (show ¬ (1 + ((xtot cntCol s : Nat) : Int) + ((xtot cntRec R : Nat) : Int) < 0) by omega), decide_eq_false (show ¬ (1 + ((xtot cntColumn out : Nat) : Int) < 0) by omega), bneF rfl]
    · rw [szOut_neg c2]; rfl
  · rw [szOut_neg c1]; rfl
end Go.Law
end
