/- The law FnExactEncRead: whatever the input, the call returns true, and the input reads as it did. No condition. -/
import Derived.Test.YtabocefniklbpaaRows
import Derived.Test.YtabocefniklbpaaEENW0
import Derived.Test.YtabocefniklbpaaLawEEN0
import Derived.Test.YtabocefniklbpaaAmRow
namespace Go.Proofs.Ytabocefniklbpaa.fnExactEncRead
open Go.ChangeShapes Go.WideShapes Go.ChangeAt Go.RowKit
open Go.ChangeMaps (open_string shut_string)
set_option linter.unusedVariables false
theorem own : ownKnob Try.prog.godebug = none := by kernel_rfl
theorem laidOut : laidOutB Try.prog = true := by kernel_rfl
set_option maxRecDepth 100000 in
theorem lifted (os : Os) (started : os.Started) (H : Type) (enc : TypeId × Value → H) :
    ReturnsInHanded {} Try.checked os 3 .any (Rows.fnExactEncReadSpec.pre6 enc Try.prog Try.f3 Rows.fnExactEncReadRow.domain false) (Rows.fnExactEncReadSpec.post enc Try.prog Try.f3 false true false false) := by
  refine returnsInHanded_of_change_sized (C := Try.checked) own started (by kernel_rfl) Try.func3
    (ChangeSpec.witness6 (enc := enc) (C := Try.checked) false ⟨#[], #[.int .i64 0, .int .i64 0, .slice none 0 0, .int .i64 0, .slice none 0 0], []⟩ 8 (by kernel_rfl) (by kernel_rfl) (by kernel_rfl) (by kernel_rfl)) ?_
  intro W base args ds gs before hval0 hW hcnd hsz0 _
  have hval : ∀ (j : Nat) t v, Try.f3.params[j]? = some t → args[j]? = some v → Value.okWide Try.prog W .any base t v := hval0
  have hW' := hW
  obtain ⟨p, q, hA0, hV, rfl, hfz, hnd⟩ := hW
  have hA : DataW.TrodAll enc Try.prog W 0 (fun _ => true) true Try.f3.params.toList args.toList ds p := hA0
  rw [Try.params3] at hA hval
  obtain ⟨v0, vs0, d0, ds0, p0, q0, hargs, rfl, rfl, h0, r0⟩ := trodAll_cons hA
  obtain ⟨v1, vs1, d1, ds1, p1, q1, rfl, rfl, rfl, h1, r1⟩ := trodAll_cons r0
  obtain ⟨v2, vs2, d2, ds2, p2, q2, rfl, rfl, rfl, h2, r2⟩ := trodAll_cons r1
  obtain ⟨v3, vs3, d3, ds3, p3, q3, rfl, rfl, rfl, h3, r3⟩ := trodAll_cons r2
  obtain ⟨v4, vs4, d4, ds4, p4, q4, rfl, rfl, rfl, h4, r4⟩ := trodAll_cons r3
  obtain ⟨rfl, rfl, rfl⟩ := trodAll_nil r4
  obtain rfl : args = #[v0, v1, v2, v3, v4] := by cases args; simp_all
  obtain ⟨rfl, rfl⟩ := trodVars_none hV
  have lt0 : ∀ x ∈ p0, x.block < W.heap.size := by obtain ⟨m, hm⟩ := h0; exact DataW.trod_lt m _ _ _ hm
  have m0 : Go.Am.mkV false v0.cells.toList v0 := by obtain ⟨a, e⟩ := okWide_int Try.underlying3 (hval 0 3 v0 rfl rfl); subst e; rfl
  obtain ⟨y0, g0, e0⟩ := Go.Am.arg_rep (u := (.int .i64)) (by kernel_rfl) rfl m0 h0
  have lt1 : ∀ x ∈ p1, x.block < W.heap.size := by obtain ⟨m, hm⟩ := h1; exact DataW.trod_lt m _ _ _ hm
  have m1 : Go.Am.mkV false v1.cells.toList v1 := by obtain ⟨a, e⟩ := okWide_int Try.underlying3 (hval 1 3 v1 rfl rfl); subst e; rfl
  obtain ⟨y1, g1, e1⟩ := Go.Am.arg_rep (u := (.int .i64)) (by kernel_rfl) rfl m1 h1
  have lt2 : ∀ x ∈ p2, x.block < W.heap.size := by obtain ⟨m, hm⟩ := h2; exact DataW.trod_lt m _ _ _ hm
  have m2 : Go.Am.mkV false v2.cells.toList v2 := by obtain ⟨a, b, c, e⟩ := okWide_slice Try.underlying22 (hval 2 22 v2 rfl rfl); subst e; rfl
  obtain ⟨y2, g2, e2⟩ := Go.Am.arg_rep (u := (.list 5 (.int .u8))) (by kernel_rfl) rfl m2 h2
  have lt3 : ∀ x ∈ p3, x.block < W.heap.size := by obtain ⟨m, hm⟩ := h3; exact DataW.trod_lt m _ _ _ hm
  have m3 : Go.Am.mkV false v3.cells.toList v3 := by obtain ⟨a, e⟩ := okWide_int Try.underlying3 (hval 3 3 v3 rfl rfl); subst e; rfl
  obtain ⟨y3, g3, e3⟩ := Go.Am.arg_rep (u := (.int .i64)) (by kernel_rfl) rfl m3 h3
  have lt4 : ∀ x ∈ p4, x.block < W.heap.size := by obtain ⟨m, hm⟩ := h4; exact DataW.trod_lt m _ _ _ hm
  have m4 : Go.Am.mkV false v4.cells.toList v4 := by obtain ⟨a, b, c, e⟩ := okWide_slice Try.underlying23 (hval 4 23 v4 rfl rfl); subst e; rfl
  obtain ⟨y4, g4, e4⟩ := Go.Am.arg_rep (u := (.list 70 (.st (.cons (.int .i64) (.cons .str .nil))))) (by kernel_rfl) rfl m4 h4
  clear hA0 hval0 hsz0
  obtain ⟨k, hk⟩ := Go.Law.fnExactEncRead y0 g0 y1 g1 y2 g2 y3 g3 y4 g4
  refine (Go.Am.law_calls (w := W) (inS := (Go.Proofs.Ytabocefniklbpaa.f3c k).inS.1) (x := (y0, y1, y2, y3, y4)) (fn := Try.f3) (code := Go.Am.bodyOf Try.f3) (Go.Proofs.Ytabocefniklbpaa.f3ok k) (by kernel_rfl) (by kernel_rfl) (by decide) rfl hk (fun s => by
      match s with
      | 0 => exact e0 _ _
      | 1 => exact e1 _ _
      | 2 => exact e2 _ _
      | 3 => exact e3 _ _
      | 4 => exact e4 _ _
      | s + 5 => exact trivial)).mono fun e W' ⟨he, bel⟩ => ?_
  subst he
  exact ⟨_, rfl, _, _, _, [], _, [], hW', trodAll_mk1 (shut_bool Try.underlying4 _), (trodAll_cons_mk (Below.trod laidOut (by kernel_rfl) (of_decide_eq_true (by kernel_rfl)) h0 bel lt0) (trodAll_cons_mk (Below.trod laidOut (by kernel_rfl) (of_decide_eq_true (by kernel_rfl)) h1 bel lt1) (trodAll_cons_mk (Below.trod laidOut (by kernel_rfl) (of_decide_eq_true (by kernel_rfl)) h2 bel lt2) (trodAll_cons_mk (Below.trod laidOut (by kernel_rfl) (of_decide_eq_true (by kernel_rfl)) h3 bel lt3) (trodAll_cons_mk (Below.trod laidOut (by kernel_rfl) (of_decide_eq_true (by kernel_rfl)) h4 bel lt4) trodAll_mk0))))), rfl, bel.frame _, fun h => by cases h⟩
theorem andI {a b : Bool} (h : a = true) (g : b = true) : (a && b) = true := by rw [h, g]; rfl
theorem andE {a b : Bool} (h : (a && b) = true) : a = true ∧ b = true := by simpa using h
theorem part1 : laidOutB Try.pinned.checked.prog = true := laidOut
theorem look0 : (Rows.fnExactEncReadRow.wf (OpenSpec.ofChange Rows.fnExactEncReadSpec)) = true := by kernel_rfl
theorem look1 : (mapsRowed Try.pinned.checked.prog) = true := by kernel_rfl
theorem look2 : (Try.f3.params.all (Try.pinned.checked.prog.readableRec ·) && namedTie Try.pinned.checked.prog Rows.fnExactEncReadRow.named Rows.fnExactEncReadSpec.vars && (Rows.fnExactEncReadRow.stops == []) && (Try.pinned.checked.prog.stops == []) && (Rows.fnExactEncReadRow.knobs == []) && (Try.pinned.checked.prog.stopKnobs == [])) = true := by kernel_rfl
theorem look3 : ((Rows.fnExactEncReadRow.inPlace == Try.pinned.checked.prog.inPlace 3) && (Rows.fnExactEncReadRow.unfollowed == Try.pinned.checked.prog.unfollowed 3) && (Rows.fnExactEncReadRow.recurses == Try.pinned.checked.prog.recurses 3) && (Rows.fnExactEncReadRow.named == Try.pinned.checked.prog.varsNamed 3)) = true := by kernel_rfl
theorem look4 : ((Rows.fnExactEncReadRow.maps == (Try.f3.params.toList ++ Rows.fnExactEncReadSpec.plain.varTypes Try.pinned.checked.prog).any (Try.pinned.checked.prog.mapsRec ·)) && (Rows.fnExactEncReadRow.ifaces == (Try.f3.params.toList ++ Rows.fnExactEncReadSpec.plain.varTypes Try.pinned.checked.prog).any (Try.pinned.checked.prog.ifacesRec ·)) && (Rows.fnExactEncReadRow.mapsOut == Try.pinned.checked.prog.mapsAmong Try.f3.resultTypes.toList) && (Rows.fnExactEncReadRow.loops == (Try.f3.params.toList ++ Rows.fnExactEncReadSpec.plain.varTypes Try.pinned.checked.prog).any (Try.pinned.checked.prog.loopsFrom ·)) && (Rows.fnExactEncReadRow.wideKeys == (Try.f3.params.toList ++ Rows.fnExactEncReadSpec.plain.varTypes Try.pinned.checked.prog ++ Try.f3.resultTypes.toList).any (Try.pinned.checked.prog.wideKeysFrom ·)) && Rows.fnExactEncReadSpec.vars.all (Try.pinned.checked.prog.varReadable ·) && Try.f3.resultTypes.all (fun t => Try.pinned.checked.prog.readableRec t && decide (t < Try.pinned.checked.prog.types.size)) && (Rows.fnExactEncReadRow.ifacesOut == Try.f3.resultTypes.toList.any (Try.pinned.checked.prog.ifacesRec ·)) && (Rows.fnExactEncReadRow.loopsOut == Try.f3.resultTypes.toList.any (Try.pinned.checked.prog.loopsFrom ·))) = true := by kernel_rfl
theorem look5 : ((Rows.fnExactEncReadRow.plainKeys == Try.pinned.checked.prog.plainKeys)) = true := by kernel_rfl
theorem look6 : (Rows.fnExactEncReadRow.shortTexts.isNone && Try.pinned.checked.prog.stopsHeard && Try.pinned.checked.prog.mayEnter) = true := by kernel_rfl
theorem look7 : ((Rows.fnExactEncReadRow.lifted == Try.pinned.checked.prog.liftsFinal)) = true := by kernel_rfl
theorem look8 : ((Try.pinned.checked.prog.make == some Rows.fnExactEncReadRow.make)) = true := by kernel_rfl
theorem look9 : ((Rows.fnExactEncReadRow.kinds == (if Rows.fnExactEncReadRow.domain.isEmpty then [] else Try.f3.params.toList.map fun t => match Try.pinned.checked.prog.underlying t with | some (.int k) => some k | _ => none)) && (Rows.fnExactEncReadRow.pinned == Rows.fnExactEncReadRow.pinnedBy)) = true := by kernel_rfl
theorem look10 : ((Rows.fnExactEncReadRow.veiled == (Try.f3.params.toList ++ Rows.fnExactEncReadSpec.plain.varTypes Try.pinned.checked.prog ++ Try.f3.resultTypes.toList).any (Try.pinned.checked.prog.veiledRec ·)) && Rows.fnExactEncReadRow.veiledFits Try.pinned.checked.prog Try.f3.params.toList (Try.f3.params.toList ++ Rows.fnExactEncReadSpec.plain.varTypes Try.pinned.checked.prog ++ Try.f3.resultTypes.toList)) = true := by kernel_rfl
set_option maxRecDepth 100000 in
theorem closed : joinedFacts Try.pinned.checked.prog 3 Try.f3 Rows.fnExactEncReadSpec Rows.fnExactEncReadRow = true := by
  obtain ⟨h8, k8⟩ := andE look2
  obtain ⟨h7, k7⟩ := andE h8
  obtain ⟨h6, k6⟩ := andE h7
  obtain ⟨h5, k5⟩ := andE h6
  obtain ⟨h4, k4⟩ := andE h5
  obtain ⟨h12, k12⟩ := andE look3
  obtain ⟨h11, k11⟩ := andE h12
  obtain ⟨h10, k10⟩ := andE h11
  obtain ⟨h21, k21⟩ := andE look4
  obtain ⟨h20, k20⟩ := andE h21
  obtain ⟨h19, k19⟩ := andE h20
  obtain ⟨h18, k18⟩ := andE h19
  obtain ⟨h17, k17⟩ := andE h18
  obtain ⟨h16, k16⟩ := andE h17
  obtain ⟨h15, k15⟩ := andE h16
  obtain ⟨h14, k14⟩ := andE h15
  obtain ⟨h25, k25⟩ := andE look6
  obtain ⟨h24, k24⟩ := andE h25
  obtain ⟨h29, k29⟩ := andE look9
  obtain ⟨h31, k31⟩ := andE look10
  unfold joinedFacts
  exact (andI (andI (andI (andI (andI (andI (andI (andI (andI (andI (andI (andI (andI (andI (andI (andI (andI (andI (andI (andI (andI (andI (andI (andI (andI (andI (andI (andI (andI (andI (andI look0 part1) look1) h4) k4) k5) k6) k7) k8) h10) k10) k11) k12) h14) k14) k15) k16) k17) k18) k19) k20) k21) look5) h24) k24) k25) look7) look8) h29) k29) h31) k31)
theorem named : Try.pinned.checked.prog.funcNamed Rows.fnExactEncReadRow.func = some 3 := by kernel_rfl
theorem inst : Try.f3.isInstance Try.pinned.checked.prog Rows.fnExactEncReadRow.origin Rows.fnExactEncReadRow.targs := of_decide_eq_true (by kernel_rfl)
theorem wrapper : Try.f3.isWrapper Try.pinned.checked.prog Rows.fnExactEncReadRow.wrapper Rows.fnExactEncReadRow.mainSum := by unfold Func.isWrapper; first | (rw [if_pos (by decide +kernel)]; kernel_rfl) | (rw [if_neg (by decide +kernel)]; exact ⟨rfl, rfl⟩)
theorem over : Rows.fnExactEncReadRow.holds Try.pinned (OpenSpec.ofChange Rows.fnExactEncReadSpec) :=
  OpenClaim.holds_of_wide 3 Try.f3 rfl rfl rfl rfl rfl rfl rfl ⟨rfl, rfl, rfl, rfl, rfl⟩ rfl rfl rfl rfl rfl named Try.func3 closed inst wrapper
    (fun os started H enc _ => lifted os started H enc)
end Go.Proofs.Ytabocefniklbpaa.fnExactEncRead
namespace Go.Proofs.Ytabocefniklbpaa
/-- The row, under a short name, for the claim. -/
theorem fnExactEncRead_holds : Rows.FnExactEncReadSaid := fnExactEncRead.over
#print axioms fnExactEncRead_holds
end Go.Proofs.Ytabocefniklbpaa
