/- The law FnMay: whatever the input, the call returns true, and the input reads as it did. No condition. -/
import Derived.Test.YtabocefniklbpaaRows
import Derived.Test.YtabocefniklbpaaMAYW0
import Derived.Test.YtabocefniklbpaaLawMAY2
import Derived.Test.YtabocefniklbpaaAmRow
namespace Go.Proofs.Ytabocefniklbpaa.fnMay
open Go.ChangeShapes Go.WideShapes Go.ChangeAt Go.RowKit
open Go.ChangeMaps (open_string shut_string)
set_option linter.unusedVariables false
theorem own : ownKnob Try.prog.godebug = none := by kernel_rfl
theorem laidOut : laidOutB Try.prog = true := by kernel_rfl
set_option maxRecDepth 100000 in
theorem lifted (os : Os) (started : os.Started) (H : Type) (enc : TypeId × Value → H) :
    ReturnsInHanded {} Try.checked os 4 .any (Rows.fnMaySpec.pre6 enc Try.prog Try.f4 Rows.fnMayRow.domain false) (Rows.fnMaySpec.post enc Try.prog Try.f4 false true false false) := by
  refine returnsInHanded_of_change_sized (C := Try.checked) own started (by kernel_rfl) Try.func4
    (ChangeSpec.witness6 (enc := enc) (C := Try.checked) false ⟨#[], #[.slice none 0 0], []⟩ 8 (by kernel_rfl) (by kernel_rfl) (by kernel_rfl) (by kernel_rfl)) ?_
  intro W base args ds gs before hval0 hW hcnd hsz0 _
  have hval : ∀ (j : Nat) t v, Try.f4.params[j]? = some t → args[j]? = some v → Value.okWide Try.prog W .any base t v := hval0
  have hW' := hW
  obtain ⟨p, q, hA0, hV, rfl, hfz, hnd⟩ := hW
  have hA : DataW.TrodAll enc Try.prog W 0 (fun _ => true) true Try.f4.params.toList args.toList ds p := hA0
  rw [Try.params4] at hA hval
  obtain ⟨v0, vs0, d0, ds0, p0, q0, hargs, rfl, rfl, h0, r0⟩ := trodAll_cons hA
  obtain ⟨rfl, rfl, rfl⟩ := trodAll_nil r0
  obtain rfl : args = #[v0] := by cases args; simp_all
  obtain ⟨rfl, rfl⟩ := trodVars_none hV
  have lt0 : ∀ x ∈ p0, x.block < W.heap.size := by obtain ⟨m, hm⟩ := h0; exact DataW.trod_lt m _ _ _ hm
  have m0 : Go.Am.mkV false v0.cells.toList v0 := by obtain ⟨a, b, c, e⟩ := okWide_slice Try.underlying22 (hval 0 22 v0 rfl rfl); subst e; rfl
  obtain ⟨y0, g0, e0⟩ := Go.Am.arg_rep (u := (.list 5 (.int .u8))) (by kernel_rfl) rfl m0 h0
  clear hA0 hval0 hsz0
  obtain ⟨k, hk⟩ := Go.Law.fnMay y0
  refine (Go.Am.law_calls (w := W) (inS := (Go.Proofs.Ytabocefniklbpaa.f4c k).inS.1) (x := y0) (fn := Try.f4) (code := Go.Am.bodyOf Try.f4) (Go.Proofs.Ytabocefniklbpaa.f4ok k) (by kernel_rfl) (by kernel_rfl) (by decide) rfl hk (fun s => by
      match s with
      | 0 => exact e0 _ _
      | s + 1 => exact trivial)).mono fun e W' ⟨he, bel⟩ => ?_
  subst he
  exact ⟨_, rfl, _, _, _, [], _, [], hW', trodAll_mk1 (shut_bool Try.underlying4 _), (trodAll_cons_mk (Below.trod laidOut (by kernel_rfl) (of_decide_eq_true (by kernel_rfl)) h0 bel lt0) trodAll_mk0), rfl, bel.frame _, fun h => by cases h⟩
theorem andI {a b : Bool} (h : a = true) (g : b = true) : (a && b) = true := by rw [h, g]; rfl
theorem andE {a b : Bool} (h : (a && b) = true) : a = true ∧ b = true := by simpa using h
theorem part1 : laidOutB Try.pinned.checked.prog = true := laidOut
theorem look0 : (Rows.fnMayRow.wf (OpenSpec.ofChange Rows.fnMaySpec)) = true := by kernel_rfl
theorem look1 : (mapsRowed Try.pinned.checked.prog) = true := by kernel_rfl
theorem look2 : (Try.f4.params.all (Try.pinned.checked.prog.readableRec ·) && namedTie Try.pinned.checked.prog Rows.fnMayRow.named Rows.fnMaySpec.vars && (Rows.fnMayRow.stops == []) && (Try.pinned.checked.prog.stops == []) && (Rows.fnMayRow.knobs == []) && (Try.pinned.checked.prog.stopKnobs == [])) = true := by kernel_rfl
theorem look3 : ((Rows.fnMayRow.inPlace == Try.pinned.checked.prog.inPlace 4) && (Rows.fnMayRow.unfollowed == Try.pinned.checked.prog.unfollowed 4) && (Rows.fnMayRow.recurses == Try.pinned.checked.prog.recurses 4) && (Rows.fnMayRow.named == Try.pinned.checked.prog.varsNamed 4)) = true := by kernel_rfl
theorem look4 : ((Rows.fnMayRow.maps == (Try.f4.params.toList ++ Rows.fnMaySpec.plain.varTypes Try.pinned.checked.prog).any (Try.pinned.checked.prog.mapsRec ·)) && (Rows.fnMayRow.ifaces == (Try.f4.params.toList ++ Rows.fnMaySpec.plain.varTypes Try.pinned.checked.prog).any (Try.pinned.checked.prog.ifacesRec ·)) && (Rows.fnMayRow.mapsOut == Try.pinned.checked.prog.mapsAmong Try.f4.resultTypes.toList) && (Rows.fnMayRow.loops == (Try.f4.params.toList ++ Rows.fnMaySpec.plain.varTypes Try.pinned.checked.prog).any (Try.pinned.checked.prog.loopsFrom ·)) && (Rows.fnMayRow.wideKeys == (Try.f4.params.toList ++ Rows.fnMaySpec.plain.varTypes Try.pinned.checked.prog ++ Try.f4.resultTypes.toList).any (Try.pinned.checked.prog.wideKeysFrom ·)) && Rows.fnMaySpec.vars.all (Try.pinned.checked.prog.varReadable ·) && Try.f4.resultTypes.all (fun t => Try.pinned.checked.prog.readableRec t && decide (t < Try.pinned.checked.prog.types.size)) && (Rows.fnMayRow.ifacesOut == Try.f4.resultTypes.toList.any (Try.pinned.checked.prog.ifacesRec ·)) && (Rows.fnMayRow.loopsOut == Try.f4.resultTypes.toList.any (Try.pinned.checked.prog.loopsFrom ·))) = true := by kernel_rfl
theorem look5 : ((Rows.fnMayRow.plainKeys == Try.pinned.checked.prog.plainKeys)) = true := by kernel_rfl
theorem look6 : (Rows.fnMayRow.shortTexts.isNone && Try.pinned.checked.prog.stopsHeard && Try.pinned.checked.prog.mayEnter) = true := by kernel_rfl
theorem look7 : ((Rows.fnMayRow.lifted == Try.pinned.checked.prog.liftsFinal)) = true := by kernel_rfl
theorem look8 : ((Try.pinned.checked.prog.make == some Rows.fnMayRow.make)) = true := by kernel_rfl
theorem look9 : ((Rows.fnMayRow.kinds == (if Rows.fnMayRow.domain.isEmpty then [] else Try.f4.params.toList.map fun t => match Try.pinned.checked.prog.underlying t with | some (.int k) => some k | _ => none)) && (Rows.fnMayRow.pinned == Rows.fnMayRow.pinnedBy)) = true := by kernel_rfl
theorem look10 : ((Rows.fnMayRow.veiled == (Try.f4.params.toList ++ Rows.fnMaySpec.plain.varTypes Try.pinned.checked.prog ++ Try.f4.resultTypes.toList).any (Try.pinned.checked.prog.veiledRec ·)) && Rows.fnMayRow.veiledFits Try.pinned.checked.prog Try.f4.params.toList (Try.f4.params.toList ++ Rows.fnMaySpec.plain.varTypes Try.pinned.checked.prog ++ Try.f4.resultTypes.toList)) = true := by kernel_rfl
set_option maxRecDepth 100000 in
theorem closed : joinedFacts Try.pinned.checked.prog 4 Try.f4 Rows.fnMaySpec Rows.fnMayRow = true := by
  obtain ⟨h8, k8⟩ := andE look2
  obtain ⟨h7, k7⟩ := andE h8
  obtain ⟨h6, k6⟩ := andE h7
  obtain ⟨h5, k5⟩ := andE h6
  obtain ⟨h4, k4⟩ := andE h5
  obtain ⟨h12, k12⟩ := andE look3
  obtain ⟨h11, k11⟩ := andE h12
  obtain ⟨h10, k10⟩ := andE h11
  obtain ⟨h21, k21⟩ := andE look4
  obtain ⟨h20, k20⟩ := andE h21
  obtain ⟨h19, k19⟩ := andE h20
  obtain ⟨h18, k18⟩ := andE h19
  obtain ⟨h17, k17⟩ := andE h18
  obtain ⟨h16, k16⟩ := andE h17
  obtain ⟨h15, k15⟩ := andE h16
  obtain ⟨h14, k14⟩ := andE h15
  obtain ⟨h25, k25⟩ := andE look6
  obtain ⟨h24, k24⟩ := andE h25
  obtain ⟨h29, k29⟩ := andE look9
  obtain ⟨h31, k31⟩ := andE look10
  unfold joinedFacts
  exact (andI (andI (andI (andI (andI (andI (andI (andI (andI (andI (andI (andI (andI (andI (andI (andI (andI (andI (andI (andI (andI (andI (andI (andI (andI (andI (andI (andI (andI (andI (andI look0 part1) look1) h4) k4) k5) k6) k7) k8) h10) k10) k11) k12) h14) k14) k15) k16) k17) k18) k19) k20) k21) look5) h24) k24) k25) look7) look8) h29) k29) h31) k31)
theorem named : Try.pinned.checked.prog.funcNamed Rows.fnMayRow.func = some 4 := by kernel_rfl
theorem inst : Try.f4.isInstance Try.pinned.checked.prog Rows.fnMayRow.origin Rows.fnMayRow.targs := of_decide_eq_true (by kernel_rfl)
theorem wrapper : Try.f4.isWrapper Try.pinned.checked.prog Rows.fnMayRow.wrapper Rows.fnMayRow.mainSum := by unfold Func.isWrapper; first | (rw [if_pos (by decide +kernel)]; kernel_rfl) | (rw [if_neg (by decide +kernel)]; exact ⟨rfl, rfl⟩)
theorem over : Rows.fnMayRow.holds Try.pinned (OpenSpec.ofChange Rows.fnMaySpec) :=
  OpenClaim.holds_of_wide 4 Try.f4 rfl rfl rfl rfl rfl rfl rfl ⟨rfl, rfl, rfl, rfl, rfl⟩ rfl rfl rfl rfl rfl named Try.func4 closed inst wrapper
    (fun os started H enc _ => lifted os started H enc)
end Go.Proofs.Ytabocefniklbpaa.fnMay
namespace Go.Proofs.Ytabocefniklbpaa
/-- The row, under a short name, for the claim. -/
theorem fnMay_holds : Rows.FnMaySaid := fnMay.over
#print axioms fnMay_holds
end Go.Proofs.Ytabocefniklbpaa
