/- The law FnExactAssemble: whatever the input, the call returns true, and the input reads as it did. No condition. -/
import Derived.Test.YtifcflanpjkgkaaRows
import Derived.Test.YtifcflanpjkgkaaEASW0
import Derived.Test.YtifcflanpjkgkaaLawEAS1
import Derived.Test.YtifcflanpjkgkaaAmRow
namespace Go.Proofs.Ytifcflanpjkgkaa.fnExactAssemble
open Go.ChangeShapes Go.WideShapes Go.ChangeAt Go.RowKit
open Go.ChangeMaps (open_string shut_string)
set_option linter.unusedVariables false
theorem own : ownKnob Try.prog.godebug = none := by kernel_rfl
theorem laidOut : laidOutB Try.prog = true := by kernel_rfl
set_option maxRecDepth 100000 in
theorem lifted (os : Os) (started : os.Started) (H : Type) (enc : TypeId × Value → H) :
    ReturnsInHanded {} Try.checked os 10 .any (Rows.fnExactAssembleSpec.pre6 enc Try.prog Try.f10 Rows.fnExactAssembleRow.domain false) (Rows.fnExactAssembleSpec.post enc Try.prog Try.f10 false true false false) := by
  refine returnsInHanded_of_change_sized (C := Try.checked) own started (by kernel_rfl) Try.func10
    (ChangeSpec.witness6 (enc := enc) (C := Try.checked) false ⟨#[], #[.slice none 0 0, .slice none 0 0], []⟩ 8 (by kernel_rfl) (by kernel_rfl) (by kernel_rfl) (by kernel_rfl)) ?_
  intro W base args ds gs before hval0 hW hcnd hsz0 _
  have hval : ∀ (j : Nat) t v, Try.f10.params[j]? = some t → args[j]? = some v → Value.okWide Try.prog W .any base t v := hval0
  have hW' := hW
  obtain ⟨p, q, hA0, hV, rfl, hfz, hnd⟩ := hW
  have hA : DataW.TrodAll enc Try.prog W 0 (fun _ => true) true Try.f10.params.toList args.toList ds p := hA0
  rw [Try.params10] at hA hval
  obtain ⟨v0, vs0, d0, ds0, p0, q0, hargs, rfl, rfl, h0, r0⟩ := trodAll_cons hA
  obtain ⟨v1, vs1, d1, ds1, p1, q1, rfl, rfl, rfl, h1, r1⟩ := trodAll_cons r0
  obtain ⟨rfl, rfl, rfl⟩ := trodAll_nil r1
  obtain rfl : args = #[v0, v1] := by cases args; simp_all
  obtain ⟨rfl, rfl⟩ := trodVars_none hV
  have lt0 : ∀ x ∈ p0, x.block < W.heap.size := by obtain ⟨m, hm⟩ := h0; exact DataW.trod_lt m _ _ _ hm
  have m0 : Go.Am.mkV false v0.cells.toList v0 := by obtain ⟨a, b, c, e⟩ := okWide_slice Try.underlying55 (hval 0 55 v0 rfl rfl); subst e; rfl
  obtain ⟨y0, g0, e0⟩ := Go.Am.arg_rep (u := (.list 125 (.st (.cons .str (.cons (.int .i64) (.cons (.int .i64) (.cons (.int .i64) .nil))))))) (by kernel_rfl) rfl m0 h0
  have lt1 : ∀ x ∈ p1, x.block < W.heap.size := by obtain ⟨m, hm⟩ := h1; exact DataW.trod_lt m _ _ _ hm
  have m1 : Go.Am.mkV false v1.cells.toList v1 := by obtain ⟨a, b, c, e⟩ := okWide_slice Try.underlying98 (hval 1 98 v1 rfl rfl); subst e; rfl
  obtain ⟨y1, g1, e1⟩ := Go.Am.arg_rep (u := (.list 179 (.st (.cons (.list 244 (.st (.cons (.int .i64) (.cons (.int .i64) (.cons (.st (.cons (.int .i64) (.cons .str .nil))) .nil))))) .nil)))) (by kernel_rfl) rfl m1 h1
  clear hA0 hval0 hsz0
  obtain ⟨k, hk⟩ := Go.Law.fnExactAssemble y0 g0 y1 g1
  refine (Go.Am.law_calls (w := W) (inS := Go.Proofs.Ytifcflanpjkgkaa.f10in.1) (x := (y0, y1)) (fn := Try.f10) (code := Go.Am.bodyOf Try.f10) (Go.Proofs.Ytifcflanpjkgkaa.f10ok k) (by kernel_rfl) (by kernel_rfl) (by decide) rfl hk (fun s => by
      match s with
      | 0 => exact e0 _ _
      | 1 => exact e1 _ _
      | s + 2 => exact trivial)).mono fun e W' ⟨he, bel⟩ => ?_
  subst he
  exact ⟨_, rfl, _, _, _, [], _, [], hW', trodAll_mk1 (shut_bool Try.underlying4 _), (trodAll_cons_mk (Below.trod laidOut (by kernel_rfl) (of_decide_eq_true (by kernel_rfl)) h0 bel lt0) (trodAll_cons_mk (Below.trod laidOut (by kernel_rfl) (of_decide_eq_true (by kernel_rfl)) h1 bel lt1) trodAll_mk0)), rfl, bel.frame _, fun h => by cases h⟩
theorem over : Rows.fnExactAssembleRow.holds Try.pinned (OpenSpec.ofChange Rows.fnExactAssembleSpec) :=
  OpenClaim.holds_of_wide 10 Try.f10 rfl rfl rfl rfl rfl rfl rfl ⟨rfl, rfl, rfl, rfl, rfl⟩ rfl rfl rfl rfl rfl (by kernel_rfl) Try.func10 (by kernel_rfl)
    (of_decide_eq_true (by kernel_rfl)) (by unfold Func.isWrapper; first | (rw [if_pos (by decide +kernel)]; kernel_rfl) | (rw [if_neg (by decide +kernel)]; exact ⟨rfl, rfl⟩))
    (fun os started H enc _ => lifted os started H enc)
end Go.Proofs.Ytifcflanpjkgkaa.fnExactAssemble
namespace Go.Proofs.Ytifcflanpjkgkaa
/-- The row, under a short name, for the claim. -/
theorem fnExactAssemble_holds : Rows.FnExactAssembleSaid := fnExactAssemble.over
#print axioms fnExactAssemble_holds
end Go.Proofs.Ytifcflanpjkgkaa
