/- Results: from slots and out of variables. -/
import Derived.Test.YtmdmkakkodeniaaAmFork
set_option linter.unusedVariables false
set_option linter.unusedSimpArgs false
namespace Go.Am

/-- what a result is -/
def resCn (C : Ctx) (st : St) : ResultVar → Option Cn
  | .tmp t => some (st.sl t)
  | .cell a t => match loadC st (st.sl a) with
    | some d => match ldOk C.tt t d.isAgg d.size with
      | true => some d
      | false => none
    | none => none

def resL (C : Ctx) (st : St) : List ResultVar → Option (List Cn)
  | [] => some []
  | x :: r => match resCn C st x with
    | some c => match resL C st r with
      | some l => some (c :: l)
      | none => none
    | none => none

section
variable {P : Program} {C : Ctx}

theorem asAddr_of_load {t : TypeId} {x v : Value} {w w' : World} (h : (Instr.loadAt t x).run P w = .ok v w') : (do loadVar t (← asAddr x) : Sem Value).run P w = .ok v w' := by
  unfold Instr.loadAt at h
  cases x with
  | pointer a =>
    cases a with
    | some a => simpa [Instr.sureAddr, asAddr] using h
    | none => simp [Instr.sureAddr] at h
  | _ => simp [Instr.sureAddr] at h

/-- one result, as the machine reads it -/
def resSem (tm : Array Value) : ResultVar → Sem Value
  | .tmp t => pure (tm.getD t undef)
  | .cell y t => do loadVar t (← asAddr (tm.getD y undef))

theorem resCn_sound (hc : CtxOk P C) {N : Nat} {E0 E : Env} {st : St} {a : Act} {x : ResultVar} {c : Cn} (h : resCn C st x = some c) (hN : N = C.N) (hi : Inv N E0 E st a) :
    ∃ v, (resSem a.tmps x).run P E.w = .ok v E.w ∧ VRep E st.ob st.nx c v := by
  subst hN
  cases x with
  | tmp t =>
    simp only [resCn, Option.some.injEq] at h
    subst h
    exact ⟨_, rfl, hi.rep.sl t⟩
  | cell y t =>
    simp only [resCn] at h
    split at h
    · rename_i d hd
      split at h
      · rename_i hl
        cases h
        obtain ⟨v, h1, h2⟩ := load_val hc.tt hd hl hi (hi.rep.sl y)
        exact ⟨v, asAddr_of_load h1, h2⟩
      · cases h
    · cases h

theorem resL_sound (hc : CtxOk P C) {E0 E : Env} {st : St} {a : Act} (hi : Inv C.N E0 E st a) : ∀ (res : List ResultVar) (l : List Cn), resL C st res = some l →
    ∃ vs : List Value, vs.length = res.length ∧ (res.mapM (resSem a.tmps)).run P E.w = .ok vs E.w ∧ ∀ s, VRep E st.ob st.nx (argSl l s) (vs.getD s undef)
  | [], l, h => by
    cases h
    exact ⟨[], rfl, rfl, fun s => trivial⟩
  | x :: r, l, h => by
    simp only [resL] at h
    split at h
    · rename_i c hx
      split at h
      · rename_i l' hr
        cases h
        obtain ⟨v, h1, h2⟩ := resCn_sound hc hx rfl hi
        obtain ⟨vs, h3, h4, h5⟩ := resL_sound hc hi r l' hr
        refine ⟨v :: vs, by simp [h3], ?_, fun s => ?_⟩
        · rw [List.mapM_cons, Sem.run_bind, h1]
          simp only [Result.andThen_ok, Sem.run_bind]
          rw [h4]
          rfl
        · cases s with
          | zero => exact h2
          | succ s => simpa [argSl] using h5 s
      · cases h
    · cases h

/-- the results, as the machine hands them on -/
theorem run_results {fn : Func} {res : List ResultVar} (h : fn.results = res.toArray) {tm : Array Value} {w : World} {vs : List Value} (hl : vs.length = res.length)
    (hm : (res.mapM (resSem tm)).run P w = .ok vs w) : ∃ v, (results fn tm).run P w = .ok v w ∧ RetOk res.length vs.toArray v := by
  have hrun : (results fn tm).run P w = .ok (if h : vs.toArray.size = 1 then vs.toArray[0] else .tuple vs.toArray) w := by
    unfold results
    rw [h]
    simp only [List.mapM_toArray, Sem.run_bind, Sem.run_map]
    show (((res.mapM (resSem tm)).run P w).andThen _).andThen _ = _
    rw [hm]
    rfl
  refine ⟨_, hrun, ?_⟩
  rw [← hl]
  match vs with
  | [] => exact ⟨[], rfl, rfl, fun i hi => by simp at hi⟩
  | [t] => exact rfl
  | t :: u :: r =>
    refine ⟨t :: u :: r, rfl, rfl, fun i hi => ?_⟩
    simp only [Array.getD_eq_getD_getElem?, List.getElem?_toArray]
    rw [List.getElem?_eq_getElem (by simpa using hi)]
    rfl
end
end Go.Am
