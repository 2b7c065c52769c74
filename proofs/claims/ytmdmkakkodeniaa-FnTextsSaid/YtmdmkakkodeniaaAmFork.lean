/- Drawn regions in which the order tells. -/
import Derived.Test.YtmdmkakkodeniaaAmNF
set_option linter.unusedVariables false
set_option linter.unusedSimpArgs false
namespace Go.Am
section
variable {P : Program} {C : Ctx} {E0 E : Env} {Q : Exit → Act → World → Prop} {ops : Array Oper} {R : Type}

theorem mem_tailsOf {i : Nat} {r : List Nat} : ∀ {l : List (List Nat)}, r ∈ tailsOf i l → (i :: r) ∈ l
  | [], h => by simp [tailsOf] at h
  | [] :: rest, h => List.mem_cons_of_mem _ (mem_tailsOf (l := rest) (by simpa [tailsOf] using h))
  | (j :: q) :: rest, h => by
    simp only [tailsOf] at h
    split at h
    · rename_i e
      obtain rfl := Nat.eq_of_beq_eq_true e
      rcases List.mem_cons.1 h with rfl | h
      · exact List.mem_cons_self ..
      · exact List.mem_cons_of_mem _ (mem_tailsOf h)
    · exact List.mem_cons_of_mem _ (mem_tailsOf h)

theorem forkOk_ne {n : Nat} {listed : Array Bool} (h : forkOk C ops n listed [] = true) : False := by
  cases n with
  | zero => simp [forkOk] at h
  | succ n =>
    simp only [forkOk] at h
    split at h
    · simp at h
    · cases h

/-- what is done next, whichever order is meant -/
theorem head_run {i : Nat} {orders : List (List Nat)} {st : St} {k : St → Option R} {r : R} (h : ∀ ord, ord ∈ orders → runK C ops ord st k = some r) (hne : tailsOf i orders ≠ []) :
    ∃ o st', ops[i]? = some o ∧ o.guard = none ∧ opK C false o st some = some st' ∧ ∀ ord, ord ∈ tailsOf i orders → runK C ops ord st' k = some r := by
  have key : ∀ ord, ord ∈ tailsOf i orders → ∃ o, ops[i]? = some o ∧ o.guard = none ∧ ∃ st', opK C false o st some = some st' ∧ runK C ops ord st' k = some r := by
    intro ord ho
    have h1 := h _ (mem_tailsOf ho)
    simp only [runK] at h1
    split at h1
    · rename_i o hi
      split at h1
      · rename_i hg
        rw [opK_nf] at h1
        obtain ⟨st', h2, h3⟩ := Option.bind_eq_some_iff.1 h1
        exact ⟨o, hi, hg, st', h2, h3⟩
      · cases h1
    · cases h1
  obtain ⟨x, l, hx⟩ := List.exists_cons_of_ne_nil hne
  obtain ⟨o, hi, hg, st', h2, _⟩ := key x (by rw [hx]; exact List.mem_cons_self ..)
  refine ⟨o, st', hi, hg, h2, fun ord ho => ?_⟩
  obtain ⟨o', hi', _, st'', h2', h3'⟩ := key ord ho
  rw [hi] at hi'
  cases hi'
  rw [h2] at h2'
  cases h2'
  exact h3'

theorem fork_sound (hc : CtxOk P C) (hsel : Region.noSelect ops = true) {k : St → Option R} {r : R} (hn : ∀ st' E' a', k st' = some r → Inv C.N E0 E' st' a' → Q .normal a' E'.w) :
    ∀ (n : Nat) (listed : Array Bool) (orders : List (List Nat)) (st : St) (E : Env) (a : Act), forkOk C ops n listed orders = true → (∀ ord, ord ∈ orders → runK C ops ord st k = some r) → Inv C.N E0 E st a →
    wpAnyR P .any ops (stillAt C ops) (calm Q) n listed a E.w := by
  have fin : ∀ (orders : List (List Nat)) (st : St) (E : Env) (a : Act), orders.any (·.isEmpty) = true → (∀ ord, ord ∈ orders → runK C ops ord st k = some r) → Inv C.N E0 E st a → calm Q .normal a E.w := by
    intro orders st E a h hall hi
    obtain ⟨ord, ho, he⟩ := List.any_eq_true.1 h
    have : ord = [] := by simpa using he
    subst this
    exact hn st E a (hall [] ho) hi
  intro n
  induction n with
  | zero =>
    intro listed orders st E a hok hall hi
    simp only [forkOk, Bool.and_eq_true] at hok
    exact ⟨by simpa using hok.1, fin orders st E a hok.2 hall hi⟩
  | succ n ih =>
    intro listed orders st E a hok hall hi
    simp only [forkOk] at hok
    split at hok
    · rename_i hr
      exact ⟨fun _ => fin orders st E a hok hall hi, fun j hj => by rw [hr] at hj; cases hj⟩
    · rename_i rs hr
      split at hok
      · rename_i i t rest
        split at hok
        · rename_i htk
          have hne : tailsOf i ((i :: t) :: rest) ≠ [] := by simp [tailsOf]
          obtain ⟨o, st', ho, hg, hop, htl⟩ := head_run hall hne
          simp only [takeable, ho, Bool.and_eq_true] at htk
          obtain ⟨h1, h2, h3, h4⟩ := htk
          have hw : Region.wanted o (yielded ops a.tmps) = true := by simp [Region.wanted, hg]
          refine wp_ex (P := P) (o := o) (a := a) (w := E.w) ?_
          refine opK_sound (g := false) hc (by simp) hop hi fun st'' E' v hk' hi' hpur => ?_
          cases hk'
          obtain ⟨e1, e2⟩ := hpur.run h1
          have H := ih _ _ st' E' _ hok htl hi'
          rw [e1] at H
          exact wpAnyR_first ho (Region.noSelect_spec hsel) (fun c a w hq => hq) n listed a E.w (free_of ho h2 (fun e => by simpa [e] using h4)) (by simpa using h3) (.inl ⟨hw, e2⟩) H
        · refine ⟨fun e => absurd e hr, fun j hj => ?_⟩
          have hokj := List.all_eq_true.1 hok j hj
          have hne : tailsOf j ((i :: t) :: rest) ≠ [] := fun e => by rw [e] at hokj; exact forkOk_ne hokj
          obtain ⟨o, st', ho, hg, hop, htl⟩ := head_run hall hne
          have hw : Region.wanted o (yielded ops a.tmps) = true := by simp [Region.wanted, hg]
          unfold wpOp
          simp only [ho, hw, if_true]
          refine .inl (opK_sound (g := false) hc (by simp) hop hi fun st'' E' v hk' hi' hpur => ?_)
          cases hk'
          refine ⟨fun e => ?_, ih _ _ st' E' _ hokj htl hi'⟩
          simp only [stillAt, ho] at e
          exact (hpur.run e).1
      · cases hok

end
end Go.Am
