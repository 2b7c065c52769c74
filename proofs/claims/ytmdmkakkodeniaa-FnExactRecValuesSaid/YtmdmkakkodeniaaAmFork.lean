/- Drawn regions in which the order tells. -/
import Derived.Test.YtmdmkakkodeniaaAmNF
set_option linter.unusedVariables false
set_option linter.unusedSimpArgs false
namespace Go.Am
section
variable {P : Program} {C : Ctx} {E0 E : Env} {Q : Exit → Act → World → Prop} {ops : Array Oper} {R : Type}

theorem mem_tailsOf {i : Nat} {r : List Nat} : ∀ {l : List (List Nat)}, r ∈ tailsOf i l → (i :: r) ∈ l
  | [], h => by simp [tailsOf] at h
  | [] :: rest, h => List.mem_cons_of_mem _ (mem_tailsOf (l := rest) (by simpa [tailsOf] using h))
  | (j :: q) :: rest, h => by
    simp only [tailsOf] at h
    split at h
    · rename_i e
      obtain rfl := Nat.eq_of_beq_eq_true e
      rcases List.mem_cons.1 h with rfl | h
      · exact List.mem_cons_self ..
      · exact List.mem_cons_of_mem _ (mem_tailsOf h)
    · exact List.mem_cons_of_mem _ (mem_tailsOf h)

theorem forkOk_ne {n : Nat} {listed : Array Bool} (h : forkOk C ops n listed [] = true) : False := by
  cases n with
  | zero => simp [forkOk] at h
  | succ n =>
    simp only [forkOk] at h
    split at h
    · simp at h
    · cases h

theorem opD_nf {dec : List (Nat × Bool)} {o : Oper} {p : Bool} {st : St} {k : St → Option R} : opD C p dec o st k = (opD C p dec o st some).bind k := by
  unfold opD
  split
  · split
    · exact putK_nf _ _ _
    · rfl
  · exact opK_nf _ _ _

def decOf (ops : Array Oper) (dec : List (Nat × Bool)) (o : Oper) (st : St) : List (Nat × Bool) :=
  match o.guard with
  | none => dec
  | some (j, _) => match dstOf ops j with
    | none => dec
    | some s => match lookB dec s with
      | some _ => dec
      | none => match st.sl s with
        | .ro none ⟨.bool, b⟩ => (s, b) :: dec
        | _ => dec

theorem DecOk.cons {dec : List (Nat × Bool)} {a : Act} {s : Nat} {b : Bool} (h : DecOk dec a) (hs : a.tmps.getD s undef = .bool b) : DecOk ((s, b) :: dec) a := by
  intro s' b' hl
  simp only [lookB] at hl
  split at hl
  · rename_i e
    obtain rfl := Nat.eq_of_beq_eq_true e
    obtain rfl := Option.some.inj hl
    exact hs
  · exact h s' b' hl

/-- an operation is done, or left out -/
theorem step_inv {dec : List (Nat × Bool)} {o : Oper} {st : St} {a : Act} {K : List (Nat × Bool) → St → Option R} {r : R} (h : stepK C ops dec o st K = some r) (hi : Inv C.N E0 E st a) (hdec : DecOk dec a) :
    DecOk (decOf ops dec o st) a ∧ ((Region.wanted o (yielded ops a.tmps) = true ∧ ∃ st', opD C false (decOf ops dec o st) o st some = some st' ∧ K (rmB o.dst (decOf ops dec o st)) st' = some r) ∨
      (Region.wanted o (yielded ops a.tmps) = false ∧ K (rmB o.dst (decOf ops dec o st)) (udead o st) = some r)) := by
  have doit : ∀ d, opD C false d o st (K (rmB o.dst d)) = some r → ∃ st', opD C false d o st some = some st' ∧ K (rmB o.dst d) st' = some r := by
    intro d hd
    rw [opD_nf] at hd
    exact Option.bind_eq_some_iff.1 hd
  have guarded : ∀ (d : List (Nat × Bool)) (v want : Bool) (j s : Nat), o.guard = some (j, want) → dstOf ops j = some s → a.tmps.getD s undef = .bool v → stepG C d v want o st K = some r →
      ((Region.wanted o (yielded ops a.tmps) = true ∧ ∃ st', opD C false d o st some = some st' ∧ K (rmB o.dst d) st' = some r) ∨ (Region.wanted o (yielded ops a.tmps) = false ∧ K (rmB o.dst d) (udead o st) = some r)) := by
    intro d v want j s hg hds hs hk
    have hy := yielded_some hds hs
    unfold stepG at hk
    split at hk
    · rename_i hvw
      simp only [beq_iff_eq] at hvw
      subst hvw
      exact .inl ⟨by simp [Region.wanted, hg, hy], doit _ hk⟩
    · rename_i hvw
      refine .inr ⟨?_, hk⟩
      simp only [Region.wanted, hg, hy]
      cases v <;> cases want <;> first | rfl | (exact absurd rfl hvw) | (simp at hvw)
  unfold stepK at h
  unfold decOf
  split at h
  · rename_i hg
    rw [hg]
    exact ⟨hdec, .inl ⟨by simp [Region.wanted, hg], doit _ h⟩⟩
  · rename_i j want hg
    rw [hg]
    simp only
    split at h
    · cases h
    · rename_i s hds
      rw [hds]
      simp only
      split at h
      · rename_i v hl
        rw [hl]
        exact ⟨hdec, guarded _ _ _ _ _ hg hds (hdec s v hl) h⟩
      · rename_i hl
        rw [hl]
        simp only
        split at h
        · rename_i b hsl
          have hsv : a.tmps.getD s undef = .bool b := by
            have := hi.rep.sl s
            rw [hsl] at this
            exact VRep_bool_inv this
          rw [hsl]
          simp only
          cases b with
          | true => exact ⟨hdec.cons hsv, guarded _ _ _ _ _ hg hds hsv h⟩
          | false => exact ⟨hdec.cons hsv, guarded _ _ _ _ _ hg hds hsv h⟩
        · rename_i hsl
          have hsv : a.tmps.getD s undef = undef := by
            have := hi.rep.sl s
            rw [hsl] at this
            obtain ⟨cs, ⟨vs, h1, h2⟩, h3⟩ := this
            have h2 : vs = [] := h2
            have h3 : cs = [_] := h3
            rw [h3, h2] at h1
            simpa [undef] using h1
          rw [hsl]
          simp only
          exact ⟨hdec, .inr ⟨by simp only [Region.wanted, hg, yielded_undef hds hsv]; rfl, h⟩⟩
        · cases h

/-- what is done next, whichever order is meant -/
theorem head_run {i : Nat} {orders : List (List Nat)} {dec : List (Nat × Bool)} {st : St} {a : Act} {k : St → Option R} {r : R} (h : ∀ ord, ord ∈ orders → runD C ops ord dec st k = some r) (hne : tailsOf i orders ≠ []) (hi : Inv C.N E0 E st a) (hdec : DecOk dec a) :
    ∃ o dec', ops[i]? = some o ∧ DecOk dec' a ∧ ((Region.wanted o (yielded ops a.tmps) = true ∧ ∃ st', opD C false dec' o st some = some st' ∧ ∀ ord, ord ∈ tailsOf i orders → runD C ops ord (rmB o.dst dec') st' k = some r) ∨
      (Region.wanted o (yielded ops a.tmps) = false ∧ ∀ ord, ord ∈ tailsOf i orders → runD C ops ord (rmB o.dst dec') (udead o st) k = some r)) := by
  have key : ∀ ord, ord ∈ tailsOf i orders → ∃ o, ops[i]? = some o ∧ stepK C ops dec o st (fun dec' st' => runD C ops ord dec' st' k) = some r := by
    intro ord ho
    have h1 := h _ (mem_tailsOf ho)
    simp only [runD] at h1
    split at h1
    · rename_i o hi
      exact ⟨o, hi, h1⟩
    · cases h1
  obtain ⟨x, l, hx⟩ := List.exists_cons_of_ne_nil hne
  obtain ⟨o, ho, hs⟩ := key x (by rw [hx]; exact List.mem_cons_self ..)
  obtain ⟨q1, q2⟩ := step_inv hs hi hdec
  refine ⟨o, decOf ops dec o st, ho, q1, ?_⟩
  have all : ∀ ord, ord ∈ tailsOf i orders → stepK C ops dec o st (fun dec' st' => runD C ops ord dec' st' k) = some r := by
    intro ord hord
    obtain ⟨o', ho', hs'⟩ := key ord hord
    rw [ho] at ho'
    cases ho'
    exact hs'
  rcases q2 with ⟨hw, st', e1, _⟩ | ⟨hw, _⟩
  · refine .inl ⟨hw, st', e1, fun ord hord => ?_⟩
    rcases (step_inv (all ord hord) hi hdec).2 with ⟨_, st'', e1', e2'⟩ | ⟨hw', _⟩
    · rw [e1] at e1'
      cases e1'
      exact e2'
    · rw [hw] at hw'; cases hw'
  · refine .inr ⟨hw, fun ord hord => ?_⟩
    rcases (step_inv (all ord hord) hi hdec).2 with ⟨hw', _⟩ | ⟨_, e2'⟩
    · rw [hw] at hw'; cases hw'
    · exact e2'

theorem fork_sound (hc : CtxOk P C) (hsel : Region.noSelect ops = true) {k : St → Option R} {r : R} (hn : ∀ st' E' a', k st' = some r → Inv C.N E0 E' st' a' → Q .normal a' E'.w) :
    ∀ (n : Nat) (listed : Array Bool) (orders : List (List Nat)) (dec : List (Nat × Bool)) (st : St) (E : Env) (a : Act), forkOk C ops n listed orders = true → (∀ ord, ord ∈ orders → runD C ops ord dec st k = some r) → Inv C.N E0 E st a → DecOk dec a →
    wpAnyR P .any ops (stillAt C ops) (calm Q) n listed a E.w := by
  have fin : ∀ (orders : List (List Nat)) (dec : List (Nat × Bool)) (st : St) (E : Env) (a : Act), orders.any (·.isEmpty) = true → (∀ ord, ord ∈ orders → runD C ops ord dec st k = some r) → Inv C.N E0 E st a → calm Q .normal a E.w := by
    intro orders dec st E a h hall hi
    obtain ⟨ord, ho, he⟩ := List.any_eq_true.1 h
    have : ord = [] := by simpa using he
    subst this
    exact hn st E a (hall [] ho) hi
  intro n
  induction n with
  | zero =>
    intro listed orders dec st E a hok hall hi hdec
    simp only [forkOk, Bool.and_eq_true] at hok
    exact ⟨by simpa using hok.1, fin orders dec st E a hok.2 hall hi⟩
  | succ n ih =>
    intro listed orders dec st E a hok hall hi hdec
    simp only [forkOk] at hok
    split at hok
    · rename_i hr
      exact ⟨fun _ => fin orders dec st E a hok hall hi, fun j hj => by rw [hr] at hj; cases hj⟩
    · rename_i rs hr
      split at hok
      · rename_i i t rest
        split at hok
        · rename_i htk
          have hne : tailsOf i ((i :: t) :: rest) ≠ [] := by simp [tailsOf]
          obtain ⟨o, dec', ho, hd', hcase⟩ := head_run hall hne hi hdec
          simp only [takeable, ho, Bool.and_eq_true] at htk
          obtain ⟨h1, h2, h3, h4⟩ := htk
          rcases hcase with ⟨hw, st', hop, htl⟩ | ⟨hw, htl⟩
          · refine wp_ex (P := P) (o := o) (a := a) (w := E.w) ?_
            refine opD_sound (g := false) hc hd' (by simp) hop hi fun st'' E' v hk' hi' hpur => ?_
            cases hk'
            obtain ⟨e1, e2⟩ := hpur.run h1
            have H := ih _ _ _ st' E' _ hok htl hi' (hd'.rm Tch.one)
            rw [e1] at H
            exact wpAnyR_first ho (Region.noSelect_spec hsel) (fun c a w hq => hq) n listed a E.w (free_of ho h2 (fun e => by simpa [e] using h4)) (by simpa using h3) (.inl ⟨hw, e2⟩) H
          · have H := ih _ _ _ (udead o st) E _ hok htl hi.udead (hd'.rm Tch.one)
            have hy : YieldsIf P ops (fun u => isLd o = false ∨ u = E.w) o undef a := .inr ⟨hw, rfl⟩
            exact wpAnyR_first ho (Region.noSelect_spec hsel) (fun c a w hq => hq) n listed a E.w (free_of ho h2 (fun e => by simpa [e] using h4)) (by simpa using h3) hy H
        · refine ⟨fun e => absurd e hr, fun j hj => ?_⟩
          have hokj := List.all_eq_true.1 hok j hj
          have hne : tailsOf j ((i :: t) :: rest) ≠ [] := fun e => by rw [e] at hokj; exact forkOk_ne hokj
          obtain ⟨o, dec', ho, hd', hcase⟩ := head_run hall hne hi hdec
          rcases hcase with ⟨hw, st', hop, htl⟩ | ⟨hw, htl⟩
          · unfold wpOp
            simp only [ho, hw, if_true]
            refine .inl (opD_sound (g := false) hc hd' (by simp) hop hi fun st'' E' v hk' hi' hpur => ?_)
            cases hk'
            refine ⟨fun e => ?_, ih _ _ _ st' E' _ hokj htl hi' (hd'.rm Tch.one)⟩
            simp only [stillAt, ho] at e
            exact (hpur.run e).1
          · have H := ih _ _ _ (udead o st) E _ hokj htl hi.udead (hd'.rm Tch.one)
            have hy : YieldsIf P ops (fun u => isLd o = false ∨ u = E.w) o undef a := .inr ⟨hw, rfl⟩
            exact hy.wpOp ho (.inr rfl) ⟨fun _ => rfl, H⟩
      · cases hok

end
end Go.Am
