/- Calls: a callee's contract, and the caller's objects behind a call. -/
import Derived.Test.YtmdmkakkodeniaaAmMatch
set_option linter.unusedVariables false
set_option linter.unusedSimpArgs false
namespace Go.Am

/-- what a call comes to -/
def FnRes (P : Program) (g : FuncId) (args : Array Value) (w : World) (R : Value → World → Prop) : Prop :=
  match (callFunc g args).run P w with
  | .ok (.value v) w' => R v w'
  | .ok (.enter f args') w' => Calls P f args' w' fun
    | .returned v, w'' => R v w''
    | _, _ => False
  | .ok (.row row args') w' => Rows P row args' w' R
  | _ => False

def RetOk : Nat → Array Value → Value → Prop
  | 1, tm, v => v = tm.getD 0 undef
  | n, tm, v => ∃ vs : List Value, v = .tuple vs.toArray ∧ vs.length = n ∧ ∀ i, i < n → vs[i]? = some (tm.getD i undef)

/-- the contract is kept -/
def FnOk (P : Program) (g : FuncId) (c : Con) : Prop :=
  ∀ (E : Env) (args : Array Value) (x : c.inS.Den) (y : c.outS.Den), args.size = c.nargs → c.F x = some y → Rep E (c.inS.st x) args →
    FnRes P g args E.w fun v w' => ∃ E' tm, E'.w = w' ∧ Fr E E' ∧ Rep E' (c.outS.st y) tm ∧ RetOk c.nres tm v

theorem FnRes.mono {P : Program} {g : FuncId} {args : Array Value} {w : World} {R R' : Value → World → Prop} (h : FnRes P g args w R) (k : ∀ v w', R v w' → R' v w') : FnRes P g args w R' := by
  unfold FnRes at h ⊢
  split at h
  · exact k _ _ h
  · intro cs
    obtain ⟨e, w', fr, r, s⟩ := h cs
    refine ⟨e, w', fr, ?_, s⟩
    cases e with
    | returned v => exact k _ _ r
    | panicked _ => exact r
    | outgrown => exact r
  · exact Rows.mono h k
  · exact h.elim

theorem wp_call {P : Program} {o : Oper} {a : Act} {w : World} {K : Act → World → Prop} {Q : Exit → Act → World → Prop} {g : FuncId} {args : Array Value} {R : Value → World → Prop}
    (hrun : ∀ k : Next → World → Prop, ∀ r, (callFunc g args).run P w = r → (execOp a.eval o).run P w = r) (h : FnRes P g args w R) (hK : ∀ v w', R v w' → K (a.put o.dst v) w') : o.wp P a w K Q := by
  unfold Oper.wp
  rw [hrun (fun _ _ => True) _ rfl]
  have h := h.mono hK
  unfold FnRes at h
  split at h
  · rename_i he; rw [he]; exact h
  · rename_i he
    rw [he]
    intro cs
    obtain ⟨e, w', fr, r, s⟩ := h cs
    refine ⟨e, w', fr, ?_, s⟩
    cases e with
    | returned v => exact r
    | panicked _ => exact r.elim
    | outgrown => exact r.elim
  · rename_i he; rw [he]; exact h
  · exact h.elim

theorem CRep_frame {E F : Env} {ob ob' : Nat → Ob} {nx nx' : Nat} {f : Nat → Nat} (hw : F.w = E.w) (hr : ∀ j, j < nx → F.rho (f j) = E.rho j ∧ f j < nx') :
    ∀ (cs : CS) (x : cs.Den) (md : Bool) (vs : List Value), ((∀ b, E.Z b → F.Z b) ∨ cs.noRo = true) → CRep E ob nx (cs.cn x) md vs → CRep F ob' nx' (renC f (cs.cn x)) md vs := by
  intro cs
  induction cs with
  | ro t =>
    intro x md vs hz h
    have key : ∀ (G : Env) ob nx, CRep G ob nx (.ro none ⟨t, x⟩) md vs ↔ (vs.length = t.size ∧ True ∧ (True → Rd G.w G.Z t x vs)) := by intro G ob nx; cases md <;> exact Iff.rfl
    have h := (key E ob nx).1 h
    refine (key F ob' nx').2 ⟨h.1, trivial, fun _ => ?_⟩
    rcases hz with hz | hz
    · exact Rd_mono hz (fun b _ => by rw [hw]) _ _ _ (h.2.2 trivial)
    · exact Rd_flat t hz x vs (h.2.2 trivial)
  | h j =>
    intro x md vs hz h
    have key : ∀ (G : Env) ob nx j, CRep G ob nx (.h j) md vs ↔ (j < nx ∧ (G.rho j).oneCell' = true ∧ vs = [G.rho j]) := by intro G ob nx j; cases md <;> exact Iff.rfl
    have h := (key E ob nx j).1 h
    exact (key F ob' nx' (f j)).2 ⟨(hr j h.1).2, by rw [(hr j h.1).1]; exact h.2.1, by rw [(hr j h.1).1]; exact h.2.2⟩
  | p j =>
    intro x md vs hz h
    have key : ∀ (G : Env) ob nx j, CRep G ob nx (.p j) md vs ↔ (j < nx ∧ (G.rho j).oneCell' = true ∧ vs = [G.rho j]) := by intro G ob nx j; cases md <;> exact Iff.rfl
    have h := (key E ob nx j).1 h
    exact (key F ob' nx' (f j)).2 ⟨(hr j h.1).2, by rw [(hr j h.1).1]; exact h.2.1, by rw [(hr j h.1).1]; exact h.2.2⟩
  | rdp t =>
    intro x md vs hz h
    have key : ∀ (G : Env) ob nx, CRep G ob nx (.rdp none ⟨t, x⟩) md vs ↔ (True ∧ ∃ ad, vs = [.pointer (some ad)] ∧ ad.spot = none ∧ (True → G.Z ad.block ∧ ∃ f, Rd G.w G.Z t x f ∧ RowAt G.w (some ad) f)) := by
      intro G ob nx; cases md <;> exact Iff.rfl
    obtain ⟨_, ad, h1, h2, h3⟩ := (key E ob nx).1 h
    rcases hz with hz | hz
    · obtain ⟨h4, g, h5, h6⟩ := h3 trivial
      exact (key F ob' nx').2 ⟨trivial, ad, h1, h2, fun _ => ⟨hz _ h4, g, Rd_mono hz (fun b _ => by rw [hw]) _ _ _ h5, by rw [hw]; exact h6⟩⟩
    · simp [CS.noRo] at hz
  | fn g c ih =>
    intro x md vs hz h
    have key : ∀ (G : Env) ob nx c, CRep G ob nx (.fn g c) md vs ↔ ∃ ws, vs = [.func (.func g) #[] ws.toArray] ∧ CRep G ob nx c true ws := by intro G ob nx c; cases md <;> exact Iff.rfl
    obtain ⟨ws, h1, h2⟩ := (key E ob nx _).1 h
    exact (key F ob' nx' _).2 ⟨ws, h1, ih x true ws (by simpa [CS.noRo] using hz) h2⟩
  | nil => intro x md vs hz h; cases md <;> exact h
  | cons a b iha ihb =>
    intro x md vs hz h
    have hza : (∀ b, E.Z b → F.Z b) ∨ a.noRo = true := hz.imp id (fun h => by simp [CS.noRo] at h; exact h.1)
    have hzb : (∀ b, E.Z b → F.Z b) ∨ b.noRo = true := hz.imp id (fun h => by simp [CS.noRo] at h; exact h.2)
    cases md with
    | false =>
      obtain ⟨c, d, h1, h2, h3⟩ := h
      exact ⟨c, d, h1, iha x.1 false c hza h2, ihb x.2 false d hzb h3⟩
    | true =>
      obtain ⟨v, vs', c, h1, h2, h3, h4⟩ := h
      refine ⟨v, vs', c, h1, iha x.1 false c hza h2, ?_, ihb x.2 true vs' hzb h4⟩
      have : (renC f (a.cn x.1)).isAgg = (a.cn x.1).isAgg := by cases a <;> rfl
      rw [this]; exact h3
  | agg a ih =>
    intro x md vs hz h
    have key : ∀ (G : Env) ob nx c, CRep G ob nx (.agg c) md vs ↔ CRep G ob nx c false vs := by intro G ob nx c; cases md <;> exact Iff.rfl
    exact (key F ob' nx' _).2 (ih x false vs (by simpa [CS.noRo] using hz) ((key E ob nx _).1 h))

theorem renC_isAgg (f : Nat → Nat) (c : Cn) : (renC f c).isAgg = c.isAgg := by cases c <;> rfl

theorem renC_fits (f : Nat → Nat) : ∀ (u : Ty) (c : Cn), fits u c = true → fits u (renC f c) = true := by
  intro u
  induction u with
  | st a ih =>
    intro c h
    cases c <;> simp only [fits] at h <;> try (cases h; done)
    exact ih _ h
  | cons a b iha ihb =>
    intro c h
    cases c <;> simp only [fits] at h <;> try (cases h; done)
    simp only [Bool.and_eq_true] at h
    simp only [renC, fits, Bool.and_eq_true]
    exact ⟨iha _ h.1, ihb _ h.2⟩
  | _ =>
    intro c h
    cases c <;> first | exact h | (simp [fits] at h; done) | (simp only [renC]; simpa [fits] using h)

theorem slOf_cases : ∀ (l : List (Nat × CS)) (x : SlD l) (s : Nat), slOf l x s = .dead ∨ ∃ cs y, (l.any fun z => z.2 == cs) = true ∧ cs ∈ l.map (·.2) ∧ slOf l x s = CS.cn cs y
  | [], _, _ => .inl rfl
  | [a], x, s => by
    show upd (fun _ => .dead) a.1 (a.2.cn x) s = .dead ∨ ∃ cs y, _ ∧ _ ∧ upd (fun _ => .dead) a.1 (a.2.cn x) s = _
    by_cases e : s = a.1
    · subst e; rw [upd_same]; exact .inr ⟨a.2, x, by simp, by simp, rfl⟩
    · rw [upd_other _ _ _ _ e]; exact .inl rfl
  | a :: b :: r, x, s => by
    show upd (slOf (b :: r) x.2) a.1 (a.2.cn x.1) s = .dead ∨ ∃ cs y, _ ∧ _ ∧ upd (slOf (b :: r) x.2) a.1 (a.2.cn x.1) s = _
    by_cases e : s = a.1
    · subst e; rw [upd_same]; exact .inr ⟨a.2, x.1, by simp, by simp, rfl⟩
    · rw [upd_other _ _ _ _ e]
      rcases slOf_cases (b :: r) x.2 s with h | ⟨cs, y, h0, h1, h2⟩
      · exact .inl h
      · exact .inr ⟨cs, y, by simp only [List.any_cons] at h0 ⊢; simp [h0], List.mem_cons_of_mem _ h1, h2⟩

theorem obOf_cases : ∀ (l : List (Nat × OS)) (x : ObD l) (j : Nat), (j ∉ keys l ∧ obOf l x j = .dead) ∨ ∃ os y, os ∈ l.map (·.2) ∧ findO l j = some os ∧ obOf l x j = OS.ob os y
  | [], _, _ => .inl ⟨by simp [keys], rfl⟩
  | [a], x, s => by
    show (_ ∧ upd (fun _ => .dead) a.1 (a.2.ob x) s = .dead) ∨ ∃ cs y, _ ∧ _ ∧ upd (fun _ => .dead) a.1 (a.2.ob x) s = _
    by_cases e : s = a.1
    · subst e; rw [upd_same]; exact .inr ⟨a.2, x, by simp, by simp [findO], rfl⟩
    · rw [upd_other _ _ _ _ e]; exact .inl ⟨by simpa [keys] using e, rfl⟩
  | a :: b :: r, x, s => by
    show (_ ∧ upd (obOf (b :: r) x.2) a.1 (a.2.ob x.1) s = .dead) ∨ ∃ cs y, _ ∧ _ ∧ upd (obOf (b :: r) x.2) a.1 (a.2.ob x.1) s = _
    by_cases e : s = a.1
    · subst e; rw [upd_same]; exact .inr ⟨a.2, x.1, by simp, by simp [findO], rfl⟩
    · rw [upd_other _ _ _ _ e]
      have hne : Nat.beq a.1 s = false := by
        cases h : Nat.beq a.1 s with
        | false => rfl
        | true => exact absurd (Nat.eq_of_beq_eq_true h).symm e
      rcases obOf_cases (b :: r) x.2 s with ⟨h0, h⟩ | ⟨cs, y, h1, h2, h3⟩
      · exact .inl ⟨by simp only [keys, List.map_cons, List.mem_cons] at h0 ⊢; simp [e]; simpa using h0, h⟩
      · exact .inr ⟨cs, y, List.mem_cons_of_mem _ h1, by simp only [findO, hne] at h2 ⊢; exact h2, h3⟩

theorem VRep_ren {E F : Env} {ob ob' : Nat → Ob} {nx nx' : Nat} {f : Nat → Nat} (hw : F.w = E.w) (hr : ∀ j, j < nx → F.rho (f j) = E.rho j ∧ f j < nx')
    (l : List (Nat × CS)) (x : SlD l) (s : Nat) (v : Value) (hz : (∀ b, E.Z b → F.Z b) ∨ (l.all fun z => z.2.noRo) = true) (h : VRep E ob nx (slOf l x s) v) : VRep F ob' nx' (renC f (slOf l x s)) v := by
  rcases slOf_cases l x s with e | ⟨cs, y, _, h1, e⟩
  · rw [e]; trivial
  · rw [e] at h ⊢
    obtain ⟨vs, h2, h3⟩ := VRep_one h (cn_nodead cs y)
    refine VRep_mk vs (CRep_frame hw hr cs y false vs (hz.imp id fun hz => ?_) h2) (by rw [renC_isAgg]; exact h3)
    obtain ⟨z, hz1, hz2⟩ := List.mem_map.1 h1
    have := List.all_eq_true.1 hz z hz1
    rw [hz2] at this
    exact this

theorem ObOk_ren {E F : Env} {ob ob' : Nat → Ob} {nx nx' : Nat} {f : Nat → Nat} (hw : F.w = E.w) (hr : ∀ j, j < nx → F.rho (f j) = E.rho j ∧ f j < nx')
    (os : OS) (y : os.Den) (j i ver : Nat) (hi : F.rho i = E.rho j) (hB : F.B i = E.B j) (hz : (∀ b, E.Z b → F.Z b) ∨ os.noRo = true) (h : ObOk E ob nx j (os.ob y)) : ObOk F ob' nx' i (renO f ver (os.ob y)) := by
  have box : ∀ (u : Ty) (c : CS) (y : c.Den), ((∀ b, E.Z b → F.Z b) ∨ c.noRo = true) → BoxOk E ob nx j u (c.cn y) → BoxOk F ob' nx' i u (renC f (c.cn y)) := by
    intro u c y hz h
    obtain ⟨g, cs, t, h1, h2, h3, h4, h5⟩ := h
    exact ⟨g, cs, t, by rw [hi]; exact h1, by rw [hw]; exact h2, CRep_frame hw hr c y false cs hz h3, renC_fits f u _ h4, by rw [hB]; exact h5⟩
  cases os with
  | sl e t =>
    show Ow F.w (.list e t) y [F.rho i] (F.B i)
    rw [hi, hB, hw]
    exact h
  | box u c => exact box u c y hz h
  | obox u c =>
    obtain ⟨b, y⟩ := y
    cases b with
    | true => exact box u c y hz h
    | false => exact ⟨by rw [hi]; exact h.1, by rw [hB]; exact h.2.1, h.2.2.imp fun cs hc => CRep_frame hw hr c y false cs hz hc⟩

theorem lay_ren (f : Nat → Nat) (v : Nat) (o : Ob) : (renO f v o).lay = o.lay := by cases o <;> rfl
theorem bx_ren (f : Nat → Nat) (v : Nat) (o : Ob) : (renO f v o).isBx = o.isBx := by cases o <;> rfl

theorem inv_sig {i j : Nat} : ∀ {s : List (Nat × Nat)}, (keys s).Nodup → inv s i = some j → sigAt s j = some i
  | [], _, h => by cases h
  | x :: r, hn, h => by
    obtain ⟨a, b⟩ := x
    have hn : a ∉ keys r ∧ (keys r).Nodup := List.nodup_cons.1 hn
    simp only [inv] at h
    rw [sigAt_cons]
    split at h
    · rename_i hb
      cases h
      rw [if_pos rfl, Nat.eq_of_beq_eq_true hb]
    · have := inv_sig hn.2 h
      have hne : a ≠ j := fun e => hn.1 (by subst e; exact List.mem_map.2 ⟨_, sigAt_mem this, rfl⟩)
      rw [if_neg hne]
      exact this

theorem inv_none {i : Nat} : ∀ {s : List (Nat × Nat)}, inv s i = none → ∀ j, sigAt s j ≠ some i
  | [], _, _ => by simp [sigAt]
  | x :: r, h, j => by
    obtain ⟨a, b⟩ := x
    simp only [inv] at h
    rw [sigAt_cons]
    split at h
    · cases h
    · rename_i hb
      split
      · intro e; cases e; simp at hb
      · exact inv_none h j

theorem inv_of_sig {i j : Nat} {s : List (Nat × Nat)} (hn : (keys s).Nodup) (h1 : ∀ j j', sigAt s j = some i → sigAt s j' = some i → j = j') (h : sigAt s j = some i) : inv s i = some j := by
  cases e : inv s i with
  | none => exact absurd h (inv_none e j)
  | some j' => rw [h1 j j' h (inv_sig hn e)]

end Go.Am
