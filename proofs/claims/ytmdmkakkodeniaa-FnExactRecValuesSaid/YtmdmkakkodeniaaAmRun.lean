/- Code, loops and functions. -/
import Derived.Test.YtmdmkakkodeniaaAmRes
set_option linter.unusedVariables false
set_option linter.unusedSimpArgs false
namespace Go.Am

/-- F is what the code comes to, where the ways out come to what they come to -/
def Snd (P : Program) (C : Ctx) {R : Type} (c : Code) (kn : St → Option R) (kx : Nat → St → Option R) (kr : St → Option R) (F : St → Option R) : Prop :=
  ∀ (r : R) (Q : Exit → Act → World → Prop) (E0 E : Env) (st : St) (a : Act), F st = some r → Inv C.N E0 E st a →
    (∀ st E a, kn st = some r → Inv C.N E0 E st a → Q .normal a E.w) →
    (∀ i st E a, kx i st = some r → Inv C.N E0 E st a → Q (.exit i) a E.w) →
    (∀ st E a, kr st = some r → Inv C.N E0 E st a → Q .ret a E.w) → c.wp P Q a E.w

/-- what is to be shown of the cuts in a piece of code -/
def Obl (P : Program) (C : Ctx) {R : Type} (cut : Nat → Option (Cut R)) : Code → (St → Option R) → (Nat → St → Option R) → (St → Option R) → Prop
  | .seq a b, kn, kx, kr => match cut (key b) with
    | some c => Obl P C cut a (fun st => c.go st) kx kr ∧ Snd P C b kn kx kr c.go
    | none => Obl P C cut a (exec C cut b kn kx kr) kx kr ∧ Obl P C cut b kn kx kr
  | .cond _ a b, kn, kx, kr => Obl P C cut a kn kx kr ∧ Obl P C cut b kn kx kr
  | .block id a, kn, kx, kr => Obl P C cut a kn (fun i => match Nat.beq i id with | true => kn | false => kx i) kr
  | .loop a, kn, kx, kr => match cut (key a) with
    | some c => Snd P C (.loop a) kn kx kr c.go
    | none => True
  | .region id ops true, kn, kx, kr => match cut (id + 1000000) with
    | some c => Snd P C (.region id ops true) kn kx kr c.go
    | none => True
  | _, _, _, _ => True

section
variable {P : Program} {C : Ctx} {R : Type}

theorem go_some {c : Cut R} {st : St} {r : R} (h : c.go st = some r) : ∃ x m, matchSt false false c.s st = some (x, m) ∧ c.J x = some r := by
  unfold Cut.go at h
  split at h
  · rename_i x m hm
    exact ⟨x, m, hm, h⟩
  · cases h

theorem exec_sound (hc : CtxOk P C) {cut : Nat → Option (Cut R)} : ∀ (c : Code) (kn : St → Option R) (kx : Nat → St → Option R) (kr : St → Option R), Obl P C cut c kn kx kr → Snd P C c kn kx kr (exec C cut c kn kx kr) := by
  intro c
  induction c with
  | skip => intro kn kx kr _ r Q E0 E st a h hi hn _ _; exact wp_skip (hn st E a h hi)
  | region id ops draw =>
    intro kn kx kr ho r Q E0 E st a h hi hn hx hr
    simp only [exec] at h
    cases draw with
    | true =>
      simp only at h
      simp only [Obl] at ho
      cases hcut : cut (id + 1000000) with
      | some c =>
        simp only [hcut] at h ho
        exact ho r Q E0 E st a h hi hn hx hr
      | none =>
        simp only [hcut] at h
        split at h
        · rename_i hok
          exact draw_sound hc h hok hi (fun st' E' a' hk hi' => hn st' E' a' hk hi')
        · cases h
    | false =>
      simp only at h
      refine wp_region_list ?_
      have := regK_sound (Q := Q) (all := ops) (E0 := E0) hc stp_list (ops.size + ops.size + 1) R false [] ops.toList st kn r E a [] false h (by simp) hi (fun s b hl => by cases hl) fun st' E' a' hk hi' _ _ => hn st' E' a' hk hi'
      simpa using this
  | seq a b iha ihb =>
    intro kn kx kr ho r Q E0 E st act h hi hn hx hr
    simp only [exec] at h
    simp only [Obl] at ho
    refine wp_seq ?_
    have hx' : ∀ i st E a, kx i st = some r → Inv C.N E0 E st a → Exit.then (b.wp P Q) Q (.exit i) a E.w := fun i st E a hk hi' => hx i st E a hk hi'
    have hr' : ∀ st E a, kr st = some r → Inv C.N E0 E st a → Exit.then (b.wp P Q) Q .ret a E.w := fun st E a hk hi' => hr st E a hk hi'
    cases hcut : cut (key b) with
    | some c =>
      simp only [hcut] at h ho
      exact iha _ _ _ ho.1 r _ E0 E st act h hi (fun st' E' a' hk hi' => ho.2 r Q E0 E' st' a' hk hi' hn hx hr) hx' hr'
    | none =>
      simp only [hcut] at h ho
      exact iha _ _ _ ho.1 r _ E0 E st act h hi (fun st' E' a' hk hi' => ihb _ _ _ ho.2 r Q E0 E' st' a' hk hi' hn hx hr) hx' hr'
  | cond x a b iha ihb =>
    intro kn kx kr ho r Q E0 E st act h hi hn hx hr
    simp only [exec, condB] at h
    split at h
    · rename_i t ht
      refine wp_cond (evB_sound ht hi.rep) ?_
      cases t with
      | true => exact iha _ _ _ ho.1 r Q E0 E st act h hi hn hx hr
      | false => exact ihb _ _ _ ho.2 r Q E0 E st act h hi hn hx hr
    · cases h
  | block id a iha =>
    intro kn kx kr ho r Q E0 E st act h hi hn hx hr
    refine wp_block ?_
    refine iha _ _ _ ho r _ E0 E st act h hi (fun st' E' a' hk hi' => hn st' E' a' hk hi') (fun i st' E' a' hk hi' => ?_) (fun st' E' a' hk hi' => hr st' E' a' hk hi')
    show Exit.inBlock id Q (.exit i) a' E'.w
    simp only [Exit.inBlock]
    cases e : Nat.beq i id with
    | true =>
      simp only [e] at hk
      rw [if_pos (Nat.eq_of_beq_eq_true e)]
      exact hn st' E' a' hk hi'
    | false =>
      simp only [e] at hk
      rw [if_neg (fun e' => by rw [e'] at e; simp at e)]
      exact hx i st' E' a' hk hi'
  | loop a iha =>
    intro kn kx kr ho r Q E0 E st act h hi hn hx hr
    simp only [exec] at h
    simp only [Obl] at ho
    split at h
    · rename_i c hcut
      rw [hcut] at ho
      exact ho r Q E0 E st act h hi hn hx hr
    · cases h
  | exit id => intro kn kx kr _ r Q E0 E st a h hi hn hx _; exact wp_exit (hx id st E a h hi)
  | ret => intro kn kx kr _ r Q E0 E st a h hi hn hx hr; exact wp_ret (hr st E a h hi)
  | _ => intro kn kx kr _ r Q E0 E st a h; cases h

/-- a cut: what is behind it is taken up from the shape's state -/
theorem Snd.cut {c : Code} {kn : St → Option R} {kx : Nat → St → Option R} {kr : St → Option R} {F : St → Option R} (h : Snd P C c kn kx kr F) (k : Cut R) (hk : ∀ x, F (k.s.st x) = k.J x) : Snd P C c kn kx kr k.go := by
  intro r Q E0 E st a hg hi hn hx hr
  obtain ⟨x, m, hm, hJ⟩ := go_some hg
  obtain ⟨E1, hw, hi1⟩ := cut_sound hm hi
  rw [← hw]
  exact h r Q E0 E1 (k.s.st x) a (by rw [hk x]; exact hJ) hi1 hn hx hr

/-- a loop: as many rounds as it takes -/
theorem Snd.loop {c : Code} {kn : St → Option R} {kx : Nat → St → Option R} {kr : St → Option R} (s : SS) (J : Nat → s.Den → Option R) (F : Nat → St → Option R)
    (h0 : ∀ x, J 0 x = none) (h : ∀ n, Snd P C c (Cut.go ⟨s, J n⟩) kx kr (F n)) (hF : ∀ n x, F n (s.st x) = J (n + 1) x) (n : Nat) : Snd P C (.loop c) kn kx kr (Cut.go ⟨s, J n⟩) := by
  intro r Q E0 E st a hg hi hn hx hr
  -- a round, from the loop's head
  have round : ∀ n st E a, Cut.go ⟨s, J n⟩ st = some r → Inv C.N E0 E st a → ∀ (b : Frame) (k : List Item) (cs : List Frame),
      ∃ e a' w', Q e a' w' ∧ Arrives P (lone (b.at a (.code c :: .inLoop c :: k)) cs E.w) b k cs e a' w' := by
    intro n
    induction n with
    | zero =>
      intro st E a hg hi
      obtain ⟨x, m, hm, hJ⟩ := go_some hg
      have hJ : J 0 x = some r := hJ
      rw [h0] at hJ; cases hJ
    | succ n ih =>
      intro st E a hg hi b k cs
      obtain ⟨x, m, hm, hJ⟩ := go_some hg
      obtain ⟨E1, hw, hi1⟩ := cut_sound hm hi
      have hwp := h n r (Exit.then (fun a' w' => ∃ st' E', E'.w = w' ∧ Cut.go ⟨s, J n⟩ st' = some r ∧ Inv C.N E0 E' st' a') Q) E0 E1 (s.st x) a (by rw [hF]; exact hJ) hi1
        (fun st' E' a' hk hi' => ⟨st', E', rfl, hk, hi'⟩) (fun i st' E' a' hk hi' => hx i st' E' a' hk hi') (fun st' E' a' hk hi' => hr st' E' a' hk hi')
      rw [hw] at hwp
      obtain ⟨e, a₁, w₁, hq, harr⟩ := hwp b (.inLoop c :: k) cs
      cases e with
      | normal =>
        obtain ⟨st', E', rfl, hk, hi'⟩ := hq
        obtain ⟨e₂, a₂, w₂, hq₂, harr₂⟩ := ih st' E' a₁ hk hi' b k cs
        exact ⟨e₂, a₂, w₂, hq₂, .of_steps (Steps.trans harr (.one step_inLoop)) harr₂⟩
      | exit id => exact ⟨_, a₁, w₁, hq, .pass (x := .inLoop c) rfl (fun _ _ => .inl (by simp)) harr⟩
      | goto l => exact ⟨_, a₁, w₁, hq, .pass (x := .inLoop c) rfl (fun _ _ => .inl (by simp)) harr⟩
      | ret => exact ⟨_, a₁, w₁, hq, .pass (x := .inLoop c) rfl (fun _ _ => .inl (by simp)) harr⟩
      | panic ch => exact ⟨_, a₁, w₁, hq, .pass (x := .inLoop c) rfl (fun _ _ => .inl (by simp)) harr⟩
      | outgrown => exact ⟨_, a₁, w₁, hq, .pass (x := .inLoop c) rfl (fun _ _ => .inl (by simp)) harr⟩
  intro b k cs
  obtain ⟨e, a', w', hq, harr⟩ := round n st E a hg hi b k cs
  exact ⟨e, a', w', hq, .of_steps (.one step_loop) harr⟩

/-- a drawn region in which the order tells: all its orders come to the same -/
theorem Snd.draw (hc : CtxOk P C) {id : Nat} {ops : Array Oper} {kn : St → Option R} {kx : Nat → St → Option R} {kr : St → Option R} (k : Cut R) (orders : List (List Nat))
    (hok : (Region.noSelect ops && forkOk C ops ops.size (Array.replicate ops.size false) orders) = true) (h : ∀ ord, ord ∈ orders → ∀ x, runK C ops ord (k.s.st x) kn = k.J x) :
    Snd P C (.region id ops true) kn kx kr k.go := by
  intro r Q E0 E st a hg hi hn hx hr
  obtain ⟨x, m, hm, hJ⟩ := go_some hg
  obtain ⟨E1, hw, hi1⟩ := cut_sound hm hi
  rw [← hw]
  simp only [Bool.and_eq_true] at hok
  refine Code.wp_mono (Q := calm Q) (fun e a w q => by cases e <;> first | exact q | exact q.elim) ?_
  refine wp_region_any hc.mixed (wpAny_of_R (T := stillAt C ops) _ _ _ _ ?_)
  have hi' := hi1.grew (w := { E1.w with drawn := E1.w.drawn + 1 }) ⟨rfl, rfl, rfl, Nat.le_refl _, fun _ _ => rfl⟩
  exact fork_sound hc hok.1 (fun st' E' a' hk hi' => hn st' E' a' hk hi') ops.size _ orders [] (k.s.st x) _ a hok.2 (fun ord ho => by have := h ord ho x; unfold runK at this; rw [this]; exact hJ) hi' (fun s b hl => by cases hl)

/-- how a function's run ends: its results and what stands, in the shape of what goes out -/
def retK (C : Ctx) (s : SS) (res : List ResultVar) (st : St) : Option s.Den :=
  match resL C st res with
  | some l => match matchSt false false s ⟨argSl l, st.ob, st.nx⟩ with
    | some (x, _) => some x
    | none => none
  | none => none

theorem into_fr {N : Nat} {E0 E E' : Env} {st : St} {a : Act} {m : Mt} {ids : List Nat} (hi : Inv N E0 E st a) (e1 : Ext E ⟨[], [], st.ob, st.nx⟩ E' m) (k : SigOk ids m.fz false m.sig) : Fr E0 (into E' m) := by
  refine hi.fr.trans ⟨by rw [show (into E' m).w = E.w from e1.w], by rw [show (into E' m).w = E.w from e1.w], by rw [show (into E' m).w = E.w from e1.w], by rw [show (into E' m).w = E.w from e1.w]; exact Nat.le_refl _,
    fun b _ _ => by rw [show (into E' m).w = E.w from e1.w], ?_, fun b hb => .inl (by rw [e1.Z]; exact hb), ?_, ?_⟩
  · intro j b hb
    simp only [into] at hb
    split at hb
    · rename_i i hi'
      exact .inl ⟨i, by rw [← e1.B]; exact hb⟩
    · simp at hb
  · intro b hb
    rcases hb with hb | ⟨i, _, hb⟩
    · exact .inl (by rw [← e1.Z]; exact hb)
    · exact .inr (.inl ⟨i, by rw [← e1.B]; exact hb⟩)
  · intro j hj
    have hlt : j < st.nx := Nat.lt_of_lt_of_le hj hi.nx
    show (match sigAt m.sig j with | some i => E'.rho i | none => E'.rho j) = _
    split
    · rename_i i hi'
      rcases k.own rfl j i hi' with rfl | h1
      · exact e1.rho j hlt
      · omega
    · exact e1.rho j hlt

/-- a function keeps its contract -/
theorem fnOk (hc : CtxOk P C) {f : FuncId} {fn : Func} {code : Code} {c : Con} {res : List ResultVar} (hf : P.funcs[f]? = some fn) (hb : fn.body = some code) (hn : fn.name ≠ "runtime.NumGoroutine")
    (hN : C.N = fn.ntmps) (hres : fn.results = res.toArray) (hnr : c.nres = res.length) (hna : c.nargs ≤ fn.ntmps)
    (G : c.inS.Den → St → Option c.outS.Den) (hS : ∀ x, Snd P C code (retK C c.outS res) (fun _ _ => none) (retK C c.outS res) (G x)) (hF : ∀ x, G x (c.inS.st x) = c.F x) :
    FnOk P f c := by
  intro E args x y hsz hFx hr
  have hcall : (callFunc f args).run P E.w = .ok (.enter f args) E.w := by
    unfold callFunc
    simp [hf, hn, hb]
  unfold FnRes
  rw [hcall]
  refine calls_of_wp hf hb ?_
  have hi : Inv C.N E E (c.inS.st x) { tmps := args ++ Array.replicate (fn.ntmps - args.size) undef, defers := [] } := by
    refine ⟨⟨fun s => ?_, hr.ob, hr.lt, hr.dj, hr.nd, hr.bb, hr.zb⟩, Fr.refl E, rfl, ?_, Nat.le_max_left _ _⟩
    · have e : (args ++ Array.replicate (fn.ntmps - args.size) undef).getD s undef = args.getD s undef := by
        simp only [Array.getD_eq_getD_getElem?, Array.getElem?_append]
        split
        · rfl
        · rename_i hlt
          rw [Array.getElem?_replicate, show args[s]? = none from Array.getElem?_eq_none (Nat.le_of_not_lt hlt)]
          split <;> rfl
      rw [e]
      exact hr.sl s
    · simp only [Array.size_append, Array.size_replicate]; omega
  have fin : ∀ st E' a, retK C c.outS res st = some y → Inv C.N E E' st a → a.defers = [] ∧ ∃ v, (results fn a.tmps).run P E'.w = .ok v E'.w ∧
      ∃ E2 tm, E2.w = E'.w ∧ Fr E E2 ∧ Rep E2 (c.outS.st y) tm ∧ RetOk c.nres tm v := by
    intro st E' a hk hi'
    unfold retK at hk
    split at hk
    · rename_i l hl
      split at hk
      · rename_i y' m hm
        cases hk
        obtain ⟨vs, h1, h2, h3⟩ := resL_sound hc hi' res l hl
        obtain ⟨v, h4, h5⟩ := run_results (P := P) hres h1 h2
        have hr' : Rep E' ⟨argSl l, st.ob, st.nx⟩ vs.toArray :=
          ⟨fun s => by simpa using h3 s, hi'.rep.ob, hi'.rep.lt, hi'.rep.dj, hi'.rep.nd, hi'.rep.bb, hi'.rep.zb⟩
        obtain ⟨E1, e1, e2, k, _, hr2⟩ := matchSt_sound hm hr'
        exact ⟨hi'.defers, v, h4, into E1 m, _, e1.w, into_fr (st := st) hi' e1 k, hr2, by rw [hnr]; exact h5⟩
      · cases hk
    · cases hk
  exact hS x y _ E E _ _ (by rw [hF]; exact hFx) hi (fun st E' a hk hi' => fin st E' a hk hi') (fun i st E' a hk _ => by cases hk) (fun st E' a hk hi' => fin st E' a hk hi')
end

end Go.Am
