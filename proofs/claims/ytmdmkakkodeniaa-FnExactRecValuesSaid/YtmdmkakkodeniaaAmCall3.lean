/- A call is its callee's contract. -/
import Derived.Test.YtmdmkakkodeniaaAmCall2
set_option linter.unusedVariables false
set_option linter.unusedSimpArgs false
namespace Go.Am

def Kd (o : Ob) (os : OS) : Prop :=
  ∃ z, o.lay = (OS.ob os z).lay ∧ o.isBx = (OS.ob os z).isBx ∧ ∀ (e : TypeId) (t : Ty) (xs0 : List t.Den), OS.ob os z = .sl false 0 e t xs0 → ∃ v0 xs1, o = .sl false v0 e t xs1

theorem kdB_sound {o : Ob} {os : OS} (h : kdB o os = true) : Kd o os := by
  cases o with
  | sl fz ver e t xs =>
    cases fz <;> cases os <;> simp only [kdB] at h <;> try (cases h; done)
    rename_i e' t'
    simp only [Bool.and_eq_true] at h
    obtain rfl := Nat.eq_of_beq_eq_true h.1
    obtain rfl := of_decide_eq_true h.2
    refine ⟨(by exact []), rfl, rfl, fun e t xs0 he => ?_⟩
    simp only [OS.ob, Ob.sl.injEq] at he
    obtain ⟨-, -, rfl, rfl, _⟩ := he
    exact ⟨ver, _, rfl⟩
  | box u c =>
    cases os <;> simp only [kdB] at h <;> try (cases h; done)
    · rename_i v cs
      obtain rfl := of_decide_eq_true h
      exact ⟨cs.dflt, rfl, rfl, fun e t xs0 he => by simp [OS.ob] at he⟩
    · rename_i v cs
      obtain rfl := of_decide_eq_true h
      exact ⟨(true, cs.dflt), rfl, rfl, fun e t xs0 he => by simp [OS.ob] at he⟩
  | obox b u c =>
    cases os <;> simp only [kdB] at h <;> try (cases h; done)
    rename_i v cs
    obtain rfl := of_decide_eq_true h
    exact ⟨(true, cs.dflt), rfl, rfl, fun e t xs0 he => by simp [OS.ob] at he⟩
  | dead => cases os <;> simp only [kdB] at h <;> cases h

theorem kdsB_sound {m : Mt} {objs : List (Nat × OS)} : ∀ {s : List (Nat × Nat)}, kdsB m objs s = true → ∀ j i, sigAt s j = some i → ∃ o, findO objs j = some o ∧ Kd (m.ob i) o
  | [], _, j, i, h => by cases h
  | x :: r, hk, j, i, h => by
    obtain ⟨a, b⟩ := x
    simp only [kdsB, Bool.and_eq_true] at hk
    rw [sigAt_cons] at h
    split at h
    · rename_i e
      cases h
      subst e
      have h1 := hk.1
      split at h1
      · rename_i o ho; exact ⟨o, ho, kdB_sound h1⟩
      · cases h1
    · exact kdsB_sound hk.2 j i h

/-! ### arguments -/
theorem evL_sound {C : Ctx} {st : St} {E : Env} {a : Act} (hr : Rep E st a.tmps) : ∀ (xs : List Operand) (ts : List TypeId) (l : List Cn), evL C st xs ts = some l →
    l.length = xs.length ∧ ∀ i, VRep E st.ob st.nx (argSl l i) ((xs.map a.eval).getD i undef)
  | [], ts, l, h => by
    cases h
    exact ⟨rfl, fun i => trivial⟩
  | x :: r, ts, l, h => by
    simp only [evL] at h
    split at h
    · rename_i c l' h1 h2
      cases h
      obtain ⟨h3, h4⟩ := evL_sound hr r _ _ h2
      refine ⟨by simp [h3], fun i => ?_⟩
      cases i with
      | zero => exact ev_sound h1 hr
      | succ i => simpa [argSl] using h4 i
    · cases h

theorem uncaps_sound {E : Env} {ob : Nat → Ob} {nx : Nat} : ∀ (c : Cn) (l : List Cn) (vs : List Value), uncaps c = some l → CRep E ob nx c true vs →
    l.length = vs.length ∧ ∀ i, VRep E ob nx (argSl l i) (vs.getD i undef)
  | .nil, l, vs, h, hc => by
    cases h
    have hc : vs = [] := hc
    subst hc
    exact ⟨rfl, fun i => trivial⟩
  | .cons a b, l, vs, h, hc => by
    simp only [uncaps] at h
    split at h
    · rename_i l' h1
      cases h
      obtain ⟨v, ws, c, rfl, h2, h3, h4⟩ := hc
      obtain ⟨h5, h6⟩ := uncaps_sound b l' ws h1 h4
      refine ⟨by simp [h5], fun i => ?_⟩
      cases i with
      | zero => exact VRep_mk c h2 h3
      | succ i => simpa [argSl] using h6 i
    · cases h
  | .ro _ _, l, vs, h, hc | .nils _ _, l, vs, h, hc | .h _, l, vs, h, hc | .p _, l, vs, h, hc | .addr _ _ _ _ _ _, l, vs, h, hc | .rdp _ _, l, vs, h, hc
  | .fn _ _, l, vs, h, hc | .tup _, l, vs, h, hc | .agg _, l, vs, h, hc | .cst _, l, vs, h, hc | .dead, l, vs, h, hc => by cases h

theorem argSl_append : ∀ (l r : List Cn) (i : Nat), argSl (l ++ r) i = if i < l.length then argSl l i else argSl r (i - l.length)
  | [], r, i => by simp
  | c :: l, r, 0 => by simp [argSl]
  | c :: l, r, i + 1 => by
    show argSl (l ++ r) i = _
    rw [argSl_append l r i]
    simp [argSl]

theorem resC_sound {E2 E3 : Env} {ob2 ob3 : Nat → Ob} {nx2 nx3 : Nat} {c : Con} {m : Mt} {y : c.outS.Den} {tm : Array Value}
    (h : ∀ s, VRep E3 ob3 nx3 (renC (tau m) (slOf c.outS.slots (c.outS.pS y) s)) (tm.getD s undef)) :
    ∀ (n i : Nat) (vs : List Value), vs.length = n → (∀ q, q < n → vs[q]? = some (tm.getD (i + q) undef)) → CRep E3 ob3 nx3 (renC (tau m) (resC c y n i)) true vs
  | 0, i, vs, hl, hv => by
    have : vs = [] := List.eq_nil_of_length_eq_zero hl
    exact this
  | n + 1, i, vs, hl, hv => by
    cases vs with
    | nil => simp at hl
    | cons v ws =>
      have h0 := hv 0 (Nat.succ_pos _)
      simp only [List.getElem?_cons_zero, Option.some.injEq, Nat.add_zero] at h0
      have hr := resC_sound (E2 := E2) (ob2 := ob2) (nx2 := nx2) h n (i + 1) ws (by simpa using hl) (fun q hq => by
        have := hv (q + 1) (by omega)
        simpa [Nat.add_assoc, Nat.add_comm 1 q] using this)
      have hi := h i
      rw [← h0] at hi
      show CRep E3 ob3 nx3 (.cons (renC (tau m) (slOf c.outS.slots (c.outS.pS y) i)) (renC (tau m) (resC c y n (i + 1)))) true (v :: ws)
      generalize renC (tau m) (slOf c.outS.slots (c.outS.pS y) i) = q at hi
      by_cases hd : q = .dead
      · subst hd
        exact ⟨v, ws, [v], rfl, trivial, rfl, hr⟩
      · obtain ⟨cs, h1, h2⟩ := VRep_one hi hd
        exact ⟨v, ws, cs, rfl, h1, h2, hr⟩

section
variable {P : Program} {R : Type} {C : Ctx} {o : Oper} {st : St} {k : St → Option R} {r : R} {E0 E : Env} {a : Act} {K : Act → World → Prop} {Q : Exit → Act → World → Prop} {g : Bool}

theorem callK_sound {pure : Bool} {f : FuncId} {args : List Cn} {argv : Array Value} : ∀ (cons : List Con), (∀ c, c ∈ cons → FnOk P f c) → (g = true → pure = true) → still C o = false → callK C pure o args st k cons = some r → Inv C.N E0 E st a →
    argv.size = args.length → (∀ i, VRep E st.ob st.nx (argSl args i) (argv.getD i undef)) → (∀ q, (callFunc f argv).run P E.w = q → (execOp a.eval o).run P E.w = q) →
    (∀ st' E' v, k st' = some r → Inv C.N E0 E' st' (a.put o.dst v) → Pur P C g o a v E.w E'.w → K (a.put o.dst v) E'.w) → o.wp P a E.w K Q
  | [], _, _, _, hk, _, _, _, _, _ => by cases hk
  | c :: cons, hcs, hgp, hst, hk, h, hsz, hargs, hrun, hK => by
    simp only [callK] at hk
    split at hk
    · exact callK_sound cons (fun c hc => hcs c (List.mem_cons_of_mem _ hc)) hgp hst hk h hsz hargs hrun hK
    · rename_i x m hm
      split at hk
      · cases hk
      · rename_i hno
        simp only [Bool.or_eq_false_iff, Bool.not_eq_false', Bool.and_eq_true] at hno
        cases hF : c.F x with
        | none => rw [hF] at hk; cases hk
        | some y =>
          rw [hF] at hk
          simp only [Option.bind_some] at hk
          have hrep : Rep E ⟨argSl args, st.ob, st.nx⟩ argv := ⟨hargs, h.rep.ob, h.rep.lt, h.rep.dj, h.rep.nd, h.rep.bb, h.rep.zb⟩
          obtain ⟨E', e1, e2, e3, e4, e5⟩ := matchSt_sound hm hrep
          have hkd := kdsB_sound hno.2.2.2
          have hfn := hcs c (List.mem_cons_self ..) (into E' m) argv x y (hsz.trans (Nat.eq_of_beq_eq_true hno.2.2.1)) hF e5
          rw [show (into E' m).w = E.w from e1.w] at hfn
          refine wp_call (fun _ => hrun) hfn ?_
          rintro v w' ⟨E2, tm, rfl, fr, r2, hret⟩
          obtain ⟨hinv, hval⟩ := after_sound h e1 e2 e3 e4 (fun j i hji => by
            obtain ⟨o, ho, z, h1, h2, h3⟩ := hkd j i hji
            exact ⟨o, z, ho, h1, h2, h3⟩) hno.2.1 fr r2
          have hv : VRep (aft c.outS.noRo E' E2 m) (afterOb c m y) (m.nx + Nat.max 100 (maxId c.outS.objs)) (retC c m y) v := by
            have hall : ∀ s, VRep (aft c.outS.noRo E' E2 m) (afterOb c m y) (m.nx + Nat.max 100 (maxId c.outS.objs)) (renC (tau m) (slOf c.outS.slots (c.outS.pS y) s)) (tm.getD s undef) :=
              fun s => hval s _ (r2.sl s)
            unfold retC
            have tupcase : (∃ vs : List Value, v = .tuple vs.toArray ∧ vs.length = c.nres ∧ ∀ i, i < c.nres → vs[i]? = some (tm.getD i undef)) →
                VRep (aft c.outS.noRo E' E2 m) (afterOb c m y) (m.nx + Nat.max 100 (maxId c.outS.objs)) (.tup (renC (tau m) (resC c y c.nres 0))) v := by
              rintro ⟨vs, rfl, hl, hv⟩
              exact ⟨_, ⟨vs, rfl, resC_sound (E2 := E2) (ob2 := fun _ => .dead) (nx2 := 0) hall c.nres 0 vs hl (fun q hq => by rw [Nat.zero_add]; exact hv q hq)⟩, rfl⟩
            generalize hn : c.nres = n at hret tupcase
            match n with
            | 0 => exact tupcase hret
            | 1 =>
              have hret : v = tm.getD 0 undef := hret
              rw [hret]
              exact hall 0
            | n + 2 => exact tupcase hret
          refine putK_sound (G := fun a' => K a' (aft c.outS.noRo E' E2 m).w) hk hinv hv (fun st' hk' hi => hK st' _ _ hk' hi (.loud hst (fun hg => ?_)))
          have hp := hgp hg
          have hnil : m.sig = [] := by
            have := hno.1
            simp only [hp, Bool.true_and, Bool.not_eq_false', Bool.and_eq_true] at this
            cases hs : m.sig with
            | nil => rfl
            | cons x r => rw [hs] at this; simp [isNil] at this
          have hw : (into E' m).w = E.w := e1.w
          refine ⟨by rw [← hw]; exact fr.os, by rw [← hw]; exact fr.tape, by rw [← hw]; exact fr.output, by rw [← hw]; exact fr.size, fun b hb => ?_⟩
          rw [← hw]
          refine fr.block b (by rw [hw]; exact hb) (fun i => ?_)
          simp [into, hnil, sigAt]
end

end Go.Am
