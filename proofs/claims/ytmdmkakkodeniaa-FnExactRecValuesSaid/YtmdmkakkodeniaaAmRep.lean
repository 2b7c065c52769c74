/- How what stands for a state goes on standing for it when the world turns. -/
import Derived.Test.YtmdmkakkodeniaaAmExec
set_option linter.unusedVariables false
set_option linter.unusedSimpArgs false
namespace Go.Am

structure Ev (E : Env) (ob : Nat → Ob) (nx : Nat) (E' : Env) (ob' : Nat → Ob) (nx' : Nat) : Prop where
  le : nx ≤ nx'
  rho : ∀ i, i < nx → E'.rho i = E.rho i
  z : ∀ b, E.Z b → E'.Z b
  hz : ∀ b, E.Z b → E'.w.heap[b]? = E.w.heap[b]?
  lay : ∀ i, i < nx → ∀ u, (ob' i).lay = some u → (ob i).lay = some u
  bx : ∀ i, i < nx → (ob' i).isBx = true → (ob i).isBx = true
  obs : ∀ i, i < nx → ∀ fz v e t xs, ob' i = .sl fz v e t xs → ∃ fz0 v0 xs0, ob i = .sl fz0 v0 e t xs0 ∧ xs0.length = xs.length ∧ v0 ≤ v ∧
    (v0 = v → xs0 = xs ∧ ∀ b, (b ∈ E.B i ∨ E.Z b) → E'.w.heap[b]? = E.w.heap[b]? ∧ (b ∈ E'.B i ∨ E'.Z b))

theorem Ev.live {E E' : Env} {ob ob' : Nat → Ob} {nx nx' : Nat} (h : Ev E ob nx E' ob' nx') {b : Option (Nat × Nat)} (hl : srcLt ob nx b) (k : live ob' b) :
    live ob b ∧ (∀ x, src E b x → E'.w.heap[x]? = E.w.heap[x]? ∧ src E' b x) := by
  cases b with
  | none => exact ⟨trivial, fun x hx => ⟨h.hz x hx, h.z x hx⟩⟩
  | some p =>
    obtain ⟨i, ver⟩ := p
    simp only [Am.live, fresh] at k ⊢
    simp only [Am.srcLt] at hl
    cases ho : ob' i with
    | sl fz v e t xs =>
      simp only [ho] at k
      subst k
      obtain ⟨fz0, v0, xs0, h0, h1, h2, h3⟩ := h.obs i hl.1 fz v e t xs ho
      rw [h0] at hl ⊢
      have hv : v0 = v := Nat.le_antisymm h2 hl.2
      exact ⟨hv, fun x hx => (h3 hv).2 x hx⟩
    | box u c => simp [ho] at k
    | obox b u c => simp [ho] at k
    | dead => simp [ho] at k

theorem Ev.srcLt {E E' : Env} {ob ob' : Nat → Ob} {nx nx' : Nat} (h : Ev E ob nx E' ob' nx') {b : Option (Nat × Nat)} (hl : srcLt ob nx b) : srcLt ob' nx' b := by
  cases b with
  | none => trivial
  | some p =>
    obtain ⟨i, ver⟩ := p
    simp only [Am.srcLt] at hl ⊢
    refine ⟨Nat.lt_of_lt_of_le hl.1 h.le, ?_⟩
    cases ho : ob' i with
    | sl fz v e t xs =>
      obtain ⟨fz0, v0, xs0, h0, h1, h2, h3⟩ := h.obs i hl.1 fz v e t xs ho
      rw [h0] at hl
      exact Nat.le_trans hl.2 h2
    | _ => trivial

theorem CRep_ev {E E' : Env} {ob ob' : Nat → Ob} {nx nx' : Nat} (h : Ev E ob nx E' ob' nx') :
    ∀ (c : Cn) (m : Bool) (cs : List Value), CRep E ob nx c m cs → CRep E' ob' nx' c m cs := by
  intro c
  induction c with
  | ro b d =>
    intro m cs hc
    simp only [CRep] at hc ⊢
    refine ⟨hc.1, h.srcLt hc.2.1, fun hl => ?_⟩
    obtain ⟨l1, l2⟩ := h.live hc.2.1 hl
    exact Rd_mono (fun x hx => (l2 x hx).2) (fun x hx => (l2 x hx).1) _ _ _ (hc.2.2 l1)
  | nils e t => intro m cs hc; simpa only [CRep] using hc
  | h i =>
    intro m cs hc
    simp only [CRep] at hc ⊢
    exact ⟨Nat.lt_of_lt_of_le hc.1 h.le, by rw [h.rho i hc.1]; exact hc.2.1, by rw [h.rho i hc.1]; exact hc.2.2⟩
  | p i =>
    intro m cs hc
    simp only [CRep] at hc ⊢
    exact ⟨Nat.lt_of_lt_of_le hc.1 h.le, by rw [h.rho i hc.1]; exact hc.2.1, by rw [h.rho i hc.1]; exact hc.2.2⟩
  | addr i k es off path cache =>
    intro m cs hc
    simp only [CRep] at hc ⊢
    obtain ⟨h1, h2, h3, hl, h4, hx⟩ := hc
    refine ⟨Nat.lt_of_lt_of_le h1 h.le, h2, by rw [h.rho i h1]; exact h3, fun u hu => hl u (h.lay i h1 u hu), ?_, fun e => hx (h.bx i h1 e)⟩
    cases ho : ob' i with
    | sl fz v e t xs =>
      obtain ⟨fz0, v0, xs0, k0, k1, k2, k3⟩ := h.obs i h1 fz v e t xs ho
      rw [k0] at h4
      simp only at h4 ⊢
      refine ⟨by rw [← k1]; exact h4.1, h4.2.1, ?_⟩
      have h5 := h4.2.2
      cases cache with
      | none => trivial
      | some p =>
        obtain ⟨cv, d⟩ := p
        simp only at h5 ⊢
        refine ⟨Nat.le_trans h5.1 k2, fun e => ?_⟩
        subst e
        have hv : v0 = cv := Nat.le_antisymm k2 h5.1
        obtain ⟨x, hx⟩ := h5.2 hv.symm
        rw [(k3 hv).1] at hx
        exact ⟨x, hx⟩
    | _ => trivial
  | rdp b d =>
    intro m cs hc
    simp only [CRep] at hc ⊢
    obtain ⟨h1, ad, h2, h3, h4⟩ := hc
    refine ⟨h.srcLt h1, ad, h2, h3, fun hl => ?_⟩
    obtain ⟨l1, l2⟩ := h.live h1 hl
    obtain ⟨h5, f, h6, h7⟩ := h4 l1
    exact ⟨(l2 _ h5).2, f, Rd_mono (fun x hx => (l2 x hx).2) (fun x hx => (l2 x hx).1) _ _ _ h6,
      h7.mono (S := src E b) (fun ad' e => by obtain rfl := Option.some.inj e; exact .inr h5) (fun x hx => (l2 x hx).1)⟩
  | fn f caps ih =>
    intro m cs hc
    simp only [CRep] at hc ⊢
    obtain ⟨vs, h1, h2⟩ := hc
    exact ⟨vs, h1, ih _ _ h2⟩
  | tup c ih =>
    intro m cs hc
    simp only [CRep] at hc ⊢
    obtain ⟨vs, h1, h2⟩ := hc
    exact ⟨vs, h1, ih _ _ h2⟩
  | nil => intro m cs hc; simpa only [CRep] using hc
  | cons a b iha ihb =>
    intro m cs hc
    cases m with
    | false =>
      simp only [CRep] at hc ⊢
      obtain ⟨c, d, h1, h2, h3⟩ := hc
      exact ⟨c, d, h1, iha _ _ h2, ihb _ _ h3⟩
    | true =>
      simp only [CRep] at hc ⊢
      obtain ⟨v, vs, c, h1, h2, h3, h4⟩ := hc
      exact ⟨v, vs, c, h1, iha _ _ h2, h3, ihb _ _ h4⟩
  | agg c ih =>
    intro m cs hc
    simp only [CRep] at hc ⊢
    exact ih _ _ hc
  | cst v => intro m cs hc; simpa only [CRep] using hc
  | dead => intro m cs hc; trivial

theorem VRep_ev {E E' : Env} {ob ob' : Nat → Ob} {nx nx' : Nat} (h : Ev E ob nx E' ob' nx') {c : Cn} {v : Value} (hv : VRep E ob nx c v) : VRep E' ob' nx' c v := by
  cases c with
  | dead => trivial
  | _ =>
    obtain ⟨cs, h1, h2⟩ := hv
    exact ⟨cs, CRep_ev h _ _ _ h1, h2⟩

theorem BoxOk_ev {E E' : Env} {ob ob' : Nat → Ob} {nx nx' i : Nat} {u : Ty} {c : Cn} (h : Ev E ob nx E' ob' nx') (hr : E'.rho i = E.rho i) (hB : E'.B i = E.B i)
    (hh : ∀ b, b ∈ E.B i → E'.w.heap[b]? = E.w.heap[b]?) (hb : BoxOk E ob nx i u c) : BoxOk E' ob' nx' i u c := by
  obtain ⟨g, cs, t, h1, h2, h3, h4, h6⟩ := hb
  exact ⟨g, cs, t, by rw [hr]; exact h1, by rw [hh g (by rw [h6]; simp)]; exact h2, CRep_ev h _ _ _ h3, h4, by rw [hB]; exact h6⟩

theorem ObOk_ev {E E' : Env} {ob ob' : Nat → Ob} {nx nx' i : Nat} {o : Ob} (h : Ev E ob nx E' ob' nx') (hr : E'.rho i = E.rho i) (hB : E'.B i = E.B i)
    (hh : ∀ b, b ∈ E.B i → E'.w.heap[b]? = E.w.heap[b]?) (hb : ObOk E ob nx i o) : ObOk E' ob' nx' i o := by
  cases o with
  | sl fz ver e t xs =>
    cases fz with
    | false =>
      simp only [ObOk] at hb ⊢
      rw [hr, hB]
      exact Ow_frame _ _ _ _ hh hb
    | true =>
      simp only [ObOk] at hb ⊢
      rw [hr, hB]
      exact ⟨Rd_mono h.z h.hz _ _ _ hb.1, hb.2⟩
  | box u c => exact BoxOk_ev h hr hB hh hb
  | obox b u c =>
    cases b with
    | true => exact BoxOk_ev h hr hB hh hb
    | false => exact ⟨by rw [hr]; exact hb.1, by rw [hB]; exact hb.2.1, hb.2.2.imp fun cs hc => CRep_ev h _ _ _ hc⟩
  | dead => simp only [ObOk] at hb ⊢; rw [hB]; exact hb

/-! ### the run of a function so far -/
structure Inv (N : Nat) (E0 E : Env) (st : St) (a : Act) : Prop where
  rep : Rep E st a.tmps
  fr : Fr E0 E
  defers : a.defers = []
  size : a.tmps.size = N
  nx : 100 ≤ st.nx

theorem Rep.put {E : Env} {st : St} {tm : Array Value} {d : Nat} {c : Cn} {v : Value} (h : Rep E st tm) (hd : d < tm.size) (hv : VRep E st.ob st.nx c v) :
    Rep E { st with sl := upd st.sl d c } (tm.setIfInBounds d v) := by
  refine ⟨fun s => ?_, h.ob, h.lt, h.dj, h.nd, h.bb, h.zb⟩
  show VRep E st.ob st.nx (upd st.sl d c s) _
  by_cases e : s = d
  · subst e
    rw [upd_same]
    have : (tm.setIfInBounds s v).getD s undef = v := by simp [Array.getD, hd]
    rw [this]
    exact hv
  · rw [upd_other _ _ _ _ e]
    have : (tm.setIfInBounds d v).getD s undef = tm.getD s undef := by
      simp only [Array.getD_eq_getD_getElem?]
      rw [Array.getElem?_setIfInBounds_ne (by omega)]
    rw [this]
    exact h.sl s

theorem Inv.put {N : Nat} {E0 E : Env} {st : St} {a : Act} {d : Nat} {c : Cn} {v : Value} (h : Inv N E0 E st a) (hd : d < N) (hv : VRep E st.ob st.nx c v) :
    Inv N E0 E { st with sl := upd st.sl d c } (a.put (some d) v) :=
  ⟨h.rep.put (by rw [h.size]; exact hd) hv, h.fr, h.defers, by simp [Act.put, h.size], h.nx⟩

theorem Rep.dead {E : Env} {st : St} {tm : Array Value} {d : Nat} (h : Rep E st tm) (v : Value) :
    Rep E { st with sl := upd st.sl d .dead } (tm.setIfInBounds d v) := by
  refine ⟨fun s => ?_, h.ob, h.lt, h.dj, h.nd, h.bb, h.zb⟩
  show VRep E st.ob st.nx (upd st.sl d .dead s) _
  by_cases e : s = d
  · subst e; rw [upd_same]; trivial
  · rw [upd_other _ _ _ _ e]
    have : (tm.setIfInBounds d v).getD s undef = tm.getD s undef := by
      simp only [Array.getD_eq_getD_getElem?]
      rw [Array.getElem?_setIfInBounds_ne (by omega)]
    rw [this]
    exact h.sl s

/-- the same slots, other objects and another world -/
theorem Rep.turn {E E' : Env} {st st' : St} {tm : Array Value} (h : Rep E st tm) (hs : st'.sl = st.sl) (hev : Ev E st.ob st.nx E' st'.ob st'.nx)
    (ob : ∀ i, ObOk E' st'.ob st'.nx i (st'.ob i)) (lt : ∀ i, st'.nx ≤ i → st'.ob i = .dead)
    (dj : ∀ i j b, i ≠ j → b ∈ E'.B i → b ∉ E'.B j) (nd : ∀ i, (E'.B i).Nodup)
    (bb : ∀ i b, b ∈ E'.B i → b < E'.w.heap.size ∧ ¬ E'.Z b) (zb : ∀ b, E'.Z b → b < E'.w.heap.size) : Rep E' st' tm :=
  ⟨fun s => by rw [hs]; exact VRep_ev hev (h.sl s), ob, lt, dj, nd, bb, zb⟩

end Go.Am
