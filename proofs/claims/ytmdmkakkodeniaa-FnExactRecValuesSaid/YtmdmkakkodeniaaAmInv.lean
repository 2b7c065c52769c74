/- Moves of the invariant: new objects, objects turned, objects used up, objects frozen. -/
import Derived.Test.YtmdmkakkodeniaaAmRep
set_option linter.unusedVariables false
set_option linter.unusedSimpArgs false
namespace Go.Am

/-- the world has grown, and turned in blocks that are owned alone -/
structure Wev (E : Env) (w : World) : Prop where
  os : w.os = E.w.os
  tape : w.tape = E.w.tape
  output : w.output = E.w.output
  size : E.w.heap.size ≤ w.heap.size
  block : ∀ b, b < E.w.heap.size → (∀ i, b ∉ E.B i) → w.heap[b]? = E.w.heap[b]?

theorem Inv.gen {N : Nat} {E0 E E1 : Env} {st st1 : St} {a : Act} (h : Inv N E0 E st a) (hsl : st1.sl = st.sl) (hw : Wev E E1.w) (hZ : E1.Z = E.Z)
    (hnx : st.nx ≤ st1.nx) (hrho : ∀ i, i < st.nx → E1.rho i = E.rho i)
    (hev : ∀ i, i < st.nx → ∀ fz v e t xs, st1.ob i = .sl fz v e t xs → ∃ fz0 v0 xs0, st.ob i = .sl fz0 v0 e t xs0 ∧ xs0.length = xs.length ∧ v0 ≤ v ∧
      (v0 = v → xs0 = xs ∧ ∀ b, b ∈ E.B i → E1.w.heap[b]? = E.w.heap[b]? ∧ b ∈ E1.B i))
    (hlay : ∀ i, i < st.nx → (∀ u, (st1.ob i).lay = some u → (st.ob i).lay = some u) ∧ ((st1.ob i).isBx = true → (st.ob i).isBx = true))
    (ob : Ev E st.ob st.nx E1 st1.ob st1.nx → ∀ i, ObOk E1 st1.ob st1.nx i (st1.ob i)) (lt : ∀ i, st1.nx ≤ i → st1.ob i = .dead)
    (dj : ∀ i j b, i ≠ j → b ∈ E1.B i → b ∉ E1.B j) (nd : ∀ i, (E1.B i).Nodup)
    (own : ∀ i b, b ∈ E1.B i → ((∃ j, b ∈ E.B j) ∨ E.w.heap.size ≤ b) ∧ b < E1.w.heap.size) : Inv N E0 E1 st1 a := by
  have hz : ∀ b, E.Z b → E1.w.heap[b]? = E.w.heap[b]? := fun b hb => hw.block b (h.rep.zb b hb) fun i hi => (h.rep.bb i b hi).2 hb
  have ev : Ev E st.ob st.nx E1 st1.ob st1.nx := ⟨hnx, hrho, fun b hb => by rw [hZ]; exact hb, hz, fun i hi => (hlay i hi).1, fun i hi => (hlay i hi).2, fun i hi fz v e t xs ho => by
    obtain ⟨fz0, v0, xs0, h0, h1, h2, h3⟩ := hev i hi fz v e t xs ho
    refine ⟨fz0, v0, xs0, h0, h1, h2, fun e => ⟨(h3 e).1, fun b hb => ?_⟩⟩
    rcases hb with hb | hb
    · exact ⟨((h3 e).2 b hb).1, .inl ((h3 e).2 b hb).2⟩
    · exact ⟨hz b hb, .inr (by rw [hZ]; exact hb)⟩⟩
  have notz : ∀ i b, b ∈ E1.B i → ¬ E.Z b := fun i b hb hzb => by
    rcases (own i b hb).1 with ⟨j, hj⟩ | h1
    · exact (h.rep.bb j b hj).2 hzb
    · have := h.rep.zb b hzb; omega
  refine ⟨h.rep.turn hsl ev (ob ev) lt dj nd (fun i b hb => ⟨(own i b hb).2, by rw [hZ]; exact notz i b hb⟩) (fun b hb => ?_), ?_, h.defers, h.size, Nat.le_trans h.nx hnx⟩
  · rw [hZ] at hb
    exact Nat.lt_of_lt_of_le (h.rep.zb b hb) hw.size
  · exact h.fr.trans ⟨hw.os, hw.tape, hw.output, hw.size, hw.block, fun i b hb => (own i b hb).1, fun b hb => by rw [hZ]; exact hb, fun b hb => by rw [hZ] at hb; exact .inl hb,
      fun i hi => hrho i (Nat.lt_of_lt_of_le hi h.nx)⟩

/-- a world that has only grown -/
structure Grew (w w' : World) : Prop where
  os : w'.os = w.os
  tape : w'.tape = w.tape
  output : w'.output = w.output
  size : w.heap.size ≤ w'.heap.size
  block : ∀ b, b < w.heap.size → w'.heap[b]? = w.heap[b]?

theorem Grew.refl (w : World) : Grew w w := ⟨rfl, rfl, rfl, Nat.le_refl _, fun _ _ => rfl⟩
theorem Grew.alloc (w : World) (o : Obj) : Grew w (w.alloc o) := ⟨rfl, rfl, rfl, by simp, fun b hb => heap_alloc_old w o b hb⟩
theorem Grew.wev {E : Env} {w : World} (h : Grew E.w w) : Wev E w := ⟨h.os, h.tape, h.output, h.size, fun b hb _ => h.block b hb⟩

/-- the same objects in a world that has grown -/
theorem Inv.grew {N : Nat} {E0 E : Env} {st : St} {a : Act} (h : Inv N E0 E st a) {w : World} (hw : Grew E.w w) : Inv N E0 { E with w := w } st a := by
  refine h.gen rfl hw.wev rfl (Nat.le_refl _) (fun _ _ => rfl) ?_ (fun i hi => ⟨fun _ h => h, fun h => h⟩) ?_ h.rep.lt h.rep.dj h.rep.nd ?_
  · intro i hi fz v e t xs ho
    exact ⟨fz, v, xs, ho, rfl, Nat.le_refl _, fun _ => ⟨rfl, fun b hb => ⟨hw.block b (h.rep.bb i b hb).1, hb⟩⟩⟩
  · intro ev i
    exact ObOk_ev ev rfl rfl (fun b hb => hw.block b (h.rep.bb i b hb).1) (h.rep.ob i)
  · intro i b hb
    exact ⟨.inl ⟨i, hb⟩, Nat.lt_of_lt_of_le (h.rep.bb i b hb).1 hw.size⟩

/-- a new object -/
theorem Inv.push {N : Nat} {E0 E : Env} {st : St} {a : Act} (h : Inv N E0 E st a) {w : World} (hw : Grew E.w w) (o : Ob) (v : Value) (bs : List Nat)
    (hb : ∀ b, b ∈ bs → E.w.heap.size ≤ b ∧ b < w.heap.size) (hn : bs.Nodup)
    (ho : Ev E st.ob st.nx ⟨w, E.Z, upd E.rho st.nx v, upd E.B st.nx bs⟩ (st.push o).ob (st.push o).nx → ObOk ⟨w, E.Z, upd E.rho st.nx v, upd E.B st.nx bs⟩ (st.push o).ob (st.push o).nx st.nx o) :
    Inv N E0 ⟨w, E.Z, upd E.rho st.nx v, upd E.B st.nx bs⟩ (st.push o) a := by
  refine h.gen rfl hw.wev rfl (Nat.le_succ _) (fun i hi => upd_other _ _ _ _ (by omega)) ?_ (fun i hi => by
    have : (st.push o).ob i = st.ob i := upd_other _ _ _ _ (by omega)
    rw [this]; exact ⟨fun _ h => h, fun h => h⟩) ?_ ?_ ?_ ?_ ?_
  · intro i hi fz v' e t xs hob
    have hne : i ≠ st.nx := by omega
    simp only [St.push, upd_other _ _ _ _ hne] at hob
    exact ⟨fz, v', xs, hob, rfl, Nat.le_refl _, fun _ => ⟨rfl, fun b hb => ⟨hw.block b (h.rep.bb i b hb).1, by simpa only [upd_other _ _ _ _ hne] using hb⟩⟩⟩
  · intro ev i
    by_cases e : i = st.nx
    · subst e
      have : (st.push o).ob st.nx = o := upd_same _ _ _
      rw [this]
      exact ho ev
    · have : (st.push o).ob i = st.ob i := upd_other _ _ _ _ e
      rw [this]
      exact ObOk_ev ev (upd_other _ _ _ _ e) (upd_other _ _ _ _ e) (fun b hb => hw.block b (h.rep.bb i b hb).1) (h.rep.ob i)
  · intro i hi
    have hne : i ≠ st.nx := by simp only [St.push] at hi; omega
    have : (st.push o).ob i = st.ob i := upd_other _ _ _ _ hne
    rw [this]
    exact h.rep.lt i (by simp only [St.push] at hi; omega)
  · intro i j b hij hbi hbj
    simp only [upd_apply] at hbi hbj
    split at hbi <;> split at hbj
    · omega
    · exact absurd (h.rep.bb j b hbj).1 (by have := (hb b hbi).1; omega)
    · exact absurd (h.rep.bb i b hbi).1 (by have := (hb b hbj).1; omega)
    · exact h.rep.dj i j b hij hbi hbj
  · intro i
    simp only [upd_apply]
    split
    · exact hn
    · exact h.rep.nd i
  · intro i b hbi
    simp only [upd_apply] at hbi
    split at hbi
    · exact ⟨.inr (hb b hbi).1, (hb b hbi).2⟩
    · exact ⟨.inl ⟨i, hbi⟩, Nat.lt_of_lt_of_le (h.rep.bb i b hbi).1 hw.size⟩

/-- an object used up: what it owned nobody owns -/
theorem Inv.kill {N : Nat} {E0 E : Env} {st : St} {a : Act} (h : Inv N E0 E st a) (i : Nat) : Inv N E0 { E with B := upd E.B i [] } (st.set i .dead) a := by
  refine h.gen rfl (Grew.wev (E := E) (Grew.refl _)) rfl (Nat.le_refl _) (fun _ _ => rfl) ?_ (fun j hj => by
    by_cases hji : j = i
    · subst hji
      have : (st.set j .dead).ob j = .dead := upd_same _ _ _
      rw [this]; exact ⟨fun _ h => by simp [Ob.lay] at h, fun h => by simp [Ob.isBx] at h⟩
    · have : (st.set i .dead).ob j = st.ob j := upd_other _ _ _ _ hji
      rw [this]; exact ⟨fun _ h => h, fun h => h⟩) ?_ ?_ ?_ ?_ ?_
  · intro j hj fz v e t xs hob
    by_cases hji : j = i
    · subst hji; simp [St.set, upd_same] at hob
    · simp only [St.set, upd_other _ _ _ _ hji] at hob
      exact ⟨fz, v, xs, hob, rfl, Nat.le_refl _, fun _ => ⟨rfl, fun b hb => ⟨rfl, by simpa only [upd_other _ _ _ _ hji] using hb⟩⟩⟩
  · intro ev j
    by_cases hji : j = i
    · subst hji
      have : (st.set j .dead).ob j = .dead := upd_same _ _ _
      rw [this]
      exact upd_same _ _ _
    · have : (st.set i .dead).ob j = st.ob j := upd_other _ _ _ _ hji
      rw [this]
      exact ObOk_ev ev rfl (upd_other _ _ _ _ hji) (fun _ _ => rfl) (h.rep.ob j)
  · intro j hj
    by_cases hji : j = i
    · subst hji; exact upd_same _ _ _
    · exact (upd_other _ _ _ _ hji).trans (h.rep.lt j hj)
  · intro p q b hpq hp hq
    simp only [upd_apply] at hp hq
    split at hp <;> split at hq
    · simp at hp
    · simp at hp
    · simp at hq
    · exact h.rep.dj p q b hpq hp hq
  · intro j
    simp only [upd_apply]
    split
    · exact List.nodup_nil
    · exact h.rep.nd j
  · intro j b hb
    simp only [upd_apply] at hb
    split at hb
    · simp at hb
    · exact ⟨.inl ⟨j, hb⟩, (h.rep.bb j b hb).1⟩

/-- an object turned where it stands: its blocks alone are written; its version goes up -/
theorem Inv.touch {N : Nat} {E0 E : Env} {st : St} {a : Act} (h : Inv N E0 E st a) (i : Nat) (o : Ob) {w : World} (hos : w.os = E.w.os) (hta : w.tape = E.w.tape) (hou : w.output = E.w.output)
    (hsz : w.heap.size = E.w.heap.size) (hbl : ∀ b, b ∉ E.B i → w.heap[b]? = E.w.heap[b]?) (hi : i < st.nx)
    (hver : ∀ fz v e t xs, o = .sl fz v e t xs → ∃ fz0 v0 xs0, st.ob i = .sl fz0 v0 e t xs0 ∧ xs0.length = xs.length ∧ v0 < v)
    (hly : (∀ u, o.lay = some u → (st.ob i).lay = some u) ∧ (o.isBx = true → (st.ob i).isBx = true))
    (ho : Ev E st.ob st.nx { E with w := w } (st.set i o).ob st.nx → ObOk { E with w := w } (st.set i o).ob st.nx i o) :
    Inv N E0 { E with w := w } (st.set i o) a := by
  refine h.gen rfl ⟨hos, hta, hou, Nat.le_of_eq hsz.symm, fun b _ hb => hbl b (hb i)⟩ rfl (Nat.le_refl _) (fun _ _ => rfl) ?_ (fun j hj => by
    by_cases hji : j = i
    · subst hji
      have : (st.set j o).ob j = o := upd_same _ _ _
      rw [this]; exact hly
    · have : (st.set i o).ob j = st.ob j := upd_other _ _ _ _ hji
      rw [this]; exact ⟨fun _ h => h, fun h => h⟩) ?_ ?_ h.rep.dj h.rep.nd ?_
  · intro j hj fz v e t xs hob
    by_cases hji : j = i
    · subst hji
      have h1 : o = .sl fz v e t xs := by simpa only [St.set, upd_same] using hob
      obtain ⟨fz0, v0, xs0, k0, k1, k2⟩ := hver fz v e t xs h1
      exact ⟨fz0, v0, xs0, k0, k1, Nat.le_of_lt k2, fun e => by omega⟩
    · simp only [St.set, upd_other _ _ _ _ hji] at hob
      exact ⟨fz, v, xs, hob, rfl, Nat.le_refl _, fun _ => ⟨rfl, fun b hb => ⟨hbl b (fun hb' => h.rep.dj j i b hji hb hb'), hb⟩⟩⟩
  · intro ev j
    by_cases hji : j = i
    · subst hji
      have : (st.set j o).ob j = o := upd_same _ _ _
      rw [this]
      exact ho ev
    · have : (st.set i o).ob j = st.ob j := upd_other _ _ _ _ hji
      rw [this]
      exact ObOk_ev ev rfl rfl (fun b hb => hbl b (fun hb' => h.rep.dj j i b hji hb hb')) (h.rep.ob j)
  · intro j hj
    have hne : j ≠ i := by simp only [St.set] at hj; omega
    exact (upd_other _ _ _ _ hne).trans (h.rep.lt j hj)
  · intro j b hb
    exact ⟨.inl ⟨j, hb⟩, by have := (h.rep.bb j b hb).1; show b < w.heap.size; omega⟩

/-- objects in, one new object out: what it owns was theirs, or is new -/
theorem Inv.swap {N : Nat} {E0 E : Env} {st : St} {a : Act} (h : Inv N E0 E st a) (gone : Nat → Bool) {w : World} (hw : Wev E w)
    (hbl : ∀ j, gone j = false → ∀ b, b ∈ E.B j → w.heap[b]? = E.w.heap[b]?)
    (o : Ob) (v : Value) (bs : List Nat)
    (hb : ∀ b, b ∈ bs → ((∃ j, gone j = true ∧ b ∈ E.B j) ∨ E.w.heap.size ≤ b) ∧ b < w.heap.size) (hn : bs.Nodup)
    (ob' : Nat → Ob) (hob' : ∀ j, ob' j = if gone j then .dead else st.ob j)
    (ho : Ev E st.ob st.nx ⟨w, E.Z, upd E.rho st.nx v, upd (fun j => if gone j then [] else E.B j) st.nx bs⟩ (upd ob' st.nx o) (st.nx + 1) →
      ObOk ⟨w, E.Z, upd E.rho st.nx v, upd (fun j => if gone j then [] else E.B j) st.nx bs⟩ (upd ob' st.nx o) (st.nx + 1) st.nx o) :
    Inv N E0 ⟨w, E.Z, upd E.rho st.nx v, upd (fun j => if gone j then [] else E.B j) st.nx bs⟩ ⟨st.sl, upd ob' st.nx o, st.nx + 1⟩ a := by
  refine h.gen rfl hw rfl (Nat.le_succ _) (fun i hi => upd_other _ _ _ _ (by omega)) ?_ (fun i hi => by
    show (∀ u, (upd ob' st.nx o i).lay = some u → _) ∧ ((upd ob' st.nx o i).isBx = true → _)
    rw [upd_other _ _ _ _ (by omega), hob']
    cases hg : gone i with
    | true => exact ⟨fun _ h => by simp [Ob.lay] at h, fun h => by simp [Ob.isBx] at h⟩
    | false => exact ⟨fun _ h => h, fun h => h⟩) ?_ ?_ ?_ ?_ ?_
  · intro i hi fz v' e t xs hob
    have hne : i ≠ st.nx := by omega
    simp only [upd_other _ _ _ _ hne, hob'] at hob
    cases hg : gone i with
    | true => simp [hg] at hob
    | false =>
      simp only [hg] at hob
      exact ⟨fz, v', xs, by simpa using hob, rfl, Nat.le_refl _, fun _ => ⟨rfl, fun b hb => ⟨hbl i hg b hb, by simp only [upd_other _ _ _ _ hne, hg]; exact hb⟩⟩⟩
  · intro ev i
    by_cases e : i = st.nx
    · subst e
      show ObOk _ _ _ _ (upd ob' st.nx o st.nx)
      rw [upd_same]
      exact ho ev
    · show ObOk _ _ _ _ (upd ob' st.nx o i)
      rw [upd_other _ _ _ _ e, hob']
      cases hg : gone i with
      | true => simp only [ObOk, if_true]; simp only [upd_other _ _ _ _ e, hg, if_true]
      | false => exact ObOk_ev ev (upd_other _ _ _ _ e) (by simp only [upd_other _ _ _ _ e, hg]; rfl) (hbl i hg) (h.rep.ob i)
  · intro i hi
    have hi' : st.nx + 1 ≤ i := hi
    have hne : i ≠ st.nx := by omega
    show upd ob' st.nx o i = _
    rw [upd_other _ _ _ _ hne, hob', h.rep.lt i (by omega)]
    simp
  · intro i j b hij hbi hbj
    simp only [upd_apply] at hbi hbj
    have aux : ∀ p, p ≠ st.nx → b ∈ bs → b ∈ (if gone p then [] else E.B p) → False := by
      intro p hp h1 h2
      cases hg : gone p with
      | true => simp [hg] at h2
      | false =>
        simp only [hg] at h2
        rcases (hb b h1).1 with ⟨q, hq, hbq⟩ | h3
        · exact h.rep.dj q p b (fun e => by subst e; simp [hg] at hq) hbq h2
        · have := (h.rep.bb p b h2).1; omega
    split at hbi <;> split at hbj
    · omega
    · exact aux j ‹_› hbi hbj
    · exact aux i ‹_› hbj hbi
    · cases hgi : gone i with
      | true => simp [hgi] at hbi
      | false =>
        cases hgj : gone j with
        | true => simp [hgj] at hbj
        | false =>
          simp only [hgi, hgj] at hbi hbj
          exact h.rep.dj i j b hij hbi hbj
  · intro i
    simp only [upd_apply]
    split
    · exact hn
    · split
      · exact List.nodup_nil
      · exact h.rep.nd i
  · intro i b hbi
    simp only [upd_apply] at hbi
    split at hbi
    · obtain ⟨h1, h2⟩ := hb b hbi
      refine ⟨?_, h2⟩
      rcases h1 with ⟨j, _, hj⟩ | h1
      · exact .inl ⟨j, hj⟩
      · exact .inr h1
    · cases hg : gone i with
      | true => simp [hg] at hbi
      | false =>
        simp only [hg] at hbi
        exact ⟨.inl ⟨i, hbi⟩, Nat.lt_of_lt_of_le (h.rep.bb i b hbi).1 hw.size⟩

end Go.Am
