/- The caller's objects behind a call. -/
import Derived.Test.YtmdmkakkodeniaaAmCall
set_option linter.unusedVariables false
set_option linter.unusedSimpArgs false
namespace Go.Am

/-- the caller's view behind a call -/
def aft (ro : Bool) (E' E2 : Env) (m : Mt) : Env where
  w := E2.w
  Z := if ro then E'.Z else E2.Z
  rho := fun i => if i < m.nx then E'.rho i else E2.rho (i - m.nx)
  B := fun i => if i < m.nx then (match inv m.sig i with
      | some j => E2.B j
      | none => if !ro && elemB i m.fz then [] else E'.B i)
    else (match sigAt m.sig (i - m.nx) with
      | some _ => []
      | none => E2.B (i - m.nx))

theorem findO_kind {inn : List (Nat × OS)} : ∀ {out : List (Nat × OS)} {j : Nat} {o o' : OS}, objsOk inn out = true → findO inn j = some o → findO out j = some o' → kindOk o o' = true
  | [], _, _, _, _, _, h => by cases h
  | x :: r, j, o, o', hk, hi, h => by
    simp only [objsOk, Bool.and_eq_true] at hk
    simp only [findO] at h
    split at h
    · rename_i e
      cases h
      obtain rfl := Nat.eq_of_beq_eq_true e
      rw [hi] at hk
      exact hk.1
    · exact findO_kind hk.2 hi h

theorem kindOk_lay {o o' : OS} (h : kindOk o o' = true) (x : o.Den) (y : o'.Den) : (o'.ob y).lay = (o.ob x).lay ∧ (o'.ob y).isBx = (o.ob x).isBx ∧
    ∀ fz v e t xs, o'.ob y = .sl fz v e t xs → ∃ xs0, o.ob x = .sl false 0 e t xs0 := by
  cases o <;> cases o' <;> simp only [kindOk] at h <;> first | (cases h; done) | skip
  · rename_i e t e' t'
    simp only [Bool.and_eq_true] at h
    obtain rfl := Nat.eq_of_beq_eq_true h.1
    obtain rfl := of_decide_eq_true h.2
    refine ⟨rfl, rfl, fun fz v e2 t2 xs he => ?_⟩
    simp only [OS.ob, Ob.sl.injEq] at he
    obtain ⟨-, -, rfl, rfl, _⟩ := he
    exact ⟨x, rfl⟩
  all_goals
    obtain rfl := of_decide_eq_true h
    exact ⟨rfl, rfl, fun fz v e2 t2 xs he => by simp [OS.ob] at he⟩

theorem ownsRow_len {w w' : World} {e e' : TypeId} {s s' n n' : Nat} {v : Value} {f f' : List Value} (h : w.ownsRow 0 e s v n f) (h' : w'.ownsRow 0 e' s' v n' f') : n = n' := by
  rcases h.2 with ⟨rfl, rfl⟩ | ⟨g, cap, cur, rfl, _⟩ <;> rcases h'.2 with ⟨h1, rfl⟩ | ⟨g', cap', cur', h1, _⟩ <;> first | rfl | (cases h1; rfl) | cases h1

section
variable {N : Nat} {E0 E E' E2 : Env} {st : St} {a : Act} {m : Mt} {c : Con} {x : c.inS.Den} {y : c.outS.Den} {tm args tm2 : Array Value}

theorem after_sound (hi : Inv N E0 E st a) (e : Ext E ⟨[], [], st.ob, st.nx⟩ E' m) (ok : MOk E' m tm) (k : SigOk (keys c.inS.objs) m.fz true m.sig) (kn : (keys m.sig).Nodup)
    (hm : ∀ j i, sigAt m.sig j = some i → ∃ o y, findO c.inS.objs j = some o ∧ (m.ob i).lay = (OS.ob o y).lay ∧ (m.ob i).isBx = (OS.ob o y).isBx ∧ ∀ (e : TypeId) (t : Ty) (xs0 : List t.Den), OS.ob o y = .sl false 0 e t xs0 → ∃ v0 xs1, m.ob i = .sl false v0 e t xs1)
    (hk : objsOk c.inS.objs c.outS.objs = true) (f : Fr (into E' m) E2) (r2 : Rep E2 (c.outS.st y) tm2) :
    Inv N E0 (aft c.outS.noRo E' E2 m) { sl := st.sl, ob := afterOb c m y, nx := m.nx + Nat.max 100 (maxId c.outS.objs) } a ∧
    ∀ s v, VRep E2 (c.outS.st y).ob (c.outS.st y).nx (slOf c.outS.slots (c.outS.pS y) s) v →
      VRep (aft c.outS.noRo E' E2 m) (afterOb c m y) (m.nx + Nat.max 100 (maxId c.outS.objs)) (renC (tau m) (slOf c.outS.slots (c.outS.pS y) s)) v := by
  generalize hro : c.outS.noRo = ro
  -- objects of the callee's, and of the caller's
  have hIw : (into E' m).w = E'.w := rfl
  have IB : ∀ j i, sigAt m.sig j = some i → (into E' m).B j = E'.B i := fun j i h => by simp only [into, h]
  have IBn : ∀ j b, b ∈ (into E' m).B j → ∃ i, sigAt m.sig j = some i ∧ b ∈ E'.B i := by
    intro j b hb
    simp only [into] at hb
    split at hb
    · rename_i i h; exact ⟨i, h, hb⟩
    · simp at hb
  have Irho : ∀ j i, sigAt m.sig j = some i → E2.rho j = E'.rho i := fun j i h => by
    rw [f.rho j (k.low rfl j i h)]; simp only [into, h]
  have e2lt : ∀ i b, b ∈ E2.B i → b < E2.w.heap.size ∧ ¬ E2.Z b := fun i b hb => r2.bb i b hb
  -- what no one of the callee's objects owns stands
  have still : ∀ b, b < E'.w.heap.size → (∀ j, b ∉ (into E' m).B j) → E2.w.heap[b]? = E'.w.heap[b]? := fun b hb ho => f.block b hb ho
  have notsig : ∀ i b, (∀ j, sigAt m.sig j ≠ some i) → b ∈ E'.B i → ∀ j, b ∉ (into E' m).B j := by
    intro i b hn hb j hj
    obtain ⟨i', h1, h2⟩ := IBn j b hj
    exact ok.rep.dj i i' b (fun e => hn j (by rw [e]; exact h1)) hb h2
  have zstill : ∀ b, (into E' m).Z b → E2.w.heap[b]? = E'.w.heap[b]? := by
    intro b hz
    have hnot : ∀ j, b ∉ (into E' m).B j := by
      intro j hj
      obtain ⟨i', h1, h2⟩ := IBn j b hj
      rcases hz with hz | ⟨i, h3, h4⟩
      · exact (ok.rep.bb i' b h2).2 hz
      · exact ok.rep.dj i' i b (fun e => k.fz j i' h1 (by rw [e]; exact h3)) h2 h4
    refine still b ?_ hnot
    rcases hz with hz | ⟨i, h3, h4⟩
    · exact ok.rep.zb b hz
    · exact (ok.rep.bb i b h4).1
  have Z3 : ∀ b, (aft ro E' E2 m).Z b → E2.Z b := by
    intro b hb
    simp only [aft] at hb
    cases ro with
    | true => simp only [if_true] at hb; exact f.z0 b (.inl hb)
    | false => simpa using hb
  have Z3' : ∀ b, E'.Z b → (aft ro E' E2 m).Z b := by
    intro b hb
    simp only [aft]
    cases ro with
    | true => simpa using hb
    | false => simpa using f.z0 b (.inl hb)
  -- the ids that the callee's take
  have tauok : ∀ j, j < Nat.max 100 (maxId c.outS.objs) → (aft ro E' E2 m).rho (tau m j) = E2.rho j ∧ tau m j < m.nx + Nat.max 100 (maxId c.outS.objs) := by
    intro j hj
    unfold tau
    cases h : sigAt m.sig j with
    | some i =>
      have hlt := ok.lt j i h
      simp only
      refine ⟨?_, by omega⟩
      simp only [aft, if_pos hlt]
      exact (Irho j i h).symm
    | none =>
      simp only
      refine ⟨?_, by omega⟩
      simp only [aft, if_neg (show ¬ m.nx + j < m.nx by omega), Nat.add_sub_cancel_left]
  have hz : (∀ b, E2.Z b → (aft ro E' E2 m).Z b) ∨ c.outS.noRo = true := by
    cases ro with
    | true => exact .inr hro
    | false => exact .inl fun b hb => by simpa [aft] using hb
  have hzS : (∀ b, E2.Z b → (aft ro E' E2 m).Z b) ∨ (c.outS.slots.all fun z => z.2.noRo) = true := hz.imp id (fun h => by simp only [SS.noRo, Bool.and_eq_true] at h; exact h.1)
  have hzO : ∀ os, os ∈ c.outS.objs.map (·.2) → (∀ b, E2.Z b → (aft ro E' E2 m).Z b) ∨ os.noRo = true := by
    intro os hos
    refine hz.imp id (fun h => ?_)
    simp only [SS.noRo, Bool.and_eq_true] at h
    obtain ⟨z, hz1, hz2⟩ := List.mem_map.1 hos
    have := List.all_eq_true.1 h.2 z hz1
    rw [hz2] at this
    exact this
  -- the objects, one by one
  have obS : ∀ i j, i < m.nx → inv m.sig i = some j → afterOb c m y i = renO (tau m) (verOf (m.ob i) + 1) (obOf c.outS.objs (c.outS.pO y) j) := by
    intro i j h1 h2
    unfold afterOb
    rw [show Nat.blt i m.nx = true from Nat.ble_eq_true_of_le h1]
    simp only [h2]
  have obF : ∀ i, i < m.nx → inv m.sig i = none → (!ro && elemB i m.fz) = true → afterOb c m y i = frzO (m.ob i) := by
    intro i h1 h2 h3
    unfold afterOb
    rw [show Nat.blt i m.nx = true from Nat.ble_eq_true_of_le h1]
    simp only [h2, hro, h3]
  have obU : ∀ i, i < m.nx → inv m.sig i = none → (!ro && elemB i m.fz) = false → afterOb c m y i = m.ob i := by
    intro i h1 h2 h3
    unfold afterOb
    rw [show Nat.blt i m.nx = true from Nat.ble_eq_true_of_le h1]
    simp only [h2, hro, h3]
  have bltf : ∀ i, ¬ i < m.nx → Nat.blt i m.nx = false := by
    intro i h
    cases e : Nat.blt i m.nx with
    | false => rfl
    | true => exact absurd (Nat.le_of_ble_eq_true e) h
  have obD : ∀ i, ¬ i < m.nx → (∃ q, sigAt m.sig (i - m.nx) = some q) → afterOb c m y i = .dead := by
    intro i h1 ⟨q, h2⟩
    unfold afterOb
    rw [bltf i h1]
    simp only [h2]
  have obN : ∀ i, ¬ i < m.nx → sigAt m.sig (i - m.nx) = none → afterOb c m y i = renO (tau m) 0 (obOf c.outS.objs (c.outS.pO y) (i - m.nx)) := by
    intro i h1 h2
    unfold afterOb
    rw [bltf i h1]
    simp only [h2]
  -- who owns what
  have BS : ∀ i j, i < m.nx → inv m.sig i = some j → (aft ro E' E2 m).B i = E2.B j := fun i j h1 h2 => by simp only [aft, if_pos h1, h2]
  have BF : ∀ i, i < m.nx → inv m.sig i = none → (!ro && elemB i m.fz) = true → (aft ro E' E2 m).B i = [] := fun i h1 h2 h3 => by simp only [aft, if_pos h1, h2, h3, if_true]
  have BU : ∀ i, i < m.nx → inv m.sig i = none → (!ro && elemB i m.fz) = false → (aft ro E' E2 m).B i = E'.B i := fun i h1 h2 h3 => by simp only [aft, if_pos h1, h2, h3]; rfl
  have BD : ∀ i, ¬ i < m.nx → (∃ q, sigAt m.sig (i - m.nx) = some q) → (aft ro E' E2 m).B i = [] := fun i h1 ⟨q, h2⟩ => by simp only [aft, if_neg h1, h2]
  have BN : ∀ i, ¬ i < m.nx → sigAt m.sig (i - m.nx) = none → (aft ro E' E2 m).B i = E2.B (i - m.nx) := fun i h1 h2 => by simp only [aft, if_neg h1, h2]
  have obren : ∀ j i ver, (aft ro E' E2 m).rho i = E2.rho j → (aft ro E' E2 m).B i = E2.B j →
      ObOk (aft ro E' E2 m) (afterOb c m y) (m.nx + Nat.max 100 (maxId c.outS.objs)) i (renO (tau m) ver (obOf c.outS.objs (c.outS.pO y) j)) := by
    intro j i ver h1 h2
    have ho : ObOk E2 (c.outS.st y).ob (c.outS.st y).nx j (obOf c.outS.objs (c.outS.pO y) j) := r2.ob j
    rcases obOf_cases c.outS.objs (c.outS.pO y) j with ⟨_, h3⟩ | ⟨os, z, h3, _, h4⟩
    · rw [h3] at ho ⊢
      show (aft ro E' E2 m).B i = []
      rw [h2]; exact ho
    · rw [h4] at ho ⊢
      exact ObOk_ren (E := E2) (F := aft ro E' E2 m) rfl tauok os z j i ver h1 h2 (hzO os h3) ho
  -- lengths
  have lay : ∀ i, i < m.nx → (∀ u, (afterOb c m y i).lay = some u → (m.ob i).lay = some u) ∧ ((afterOb c m y i).isBx = true → (m.ob i).isBx = true) := by
    intro i hi'
    cases hv : inv m.sig i with
    | some j =>
      rw [obS i j hi' hv, lay_ren, bx_ren]
      have hs := inv_sig kn hv
      obtain ⟨o, z, h1, h2, h3, _⟩ := hm j i hs
      rw [h2, h3]
      rcases obOf_cases c.outS.objs (c.outS.pO y) j with ⟨_, h4⟩ | ⟨os, z', _, h5, h4⟩
      · rw [h4]; exact ⟨fun u h => by simp [Ob.lay] at h, fun h => by simp [Ob.isBx] at h⟩
      · rw [h4]
        obtain ⟨l1, l2, _⟩ := kindOk_lay (findO_kind hk h1 h5) z z'
        rw [l1, l2]
        exact ⟨fun u h => h, fun h => h⟩
    | none =>
      cases hf : (!ro && elemB i m.fz) with
      | true =>
        rw [obF i hi' hv hf]
        cases m.ob i with
        | sl fz v e t xs => exact ⟨fun u h => by simpa [frzO, Ob.lay] using h, fun h => by simp [frzO, Ob.isBx] at h⟩
        | _ => exact ⟨fun u h => by simp [frzO, Ob.lay] at h, fun h => by simp [frzO, Ob.isBx] at h⟩
      | false =>
        rw [obU i hi' hv hf]
        exact ⟨fun _ h => h, fun h => h⟩
  have fzmem : ∀ i, (!ro && elemB i m.fz) = true → ro = false ∧ i ∈ m.fz := by
    intro i h
    cases ro with
    | true => simp at h
    | false => exact ⟨rfl, (elemB_iff i m.fz).1 (by simpa using h)⟩
  have ev : Ev E' m.ob m.nx (aft ro E' E2 m) (afterOb c m y) (m.nx + Nat.max 100 (maxId c.outS.objs)) := by
    refine ⟨Nat.le_add_right _ _, fun i hi' => by simp only [aft, if_pos hi'], Z3', fun b hb => zstill b (.inl hb), fun i hi' => (lay i hi').1, fun i hi' => (lay i hi').2, ?_⟩
    intro i hi' fz v e t xs ho
    cases hv : inv m.sig i with
    | some j =>
      rw [obS i j hi' hv] at ho
      have hs := inv_sig kn hv
      obtain ⟨o, z, h1, h2, h3, h3'⟩ := hm j i hs
      rcases obOf_cases c.outS.objs (c.outS.pO y) j with ⟨_, h4⟩ | ⟨os, z', _, h5, h4⟩
      · rw [h4] at ho; simp [renO] at ho
      · have r2o : ObOk E2 (c.outS.st y).ob (c.outS.st y).nx j (obOf c.outS.objs (c.outS.pO y) j) := r2.ob j
        rw [h4] at ho r2o
        cases hos : os.ob z' with
        | sl fz2 v2 e2 t2 xs2 =>
          rw [hos] at ho r2o
          simp only [renO, Ob.sl.injEq] at ho
          obtain ⟨rfl, rfl, rfl, rfl, hxs⟩ := ho
          have hxs := eq_of_heq hxs
          subst hxs
          obtain ⟨xs0, hx0⟩ := (kindOk_lay (findO_kind hk h1 h5) z z').2.2 _ _ _ _ _ hos
          obtain ⟨v0, xs1, hx1⟩ := h3' _ _ xs0 hx0
          have hob := ok.rep.ob i
          simp only [hx1] at hob
          have hfz : fz2 = false := by cases os <;> simp [OS.ob] at hos; first | exact hos.1 | exact hos.1.symm
          subst hfz
          obtain ⟨w1, f1, n1, a1, a2, _, _⟩ := hob
          obtain ⟨w2, f2, n2, b1, b2, _, _⟩ := r2o
          rw [Irho j i hs, a1] at b1
          obtain rfl : w1 = w2 := by simpa using b1
          refine ⟨false, v0, xs1, hx1, ownsRow_len a2 b2, by rw [hx1]; simp [verOf], fun e => ?_⟩
          rw [hx1] at e
          simp [verOf] at e
        | box u c => rw [hos] at ho; simp [renO] at ho
        | obox b u c => rw [hos] at ho; simp [renO] at ho
        | dead => rw [hos] at ho; simp [renO] at ho
    | none =>
      have hns := inv_none hv
      cases hf : (!ro && elemB i m.fz) with
      | true =>
        rw [obF i hi' hv hf] at ho
        obtain ⟨hro', hfz⟩ := fzmem i hf
        cases hmo : m.ob i with
        | sl fz0 v0 e0 t0 xs0 =>
          rw [hmo] at ho
          simp only [frzO, Ob.sl.injEq] at ho
          obtain ⟨rfl, rfl, rfl, rfl, hxs⟩ := ho
          have hxs := eq_of_heq hxs
          subst hxs
          refine ⟨fz0, v0, _, rfl, rfl, Nat.le_refl _, fun _ => ⟨rfl, fun b hb => ?_⟩⟩
          have hz' : (into E' m).Z b := by
            rcases hb with hb | hb
            · exact .inr ⟨i, hfz, hb⟩
            · exact .inl hb
          refine ⟨zstill b hz', .inr ?_⟩
          simp only [aft, hro']
          exact f.z0 b hz'
        | box u c => rw [hmo] at ho; simp [frzO] at ho
        | obox b u c => rw [hmo] at ho; simp [frzO] at ho
        | dead => rw [hmo] at ho; simp [frzO] at ho
      | false =>
        rw [obU i hi' hv hf] at ho
        refine ⟨fz, v, xs, ho, rfl, Nat.le_refl _, fun _ => ⟨rfl, fun b hb => ?_⟩⟩
        rcases hb with hb | hb
        · exact ⟨still b (ok.rep.bb i b hb).1 (notsig i b hns hb), .inl (by rw [BU i hi' hv hf]; exact hb)⟩
        · exact ⟨zstill b (.inl hb), .inr (Z3' b hb)⟩
  -- who owned what before
  have origin : ∀ i b, b ∈ (aft ro E' E2 m).B i → (b ∈ E'.B i ∧ i < m.nx ∧ inv m.sig i = none ∧ (!ro && elemB i m.fz) = false) ∨ (∃ j, b ∈ E2.B j ∧ ((i < m.nx ∧ inv m.sig i = some j) ∨ (¬ i < m.nx ∧ j = i - m.nx ∧ sigAt m.sig j = none))) := by
    intro i b hb
    by_cases h1 : i < m.nx
    · cases hv : inv m.sig i with
      | some j => rw [BS i j h1 hv] at hb; exact .inr ⟨j, hb, .inl ⟨h1, rfl⟩⟩
      | none =>
        cases hf : (!ro && elemB i m.fz) with
        | true => rw [BF i h1 hv hf] at hb; simp at hb
        | false => rw [BU i h1 hv hf] at hb; exact .inl ⟨hb, h1, rfl, rfl⟩
    · cases hs : sigAt m.sig (i - m.nx) with
      | some q => rw [BD i h1 ⟨q, hs⟩] at hb; simp at hb
      | none => rw [BN i h1 hs] at hb; exact .inr ⟨_, hb, .inr ⟨h1, rfl, hs⟩⟩
  have e2own : ∀ j b, b ∈ E2.B j → (∃ j' i, sigAt m.sig j' = some i ∧ b ∈ E'.B i) ∨ E'.w.heap.size ≤ b := by
    intro j b hb
    rcases f.own j b hb with ⟨j', h1⟩ | h1
    · obtain ⟨i, h2, h3⟩ := IBn j' b h1
      exact .inl ⟨j', i, h2, h3⟩
    · exact .inr h1
  have apart : ∀ i j b, b ∈ E'.B i → inv m.sig i = none → b ∈ E2.B j → False := by
    intro i j b hb hv hj
    rcases e2own j b hj with ⟨j', i', h1, h2⟩ | h1
    · exact ok.rep.dj i i' b (fun e => inv_none hv j' (by rw [e]; exact h1)) hb h2
    · have := (ok.rep.bb i b hb).1; omega
  constructor
  · have hrep0 : Rep E' { sl := st.sl, ob := m.ob, nx := m.nx } a.tmps :=
      ⟨fun s => VRep_ev e.ev (hi.rep.sl s), ok.rep.ob, ok.rep.lt, ok.rep.dj, ok.rep.nd, ok.rep.bb, ok.rep.zb⟩
    refine ⟨hrep0.turn rfl ev ?_ ?_ ?_ ?_ ?_ ?_, ?_, hi.defers, hi.size, Nat.le_trans hi.nx (Nat.le_trans e.nx (Nat.le_add_right _ _))⟩
    · intro i
      by_cases h1 : i < m.nx
      · cases hv : inv m.sig i with
        | some j =>
          show ObOk _ _ _ i (afterOb c m y i)
          rw [obS i j h1 hv]
          refine obren j i _ ?_ (BS i j h1 hv)
          simp only [aft, if_pos h1]
          exact (Irho j i (inv_sig kn hv)).symm
        | none =>
          have hns := inv_none hv
          cases hf : (!ro && elemB i m.fz) with
          | true =>
            show ObOk _ _ _ i (afterOb c m y i)
            rw [obF i h1 hv hf]
            obtain ⟨hro', hfz⟩ := fzmem i hf
            have hob := ok.rep.ob i
            cases hmo : m.ob i with
            | sl fz0 v0 e0 t0 xs0 =>
              simp only [hmo] at hob
              have hrd : Rd (aft ro E' E2 m).w (aft ro E' E2 m).Z (.list e0 t0) xs0 [E'.rho i] := by
                have z3 : ∀ b, (into E' m).Z b → (aft ro E' E2 m).Z b := fun b hb => by simp only [aft, hro']; exact f.z0 b hb
                cases fz0 with
                | false => exact Rd_mono (fun b hb => z3 b (.inr ⟨i, hfz, hb⟩)) (fun b hb => zstill b (.inr ⟨i, hfz, hb⟩)) _ _ _ (Ow_Rd _ _ _ _ hob)
                | true => exact Rd_mono (fun b hb => z3 b (.inl hb)) (fun b hb => zstill b (.inl hb)) _ _ _ hob.1
              refine ⟨?_, BF i h1 hv hf⟩
              rw [show (aft ro E' E2 m).rho i = E'.rho i by simp only [aft, if_pos h1]]
              exact hrd
            | box u c => exact BF i h1 hv hf
            | obox b u c => exact BF i h1 hv hf
            | dead => exact BF i h1 hv hf
          | false =>
            show ObOk _ _ _ i (afterOb c m y i)
            rw [obU i h1 hv hf]
            exact ObOk_ev ev (by simp only [aft, if_pos h1]) (BU i h1 hv hf) (fun b hb => still b (ok.rep.bb i b hb).1 (notsig i b hns hb)) (ok.rep.ob i)
      · cases hs : sigAt m.sig (i - m.nx) with
        | some q =>
          show ObOk _ _ _ i (afterOb c m y i)
          rw [obD i h1 ⟨q, hs⟩]
          exact BD i h1 ⟨q, hs⟩
        | none =>
          show ObOk _ _ _ i (afterOb c m y i)
          rw [obN i h1 hs]
          exact obren _ i _ (by simp only [aft, if_neg h1]) (BN i h1 hs)
    · intro i hi'
      have hi' : m.nx + Nat.max 100 (maxId c.outS.objs) ≤ i := hi'
      have h1 : ¬ i < m.nx := by omega
      show afterOb c m y i = .dead
      cases hs : sigAt m.sig (i - m.nx) with
      | some q => exact obD i h1 ⟨q, hs⟩
      | none =>
        rw [obN i h1 hs]
        have : obOf c.outS.objs (c.outS.pO y) (i - m.nx) = .dead := r2.lt (i - m.nx) (by show Nat.max 100 (maxId c.outS.objs) ≤ _; omega)
        rw [this]; rfl
    · intro i i' b hne hb hb'
      rcases origin i b hb with ⟨h1, _, h1v, _⟩ | ⟨j, h1, h2⟩ <;> rcases origin i' b hb' with ⟨h1', _, h1v', _⟩ | ⟨j', h1', h2'⟩
      · exact ok.rep.dj i i' b hne h1 h1'
      · exact apart i j' b h1 h1v h1'
      · exact apart i' j b h1' h1v' h1
      · refine r2.dj j j' b ?_ h1 h1'
        intro ejj
        subst ejj
        rcases h2 with ⟨h2, h3⟩ | ⟨h2, h3, h4⟩ <;> rcases h2' with ⟨h2', h3'⟩ | ⟨h2', h3', h4'⟩
        · have p1 := inv_sig kn h3
          have p2 := inv_sig kn h3'
          rw [p1] at p2
          exact hne (by simpa using p2)
        · have p1 := inv_sig kn h3
          rw [h4'] at p1; cases p1
        · have p1 := inv_sig kn h3'
          rw [h4] at p1; cases p1
        · omega
    · intro i
      by_cases h1 : i < m.nx
      · cases hv : inv m.sig i with
        | some j => rw [BS i j h1 hv]; exact r2.nd j
        | none =>
          cases hf : (!ro && elemB i m.fz) with
          | true => rw [BF i h1 hv hf]; exact List.nodup_nil
          | false => rw [BU i h1 hv hf]; exact ok.rep.nd i
      · cases hs : sigAt m.sig (i - m.nx) with
        | some q => rw [BD i h1 ⟨q, hs⟩]; exact List.nodup_nil
        | none => rw [BN i h1 hs]; exact r2.nd _
    · intro i b hb
      rcases origin i b hb with ⟨h1, h2, h3, h4⟩ | ⟨j, h1, _⟩
      · obtain ⟨p1, p2⟩ := ok.rep.bb i b h1
        refine ⟨Nat.lt_of_lt_of_le p1 f.size, fun hz3 => ?_⟩
        cases ro with
        | true => simp only [aft, if_true] at hz3; exact p2 hz3
        | false =>
          have hz3 : E2.Z b := by simpa [aft] using hz3
          rcases f.z1 b hz3 with hz | ⟨j, hj⟩ | hz
          · rcases hz with hz | ⟨i', h5, h6⟩
            · exact p2 hz
            · have : i ≠ i' := fun e => by
                subst e
                simp only [Bool.not_false, Bool.true_and] at h4
                rw [(elemB_iff i m.fz).2 h5] at h4
                cases h4
              exact ok.rep.dj i i' b this h1 h6
          · exact notsig i b (inv_none h3) h1 j hj
          · have : E'.w.heap.size ≤ b := hz
            omega
      · exact ⟨(r2.bb j b h1).1, fun hz3 => (r2.bb j b h1).2 (Z3 b hz3)⟩
    · intro b hb
      exact r2.zb b (Z3 b hb)
    · have hE : Fr E E' := ⟨by rw [e.w], by rw [e.w], by rw [e.w], by rw [e.w]; exact Nat.le_refl _, fun _ _ _ => by rw [e.w], fun i b hb => .inl ⟨i, by rw [← e.B]; exact hb⟩, fun b hb => by rw [e.Z]; exact hb,
        fun b hb => .inl (by rw [← e.Z]; exact hb), fun i hi' => e.rho i (Nat.lt_of_lt_of_le hi' hi.nx)⟩
      refine (hi.fr.trans hE).trans ⟨f.os, f.tape, f.output, f.size, ?_, ?_, Z3', ?_, ?_⟩
      · intro b hb ho
        refine still b hb fun j hj => ?_
        obtain ⟨i, _, h2⟩ := IBn j b hj
        exact ho i h2
      · intro i b hb
        rcases origin i b hb with ⟨h1, _⟩ | ⟨j, h1, _⟩
        · exact .inl ⟨i, h1⟩
        · rcases e2own j b h1 with ⟨_, i', _, h2⟩ | h2
          · exact .inl ⟨i', h2⟩
          · exact .inr h2
      · intro b hb
        cases ro with
        | true => simp only [aft, if_true] at hb; exact .inl hb
        | false =>
          have hb : E2.Z b := by simpa [aft] using hb
          rcases f.z1 b hb with hz | ⟨j, hj⟩ | hz
          · rcases hz with hz | ⟨i', _, h6⟩
            · exact .inl hz
            · exact .inr (.inl ⟨i', h6⟩)
          · obtain ⟨i, _, h2⟩ := IBn j b hj
            exact .inr (.inl ⟨i, h2⟩)
          · exact .inr (.inr hz)
      · intro i hi'
        have : i < m.nx := Nat.lt_of_lt_of_le hi' (Nat.le_trans hi.nx e.nx)
        simp only [aft, if_pos this]
  · intro s v hv
    exact VRep_ren (E := E2) (F := aft ro E' E2 m) rfl tauok _ _ s v hzS hv
end

end Go.Am
