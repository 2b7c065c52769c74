/- A state that is matched against a shape is the shape's state, in another view of the same world. -/
import Derived.Test.YtmdmkakkodeniaaAmOps12
set_option linter.unusedVariables false
set_option linter.unusedSimpArgs false
namespace Go.Am

/-- the same world, some ids more -/
structure Ext (E : Env) (m : Mt) (E' : Env) (m' : Mt) : Prop where
  w : E'.w = E.w
  Z : E'.Z = E.Z
  B : E'.B = E.B
  rho : ∀ i, i < m.nx → E'.rho i = E.rho i
  nx : m.nx ≤ m'.nx
  ob : ∀ i, i < m.nx → m'.ob i = m.ob i
  sig : ∀ j i, sigAt m.sig j = some i → sigAt m'.sig j = some i
  fz : ∀ i, i ∈ m.fz → i ∈ m'.fz

theorem Ext.refl (E : Env) (m : Mt) : Ext E m E m := ⟨rfl, rfl, rfl, fun _ _ => rfl, Nat.le_refl _, fun _ _ => rfl, fun _ _ h => h, fun _ h => h⟩
theorem Ext.trans {E E1 E2 : Env} {m m1 m2 : Mt} (h : Ext E m E1 m1) (k : Ext E1 m1 E2 m2) : Ext E m E2 m2 :=
  ⟨k.w.trans h.w, k.Z.trans h.Z, k.B.trans h.B, fun i hi => (k.rho i (Nat.lt_of_lt_of_le hi h.nx)).trans (h.rho i hi), Nat.le_trans h.nx k.nx,
   fun i hi => (k.ob i (Nat.lt_of_lt_of_le hi h.nx)).trans (h.ob i hi), fun j i e => k.sig j i (h.sig j i e), fun i e => k.fz i (h.fz i e)⟩

theorem Ext.ev {E E' : Env} {m m' : Mt} (h : Ext E m E' m') : Ev E m.ob m.nx E' m'.ob m'.nx where
  le := h.nx
  rho := h.rho
  z := fun b hb => by rw [h.Z]; exact hb
  hz := fun b _ => by rw [h.w]
  lay := fun i hi u hu => by rw [h.ob i hi] at hu; exact hu
  bx := fun i hi hu => by rw [h.ob i hi] at hu; exact hu
  obs := fun i hi fz v e t xs ho => ⟨fz, v, xs, by rw [h.ob i hi] at ho; exact ho, rfl, Nat.le_refl _, fun _ => ⟨rfl, fun b hb => ⟨by rw [h.w], by rw [h.B, h.Z]; exact hb⟩⟩⟩

/-- what must hold of a view for what has been matched to read there -/
structure Vw (E : Env) (m : Mt) (F : Env) (nx : Nat) : Prop where
  w : F.w = E.w
  z : ∀ b, E.Z b → F.Z b
  fz : ∀ i, i ∈ m.fz → ∀ b, b ∈ E.B i → F.Z b
  rho : ∀ j i, sigAt m.sig j = some i → j < nx ∧ F.rho j = E.rho i
  lt : ∀ j i, sigAt m.sig j = some i → i < m.nx

theorem Vw.back {E E' : Env} {m m' : Mt} {F : Env} {nx : Nat} (h : Ext E m E' m') (v : Vw E' m' F nx) (hl : ∀ j i, sigAt m.sig j = some i → i < m.nx) : Vw E m F nx where
  w := v.w.trans h.w
  z := fun b hb => v.z b (by rw [h.Z]; exact hb)
  fz := fun i hi b hb => v.fz i (h.fz i hi) b (by rw [h.B]; exact hb)
  rho := fun j i e => ⟨(v.rho j i (h.sig j i e)).1, ((v.rho j i (h.sig j i e)).2).trans (h.rho i (hl j i e))⟩
  lt := hl

def SigLt (m : Mt) : Prop := ∀ j i, sigAt m.sig j = some i → i < m.nx

theorem Rd_view {E F : Env} {m : Mt} {nx : Nat} (v : Vw E m F nx) {S : Nat → Prop} (hS : ∀ b, S b → F.Z b) (t : Ty) (x : t.Den) (cs : List Value) (h : Rd E.w S t x cs) : Rd F.w F.Z t x cs :=
  Rd_mono hS (fun b _ => by rw [v.w]) t x cs h

theorem toDV_sound {tmp : Bool} {E : Env} {nx0 : Nat} : ∀ (c : Cn) (m m' : Mt) (d : DV) (cs : List Value), toDV tmp m c = some (d, m') → (∀ i, ObOk E m.ob nx0 i (m.ob i)) →
    CRep E m.ob nx0 c false cs → m'.sig = m.sig ∧ m'.ob = m.ob ∧ m'.nx = m.nx ∧ (∀ i, i ∈ m.fz → i ∈ m'.fz) ∧ d.ty.isAgg = c.isAgg ∧
    ∀ F : Env, F.w = E.w → (∀ b, E.Z b → F.Z b) → (∀ i, i ∈ m'.fz → ∀ b, b ∈ E.B i → F.Z b) → Rd F.w F.Z d.ty d.v cs := by
  intro c
  induction c with
  | ro b d0 =>
    intro m m' d cs h hob hc
    cases b with
    | none =>
      simp only [toDV, Option.some.injEq, Prod.mk.injEq] at h
      obtain ⟨rfl, rfl⟩ := h
      exact ⟨rfl, rfl, rfl, fun _ h => h, rfl, fun F hw hz hf => Rd_mono hz (fun b _ => by rw [hw]) _ _ _ (hc.2.2 trivial)⟩
    | some p =>
      obtain ⟨i, ver⟩ := p
      simp only [toDV] at h
      split at h
      · rename_i fz v e t xs hi
        split at h
        · rename_i hv
          cases h
          have hv := Nat.eq_of_beq_eq_true hv
          subst hv
          refine ⟨rfl, rfl, rfl, fun _ h => List.mem_cons_of_mem _ h, rfl, fun F hw hz hf => ?_⟩
          refine Rd_mono (fun b hb => ?_) (fun b _ => by rw [hw]) _ _ _ (hc.2.2 (by simp only [live, fresh, hi]))
          rcases hb with hb | hb
          · exact hf i (List.mem_cons_self ..) b hb
          · exact hz b hb
        · cases h
      · cases h
  | nils e t =>
    intro m m' d cs h hob hc
    simp only [toDV, Option.some.injEq, Prod.mk.injEq] at h
    obtain ⟨rfl, rfl⟩ := h
    have hc : cs = [.slice none 0 0] := hc
    refine ⟨rfl, rfl, rfl, fun _ h => h, rfl, fun F hw hz hf => ?_⟩
    exact ⟨none, 0, 0, [], hc, rfl, Nat.le_refl _, rfl, by simp, by intro j u hu; simp at hu, by omega, fun _ => rfl⟩
  | h i =>
    intro m m' d cs h hob hc
    simp only [toDV] at h
    have ho := hob i
    split at h
    · rename_i fz v e t xs hi
      cases h
      rw [hi] at ho
      refine ⟨rfl, rfl, rfl, fun _ h => List.mem_cons_of_mem _ h, rfl, fun F hw hz hf => ?_⟩
      have hcs : cs = [E.rho i] := hc.2.2
      subst hcs
      cases fz with
      | false => exact Rd_mono (fun b hb => hf i (List.mem_cons_self ..) b hb) (fun b _ => by rw [hw]) _ _ _ (Ow_Rd _ _ _ _ ho)
      | true => exact Rd_mono (fun b hb => hz b hb) (fun b _ => by rw [hw]) _ _ _ ho.1
    · cases h
  | nil =>
    intro m m' d cs h hob hc
    simp only [toDV, Option.some.injEq, Prod.mk.injEq] at h
    obtain ⟨rfl, rfl⟩ := h
    exact ⟨rfl, rfl, rfl, fun _ h => h, rfl, fun F hw hz hf => hc⟩
  | cons a b iha ihb =>
    intro m m' d cs h hob hc
    simp only [toDV] at h
    split at h
    · rename_i x m1 h1
      split at h
      · rename_i y m2 h2
        cases h
        obtain ⟨ca, cb, rfl, hca, hcb⟩ := hc
        obtain ⟨s1, o1, n1, f1, g1, k1⟩ := iha _ _ _ _ h1 hob hca
        obtain ⟨s2, o2, n2, f2, g2, k2⟩ := ihb _ _ _ _ h2 (by rw [o1]; exact hob) (by rw [o1]; exact hcb)
        exact ⟨s2.trans s1, o2.trans o1, n2.trans n1, fun i h => f2 i (f1 i h), rfl, fun F hw hz hf => ⟨ca, cb, rfl, k1 F hw hz (fun i hi => hf i (f2 i hi)), k2 F hw hz hf⟩⟩
      · cases h
    · cases h
  | agg a ih =>
    intro m m' d cs h hob hc
    simp only [toDV] at h
    split at h
    · rename_i x m1 h1
      cases h
      obtain ⟨s1, o1, n1, f1, g1, k1⟩ := ih _ _ _ _ h1 hob hc
      exact ⟨s1, o1, n1, f1, rfl, fun F hw hz hf => k1 F hw hz hf⟩
    · cases h
  | p i => intro m m' d cs h hob hc; simp [toDV] at h
  | addr _ _ _ _ _ _ => intro m m' d cs h hob hc; simp [toDV] at h
  | rdp b d0 => intro m m' d cs h hob hc; simp [toDV] at h
  | fn f c _ => intro m m' d cs h hob hc; simp [toDV] at h
  | tup c _ => intro m m' d cs h hob hc; simp [toDV] at h
  | cst v => intro m m' d cs h hob hc; simp [toDV] at h
  | dead => intro m m' d cs h hob hc; simp [toDV] at h

theorem Ext.same {E : Env} {m m' : Mt} (s : m'.sig = m.sig) (o : m'.ob = m.ob) (n : m'.nx = m.nx) (f : ∀ i, i ∈ m.fz → i ∈ m'.fz) : Ext E m E m' :=
  ⟨rfl, rfl, rfl, fun _ _ => rfl, by rw [n]; exact Nat.le_refl _, fun i _ => by rw [o], fun j i h => by rw [s]; exact h, f⟩

/-- the rows of the match so far: objects that stand, ids told that are there -/
structure MOk (E : Env) (m : Mt) (tm : Array Value) : Prop where
  rep : Rep E ⟨fun _ => .dead, m.ob, m.nx⟩ tm
  lt : SigLt m

theorem MOk.ob {E : Env} {m : Mt} {tm : Array Value} (h : MOk E m tm) (i : Nat) : ObOk E m.ob m.nx i (m.ob i) := h.rep.ob i

theorem MOk.same {E : Env} {m m' : Mt} {tm : Array Value} (h : MOk E m tm) (s : m'.sig = m.sig) (o : m'.ob = m.ob) (n : m'.nx = m.nx) : MOk E m' tm :=
  ⟨by rw [o, n]; exact h.rep, fun j i e => by rw [n]; rw [s] at e; exact h.lt j i e⟩

theorem sigAt_cons {j i k : Nat} {s : List (Nat × Nat)} : sigAt ((j, i) :: s) k = if j = k then some i else sigAt s k := by
  simp only [sigAt]
  by_cases e : j = k
  · subst e; simp
  · have : Nat.beq j k = false := by
      cases h : Nat.beq j k with
      | false => rfl
      | true => exact absurd (Nat.eq_of_beq_eq_true h) e
    simp [this, e]

/-- an id is told -/
theorem put_sound {E : Env} {m m' : Mt} {tm : Array Value} {j i : Nat} (h : m.put j i = some m') (ok : MOk E m tm) (hi : i < m.nx) :
    Ext E m E m' ∧ MOk E m' tm ∧ sigAt m'.sig j = some i := by
  unfold Mt.put at h
  split at h
  · rename_i i' hs
    split at h
    · rename_i hb
      obtain rfl := Nat.eq_of_beq_eq_true hb
      cases h
      exact ⟨Ext.refl _ _, ok, hs⟩
    · cases h
  · rename_i hs
    cases h
    refine ⟨⟨rfl, rfl, rfl, fun _ _ => rfl, Nat.le_refl _, fun _ _ => rfl, fun k l e => ?_, fun _ h => h⟩, ⟨ok.rep, fun k l e => ?_⟩, ?_⟩
    · show sigAt ((j, i) :: m.sig) k = some l
      rw [sigAt_cons]
      split
      · rename_i e'; subst e'; rw [hs] at e; cases e
      · exact e
    · have e : sigAt ((j, i) :: m.sig) k = some l := e
      rw [sigAt_cons] at e
      split at e
      · cases e; exact hi
      · exact ok.lt k l e
    · show sigAt ((j, i) :: m.sig) j = some i
      rw [sigAt_cons, if_pos rfl]

/-- a new object that owns no memory -/
theorem new_sound {E : Env} {m : Mt} {tm : Array Value} {j : Nat} {o : Ob} {v : Value} (ok : MOk E m tm) (hs : sigAt m.sig j = none)
    (ho : ∀ F : Env, F.rho m.nx = v → F.B m.nx = [] → ∀ ob nx, ObOk F ob nx m.nx o) :
    Ext E m { E with rho := upd E.rho m.nx v } { m with sig := (j, m.nx) :: m.sig, ob := upd m.ob m.nx o, nx := m.nx + 1 } ∧
    MOk { E with rho := upd E.rho m.nx v } { m with sig := (j, m.nx) :: m.sig, ob := upd m.ob m.nx o, nx := m.nx + 1 } tm := by
  have hext : Ext E m { E with rho := upd E.rho m.nx v } { m with sig := (j, m.nx) :: m.sig, ob := upd m.ob m.nx o, nx := m.nx + 1 } :=
    ⟨rfl, rfl, rfl, fun i hi => upd_other _ _ _ _ (by omega), Nat.le_succ _, fun i hi => upd_other _ _ _ _ (by omega), fun k l e => by
      show sigAt ((j, m.nx) :: m.sig) k = some l
      rw [sigAt_cons]
      split
      · rename_i e'; subst e'; rw [hs] at e; cases e
      · exact e, fun _ h => h⟩
  have hB : E.B m.nx = [] := by
    have := ok.rep.ob m.nx
    have hd := ok.rep.lt m.nx (Nat.le_refl _)
    simp only at hd this
    rw [hd] at this
    exact this
  refine ⟨hext, ⟨⟨fun s => trivial, fun i => ?_, fun i hi => ?_, ok.rep.dj, ok.rep.nd, ok.rep.bb, ok.rep.zb⟩, fun k l e => ?_⟩⟩
  · by_cases e : i = m.nx
    · subst e
      show ObOk _ _ _ _ (upd m.ob m.nx o m.nx)
      rw [upd_same]
      exact ho { E with rho := upd E.rho m.nx v } (upd_same _ _ _) hB _ _
    · show ObOk _ _ _ _ (upd m.ob m.nx o i)
      rw [upd_other _ _ _ _ e]
      exact ObOk_ev hext.ev (upd_other _ _ _ _ e) rfl (fun _ _ => rfl) (ok.rep.ob i)
  · have hi' : m.nx + 1 ≤ i := hi
    show upd m.ob m.nx o i = _
    rw [upd_other _ _ _ _ (by omega)]
    exact ok.rep.lt i (by show m.nx ≤ i; omega)
  · have e : sigAt ((j, m.nx) :: m.sig) k = some l := e
    rw [sigAt_cons] at e
    show l < m.nx + 1
    split at e
    · cases e; omega
    · have := ok.lt k l e; omega

theorem cn_nodead : ∀ (cs : CS) (x : cs.Den), cs.cn x ≠ .dead
  | .ro _, _, h | .h _, _, h | .p _, _, h | .rdp _, _, h | .fn _ _, _, h | .nil, _, h | .cons _ _, _, h | .agg _, _, h => by simp [CS.cn] at h

theorem matchC_sound {tmp : Bool} {tm : Array Value} : ∀ (cs : CS) (c : Cn) (m m' : Mt) (x : cs.Den) (E : Env) (md : Bool) (vs : List Value), matchC tmp m cs c = some (x, m') → MOk E m tm →
    CRep E m.ob m.nx c md vs → (md = true → cs.caps = true) →
    ∃ E', Ext E m E' m' ∧ MOk E' m' tm ∧ (cs.cn x).isAgg = c.isAgg ∧ ∀ F ob nx, Vw E' m' F nx → CRep F ob nx (cs.cn x) md vs := by
  intro cs
  induction cs with
  | ro t =>
    intro c m m' x E md vs h ok hc hm
    cases md with
    | true => simp [CS.caps] at hm
    | false =>
      simp only [matchC] at h
      split at h
      · rename_i d m1 h1
        split at h
        · rename_i y h2
          cases h
          have := castDV_eq h2
          subst this
          obtain ⟨s1, o1, n1, f1, g1, k1⟩ := toDV_sound c m m' _ vs h1 ok.ob hc
          refine ⟨E, Ext.same s1 o1 n1 f1, ok.same s1 o1 n1, g1, fun F ob nx v => ?_⟩
          have hrd := k1 F v.w v.z v.fz
          exact ⟨Rd_length _ _ _ hrd, trivial, fun _ => hrd⟩
        · cases h
      · cases h
  | h j =>
    intro c m m' x E md vs h ok hc hm
    cases c <;> (try simp only [matchC] at h) <;> try (cases h; done)
    · rename_i e t
      split at h
      · cases h
      · rename_i hs
        cases h
        have hc : vs = [.slice none 0 0] := by cases md <;> exact hc
        obtain ⟨h1, h2⟩ := new_sound (o := .sl false 0 e t []) (v := .slice none 0 0) ok hs (fun F hr hB ob nx => by
          show Ow F.w (.list e t) [] [F.rho m.nx] (F.B m.nx)
          rw [hr, hB]
          exact ⟨.slice none 0 0, [], [], rfl, ⟨by simp, .inl ⟨rfl, rfl⟩⟩, ⟨rfl, rfl⟩, by simp [Value.ownBlock]⟩)
        refine ⟨_, h1, h2, rfl, fun F ob nx v => ?_⟩
        obtain ⟨k1, k2⟩ := v.rho j m.nx (by show sigAt ((j, m.nx) :: m.sig) j = _; rw [sigAt_cons, if_pos rfl])
        have k2 := k2.trans (upd_same E.rho m.nx (Value.slice none 0 0))
        have : CRep F ob nx (.h j) md vs ↔ j < nx ∧ (F.rho j).oneCell' = true ∧ vs = [F.rho j] := by cases md <;> exact Iff.rfl
        exact this.2 ⟨k1, by rw [k2]; rfl, by rw [k2]; exact hc⟩
    · rename_i i
      split at h
      · split at h
        · rename_i m1 h1
          cases h
          have hc : i < m.nx ∧ (E.rho i).oneCell' = true ∧ vs = [E.rho i] := by cases md <;> exact hc
          obtain ⟨h2, h3, h4⟩ := put_sound h1 ok hc.1
          refine ⟨E, h2, h3, rfl, fun F ob nx v => ?_⟩
          obtain ⟨k1, k2⟩ := v.rho j i h4
          have : CRep F ob nx (.h j) md vs ↔ j < nx ∧ (F.rho j).oneCell' = true ∧ vs = [F.rho j] := by cases md <;> exact Iff.rfl
          exact this.2 ⟨k1, by rw [k2]; exact hc.2.1, by rw [k2]; exact hc.2.2⟩
        · cases h
      · cases h
  | p j =>
    intro c m m' x E md vs h ok hc hm
    cases c <;> (try simp only [matchC] at h) <;> try (cases h; done)
    · rename_i i
      split at h
      · rename_i m1 h1
        cases h
        have hc : i < m.nx ∧ (E.rho i).oneCell' = true ∧ vs = [E.rho i] := by cases md <;> exact hc
        obtain ⟨h2, h3, h4⟩ := put_sound h1 ok hc.1
        refine ⟨E, h2, h3, rfl, fun F ob nx v => ?_⟩
        obtain ⟨k1, k2⟩ := v.rho j i h4
        have : CRep F ob nx (.p j) md vs ↔ j < nx ∧ (F.rho j).oneCell' = true ∧ vs = [F.rho j] := by cases md <;> exact Iff.rfl
        exact this.2 ⟨k1, by rw [k2]; exact hc.2.1, by rw [k2]; exact hc.2.2⟩
      · cases h
    · rename_i v0
      have hv0 : v0 = .pointer none := by
        cases v0 with
        | pointer a => cases a with
          | none => rfl
          | some a => simp [matchC] at h
        | _ => simp [matchC] at h
      subst hv0
      simp only [matchC] at h
      split at h
      · cases h
      · rename_i hs
        cases h
        have hc : vs = [.pointer none] := by cases md <;> exact hc.2
        obtain ⟨h1, h2⟩ := new_sound (o := .obox false .nil .nil) (v := .pointer none) ok hs (fun F hr hB ob nx => ⟨hr, hB, [], rfl⟩)
        refine ⟨_, h1, h2, rfl, fun F ob nx v => ?_⟩
        obtain ⟨k1, k2⟩ := v.rho j m.nx (by show sigAt ((j, m.nx) :: m.sig) j = _; rw [sigAt_cons, if_pos rfl])
        have k2 := k2.trans (upd_same E.rho m.nx (Value.pointer none))
        have : CRep F ob nx (.p j) md vs ↔ j < nx ∧ (F.rho j).oneCell' = true ∧ vs = [F.rho j] := by cases md <;> exact Iff.rfl
        exact this.2 ⟨k1, by rw [k2]; rfl, by rw [k2]; exact hc⟩
  | rdp t =>
    intro c m m' x E md vs h ok hc hm
    have key : ∀ F ob nx (y : t.Den) md, CRep F ob nx (.rdp none ⟨t, y⟩) md vs ↔ (True ∧ ∃ ad, vs = [.pointer (some ad)] ∧ ad.spot = none ∧ (True → F.Z ad.block ∧ ∃ f, Rd F.w F.Z t y f ∧ RowAt F.w (some ad) f)) := by
      intro F ob nx y md; cases md <;> exact Iff.rfl
    cases c <;> (try simp only [matchC] at h) <;> try (cases h; done)
    · rename_i i
      have hc : i < m.nx ∧ (E.rho i).oneCell' = true ∧ vs = [E.rho i] := by cases md <;> exact hc
      split at h
      · rename_i u c0 hi
        split at h
        · rename_i d m1 h1
          split at h
          · rename_i y hy
            cases h
            have := castDV_eq hy
            subst this
            have hob := ok.ob i
            rw [hi] at hob
            obtain ⟨g, cs, ct, b1, b2, b3, b4, b5⟩ := hob
            obtain ⟨s1, o1, n1, f1, g1, k1⟩ := toDV_sound c0 m m1 _ cs h1 ok.ob b3
            refine ⟨E, Ext.same s1 o1 n1 (fun i hi => List.mem_cons_of_mem _ (f1 i hi)), ok.same s1 o1 n1, rfl, fun F ob nx v => ?_⟩
            have hrd := k1 F v.w v.z (fun i hi => v.fz i (List.mem_cons_of_mem _ hi))
            refine (key F ob nx _ md).2 ⟨trivial, ⟨g, 0, none⟩, by rw [hc.2.2, b1], rfl, fun _ => ⟨v.fz i (List.mem_cons_self ..) g (by rw [b5]; simp), cs, hrd, ?_⟩⟩
            intro j u' hu
            refine ⟨_, rfl, ?_⟩
            rw [v.w]
            simp only [World.cell?, b2, Nat.zero_add]
            simpa using hu
          · cases h
        · cases h
      · cases h
    · rename_i b d
      have hc : srcLt m.ob m.nx b ∧ ∃ ad, vs = [.pointer (some ad)] ∧ ad.spot = none ∧
        (live m.ob b → src E b ad.block ∧ ∃ f, Rd E.w (src E b) d.ty d.v f ∧ RowAt E.w (some ad) f) := by cases md <;> exact hc
      obtain ⟨_, ad, h1, h2, h3⟩ := hc
      cases b with
      | none =>
        simp only at h
        split at h
        · rename_i y hy
          cases h
          have := castDV_eq hy
          subst this
          refine ⟨E, Ext.refl _ _, ok, rfl, fun F ob nx v => ?_⟩
          obtain ⟨h4, f, h5, h6⟩ := h3 trivial
          refine (key F ob nx _ md).2 ⟨trivial, ad, h1, h2, fun _ => ⟨v.z _ h4, f, Rd_mono v.z (fun b _ => by rw [v.w]) _ _ _ h5, by rw [v.w]; exact h6⟩⟩
        · cases h
      | some p =>
        obtain ⟨i, ver⟩ := p
        simp only at h
        split at h
        · rename_i fz v0 e t0 xs hi
          split at h
          · rename_i hv
            obtain rfl := Nat.eq_of_beq_eq_true hv
            split at h
            · rename_i y hy
              cases h
              have := castDV_eq hy
              subst this
              refine ⟨E, ⟨rfl, rfl, rfl, fun _ _ => rfl, Nat.le_refl _, fun _ _ => rfl, fun _ _ h => h, fun _ h => List.mem_cons_of_mem _ h⟩, ⟨ok.rep, ok.lt⟩, rfl, fun F ob nx v => ?_⟩
              obtain ⟨h4, f, h5, h6⟩ := h3 (by simp only [live, fresh, hi])
              have hS : ∀ b, src E (some (i, v0)) b → F.Z b := fun b hb => by
                rcases hb with hb | hb
                · exact v.fz i (List.mem_cons_self ..) b hb
                · exact v.z b hb
              refine (key F ob nx _ md).2 ⟨trivial, ad, h1, h2, fun _ => ⟨hS _ h4, f, Rd_mono hS (fun b _ => by rw [v.w]) _ _ _ h5, by rw [v.w]; exact h6⟩⟩
            · cases h
          · cases h
        · cases h
  | fn f cs ih =>
    intro c m m' x E md vs h ok hc hm
    cases c <;> (try simp only [matchC] at h) <;> try (cases h; done)
    rename_i g c
    split at h
    · rename_i hg
      simp only [Bool.and_eq_true] at hg
      obtain rfl := Nat.eq_of_beq_eq_true hg.1
      have hc : ∃ ws, vs = [.func (.func f) #[] ws.toArray] ∧ CRep E m.ob m.nx c true ws := by cases md <;> exact hc
      obtain ⟨ws, h1, h2⟩ := hc
      obtain ⟨E', e1, e2, e3, e4⟩ := ih c m m' x E true ws h ok h2 (fun _ => hg.2)
      refine ⟨E', e1, e2, rfl, fun F ob nx v => ?_⟩
      have := e4 F ob nx v
      cases md <;> exact ⟨ws, h1, this⟩
    · cases h
  | nil =>
    intro c m m' x E md vs h ok hc hm
    cases c <;> (try simp only [matchC] at h) <;> try (cases h; done)
    cases h
    exact ⟨E, Ext.refl _ _, ok, rfl, fun F ob nx v => by cases md <;> exact hc⟩
  | cons a b iha ihb =>
    intro c m m' x E md vs h ok hc hm
    cases c <;> (try simp only [matchC] at h) <;> try (cases h; done)
    rename_i ca cb
    split at h
    · rename_i u m1 h1
      split at h
      · rename_i y m2 h2
        cases h
        cases md with
        | false =>
          obtain ⟨va, vb, rfl, ha, hb⟩ := hc
          obtain ⟨E1, e1, e2, e3, e4⟩ := iha ca m m1 u E false va h1 ok ha (by simp)
          obtain ⟨E2, f1, f2, f3, f4⟩ := ihb cb m1 m' y E1 false vb h2 e2 (CRep_ev e1.ev _ _ _ hb) (by simp)
          exact ⟨E2, e1.trans f1, f2, rfl, fun F ob nx v => ⟨va, vb, rfl, e4 F ob nx (v.back f1 e2.lt), f4 F ob nx v⟩⟩
        | true =>
          obtain ⟨v0, vb, va, rfl, ha, hmk, hb⟩ := hc
          obtain ⟨E1, e1, e2, e3, e4⟩ := iha ca m m1 u E false va h1 ok ha (by simp)
          obtain ⟨E2, f1, f2, f3, f4⟩ := ihb cb m1 m' y E1 true vb h2 e2 (CRep_ev e1.ev _ _ _ hb) (fun _ => by simpa [CS.caps] using hm rfl)
          exact ⟨E2, e1.trans f1, f2, rfl, fun F ob nx v => ⟨v0, vb, va, rfl, e4 F ob nx (v.back f1 e2.lt), by rw [e3]; exact hmk, f4 F ob nx v⟩⟩
      · cases h
    · cases h
  | agg a ih =>
    intro c m m' x E md vs h ok hc hm
    cases md with
    | true => simp [CS.caps] at hm
    | false =>
      cases c <;> (try simp only [matchC] at h) <;> try (cases h; done)
      · rename_i b d
        cases b with
        | some _ => simp [matchC] at h
        | none =>
          simp only [matchC] at h
          split at h
          · rename_i y hy
            have hrd := hc.2.2 trivial
            have hag : d.ty.isAgg = true := by
              obtain ⟨ty, v⟩ := d
              cases ty <;> simp [expl] at hy <;> rfl
            have hex := expl_rep (ob := m.ob) (nx := m.nx) d.ty d.v vs hrd
            rw [hy] at hex
            obtain ⟨E', e1, e2, e3, e4⟩ := ih y m m' x E false vs h ok hex (by simp)
            exact ⟨E', e1, e2, hag.symm, fun F ob nx v => e4 F ob nx v⟩
          · cases h
      · rename_i y
        obtain ⟨E', e1, e2, e3, e4⟩ := ih y m m' x E false vs h ok hc (by simp)
        exact ⟨E', e1, e2, rfl, fun F ob nx v => e4 F ob nx v⟩


theorem matchB_sound {tmp : Bool} {tm : Array Value} {cs : CS} {c : Cn} {u : Ty} {m m' : Mt} {x : cs.Den} {E : Env} {i j : Nat} (h : matchB tmp m u cs c = some (x, m')) (ok : MOk E m tm)
    (hs : sigAt m.sig j = some i) (hb : BoxOk E m.ob m.nx i u c) :
    ∃ E', Ext E m E' m' ∧ MOk E' m' tm ∧ ∀ F ob nx, Vw E' m' F nx → F.B j = E.B i → BoxOk F ob nx j u (cs.cn x) := by
  unfold matchB at h
  split at h
  · rename_i y m1 h1
    split at h
    · rename_i hf
      cases h
      obtain ⟨g, vs, t, b1, b2, b3, b4, b5⟩ := hb
      obtain ⟨E', e1, e2, e3, e4⟩ := matchC_sound cs c m m' x E false vs h1 ok b3 (by simp)
      refine ⟨E', e1, e2, fun F ob nx v hB => ⟨g, vs, t, ?_, by rw [v.w, e1.w]; exact b2, e4 F ob nx v, hf, by rw [hB]; exact b5⟩⟩
      rw [(v.rho j i (e1.sig j i hs)).2, e1.rho i (ok.lt j i hs), b1]
    · cases h
  · cases h

theorem zeroC_ex {E : Env} {ob : Nat → Ob} {nx : Nat} : ∀ (u : Ty), ∃ cs, CRep E ob nx (zeroC u) false cs
  | .int k => ⟨[.int k 0], rfl, trivial, fun _ => rfl⟩
  | .bool => ⟨[.bool false], rfl, trivial, fun _ => rfl⟩
  | .str => ⟨[.string ⟨#[]⟩], rfl, trivial, fun _ => rfl⟩
  | .list _ _ => ⟨_, rfl⟩
  | .nil => ⟨[], rfl⟩
  | .cons a b => by
    obtain ⟨c, hc⟩ := zeroC_ex (E := E) (ob := ob) (nx := nx) a
    obtain ⟨d, hd⟩ := zeroC_ex (E := E) (ob := ob) (nx := nx) b
    exact ⟨c ++ d, c, d, rfl, hc, hd⟩
  | .st a => zeroC_ex a
  | .ptr => ⟨[], trivial⟩

theorem matchO_sound {tmp : Bool} {tm : Array Value} {o : OS} {m m' : Mt} {x : o.Den} {E : Env} {i j : Nat} (h : matchO tmp m o (m.ob i) = some (x, m')) (ok : MOk E m tm) (hs : sigAt m.sig j = some i) :
    ∃ E', Ext E m E' m' ∧ MOk E' m' tm ∧ ∀ F ob nx, Vw E' m' F nx → F.B j = E.B i → ObOk F ob nx j (o.ob x) := by
  have hob := ok.ob i
  generalize hmi : m.ob i = oi at h hob
  cases o with
  | sl e t =>
    cases oi <;> (try simp only [matchO] at h) <;> try (cases h; done)
    rename_i fz ver e' t' xs
    cases fz <;> simp only [matchO] at h <;> try (cases h; done)
    split at h
    · rename_i y hy
      cases h
      have := castDV_eq hy
      cases this
      refine ⟨E, Ext.refl _ _, ok, fun F ob nx v hB => ?_⟩
      show Ow F.w (.list e t) _ [F.rho j] (F.B j)
      rw [hB, (v.rho j i hs).2, v.w]
      exact hob
    · cases h
  | box u cs =>
    cases oi <;> (try simp only [matchO] at h) <;> try (cases h; done)
    rename_i u' c
    split at h
    · rename_i hu
      obtain rfl := of_decide_eq_true hu
      obtain ⟨E', e1, e2, e3⟩ := matchB_sound h ok hs hob
      exact ⟨E', e1, e2, e3⟩
    · cases h
  | obox u cs =>
    cases oi <;> (try simp only [matchO] at h) <;> try (cases h; done)
    · rename_i u' c
      split at h
      · rename_i hu
        obtain rfl := of_decide_eq_true hu
        split at h
        · rename_i y m1 h1
          cases h
          obtain ⟨E', e1, e2, e3⟩ := matchB_sound h1 ok hs hob
          exact ⟨E', e1, e2, e3⟩
        · cases h
      · cases h
    · rename_i b u' c
      split at h
      · cases b with
        | true => cases h
        | false =>
          simp only at h
          split at h
          · rename_i y m1 h1
            cases h
            obtain ⟨cs0, hz⟩ := zeroC_ex (E := E) (ob := m.ob) (nx := m.nx) u
            obtain ⟨E', e1, e2, _, e4⟩ := matchC_sound cs _ m m' y E false cs0 h1 ok hz (by simp)
            exact ⟨E', e1, e2, fun F ob nx v hB => ⟨by rw [(v.rho j i (e1.sig j i hs)).2, e1.rho i (ok.lt j i hs)]; exact hob.1, by rw [hB]; exact hob.2.1, cs0, e4 F ob nx v⟩⟩
          · cases h
      · split at h
        · rename_i hu
          obtain rfl := of_decide_eq_true hu
          split at h
          · rename_i y m1 h1
            cases h
            cases b with
            | true =>
              obtain ⟨E', e1, e2, e3⟩ := matchB_sound h1 ok hs hob
              exact ⟨E', e1, e2, e3⟩
            | false =>
              unfold matchB at h1
              split at h1
              · rename_i y' m1' h2
                split at h1
                · cases h1
                  obtain ⟨cs0, hz⟩ := hob.2.2
                  obtain ⟨E', e1, e2, _, e4⟩ := matchC_sound cs _ m m' y E false cs0 h2 ok hz (by simp)
                  exact ⟨E', e1, e2, fun F ob nx v hB => ⟨by rw [(v.rho j i (e1.sig j i hs)).2, e1.rho i (ok.lt j i hs)]; exact hob.1, by rw [hB]; exact hob.2.1, cs0, e4 F ob nx v⟩⟩
                · cases h1
              · cases h1
          · cases h
        · cases h

theorem VRep_of {E : Env} {ob : Nat → Ob} {nx : Nat} {c : Cn} {v : Value} (hd : c ≠ .dead) (h : VRep E ob nx c v) : ∃ cs, CRep E ob nx c false cs ∧ mkV c.isAgg cs v := VRep_one h hd

theorem matchC_nodead {tmp : Bool} {m : Mt} {cs : CS} {c : Cn} {r} (h : matchC tmp m cs c = some r) : c ≠ .dead := by
  intro e
  subst e
  cases cs <;> simp [matchC, toDV] at h

theorem matchV_sound {tmp : Bool} {tm : Array Value} {cs : CS} {c : Cn} {m m' : Mt} {x : cs.Den} {E : Env} {v : Value} (h : matchC tmp m cs c = some (x, m')) (ok : MOk E m tm)
    (hv : VRep E m.ob m.nx c v) : ∃ E', Ext E m E' m' ∧ MOk E' m' tm ∧ ∀ F ob nx, Vw E' m' F nx → VRep F ob nx (cs.cn x) v := by
  obtain ⟨vs, h1, h2⟩ := VRep_of (matchC_nodead h) hv
  obtain ⟨E', e1, e2, e3, e4⟩ := matchC_sound cs c m m' x E false vs h ok h1 (by simp)
  exact ⟨E', e1, e2, fun F ob nx v => VRep_mk vs (e4 F ob nx v) (by rw [e3]; exact h2)⟩

theorem matchSl_sound {tmp : Bool} {tm : Array Value} {sl : Nat → Cn} : ∀ (l : List (Nat × CS)) (m m' : Mt) (x : SlD l) (E : Env), matchSl tmp sl l m = some (x, m') → MOk E m tm →
    (∀ s, VRep E m.ob m.nx (sl s) (tm.getD s undef)) →
    ∃ E', Ext E m E' m' ∧ MOk E' m' tm ∧ ∀ F ob nx, Vw E' m' F nx → ∀ s, VRep F ob nx (slOf l x s) (tm.getD s undef)
  | [], m, m', x, E, h, ok, hv => by
    cases h
    exact ⟨E, Ext.refl _ _, ok, fun F ob nx v s => trivial⟩
  | [a], m, m', x, E, h, ok, hv => by
    obtain ⟨E', e1, e2, e3⟩ := matchV_sound (show matchC tmp m a.2 (sl a.1) = some (x, m') from h) ok (hv a.1)
    refine ⟨E', e1, e2, fun F ob nx v s => ?_⟩
    show VRep F ob nx (upd (fun _ => .dead) a.1 (a.2.cn x) s) _
    by_cases e : s = a.1
    · subst e; rw [upd_same]; exact e3 F ob nx v
    · rw [upd_other _ _ _ _ e]; trivial
  | a :: b :: r, m, m', x, E, h, ok, hv => by
    simp only [matchSl] at h
    split at h
    · rename_i u m1 h1
      split at h
      · rename_i y m2 h2
        cases h
        obtain ⟨E1, e1, e2, e3⟩ := matchV_sound h1 ok (hv a.1)
        obtain ⟨E2, f1, f2, f3⟩ := matchSl_sound (b :: r) m1 m' y E1 h2 e2 (fun s => VRep_ev e1.ev (hv s))
        refine ⟨E2, e1.trans f1, f2, fun F ob nx v s => ?_⟩
        show VRep F ob nx (upd (slOf (b :: r) y) a.1 (a.2.cn u) s) _
        by_cases e : s = a.1
        · subst e; rw [upd_same]; exact e3 F ob nx (v.back f1 e2.lt)
        · rw [upd_other _ _ _ _ e]; exact f3 F ob nx v s
      · cases h
    · cases h

def keys {α : Type} (l : List (Nat × α)) : List Nat := l.map (·.1)

theorem matchO_dead {tmp : Bool} {m : Mt} {o : OS} {r} (h : matchO tmp m o .dead = some r) : False := by
  cases o <;> simp [matchO] at h

theorem tell_sound {below tmp : Bool} {E : Env} {m m0 m1 : Mt} {tm : Array Value} {i j : Nat} {o : OS} {u : o.Den} (h : tell below m j = some (i, m0)) (ok : MOk E m tm) (h2 : matchO tmp m0 o (m0.ob i) = some (u, m1)) :
    Ext E m E m0 ∧ MOk E m0 tm ∧ sigAt m0.sig j = some i := by
  unfold tell at h
  split at h
  · rename_i i' hs
    cases h
    exact ⟨Ext.refl _ _, ok, hs⟩
  · rename_i hs
    split at h
    · cases h
    · cases h
      have hlt : i < m.nx := by
        rcases Nat.lt_or_ge i m.nx with h | h
        · exact h
        · have hd : m.ob i = .dead := ok.rep.lt i h
          have h2 : matchO tmp _ o (m.ob i) = _ := h2
          rw [hd] at h2
          exact (matchO_dead h2).elim
      exact put_sound (m' := { m with sig := (i, i) :: m.sig }) (by unfold Mt.put; rw [hs]) ok hlt

theorem matchOb_sound {tmp below : Bool} {tm : Array Value} : ∀ (l : List (Nat × OS)) (m m' : Mt) (x : ObD l) (E : Env), matchOb tmp below l m = some (x, m') → MOk E m tm →
    ∃ E', Ext E m E' m' ∧ MOk E' m' tm ∧ ∀ F ob nx, Vw E' m' F nx → (∀ j i, sigAt m'.sig j = some i → F.B j = E'.B i) → ∀ j, (j ∈ keys l → ObOk F ob nx j (obOf l x j)) ∧ (j ∉ keys l → obOf l x j = .dead)
  | [], m, m', x, E, h, ok => by
    cases h
    exact ⟨E, Ext.refl _ _, ok, fun F ob nx v hB j => ⟨fun h => by simp [keys] at h, fun _ => rfl⟩⟩
  | [a], m, m', x, E, h, ok => by
    simp only [matchOb] at h
    split at h
    · rename_i i m0 ht
      obtain ⟨t1, t2, hi⟩ := tell_sound ht ok h
      obtain ⟨E', e1, e2, e3⟩ := matchO_sound h t2 hi
      refine ⟨E', t1.trans e1, e2, fun F ob nx v hB j => ?_⟩
      show (_ → ObOk F ob nx j (upd (fun _ => .dead) a.1 (a.2.ob x) j)) ∧ (_ → upd (fun _ => .dead) a.1 (a.2.ob x) j = .dead)
      by_cases e : j = a.1
      · subst e; rw [upd_same]
        exact ⟨fun _ => e3 F ob nx v (by rw [hB _ _ (e1.sig _ _ hi), e1.B]), fun h => absurd (by simp [keys]) h⟩
      · rw [upd_other _ _ _ _ e]
        exact ⟨fun h => absurd (by simpa [keys] using h) e, fun _ => rfl⟩
    · cases h
  | a :: b :: r, m, m', x, E, h, ok => by
    simp only [matchOb] at h
    split at h
    · rename_i i m0 ht
      split at h
      · rename_i u m1 h1
        split at h
        · rename_i y m2 h2
          cases h
          obtain ⟨t1, t2, hi⟩ := tell_sound ht ok h1
          obtain ⟨E1, e1, e2, e3⟩ := matchO_sound h1 t2 hi
          obtain ⟨E2, f1, f2, f3⟩ := matchOb_sound (b :: r) m1 m' y E1 h2 e2
          refine ⟨E2, t1.trans (e1.trans f1), f2, fun F ob nx v hB j => ?_⟩
          show (_ → ObOk F ob nx j (upd (obOf (b :: r) y) a.1 (a.2.ob u) j)) ∧ (_ → upd (obOf (b :: r) y) a.1 (a.2.ob u) j = .dead)
          by_cases e : j = a.1
          · subst e; rw [upd_same]
            exact ⟨fun _ => e3 F ob nx (v.back f1 e2.lt) (by rw [hB _ _ (f1.sig _ _ (e1.sig _ _ hi)), f1.B, e1.B]), fun h => absurd (by simp [keys]) h⟩
          · rw [upd_other _ _ _ _ e]
            have hk : j ∈ keys (a :: b :: r) ↔ j ∈ keys (b :: r) := by simp [keys, e]
            rw [hk]
            exact f3 F ob nx v hB j
        · cases h
      · cases h
    · cases h

theorem elemB_iff (n : Nat) : ∀ l, elemB n l = true ↔ n ∈ l
  | [] => by simp [elemB]
  | x :: r => by
    simp only [elemB]
    cases e : Nat.beq n x with
    | true => simp [Nat.eq_of_beq_eq_true e]
    | false =>
      have : n ≠ x := fun h => by subst h; simp at e
      simp [elemB_iff n r, this]

theorem sigAt_mem {j i : Nat} : ∀ {s : List (Nat × Nat)}, sigAt s j = some i → (j, i) ∈ s
  | [], h => by cases h
  | x :: r, h => by
    obtain ⟨a, b⟩ := x
    rw [sigAt_cons] at h
    split at h
    · rename_i e; cases h; subst e; exact List.mem_cons_self ..
    · exact List.mem_cons_of_mem _ (sigAt_mem h)

structure SigOk (ids fz : List Nat) (below : Bool) (s : List (Nat × Nat)) : Prop where
  ids : ∀ j i, sigAt s j = some i → j ∈ ids
  fz : ∀ j i, sigAt s j = some i → i ∉ fz
  one : ∀ j j' i, sigAt s j = some i → sigAt s j' = some i → j = j'
  low : below = true → ∀ j i, sigAt s j = some i → j < 100
  own : below = false → ∀ j i, sigAt s j = some i → j = i ∨ 100 ≤ j

theorem sigOk_sound {ids fz : List Nat} {below : Bool} : ∀ s, sigOk ids fz below s = true → SigOk ids fz below s ∧ (keys s).Nodup
  | [], _ => ⟨⟨by simp [sigAt], by simp [sigAt], by simp [sigAt], by simp [sigAt], by simp [sigAt]⟩, List.nodup_nil⟩
  | x :: r, h => by
    obtain ⟨a, b⟩ := x
    simp only [sigOk, Bool.and_eq_true, Bool.not_eq_true'] at h
    obtain ⟨h1, h2, h3, h4, h5, h6⟩ := h
    obtain ⟨k, kn⟩ := sigOk_sound r h6
    have h2 : b ∉ fz := fun e => by rw [(elemB_iff b fz).2 e] at h2; cases h2
    have h3 : b ∉ r.map (·.2) := fun e => by rw [(elemB_iff b _).2 e] at h3; cases h3
    have h4 : a ∉ r.map (·.1) := fun e => by rw [(elemB_iff a _).2 e] at h4; cases h4
    have h1 := (elemB_iff a ids).1 h1
    have snd : ∀ j i, sigAt r j = some i → i ∈ r.map (·.2) := fun j i e => List.mem_map.2 ⟨_, sigAt_mem e, rfl⟩
    refine ⟨⟨?_, ?_, ?_, ?_, ?_⟩, ?_⟩
    · intro j i e
      rw [sigAt_cons] at e
      split at e
      · rename_i e'; subst e'; exact h1
      · exact k.ids j i e
    · intro j i e
      rw [sigAt_cons] at e
      split at e
      · cases e; exact h2
      · exact k.fz j i e
    · intro j j' i e e'
      rw [sigAt_cons] at e e'
      split at e <;> split at e'
      · omega
      · cases e; exact absurd (snd _ _ e') h3
      · cases e'; exact absurd (snd _ _ e) h3
      · exact k.one j j' i e e'
    · intro hb j i e
      rw [sigAt_cons] at e
      split at e
      · rename_i e'; subst e'
        simp only [hb] at h5
        exact Nat.le_of_ble_eq_true h5
      · exact k.low hb j i e
    · intro hb j i e
      rw [sigAt_cons] at e
      split at e
      · rename_i e'; subst e'
        cases e
        simp only [hb, Bool.or_eq_true] at h5
        rcases h5 with h5 | h5
        · exact .inl (Nat.eq_of_beq_eq_true h5)
        · exact .inr (Nat.le_of_ble_eq_true h5)
      · exact k.own hb j i e
    · show (a :: keys r).Nodup
      exact List.nodup_cons.2 ⟨h4, kn⟩

/-- another view of the same world: objects by their new ids, and what is frozen among the read-only -/
def into (E : Env) (m : Mt) : Env where
  w := E.w
  Z := fun b => E.Z b ∨ ∃ i, i ∈ m.fz ∧ b ∈ E.B i
  rho := fun j => match sigAt m.sig j with
    | some i => E.rho i
    | none => E.rho j
  B := fun j => match sigAt m.sig j with
    | some i => E.B i
    | none => []

theorem into_vw {E : Env} {m : Mt} {ids : List Nat} {below : Bool} {nx : Nat} (k : SigOk ids m.fz below m.sig) (hn : ∀ j, j ∈ ids → j < nx) (hl : SigLt m) : Vw E m (into E m) nx where
  w := rfl
  z := fun b hb => .inl hb
  fz := fun i hi b hb => .inr ⟨i, hi, hb⟩
  rho := fun j i e => ⟨hn j (k.ids j i e), by simp only [into, e]⟩
  lt := hl

theorem maxId_lt : ∀ (l : List (Nat × OS)) (j : Nat), j ∈ keys l → j < maxId l
  | [], _, h => by simp [keys] at h
  | x :: r, j, h => by
    simp only [keys, List.map_cons, List.mem_cons] at h
    show j < Nat.max (x.1 + 1) (maxId r)
    rcases h with rfl | h
    · exact Nat.lt_of_lt_of_le (Nat.lt_succ_self _) (Nat.le_max_left _ _)
    · exact Nat.lt_of_lt_of_le (maxId_lt r j h) (Nat.le_max_right _ _)

theorem SS.pS_mk (s : SS) (u : SlD s.slots) (v : ObD s.objs) : s.pS (s.mk' u v) = u ∧ s.pO (s.mk' u v) = v := by
  obtain ⟨a, b⟩ := s
  cases b with
  | nil => exact ⟨rfl, rfl⟩
  | cons x r => exact ⟨rfl, rfl⟩

/-- a state that is matched: an env with some more ids, and the shape's state in the view of it -/
theorem matchSt_sound {tmp below : Bool} {s : SS} {st : St} {x : s.Den} {m : Mt} {E : Env} {tm : Array Value} (h : matchSt tmp below s st = some (x, m)) (hr : Rep E st tm) :
    ∃ E', Ext E ⟨[], [], st.ob, st.nx⟩ E' m ∧ MOk E' m tm ∧ SigOk (keys s.objs) m.fz below m.sig ∧ (keys m.sig).Nodup ∧ Rep (into E' m) (s.st x) tm := by
  unfold matchSt at h
  split at h
  · rename_i u m1 h1
    split at h
    · rename_i v m2 h2
      split at h
      · rename_i h3
        cases h
        have ok0 : MOk E ⟨[], [], st.ob, st.nx⟩ tm := ⟨⟨fun s => trivial, hr.ob, hr.lt, hr.dj, hr.nd, hr.bb, hr.zb⟩, fun j i e => by cases e⟩
        obtain ⟨E1, e1, e2, e3⟩ := matchSl_sound s.slots _ m1 u E h1 ok0 hr.sl
        obtain ⟨E2, f1, f2, f3⟩ := matchOb_sound s.objs m1 m v E1 h2 e2
        obtain ⟨k, kn⟩ := sigOk_sound _ h3
        have hnx : ∀ j, j ∈ keys s.objs → j < Nat.max 100 (maxId s.objs) := fun j hj => Nat.lt_of_lt_of_le (maxId_lt _ _ hj) (Nat.le_max_right _ _)
        have vw := into_vw (E := E2) k hnx f2.lt
        have hB : ∀ j i, sigAt m.sig j = some i → (into E2 m).B j = E2.B i := fun j i e => by simp only [into, e]
        refine ⟨E2, e1.trans f1, f2, k, kn, ?_⟩
        have hBin : ∀ j b, b ∈ (into E2 m).B j → ∃ i, sigAt m.sig j = some i ∧ b ∈ E2.B i := by
          intro j b hb
          simp only [into] at hb
          split at hb
          · rename_i i hi; exact ⟨i, hi, hb⟩
          · simp at hb
        obtain ⟨p1, p2⟩ := SS.pS_mk s u v
        have key := f3 (into E2 m) (s.st (s.mk' u v)).ob (Nat.max 100 (maxId s.objs)) vw hB
        refine ⟨fun sl => ?_, fun j => ?_, fun j hj => ?_, ?_, ?_, ?_, ?_⟩
        · show VRep _ _ _ (slOf s.slots (s.pS (s.mk' u v)) sl) _
          rw [p1]
          exact e3 _ _ _ (vw.back f1 e2.lt) sl
        · show ObOk _ _ _ j (obOf s.objs (s.pO (s.mk' u v)) j)
          rw [p2]
          by_cases hj : j ∈ keys s.objs
          · exact (key j).1 hj
          · rw [(key j).2 hj]
            show (into E2 m).B j = []
            simp only [into]
            split
            · rename_i i hi; exact absurd (k.ids j i hi) hj
            · rfl
        · show obOf s.objs (s.pO (s.mk' u v)) j = _
          rw [p2]
          refine (key j).2 fun hm => ?_
          have := hnx j hm
          have hj : Nat.max 100 (maxId s.objs) ≤ j := hj
          omega
        · intro i j b hij hi hj
          obtain ⟨i', hi1, hi2⟩ := hBin i b hi
          obtain ⟨j', hj1, hj2⟩ := hBin j b hj
          have : i' ≠ j' := fun e => hij (by subst e; exact k.one i j _ hi1 hj1)
          exact f2.rep.dj i' j' b this hi2 hj2
        · intro i
          simp only [into]
          split
          · exact f2.rep.nd _
          · exact List.nodup_nil
        · intro j b hb
          obtain ⟨i, hi1, hi2⟩ := hBin j b hb
          refine ⟨(f2.rep.bb i b hi2).1, fun hz => ?_⟩
          rcases hz with hz | ⟨i', h4, h5⟩
          · exact (f2.rep.bb i b hi2).2 hz
          · have : i ≠ i' := fun e => k.fz j i hi1 (by rw [e]; exact h4)
            exact f2.rep.dj i i' b this hi2 h5
        · intro b hb
          rcases hb with hz | ⟨i', h4, h5⟩
          · exact f2.rep.zb b hz
          · exact (f2.rep.bb i' b h5).1
      · cases h
    · cases h
  · cases h

/-- at a cut: the same run, in the shape's state -/
theorem cut_sound {N : Nat} {E0 E : Env} {st : St} {a : Act} {s : SS} {x : s.Den} {m : Mt} (h : matchSt false false s st = some (x, m)) (hi : Inv N E0 E st a) :
    ∃ E1, E1.w = E.w ∧ Inv N E0 E1 (s.st x) a := by
  obtain ⟨E', e1, e2, k, _, hr⟩ := matchSt_sound h hi.rep
  refine ⟨into E' m, e1.w, hr, ?_, hi.defers, hi.size, Nat.le_max_left _ _⟩
  refine hi.fr.trans ⟨by rw [show (into E' m).w = E.w from e1.w], by rw [show (into E' m).w = E.w from e1.w], by rw [show (into E' m).w = E.w from e1.w], by rw [show (into E' m).w = E.w from e1.w]; exact Nat.le_refl _,
    fun b _ _ => by rw [show (into E' m).w = E.w from e1.w], ?_, fun b hb => .inl (by rw [e1.Z]; exact hb), ?_, ?_⟩
  · intro j b hb
    simp only [into] at hb
    split at hb
    · rename_i i hi'
      exact .inl ⟨i, by rw [← e1.B]; exact hb⟩
    · simp at hb
  · intro b hb
    rcases hb with hb | ⟨i, _, hb⟩
    · exact .inl (by rw [← e1.Z]; exact hb)
    · exact .inr (.inl ⟨i, by rw [← e1.B]; exact hb⟩)
  · intro j hj
    have hlt : j < st.nx := Nat.lt_of_lt_of_le hj hi.nx
    show (match sigAt m.sig j with | some i => E'.rho i | none => E'.rho j) = _
    split
    · rename_i i hi'
      rcases k.own rfl j i hi' with rfl | h1
      · exact e1.rho j hlt
      · omega
    · exact e1.rho j hlt

end Go.Am
