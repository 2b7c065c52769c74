/- Addresses and loads. -/
import Derived.Test.YtmdmkakkodeniaaAmOps2
set_option linter.unusedVariables false
set_option linter.unusedSimpArgs false
namespace Go.Am

theorem rdL_spec {α : Type} {xs : List α} {k : Int} {y : α} (h : rdL xs k = some y) : 0 ≤ k ∧ k.toNat < xs.length ∧ xs[k.toNat]? = some y ∧ k < (xs.length : Int) := by
  unfold rdL at h
  split at h
  · rename_i n
    have hlt : n < xs.length := by
      rcases Nat.lt_or_ge n xs.length with h1 | h1
      · exact h1
      · rw [List.getElem?_eq_none h1] at h; cases h
    exact ⟨by simp, hlt, h, by simp; exact hlt⟩
  · cases h

theorem Addr.add_eq (a : Addr) (h : a.spot = none) (n : Nat) : a.add n = ⟨a.block, a.off + n, none⟩ := by
  unfold Addr.add
  obtain ⟨b, o, s⟩ := a
  simp only at h
  subst h
  split <;> simp_all

/-! ### fields of payloads -/
theorem Rd_getF {w : World} {S : Nat → Prop} : ∀ (t : Ty) (n : Nat) (x : t.Den) (cs : List Value) (e : DV) (o : Nat) (u : Ty), Rd w S t x cs → getF t n x = some e → t.at n = some (o, u) →
    u = e.ty ∧ ∃ c, Rd w S e.ty e.v c ∧ ∀ j v, c[j]? = some v → cs[o + j]? = some v
  | .cons a b, 0, x, cs, e, o, u, ⟨c, d, h, h1, h2⟩, he, ho => by
    simp only [getF, Ty.at, Option.some.injEq, Prod.mk.injEq] at he ho
    subst he
    obtain ⟨rfl, rfl⟩ := ho
    refine ⟨rfl, c, h1, fun j v hj => ?_⟩
    have hlt := (List.getElem?_eq_some_iff.1 hj).1
    rw [h, Nat.zero_add, List.getElem?_append_left hlt]
    exact hj
  | .cons a b, n + 1, x, cs, e, o, u, ⟨c, d, h, h1, h2⟩, he, ho => by
    simp only [getF, Ty.at] at he ho
    split at ho
    · rename_i o' u' hb
      simp only [Option.some.injEq, Prod.mk.injEq] at ho
      obtain ⟨rfl, rfl⟩ := ho
      obtain ⟨k1, c', k2, k3⟩ := Rd_getF b n x.2 d e o' u' h2 he hb
      refine ⟨k1, c', k2, fun j v hj => ?_⟩
      rw [h, Nat.add_assoc, List.getElem?_append_right (by rw [Rd_length _ _ _ h1]; omega), Rd_length _ _ _ h1]
      have := k3 j v hj
      rw [show a.size + (o' + j) - a.size = o' + j by omega]
      exact this
    · cases ho
  | .int _, 0, _, _, _, _, _, _, he, _ | .bool, 0, _, _, _, _, _, _, he, _ | .str, 0, _, _, _, _, _, _, he, _ | .list _ _, 0, _, _, _, _, _, _, he, _ | .nil, 0, _, _, _, _, _, _, he, _ | .st _, 0, _, _, _, _, _, _, he, _ | .ptr, 0, _, _, _, _, _, _, he, _ => by simp [getF] at he
  | .int _, _+1, _, _, _, _, _, _, he, _ | .bool, _+1, _, _, _, _, _, _, he, _ | .str, _+1, _, _, _, _, _, _, he, _ | .list _ _, _+1, _, _, _, _, _, _, he, _ | .nil, _+1, _, _, _, _, _, _, he, _ | .st _, _+1, _, _, _, _, _, _, he, _ | .ptr, _+1, _, _, _, _, _, _, he, _ => by simp [getF] at he

theorem Rd_getFld {w : World} {S : Nat → Prop} {d e : DV} {n o : Nat} {u : Ty} {cs : List Value} (h : Rd w S d.ty d.v cs) (he : getFld d n = some e) (ho : d.ty.fld n = some (o, u)) :
    u = e.ty ∧ ∃ c, Rd w S e.ty e.v c ∧ ∀ j v, c[j]? = some v → cs[o + j]? = some v := by
  obtain ⟨ty, x⟩ := d
  unfold getFld at he
  split at he
  · rename_i a y heq
    cases heq
    exact Rd_getF a n y cs e o u h he ho
  · cases he

theorem Rd_getP {w : World} {S : Nat → Prop} : ∀ (path : List Nat) (d e : DV) (o : Nat) (u : Ty) (cs : List Value), Rd w S d.ty d.v cs → getP d path = some e → d.ty.offP path = some (o, u) →
    u = e.ty ∧ ∃ c, Rd w S e.ty e.v c ∧ ∀ j v, c[j]? = some v → cs[o + j]? = some v
  | [], d, e, o, u, cs, h, he, ho => by
    simp only [getP, Ty.offP, Option.some.injEq, Prod.mk.injEq] at he ho
    subst he
    obtain ⟨rfl, rfl⟩ := ho
    exact ⟨rfl, cs, h, fun j v hj => by rw [Nat.zero_add]; exact hj⟩
  | f :: r, d, e, o, u, cs, h, he, ho => by
    simp only [getP, Ty.offP] at he ho
    split at he
    · rename_i d1 h1
      split at ho
      · rename_i o1 u1 k1
        split at ho
        · rename_i o2 u2 k2
          simp only [Option.some.injEq, Prod.mk.injEq] at ho
          obtain ⟨rfl, rfl⟩ := ho
          obtain ⟨rfl, c, m1, m2⟩ := Rd_getFld h h1 k1
          obtain ⟨n1, c', n2, n3⟩ := Rd_getP r d1 e o2 u2 c m1 he k2
          exact ⟨n1, c', n2, fun j v hj => by rw [Nat.add_assoc]; exact m2 _ _ (n3 j v hj)⟩
        · cases ho
      · cases ho
    · cases he

theorem Ty.offP_snoc : ∀ (path : List Nat) (t : Ty) (o : Nat) (u : Ty) (f p : Nat) (v : Ty), t.offP path = some (o, u) → u.fld f = some (p, v) → t.offP (path ++ [f]) = some (o + p, v)
  | [], t, o, u, f, p, v, h, k => by
    simp only [Ty.offP, Option.some.injEq, Prod.mk.injEq] at h
    obtain ⟨rfl, rfl⟩ := h
    simp [Ty.offP, k]
  | g :: r, t, o, u, f, p, v, h, k => by
    simp only [Ty.offP, List.cons_append] at h ⊢
    split at h
    · rename_i o1 u1 k1
      split at h
      · rename_i o2 u2 k2
        simp only [Option.some.injEq, Prod.mk.injEq] at h
        obtain ⟨rfl, rfl⟩ := h
        rw [Ty.offP_snoc r u1 o2 u2 f p v k2 k]
        simp [Nat.add_assoc]
      · cases h
    · cases h

theorem getP_snoc : ∀ (path : List Nat) (d e g : DV) (f : Nat), getP d path = some e → getFld e f = some g → getP d (path ++ [f]) = some g
  | [], d, e, g, f, h, k => by
    simp only [getP, Option.some.injEq] at h
    subst h
    simp [getP, k]
  | a :: r, d, e, g, f, h, k => by
    simp only [getP, List.cons_append] at h ⊢
    split at h
    · exact getP_snoc r _ e g f h k
    · cases h

theorem FieldsOk_at {P : Program} : ∀ (fields : List Field) (off : Nat) (fs : Ty) (n o : Nat) (u : Ty), FieldsOk P fields off fs → fs.at n = some (o, u) →
    ∃ fl, fields[n]? = some fl ∧ fl.offset = off + o ∧ (∃ i, P.info? fl.type = some i ∧ i.size = u.size) ∧ aggOk P fl.type u ∧ 0 < u.size
  | [], off, fs, n, o, u, h, k => by
    cases fs <;> first | (cases n <;> simp [Ty.at] at k; done) | exact h.elim
  | f :: r, off, .cons a b, 0, o, u, ⟨h1, h2, h3, h4, _, h5⟩, k => by
    simp only [Ty.at, Option.some.injEq, Prod.mk.injEq] at k
    obtain ⟨rfl, rfl⟩ := k
    exact ⟨f, rfl, h1, h2, h3, h4⟩
  | f :: r, off, .cons a b, n + 1, o, u, ⟨h1, h2, h3, h4, _, h5⟩, k => by
    simp only [Ty.at] at k
    split at k
    · rename_i o' u' hb
      simp only [Option.some.injEq, Prod.mk.injEq] at k
      obtain ⟨rfl, rfl⟩ := k
      obtain ⟨fl, k1, k2, k3⟩ := FieldsOk_at r (off + a.size) b n o' u' h5 hb
      exact ⟨fl, by simpa using k1, by omega, k3⟩
    · cases k
  | _ :: _, _, .int _, _, _, _, h, _ | _ :: _, _, .bool, _, _, _, h, _ | _ :: _, _, .str, _, _, _, h, _ | _ :: _, _, .list _ _, _, _, _, h, _ | _ :: _, _, .nil, _, _, _, h, _ | _ :: _, _, .st _, _, _, _, h, _ | _ :: _, _, .ptr, _, _, _, h, _ => h.elim

section
variable {P : Program} {w : World}
theorem run_fieldAt {s : TypeId} {u : Ty} (h : TOk P s u) {f o : Nat} {v : Ty} (ho : u.fld f = some (o, v)) (ad : Addr) (hs : ad.spot = none) :
    (Instr.fieldAt s (.pointer (some ad)) f).run P w = .ok (.pointer (some ⟨ad.block, ad.off + o, none⟩)) w := by
  have hd := h.desc
  cases u with
  | st fs =>
    simp only at hd
    obtain ⟨fields, h1, h2, _⟩ := hd
    obtain ⟨fl, k1, k2, ⟨i, k3, k4⟩, _, k5⟩ := FieldsOk_at _ _ _ _ _ _ h2 ho
    have k1 : fields[f]? = some fl := by rw [← Array.getElem?_toList]; exact k1
    have hne : ¬ i.size = 0 := by omega
    simp [Instr.fieldAt, run_underlying h1, k1, Instr.sureAddr, fieldPlace, sizeOf, typeInfo, k3, hne, Addr.add_eq ad hs, k2]
  | _ => simp [Ty.fld] at ho

theorem run_isAgg {t : TypeId} {u : Ty} (h : aggOk P t u) : (isAgg t).run P w = .ok u.isAgg w := by
  unfold aggOk at h
  cases hu : P.underlying t with
  | none => simp [hu] at h
  | some d =>
    rw [hu] at h
    cases d <;> simp only at h <;> first | exact h.elim | simp [isAgg, run_underlying hu, h]

/-- a load of a value whose cells are known -/
theorem run_load {t : TypeId} {u : Ty} (h : TOk P t u) (ad : Addr) (hs : ad.spot = none) (c : List Value) (hl : c.length = u.size)
    (hc : ∀ j v, c[j]? = some v → w.cell? ⟨ad.block, ad.off + j, none⟩ = some v) : ∃ v, (Instr.loadAt t (.pointer (some ad))).run P w = .ok v w ∧ mkV u.isAgg c v := by
  obtain ⟨i, z, k1, k2, _⟩ := h.info
  have ha := run_isAgg (w := w) h.agg
  cases hg : u.isAgg with
  | true =>
    rw [hg] at ha
    have hcs := run_loadCells_list (P := P) w ad c (fun j v hj => by rw [Addr.add_eq ad hs]; exact hc j v hj)
    refine ⟨.agg c.toArray, ?_, by simp [mkV]⟩
    simp [Instr.loadAt, Instr.sureAddr, loadVar, ha, sizeOf, typeInfo, k1, k2, ← hl, hcs]
  | false =>
    rw [hg] at ha
    have h1 : u.size = 1 := by cases u <;> simp_all [Ty.size, Ty.isAgg, TOk] <;> (have := h.desc; simp at this)
    rw [h1] at hl
    obtain ⟨v, rfl⟩ := List.length_eq_one_iff.1 hl
    have h0 := hc 0 v rfl
    have : ad = ⟨ad.block, ad.off + 0, none⟩ := by obtain ⟨b, o, s⟩ := ad; simp_all
    rw [← this] at h0
    refine ⟨v, ?_, by simp [mkV]⟩
    simp [Instr.loadAt, Instr.sureAddr, loadVar, ha, load, Sem.run, h0]
end

theorem roC_VRep {E : Env} {ob : Nat → Ob} {nx : Nat} {b : Option (Nat × Nat)} {d : DV} {cs : List Value} {v : Value} (h : Rd E.w (src E b) d.ty d.v cs) (hb : srcLt ob nx b) (hm : mkV d.ty.isAgg cs v) :
    VRep E ob nx (roC b d) v := by
  unfold roC
  split
  · rename_i hf
    exact VRep_ro (Rd_flat _ hf _ _ h) hm
  · exact ⟨cs, ⟨Rd_length _ _ _ h, hb, fun _ => h⟩, hm⟩

/-! ### contents that fit -/
theorem fits_isAgg {u : Ty} {c : Cn} (h : fits u c = true) : c.isAgg = u.isAgg := by
  unfold fits at h
  split at h <;> first | rfl | (cases h; done)

theorem fits_size : ∀ {u : Ty} {c : Cn}, fits u c = true → c.size = u.size
  | .st a, c, hf => by
    cases c with
    | agg x =>
      have := fits_size (u := a) (c := x) hf
      exact this
    | _ => simp [fits] at hf
  | .cons a b, c, hf => by
    cases c with
    | cons x y =>
      simp only [fits, Bool.and_eq_true] at hf
      simp [Cn.size, Ty.size, fits_size hf.1, fits_size hf.2]
    | _ => simp [fits] at hf
  | .nil, c, hf => by
    cases c <;> simp only [fits] at hf <;> first | (cases hf; done) | skip
    rfl
  | .ptr, c, hf => by cases c <;> first | rfl | (simp [fits] at hf; done)
  | .list e t, c, hf => by
    cases c with
    | ro b d => obtain ⟨ty, v⟩ := d; cases b <;> cases ty <;> simp [fits] at hf; rfl
    | h i => rfl
    | nils e t => rfl
    | _ => simp [fits] at hf
  | .int k, c, hf => by
    cases c with
    | ro b d => obtain ⟨ty, v⟩ := d; cases b <;> cases ty <;> simp [fits] at hf; rfl
    | _ => simp [fits] at hf
  | .bool, c, hf => by
    cases c with
    | ro b d => obtain ⟨ty, v⟩ := d; cases b <;> cases ty <;> simp [fits] at hf; rfl
    | _ => simp [fits] at hf
  | .str, c, hf => by
    cases c with
    | ro b d => obtain ⟨ty, v⟩ := d; cases b <;> cases ty <;> simp [fits] at hf; rfl
    | _ => simp [fits] at hf

theorem fits_length {E : Env} {ob : Nat → Ob} {nx : Nat} : ∀ (u : Ty) (c : Cn) (cs : List Value), fits u c = true → CRep E ob nx c false cs → cs.length = u.size
  | .st a, c, cs, hf, h => by
    cases c <;> simp only [fits] at hf <;> first | (cases hf; done) | skip
    exact fits_length a _ cs hf h
  | .cons a b, c, cs, hf, h => by
    cases c <;> simp only [fits] at hf <;> first | (cases hf; done) | skip
    rw [Bool.and_eq_true] at hf
    obtain ⟨c1, c2, h0, h1, h2⟩ := h
    rw [h0, List.length_append, fits_length a _ c1 hf.1 h1, fits_length b _ c2 hf.2 h2]
    rfl
  | .nil, c, cs, hf, h => by
    cases c <;> simp only [fits] at hf <;> first | (cases hf; done) | skip
    rw [show cs = [] from h]; rfl
  | .ptr, c, cs, hf, h => by
    cases c with
    | p i => rw [h.2.2]; rfl
    | cst v => rw [h.2]; rfl
    | fn f c => obtain ⟨vs, h1, _⟩ := h; rw [h1]; rfl
    | rdp b d => obtain ⟨_, ad, h1, _⟩ := h; rw [h1]; rfl
    | _ => simp [fits] at hf
  | .list e t, c, cs, hf, h => by
    cases c with
    | h i => rw [h.2.2]; rfl
    | nils e t => rw [show cs = [_] from h]; rfl
    | ro b d =>
      rw [h.1]
      obtain ⟨ty, v⟩ := d
      cases b <;> cases ty <;> simp [fits] at hf
      rfl
    | _ => simp [fits] at hf
  | .int k, c, cs, hf, h => by
    cases c with
    | ro b d =>
      rw [h.1]
      obtain ⟨ty, v⟩ := d
      cases b <;> cases ty <;> simp [fits] at hf
      rfl
    | _ => simp [fits] at hf
  | .bool, c, cs, hf, h => by
    cases c with
    | ro b d =>
      rw [h.1]
      obtain ⟨ty, v⟩ := d
      cases b <;> cases ty <;> simp [fits] at hf
      rfl
    | _ => simp [fits] at hf
  | .str, c, cs, hf, h => by
    cases c with
    | ro b d =>
      rw [h.1]
      obtain ⟨ty, v⟩ := d
      cases b <;> cases ty <;> simp [fits] at hf
      rfl
    | _ => simp [fits] at hf

/-- a part of a content, and its cells -/
theorem nthC_fits {E : Env} {ob : Nat → Ob} {nx : Nat} : ∀ (t : Ty) (c : Cn) (n : Nat) (x : Cn) (o : Nat) (v : Ty), fits t c = true → nthC c n = some x → t.at n = some (o, v) →
    fits v x = true ∧ ∀ cs, CRep E ob nx c false cs → ∃ pre c' post, cs = pre ++ c' ++ post ∧ pre.length = o ∧ CRep E ob nx x false c' ∧ c'.length = v.size
  | .cons a b, .cons y z, 0, x, o, v, hf, hn, ho => by
    simp only [fits, Bool.and_eq_true] at hf
    simp only [nthC, Option.some.injEq] at hn
    simp only [Ty.at, Option.some.injEq, Prod.mk.injEq] at ho
    subst hn
    obtain ⟨rfl, rfl⟩ := ho
    refine ⟨hf.1, fun cs h => ?_⟩
    obtain ⟨c1, c2, h0, h1, h2⟩ := h
    exact ⟨[], c1, c2, by simpa using h0, rfl, h1, fits_length _ _ _ hf.1 h1⟩
  | .cons a b, .cons y z, n + 1, x, o, v, hf, hn, ho => by
    simp only [fits, Bool.and_eq_true] at hf
    simp only [nthC] at hn
    simp only [Ty.at] at ho
    split at ho
    · rename_i o' v' hb
      simp only [Option.some.injEq, Prod.mk.injEq] at ho
      obtain ⟨rfl, rfl⟩ := ho
      obtain ⟨k1, k2⟩ := nthC_fits b z n x o' v' hf.2 hn hb
      refine ⟨k1, fun cs h => ?_⟩
      obtain ⟨c1, c2, h0, h1, h2⟩ := h
      obtain ⟨pre, c', post, m1, m2, m3, m4⟩ := k2 c2 h2
      exact ⟨c1 ++ pre, c', post, by rw [h0, m1]; simp, by rw [List.length_append, fits_length _ _ _ hf.1 h1, m2], m3, m4⟩
    · cases ho
  | .cons _ _, .ro _ _, _, _, _, _, _, hn, _ | .cons _ _, .nils _ _, _, _, _, _, _, hn, _ | .cons _ _, .h _, _, _, _, _, _, hn, _ | .cons _ _, .p _, _, _, _, _, _, hn, _
  | .cons _ _, .addr _ _ _ _ _ _, _, _, _, _, _, hn, _ | .cons _ _, .rdp _ _, _, _, _, _, _, hn, _ | .cons _ _, .fn _ _, _, _, _, _, _, hn, _ | .cons _ _, .tup _, _, _, _, _, _, hn, _
  | .cons _ _, .nil, _, _, _, _, _, hn, _ | .cons _ _, .agg _, _, _, _, _, _, hn, _ | .cons _ _, .cst _, _, _, _, _, _, hn, _ | .cons _ _, .dead, _, _, _, _, _, hn, _ => by simp [nthC] at hn
  | .int _, _, _, _, _, _, _, _, ho | .bool, _, _, _, _, _, _, _, ho | .str, _, _, _, _, _, _, _, ho | .list _ _, _, _, _, _, _, _, _, ho | .nil, _, _, _, _, _, _, _, ho | .st _, _, _, _, _, _, _, _, ho | .ptr, _, _, _, _, _, _, _, ho => by
    simp [Ty.at] at ho

theorem getCP_fits {E : Env} {ob : Nat → Ob} {nx : Nat} : ∀ (path : List Nat) (t : Ty) (c x : Cn) (o : Nat) (v : Ty), fits t c = true → getCP c path = some x → t.offP path = some (o, v) →
    fits v x = true ∧ ∀ cs, CRep E ob nx c false cs → ∃ pre c' post, cs = pre ++ c' ++ post ∧ pre.length = o ∧ CRep E ob nx x false c' ∧ c'.length = v.size
  | [], t, c, x, o, v, hf, hg, ho => by
    simp only [Ty.offP, Option.some.injEq, Prod.mk.injEq] at ho
    obtain ⟨rfl, rfl⟩ := ho
    have hg : some c = some x := by cases c <;> simpa [getCP] using hg
    cases hg
    exact ⟨hf, fun cs h => ⟨[], cs, [], by simp, rfl, h, fits_length _ _ _ hf h⟩⟩
  | f :: r, t, c, x, o, v, hf, hg, ho => by
    simp only [Ty.offP] at ho
    split at ho
    · rename_i o1 u1 k1
      split at ho
      · rename_i o2 u2 k2
        simp only [Option.some.injEq, Prod.mk.injEq] at ho
        obtain ⟨rfl, rfl⟩ := ho
        cases c with
        | agg fs =>
          simp only [getCP] at hg
          split at hg
          · rename_i y hy
            cases t with
            | st ft =>
              obtain ⟨m1, m2⟩ := nthC_fits (E := E) (ob := ob) (nx := nx) ft fs f y o1 u1 hf hy k1
              obtain ⟨n1, n2⟩ := getCP_fits (E := E) (ob := ob) (nx := nx) r u1 y x o2 u2 m1 hg k2
              refine ⟨n1, fun cs h => ?_⟩
              obtain ⟨pre, c', post, p1, p2, p3, p4⟩ := m2 cs h
              obtain ⟨pre2, c2, post2, q1, q2, q3, q4⟩ := n2 c' p3
              exact ⟨pre ++ pre2, c2, post2 ++ post, by rw [p1, q1]; simp, by simp [p2, q2], q3, q4⟩
            | _ => simp [Ty.fld] at k1
          · cases hg
        | _ => simp [getCP] at hg
      · cases ho
    · cases ho

end Go.Am
