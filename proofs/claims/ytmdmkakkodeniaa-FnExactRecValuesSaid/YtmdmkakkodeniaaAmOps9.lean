/- Literals of rows; stores. -/
import Derived.Test.YtmdmkakkodeniaaAmOps8
set_option linter.unusedVariables false
set_option linter.unusedSimpArgs false
namespace Go.Am

structure Tk (st st1 : St) (gone : List Nat) : Prop where
  sl : st1.sl = st.sl
  nx : st1.nx = st.nx
  ob : ∀ j, st1.ob j = if j ∈ gone then .dead else st.ob j
  nd : gone.Nodup
  alive : ∀ j, j ∈ gone → st.ob j ≠ .dead

theorem Tk.refl (st : St) : Tk st st [] := ⟨rfl, rfl, fun j => by simp, List.nodup_nil, fun j hj => by simp at hj⟩
theorem Tk.trans {a b c : St} {g h : List Nat} (k : Tk a b g) (l : Tk b c h) : Tk a c (g ++ h) where
  sl := l.sl.trans k.sl
  nx := l.nx.trans k.nx
  ob := fun j => by
    rw [l.ob j, k.ob j]
    by_cases h1 : j ∈ h <;> by_cases h2 : j ∈ g <;> simp [h1, h2]
  nd := by
    rw [List.nodup_append]
    refine ⟨k.nd, l.nd, fun x hx y hy e => ?_⟩
    subst e
    have := l.alive x hy
    rw [k.ob x] at this
    simp [hx] at this
  alive := fun j hj => by
    rcases List.mem_append.1 hj with hj | hj
    · exact k.alive j hj
    · have := l.alive j hj
      rw [k.ob j] at this
      by_cases h2 : j ∈ g
      · simp [h2] at this
      · simpa [h2] using this

def Owns (E : Env) (st : St) : Prop := ∀ j ver e t xs, st.ob j = .sl false ver e t xs → Ow E.w (.list e t) xs [E.rho j] (E.B j)

theorem Owns.tk {E : Env} {st st1 : St} {g : List Nat} (h : Owns E st) (k : Tk st st1 g) : Owns E st1 := by
  intro j ver e t xs hj
  rw [k.ob j] at hj
  by_cases h2 : j ∈ g
  · simp [h2] at hj
  · simp only [h2, if_false] at hj
    exact h j ver e t xs hj

theorem Rep.owns {E : Env} {st : St} {tm : Array Value} (h : Rep E st tm) : Owns E st := by
  intro j ver e t xs hj
  have := h.ob j
  rw [hj] at this
  exact this

theorem takeDV_sound {E : Env} {ob0 : Nat → Ob} {nx : Nat} : ∀ (c : Cn) (st : St) (d : DV) (st1 : St) (cs : List Value), takeDV st c = some (d, st1) → CRep E ob0 nx c false cs → Owns E st →
    ∃ gone, Tk st st1 gone ∧ Ow E.w d.ty d.v cs (gone.map E.B).flatten ∧ d.ty.isAgg = c.isAgg
  | .ro none d0, st, d, st1, cs, h, hc, ho => by
    simp only [takeDV] at h
    split at h
    · rename_i hf
      simp only [Option.some.injEq, Prod.mk.injEq] at h
      obtain ⟨rfl, rfl⟩ := h
      exact ⟨[], Tk.refl _, Rd_Ow_flat _ hf _ _ (hc.2.2 trivial), rfl⟩
    · cases h
  | .nils e t, st, d, st1, cs, h, hc, ho => by
    simp only [takeDV, Option.some.injEq, Prod.mk.injEq] at h
    obtain ⟨rfl, rfl⟩ := h
    have hc : cs = [.slice none 0 0] := hc
    exact ⟨[], Tk.refl _, ⟨.slice none 0 0, [], [], hc, World.ownsRow_nil _ _ _ _, ⟨rfl, rfl⟩, rfl⟩, rfl⟩
  | .h i, st, d, st1, cs, h, hc, ho => by
    simp only [takeDV] at h
    split at h
    · rename_i ver e t xs hob
      simp only [Option.some.injEq, Prod.mk.injEq] at h
      obtain ⟨rfl, rfl⟩ := h
      have hc : cs = [E.rho i] := hc.2.2
      subst hc
      refine ⟨[i], ⟨rfl, rfl, fun j => ?_, by simp, fun j hj => ?_⟩, by simpa using ho i ver e t xs hob, rfl⟩
      · simp only [St.set, upd_apply, List.mem_singleton]
      · obtain rfl := List.mem_singleton.1 hj
        rw [hob]; simp
    · cases h
  | .nil, st, d, st1, cs, h, hc, ho => by
    simp only [takeDV, Option.some.injEq, Prod.mk.injEq] at h
    obtain ⟨rfl, rfl⟩ := h
    exact ⟨[], Tk.refl _, ⟨hc, rfl⟩, rfl⟩
  | .cons a b, st, d, st1, cs, h, hc, ho => by
    simp only [takeDV] at h
    split at h
    · rename_i x s1 hx
      split at h
      · rename_i y s2 hy
        simp only [Option.some.injEq, Prod.mk.injEq] at h
        obtain ⟨rfl, rfl⟩ := h
        obtain ⟨c1, c2, h0, h1, h2⟩ := hc
        obtain ⟨g1, k1, k2, _⟩ := takeDV_sound a st x s1 c1 hx h1 ho
        obtain ⟨g2, m1, m2, _⟩ := takeDV_sound b s1 y s2 c2 hy h2 (ho.tk k1)
        exact ⟨g1 ++ g2, k1.trans m1, ⟨c1, c2, _, _, h0, by simp, k2, m2⟩, rfl⟩
      · cases h
    · cases h
  | .agg c, st, d, st1, cs, h, hc, ho => by
    simp only [takeDV] at h
    split at h
    · rename_i x s1 hx
      simp only [Option.some.injEq, Prod.mk.injEq] at h
      obtain ⟨rfl, rfl⟩ := h
      obtain ⟨g1, k1, k2, _⟩ := takeDV_sound c st x s1 cs hx hc ho
      exact ⟨g1, k1, k2, rfl⟩
    · cases h
  | .ro (some _) _, _, _, _, _, h, _, _ | .p _, _, _, _, _, h, _, _ | .addr _ _ _ _ _ _, _, _, _, _, h, _, _ | .rdp _ _, _, _, _, _, h, _, _ | .fn _ _, _, _, _, _, h, _, _ | .tup _, _, _, _, _, h, _, _
  | .cst _, _, _, _, _, h, _, _ | .dead, _, _, _, _, h, _, _ => by simp [takeDV] at h

theorem takeLit {E : Env} {ob0 : Nat → Ob} {nx : Nat} {a : Act} {u : Ty} : ∀ (ps : List (Nat × Operand)) (l : List (Nat × Cn)) (st : St) (ds : List (Nat × DV)) (st1 : St) (i : Nat) (xs : List u.Den),
    PRep E ob0 nx a ps l → takeParts st l = some (ds, st1) → litL u i ds = some xs → Owns E st →
    ∃ gone f, Tk st st1 gone ∧ OEls (Ow E.w u) xs f (gone.map E.B).flatten ∧ (ps.map fun p => (a.eval p.2).cells.toList).flatten = f ∧
      (∀ j p, ps[j]? = some p → p.1 = i + j ∧ (a.eval p.2).cells.size = u.size) ∧ ps.length = xs.length
  | [], [], st, ds, st1, i, xs, _, h, hl, ho => by
    simp only [takeParts, Option.some.injEq, Prod.mk.injEq] at h
    obtain ⟨rfl, rfl⟩ := h
    simp only [litL, Option.some.injEq] at hl
    subst hl
    exact ⟨[], [], Tk.refl _, ⟨rfl, rfl⟩, rfl, fun j p hp => by simp at hp, rfl⟩
  | x :: r, y :: l, st, ds, st1, i, xs, ⟨h1, h2, h3⟩, h, hl, ho => by
    simp only [takeParts] at h
    split at h
    · rename_i d s1 hd
      split at h
      · rename_i l' s2 hr
        simp only [Option.some.injEq, Prod.mk.injEq] at h
        obtain ⟨rfl, rfl⟩ := h
        simp only [litL] at hl
        split at hl
        · rename_i hb
          have hb := Nat.eq_of_beq_eq_true hb
          split at hl
          · rename_i z zs hz hzs
            simp only [Option.some.injEq] at hl
            subst hl
            have hde : y.2 ≠ .dead := by intro e; rw [e] at hd; simp [takeDV] at hd
            obtain ⟨cs, hc, hm⟩ := VRep_one h2 hde
            obtain ⟨g1, k1, k2, k3⟩ := takeDV_sound y.2 st d s1 cs hd hc ho
            obtain rfl := castDV_eq hz
            have hcells := mkV_cells hm (Ow_one _ _ _ _ k2)
            obtain ⟨g2, f, m1, m2, m3, m4, m5⟩ := takeLit r l s1 l' s2 (i + 1) zs h3 hr hzs (ho.tk k1)
            refine ⟨g1 ++ g2, cs ++ f, k1.trans m1, ⟨cs, f, _, _, rfl, by simp, k2, m2⟩, by simp [hcells, m3], fun j p hp => ?_, by simp [m5]⟩
            cases j with
            | zero =>
              simp at hp
              subst hp
              refine ⟨by omega, ?_⟩
              have := Ow_length _ _ _ _ k2
              rw [← hcells] at this
              simpa using this
            | succ j =>
              obtain ⟨q1, q2⟩ := m4 j p (by simpa using hp)
              exact ⟨by omega, q2⟩
          · cases hl
        · cases hl
      · cases h
    · cases h

theorem fill_seq {s : Nat} {a : Act} : ∀ (ps : List (Nat × Operand)) (i : Nat) (cells : Array Value), (∀ j p, ps[j]? = some p → p.1 = i + j ∧ (a.eval p.2).cells.size = s) → cells.size = (i + ps.length) * s →
    Instr.fill (fun i => some (i * s, s)) cells (ps.map fun (i, x) => (i, a.eval x)) = some (cells.toList.take (i * s) ++ (ps.map fun p => (a.eval p.2).cells.toList).flatten).toArray
  | [], i, cells, _, hs => by
    have : cells.toList.take (i * s) = cells.toList := List.take_of_length_le (by simp [hs])
    simp [Instr.fill, this]
  | x :: r, i, cells, hp, hs => by
    obtain ⟨h1, h2⟩ := hp 0 x rfl
    have hx : x.1 = i := by omega
    have hs' : cells.size = (i + (r.length + 1)) * s := hs
    have e0 : (i + (r.length + 1)) * s = i * s + s + r.length * s := by rw [Nat.add_mul, Nat.add_mul]; omega
    simp only [List.map_cons, hx]
    rw [fill_cons (i := i) (off := i * s) (size := s) rfl h2 (by omega)]
    rw [fill_seq r (i + 1) _ (fun j p hj => by
      obtain ⟨q1, q2⟩ := hp (j + 1) p (by simpa using hj)
      exact ⟨by omega, q2⟩) (by
        have := splice_length (cs := cells.toList) (vs := (a.eval x.2).cells.toList) (o := i * s) (by simp [h2]; omega)
        rw [List.size_toArray, this, Array.length_toList, hs']
        congr 1; omega)]
    congr 2
    simp only [splice, List.flatten_cons]
    have l1 : (cells.toList.take (i * s)).length = i * s := by rw [List.length_take, Array.length_toList]; omega
    have l2 : (a.eval x.2).cells.toList.length = s := by simpa using h2
    rw [show (i + 1) * s = i * s + s by rw [Nat.add_mul, Nat.one_mul], List.take_left' (by rw [List.length_append, l1, l2])]
    simp

section
variable {P : Program} {R : Type} {C : Ctx} {o : Oper} {st : St} {k : St → Option R} {r : R} {E0 E : Env} {a : Act} {K : Act → World → Prop} {Q : Exit → Act → World → Prop} {g : Bool}

theorem run_buildSlice {t e : TypeId} {u : Ty} {w : World} {len : Nat} {ps : List (Nat × Operand)} (ht : P.underlying t = some (.slice e)) (he : InfoOk P e u) (hb : len * u.size ≤ 16777216)
    (hl : ps.length = len) (hp : ∀ j p, ps[j]? = some p → p.1 = 0 + j ∧ (a.eval p.2).cells.size = u.size) :
    (Instr.buildSlice t len (ps.map fun (i, x) => (i, a.eval x)).toArray).run P w = .ok (.slice (some ⟨w.heap.size, 0, none⟩) len len) (w.alloc (.cells (ps.map fun p => (a.eval p.2).cells.toList).flatten.toArray e)) := by
  obtain ⟨i, z, k1, k2, k3, _⟩ := he
  have hf : ∀ zero : Array Value, Instr.fill (fun i => some (i * u.size, u.size)) ((Array.range (len * u.size)).map (zero[· % zero.size]!)) (ps.map fun (i, x) => (i, a.eval x)) = some (ps.map fun p => (a.eval p.2).cells.toList).flatten.toArray := by
    intro zero
    rw [fill_seq ps 0 _ hp (by simp [hl])]
    simp
  have hb' : ¬ 2 ^ 24 < len * u.size := by omega
  have hz : ((if len * u.size = 0 then pure #[] else do pure (← zeroValue e).cells : Sem (Array Value))).run P w = .ok (if len * u.size = 0 then #[] else z.cells) w := by
    split <;> simp [zeroValue, typeInfo, k1, k3]
  unfold Instr.buildSlice
  simp only [Sem.run_bind, run_underlying ht, Result.andThen_ok]
  simp only [sizeOf, typeInfo, k1, k2, Sem.run_bind, Sem.run_pure, Result.andThen_ok, program, Sem.run, if_neg hb', hz]
  have hz' : (zeroValue e).run P w = .ok z w := by simp [zeroValue, typeInfo, k1, k3]
  simp [hf, newRow, newObj, Sem.run, hz']

theorem buildSliceK_sound (htt : ∀ t u, C.tt t = some u → TOk P t u) {pure : Bool} {t : TypeId} {len : Nat} {ps : Array (Nat × Operand)} (ho : o.op = .buildSlice t len ps) (hgf : g = false)
    (hk : buildSliceK C pure o t len ps.toList st k = some r) (h : Inv C.N E0 E st a)
    (hK : ∀ st' E' v, k st' = some r → Inv C.N E0 E' st' (a.put o.dst v) → Pur P C g o a v E.w E'.w → K (a.put o.dst v) E'.w) : o.wp P a E.w K Q := by
  unfold buildSliceK at hk
  split at hk
  · rename_i e u hT
    have hd := (htt _ _ hT).desc
    simp only at hd
    split at hk
    · rename_i hb
      rw [Bool.and_eq_true] at hb
      have hb := Nat.le_of_ble_eq_true hb.1
      split at hk
      · rename_i l hl
        split at hk
        · rename_i ds s1 hds
          split at hk
          · rename_i xs hxs
            split at hk
            · rename_i hlen
              have hlen := Nat.eq_of_beq_eq_true hlen
              obtain ⟨gone, f, k1, k2, k3, k4, k5⟩ := takeLit (u := u) ps.toList l st ds s1 0 xs (evParts_sound h.rep _ _ hl) hds hxs h.rep.owns
              have hrun := run_buildSlice (P := P) (w := E.w) (a := a) (len := len) hd.1 hd.2.1 hb (by rw [k5, hlen]) k4
              rw [k3] at hrun
              have hfl := OEls_length (Ow_length u) xs f _ k2
              have hdj : ∀ b, b ∈ (gone.map E.B).flatten → ∃ j, j ∈ gone ∧ b ∈ E.B j := by
                intro b hb
                obtain ⟨l, hl, hbl⟩ := List.mem_flatten.1 hb
                obtain ⟨j, hj, rfl⟩ := List.mem_map.1 hl
                exact ⟨j, hj, hbl⟩
              have hnd : ∀ (g : List Nat), g.Nodup → (g.map E.B).flatten.Nodup := by
                intro g
                induction g with
                | nil => intro _; exact List.nodup_nil
                | cons x g ih =>
                  intro hg
                  rw [List.nodup_cons] at hg
                  simp only [List.map_cons, List.flatten_cons]
                  rw [List.nodup_append]
                  refine ⟨h.rep.nd x, ih hg.2, fun b hb c hc e => ?_⟩
                  subst e
                  obtain ⟨l, hl, hbl⟩ := List.mem_flatten.1 hc
                  obtain ⟨j, hj, rfl⟩ := List.mem_map.1 hl
                  exact h.rep.dj x j b (fun e => by subst e; exact hg.1 hj) hb hbl
              have hi := h.swap (w := E.w.alloc (.cells f.toArray e)) (fun j => decide (j ∈ gone)) (Grew.wev (Grew.alloc _ _))
                (fun j hj b hb => heap_alloc_old _ _ _ (h.rep.bb j b hb).1)
                (.sl false 0 e u xs) (.slice (some ⟨E.w.heap.size, 0, none⟩) len len) (E.w.heap.size :: (gone.map E.B).flatten)
                (by
                  intro b hb
                  rcases List.mem_cons.1 hb with rfl | hb
                  · exact ⟨.inr (Nat.le_refl _), by simp⟩
                  · obtain ⟨j, hj, hbj⟩ := hdj b hb
                    exact ⟨.inl ⟨j, by simpa using hj, hbj⟩, by have := (h.rep.bb j b hbj).1; simp; omega⟩)
                (by
                  rw [List.nodup_cons]
                  refine ⟨fun hb => ?_, hnd gone k1.nd⟩
                  obtain ⟨j, hj, hbj⟩ := hdj _ hb
                  have := (h.rep.bb j _ hbj).1
                  omega)
                s1.ob (fun j => by rw [k1.ob j]; simp)
                (by
                  intro ev
                  refine ⟨.slice (some ⟨E.w.heap.size, 0, none⟩) len len, f, (gone.map E.B).flatten, by simp [upd_same], ?_, ?_, by simp [upd_same, Value.ownBlock]⟩
                  · rw [hlen]
                    refine ⟨by rw [hfl, hlen], .inr ⟨E.w.heap.size, len, f.toArray, rfl, Nat.zero_le _, heap_alloc_new _ _, Nat.le_refl _, ?_, by simp [hfl, hlen], ?_⟩⟩
                    · have hs := hd.2.1
                      obtain ⟨_, _, _, _, _, _, q, _⟩ := hs
                      have : len ≤ len * u.size := Nat.le_mul_of_pos_right _ q
                      simp only [maxLen]; omega
                    · rw [List.take_of_length_le (by simp [hfl, hlen])]
                  · exact OEls_nodup_sub k2 fun b hb => by
                      obtain ⟨j, hj, hbj⟩ := hdj b hb
                      exact heap_alloc_old _ _ _ (h.rep.bb j b hbj).1)
              have hk' : putK C o (.h st.nx) ⟨st.sl, upd s1.ob st.nx (.sl false 0 e u xs), st.nx + 1⟩ k = some r := by
                have e1 : s1.push (.sl false 0 e u xs) = ⟨st.sl, upd s1.ob st.nx (.sl false 0 e u xs), st.nx + 1⟩ := by simp [St.push, k1.sl, k1.nx]
                rw [← e1, ← k1.nx]; exact hk
              have hrun' : (execOp a.eval o).run P E.w = .ok (.value (.slice (some ⟨E.w.heap.size, 0, none⟩) len len)) (E.w.alloc (.cells f.toArray e)) := by
                have e2 : ((ps.toList.map fun (i, x) => (i, a.eval x)).toArray) = ps.map fun (i, x) => (i, a.eval x) := by
                  apply Array.ext'
                  simp
                rw [e2] at hrun
                unfold execOp
                simp [ho, hrun]
              refine wp_value hrun' (putK_sound (G := fun a' => K a' _) hk' hi ?_ fun st' hk'' hi' => hK st' _ _ hk'' hi' (.loud (by simp [still, ho]) (fun hgt => by rw [hgf] at hgt; cases hgt)))
              exact ⟨[.slice (some ⟨E.w.heap.size, 0, none⟩) len len], ⟨Nat.lt_succ_self _, by simp only [upd_same]; rfl, by simp only [upd_same]⟩, rfl⟩
            · cases hk
          · cases hk
        · cases hk
      · cases hk
    · cases hk
  · cases hk
end

end Go.Am
