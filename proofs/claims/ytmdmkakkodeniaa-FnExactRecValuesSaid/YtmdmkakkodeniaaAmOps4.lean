/- Addresses and loads, as operations. -/
import Derived.Test.YtmdmkakkodeniaaAmOps3
set_option linter.unusedVariables false
set_option linter.unusedSimpArgs false
namespace Go.Am

theorem VRep_one {E : Env} {ob : Nat → Ob} {nx : Nat} {c : Cn} {v : Value} (h : VRep E ob nx c v) (hd : c ≠ .dead) : ∃ cs, CRep E ob nx c false cs ∧ mkV c.isAgg cs v := by
  cases c with
  | dead => exact absurd rfl hd
  | _ => exact h

/-- the row of an own object that is not empty -/
theorem own_block {E : Env} {ob : Nat → Ob} {nx i : Nat} {ver : Nat} {e : TypeId} {t : Ty} {xs : List t.Den} (h : ObOk E ob nx i (.sl false ver e t xs)) (hn : 0 < xs.length) :
    ∃ g cap, E.rho i = .slice (some ⟨g, 0, none⟩) xs.length cap ∧ g ∈ E.B i := by
  obtain ⟨v, f, nb, h1, h2, h3, h4⟩ := h
  have h1 : E.rho i = v := by simpa using h1
  rcases h2.2 with ⟨rfl, h0⟩ | ⟨g, cap, cur, rfl, _⟩
  · omega
  · exact ⟨g, cap, h1, by rw [h4]; simp [Value.ownBlock]⟩

section
variable {P : Program} {R : Type} {C : Ctx} {o : Oper} {st : St} {k : St → Option R} {r : R} {E0 E : Env} {a : Act} {K : Act → World → Prop} {Q : Exit → Act → World → Prop} {g : Bool}

theorem run_indexAt {t e : TypeId} {u : Ty} {w : World} (ht : P.underlying t = some (.slice e)) (he : InfoOk P e u) (ad : Addr) (hs : ad.spot = none) (n c : Nat) (ki : IntKind) (ix : Int)
    (h0 : 0 ≤ ix) (h1 : ix < (n : Int)) : (Instr.indexAt t (.slice (some ad) n c) (.int ki ix)).run P w = .ok (.pointer (some ⟨ad.block, ad.off + ix.toNat * u.size, none⟩)) w := by
  obtain ⟨i, z, k1, k2, _⟩ := he
  simp [Instr.indexAt, asIntOf, run_underlying ht, h0, h1, sizeOf, typeInfo, k1, k2, Addr.add_eq ad hs]

theorem indexAddrK_sound (htt : ∀ t u, C.tt t = some u → TOk P t u) {t : TypeId} {X I : Operand} {x i : Cn} (ho : o.op = .indexAddr t X I)
    (hk : indexAddrK C o t x i st k = some r) (h : Inv C.N E0 E st a) (hx : VRep E st.ob st.nx x (a.eval X)) (hi : VRep E st.ob st.nx i (a.eval I))
    (hK : ∀ st' E' v, k st' = some r → Inv C.N E0 E' st' (a.put o.dst v) → Pur P C g o a v E.w E'.w → K (a.put o.dst v) E'.w) : o.wp P a E.w K Q := by
  unfold indexAddrK at hk
  split at hk
  · rename_i ki ix
    have ei := VRep_int_inv hi
    split at hk
    · rename_i j
      obtain ⟨cs, hc, hm⟩ := hx
      have hm : cs = [a.eval X] := hm
      have hX : a.eval X = E.rho j := by have := hc.2.2; rw [hm] at this; simpa using this
      split at hk
      · rename_i fz ver e u xs hob
        split at hk
        · rename_i hT
          have hd := (htt _ _ (isT_eq hT)).desc
          simp only at hd
          obtain ⟨y, hy, hk⟩ := Option.bind_eq_some_iff.1 hk
          obtain ⟨h0, h1, h2, h3⟩ := rdL_spec hy
          have hj := h.rep.ob j
          rw [hob] at hj
          split at hk
          · obtain ⟨⟨A, n, c, f, k1, k2, k3, k4, k5, k6, k7⟩, _⟩ := hj
            have k1 : E.rho j = .slice A n c := by simpa using k1
            have hn : 0 < n := by rw [k2]; omega
            obtain ⟨ad, rfl⟩ := Option.ne_none_iff_exists'.1 (k7.1 hn)
            obtain ⟨m1, m2⟩ := k5 ad rfl hn
            obtain ⟨c', p1, p2⟩ := Els_get (Rd_length u) xs f k4 _ _ h2
            refine quiet_sound (v := .pointer (some ⟨ad.block, ad.off + ix.toNat * u.size, none⟩)) hk h
              (by unfold execOp; simp [ho, hX, ei, k1, run_indexAt hd.1 hd.2.1 ad m1 n c ki ix h0 (by rw [k2]; exact h3)]) ?_ hK
            refine ⟨_, ⟨trivial, ⟨ad.block, ad.off + ix.toNat * u.size, none⟩, rfl, rfl, fun _ => ⟨m2, c', p1, ?_⟩⟩, rfl⟩
            intro jj v hv
            have hlt := (List.getElem?_eq_some_iff.1 hv).1
            rw [Rd_length _ _ _ p1] at hlt
            obtain ⟨ad', q1, q2⟩ := k6 _ v (by rw [p2 jj hlt]; exact hv)
            obtain rfl := Option.some.inj q1
            exact ⟨_, rfl, by rw [← q2]; simp [Nat.add_assoc]⟩
          · obtain ⟨g, cap, k1, k2⟩ := own_block hj (by omega)
            refine quiet_sound (v := .pointer (some ⟨g, 0 + ix.toNat * u.size, none⟩)) hk h
              (by unfold execOp; simp [ho, hX, ei, k1, run_indexAt hd.1 hd.2.1 ⟨g, 0, none⟩ rfl xs.length cap ki ix h0 h3]) ?_ hK
            refine ⟨_, ⟨hc.1, h0, ⟨g, by simp [k1, blkOf], by simp⟩, fun u' hu' => ?_, ?_, ?_⟩, rfl⟩
            · exact ⟨u', rfl⟩
            · rw [hob]
              exact ⟨h1, rfl, Nat.le_refl _, fun _ => ⟨y, h2, rfl⟩⟩
            · rw [hob]; intro hh; cases hh
        · cases hk
      · cases hk
    · split at hk
      · rename_i v hv
        split at hk
        · rename_i hT
          have hd := (htt _ _ (isT_eq hT)).desc
          simp only at hd
          obtain ⟨y, hy, hk⟩ := Option.bind_eq_some_iff.1 hk
          obtain ⟨h0, h1, h2, h3⟩ := rdL_spec hy
          obtain ⟨⟨A, n, c, f, k1, k2, k3, k4, k5, k6, k7⟩, l1, l2⟩ := asL_sound hv h.rep.ob hx
          have k1 : a.eval X = .slice A n c := by simpa using k1
          have hn : 0 < n := by rw [k2]; omega
          obtain ⟨ad, rfl⟩ := Option.ne_none_iff_exists'.1 (k7.1 hn)
          obtain ⟨m1, m2⟩ := k5 ad rfl hn
          obtain ⟨c', p1, p2⟩ := Els_get (Rd_length v.t) v.xs f k4 _ _ h2
          refine quiet_sound (v := .pointer (some ⟨ad.block, ad.off + ix.toNat * v.t.size, none⟩)) hk h
            (by unfold execOp; simp [ho, ei, k1, run_indexAt hd.1 hd.2.1 ad m1 n c ki ix h0 (by rw [k2]; exact h3)]) ?_ hK
          refine ⟨_, ⟨l1, ⟨ad.block, ad.off + ix.toNat * v.t.size, none⟩, rfl, rfl, fun _ => ⟨m2, c', p1, ?_⟩⟩, rfl⟩
          intro jj u hu
          have hlt := (List.getElem?_eq_some_iff.1 hu).1
          rw [Rd_length _ _ _ p1] at hlt
          obtain ⟨ad', q1, q2⟩ := k6 _ u (by rw [p2 jj hlt]; exact hu)
          obtain rfl := Option.some.inj q1
          exact ⟨_, rfl, by rw [← q2]; simp [Nat.add_assoc]⟩
        · cases hk
      · cases hk
  · cases hk

theorem fldAddr_sound (htt : ∀ t u, C.tt t = some u → TOk P t u) {s f : Nat} {X : Operand} {x d : Cn} (ho : o.op = .fieldAddr s X f)
    (hd : fldAddr C.tt st.ob s f x = some d) (hk : putK C o d st k = some r) (h : Inv C.N E0 E st a) (hx : VRep E st.ob st.nx x (a.eval X))
    (hK : ∀ st' E' v, k st' = some r → Inv C.N E0 E' st' (a.put o.dst v) → Pur P C g o a v E.w E'.w → K (a.put o.dst v) E'.w) : o.wp P a E.w K Q := by
  unfold fldAddr at hd
  split at hd
  · rename_i i
    split at hd
    · rename_i u c hob
      split at hd
      · rename_i hT
        split at hd
        · rename_i oo v hf
          cases hd
          obtain ⟨cs, hc, hm⟩ := hx
          have hm : cs = [a.eval X] := hm
          have hX : a.eval X = E.rho i := by have := hc.2.2; rw [hm] at this; simpa using this
          have hi := h.rep.ob i
          rw [hob] at hi
          obtain ⟨g, cs', t, k1, k2, k3, k4, k5⟩ := hi
          refine quiet_sound (v := .pointer (some ⟨g, 0 + oo, none⟩)) hk h
            (by unfold execOp; simp [ho, hX, k1, run_fieldAt (htt _ _ (isT_eq hT)) hf ⟨g, 0, none⟩ rfl]) ?_ hK
          refine ⟨_, ⟨hc.1, Int.le_refl _, ⟨g, by simp [k1, blkOf], by simp⟩, fun u' hu' => ?_, ?_, fun _ => rfl⟩, rfl⟩
          · rw [hob] at hu'
            obtain rfl := Option.some.inj hu'
            exact ⟨v, by simp [Ty.offP, hf]⟩
          · rw [hob]; trivial
        · cases hd
      · cases hd
    · cases hd
  · rename_i i ix es off path cache
    split at hd
    · rename_i t hT
      split at hd
      · rename_i hl
        split at hd
        · rename_i oo v hf
          obtain ⟨cs, ⟨c1, c2, ⟨g, c3, c4⟩, c5, c6, c7⟩, hm⟩ := hx
          have hm : cs = [a.eval X] := hm
          have hX : a.eval X = .pointer (some ⟨g, ix.toNat * es + off, none⟩) := by rw [hm] at c4; simpa using c4
          have hrun : ∀ u, (isLd o = false ∨ u = E.w) → (execOp a.eval o).run P u = .ok (.value (.pointer (some ⟨g, ix.toNat * es + off + oo, none⟩))) u := by
            intro u _
            unfold execOp
            simp [ho, hX, run_fieldAt (htt _ _ hT) hf ⟨g, ix.toNat * es + off, none⟩ rfl]
          have hoff : ∀ u, (st.ob i).lay = some u → ∃ v', u.offP (path ++ [f]) = some (off + oo, v') := by
            intro u hu
            rw [hu] at hl
            obtain ⟨v', hv'⟩ := c5 u hu
            simp only [hv'] at hl
            obtain rfl := of_decide_eq_true hl
            exact ⟨v, Ty.offP_snoc _ _ _ _ _ _ _ hv' hf⟩
          split at hd
          · rename_i cv dd
            split at hd
            · rename_i e he
              cases hd
              refine quiet_sound hk h hrun ?_ hK
              refine ⟨_, ⟨c1, c2, ⟨g, c3, by simp [Nat.add_assoc]⟩, hoff, ?_, c7⟩, rfl⟩
              cases hob : st.ob i with
              | sl fz ver e' t' xs =>
                rw [hob] at c6
                exact ⟨c6.1, c6.2.1, c6.2.2.1, fun ee => by
                  obtain ⟨y, y1, y2⟩ := c6.2.2.2 ee
                  exact ⟨y, y1, getP_snoc _ _ _ _ _ y2 he⟩⟩
              | _ => trivial
            · cases hd
          · cases hd
            refine quiet_sound hk h hrun ?_ hK
            refine ⟨_, ⟨c1, c2, ⟨g, c3, by simp [Nat.add_assoc]⟩, hoff, ?_, c7⟩, rfl⟩
            cases hob : st.ob i with
            | sl fz ver e' t' xs =>
              rw [hob] at c6
              exact ⟨c6.1, c6.2.1, trivial⟩
            | _ => trivial
        · cases hd
      · cases hd
    · cases hd
  · rename_i b dd
    split at hd
    · rename_i t hT
      split at hd
      · rename_i hty
        have hty := of_decide_eq_true hty
        split at hd
        · rename_i e he
          cases hd
          obtain ⟨cs, ⟨l1, ad, c1, c2, c3⟩, hm⟩ := hx
          have hm : cs = [a.eval X] := hm
          have hX : a.eval X = .pointer (some ad) := by rw [hm] at c1; simpa using c1
          have ⟨oo, u, hf⟩ : ∃ oo u, dd.ty.fld f = some (oo, u) := by
            obtain ⟨ty, v⟩ := dd
            unfold getFld at he
            split at he
            · rename_i aa y heq
              cases heq
              have : ∀ (t : Ty) (n : Nat) (x : t.Den) (e : DV), getF t n x = some e → ∃ oo u, t.at n = some (oo, u) := by
                intro t
                induction t with
                | cons a b _ ihb =>
                  intro n x e hh
                  cases n with
                  | zero => exact ⟨0, a, rfl⟩
                  | succ n =>
                    obtain ⟨oo, u, hu⟩ := ihb n x.2 e hh
                    exact ⟨a.size + oo, u, by simp [Ty.at, hu]⟩
                | _ => intro n x e hh; cases n <;> simp [getF] at hh
              exact this aa f y e he
            · cases he
          rw [hty] at hf
          refine quiet_sound (v := .pointer (some ⟨ad.block, ad.off + oo, none⟩)) hk h
            (by unfold execOp; simp [ho, hX, run_fieldAt (htt _ _ hT) hf ad c2]) ?_ hK
          refine ⟨_, ⟨l1, ⟨ad.block, ad.off + oo, none⟩, rfl, rfl, fun hl => ?_⟩, rfl⟩
          obtain ⟨m1, ff, m2, m3⟩ := c3 hl
          rw [← hty] at hf
          obtain ⟨_, c', p1, p2⟩ := Rd_getFld m2 he hf
          refine ⟨m1, c', p1, fun j v hv => ?_⟩
          obtain ⟨ad', q1, q2⟩ := m3 _ _ (p2 j v hv)
          obtain rfl := Option.some.inj q1
          exact ⟨_, rfl, by rw [← q2]; simp [Nat.add_assoc]⟩
        · cases hd
      · cases hd
    · cases hd
  · cases hd

/-- a load -/
theorem load_val (htt : ∀ t u, C.tt t = some u → TOk P t u) {t : TypeId} {xv : Value} {x d : Cn}
    (hd : loadC st x = some d) (hl : ldOk C.tt t d.isAgg d.size = true) (h : Inv C.N E0 E st a) (hx : VRep E st.ob st.nx x xv) : ∃ v, (Instr.loadAt t xv).run P E.w = .ok v E.w ∧ VRep E st.ob st.nx d v := by
  have ⟨u, hT, hag, hsz⟩ : ∃ u, C.tt t = some u ∧ u.isAgg = d.isAgg ∧ u.size = d.size := by
    unfold ldOk at hl
    split at hl
    · rename_i u hu
      rw [Bool.and_eq_true] at hl
      exact ⟨u, hu, by simpa using hl.1, Nat.eq_of_beq_eq_true hl.2⟩
    · cases hl
  have hu := htt _ _ hT
  -- what is read
  have fin : ∀ (ad : Addr) (c : List Value), ad.spot = none → xv = .pointer (some ad) → c.length = d.size → (∀ j v, c[j]? = some v → E.w.cell? ⟨ad.block, ad.off + j, none⟩ = some v) →
      (∀ v, mkV d.isAgg c v → VRep E st.ob st.nx d v) → ∃ v, (Instr.loadAt t xv).run P E.w = .ok v E.w ∧ VRep E st.ob st.nx d v := by
    intro ad c hs hX hlen hc hv
    obtain ⟨v, h1, h2⟩ := run_load (P := P) (w := E.w) hu ad hs c (by rw [hlen, hsz]) hc
    rw [hag] at h2
    exact ⟨v, by rw [hX]; exact h1, hv v h2⟩
  -- a part of a variable
  have box : ∀ (i : Nat) (u : Ty) (c : Cn) (path : List Nat) (off : Nat) (v : Ty), st.ob i = .box u c → getCP c path = some d → u.offP path = some (off, v) →
      (∃ g, blkOf (E.rho i) = some g ∧ xv = .pointer (some ⟨g, off, none⟩)) → ∃ v, (Instr.loadAt t xv).run P E.w = .ok v E.w ∧ VRep E st.ob st.nx d v := by
    intro i u c path off v hob hg hof ⟨g, hbk, hX⟩
    have hi := h.rep.ob i
    rw [hob] at hi
    obtain ⟨g', cs, t', k1, k2, k3, k4, k5⟩ := hi
    have : g' = g := by rw [k1] at hbk; simpa [blkOf] using hbk
    subst this
    obtain ⟨f1, f2⟩ := getCP_fits (E := E) (ob := st.ob) (nx := st.nx) path u c d off v k4 hg hof
    obtain ⟨pre, c', post, p1, p2, p3, p4⟩ := f2 cs k3
    have hde : d ≠ .dead := by intro e; rw [e] at f1; cases v <;> simp [fits] at f1
    refine fin ⟨g', off, none⟩ c' rfl hX ?_ ?_ ?_
    · have := fits_isAgg f1
      rw [p4]
      have hs := fits_size f1
      exact hs.symm
    · intro j v hj
      have hlt := (List.getElem?_eq_some_iff.1 hj).1
      rw [cell_of_row E.w g' _ cs.toArray t' (0, 0) k2]
      rw [p1]
      simp only [List.getElem?_toArray]
      rw [List.append_assoc, List.getElem?_append_right (by rw [p2]; exact Nat.le_add_right _ _), p2, show off + j - off = j by omega, List.getElem?_append_left hlt]
      exact hj
    · intro v hm
      exact VRep_mk c' p3 hm
  unfold loadC at hd
  split at hd
  · rename_i i
    split at hd
    · rename_i u' c hob
      cases hd
      obtain ⟨cs, hc, hm⟩ := hx
      have hm : cs = [xv] := hm
      have hX : xv = E.rho i := by have := hc.2.2; rw [hm] at this; simpa using this
      have hi := h.rep.ob i
      rw [hob] at hi
      obtain ⟨g', cs', t', k1, k2⟩ := hi
      exact box i u' d [] 0 u' hob (by cases d <;> rfl) rfl ⟨g', by simp [k1, blkOf], by rw [hX, k1]⟩
    · cases hd
  · rename_i i ix es off path cache
    obtain ⟨cs, ⟨c1, c2, ⟨g, c3, c4⟩, c5, c6, c7⟩, hm⟩ := hx
    have hm : cs = [xv] := hm
    have hX : xv = .pointer (some ⟨g, ix.toNat * es + off, none⟩) := by rw [hm] at c4; simpa using c4
    split at hd
    · rename_i u' c hob
      obtain ⟨v, hv⟩ := c5 u' (by rw [hob]; rfl)
      have hes : es = 0 := c7 (by rw [hob]; rfl)
      exact box i u' c path off v hob hd hv ⟨g, c3, by rw [hX, hes]; simp⟩
    · rename_i fz ver e' t' xs hob
      split at hd
      · cases hd
      · split at hd
        · rename_i cv dd
          split at hd
          · rename_i hbq
            cases hd
            have hcv := Nat.eq_of_beq_eq_true hbq
            rw [hob] at c6
            obtain ⟨d1, d2, d3, d4⟩ := c6
            obtain ⟨y, y1, y2⟩ := d4 hcv
            have hi := h.rep.ob i
            rw [hob] at hi
            obtain ⟨g', cap, b1, b2⟩ := own_block hi (by omega)
            have : g' = g := by rw [b1] at c3; simpa [blkOf] using c3
            subst this
            obtain ⟨A, n, cc, f, m1, m2, m3, m4, m5, m6, m7⟩ := Ow_Rd _ _ _ _ hi
            have m1 : E.rho i = .slice A n cc := by simpa using m1
            rw [b1] at m1
            simp only [Value.slice.injEq] at m1
            obtain ⟨rfl, _, _⟩ := m1
            obtain ⟨c', p1, p2⟩ := Els_get (Rd_length t') xs f m4 _ _ y1
            obtain ⟨vv, hv⟩ := c5 t' (by rw [hob]; rfl)
            obtain ⟨q0, c'', q1, q2⟩ := Rd_getP path ⟨t', y⟩ dd off vv c' p1 y2 hv
            have hsr : srcLt st.ob st.nx (some (i, ver)) := ⟨c1, by rw [hob]; exact Nat.le_refl _⟩
            have hsize : (roC (some (i, ver)) dd).size = dd.ty.size := by unfold roC; split <;> rfl
            have hagg : (roC (some (i, ver)) dd).isAgg = dd.ty.isAgg := by unfold roC; split <;> rfl
            refine fin ⟨g', ix.toNat * es + off, none⟩ c'' rfl hX (by rw [Rd_length _ _ _ q1, hsize]) ?_ ?_
            · intro j v hj
              have hlt : off + j < t'.size := by
                have := (List.getElem?_eq_some_iff.1 (q2 j v hj)).1
                rwa [Rd_length _ _ _ p1] at this
              obtain ⟨ad', r1, r2⟩ := m6 _ v (by rw [p2 _ hlt]; exact q2 j v hj)
              obtain rfl := Option.some.inj r1
              rw [← r2, d2]
              simp [Nat.add_assoc]
            · intro v hm
              rw [hagg] at hm
              exact roC_VRep (Rd_mono (fun b hb => .inl hb) (fun _ _ => rfl) _ _ _ q1) hsr hm
          · cases hd
        · cases hd
    · cases hd
  · rename_i b dd
    obtain ⟨cs, ⟨l1, ad, c1, c2, c3⟩, hm⟩ := hx
    have hm : cs = [xv] := hm
    have hX : xv = .pointer (some ad) := by rw [hm] at c1; simpa using c1
    split at hd
    · cases hd
      obtain ⟨m1, f, m2, m3⟩ := c3 trivial
      refine fin ad f c2 hX (Rd_length _ _ _ m2) ?_ ?_
      · intro j v hj
        obtain ⟨ad', r1, r2⟩ := m3 j v hj
        obtain rfl := Option.some.inj r1
        exact r2
      · intro v hm
        exact VRep_ro m2 hm
    · rename_i i ver
      split at hd
      · rename_i fz v e t' xs hob
        split at hd
        · rename_i hbq
          cases hd
          have hlive : live st.ob (some (i, ver)) := by simp only [live, fresh, hob]; exact Nat.eq_of_beq_eq_true hbq
          obtain ⟨m1, f, m2, m3⟩ := c3 hlive
          have hsize : (roC (some (i, ver)) dd).size = dd.ty.size := by unfold roC; split <;> rfl
          have hagg : (roC (some (i, ver)) dd).isAgg = dd.ty.isAgg := by unfold roC; split <;> rfl
          refine fin ad f c2 hX (by rw [Rd_length _ _ _ m2, hsize]) ?_ ?_
          · intro j v hj
            obtain ⟨ad', r1, r2⟩ := m3 j v hj
            obtain rfl := Option.some.inj r1
            exact r2
          · intro v hm
            rw [hagg] at hm
            exact roC_VRep m2 l1 hm
        · cases hd
      · cases hd
  · cases hd

theorem load_sound (htt : ∀ t u, C.tt t = some u → TOk P t u) {t : TypeId} {X : Operand} {x d : Cn} (ho : o.op = .load t X)
    (hd : loadC st x = some d) (hl : ldOk C.tt t d.isAgg d.size = true) (hk : putK C o d st k = some r) (h : Inv C.N E0 E st a) (hx : VRep E st.ob st.nx x (a.eval X))
    (hK : ∀ st' E' v, k st' = some r → Inv C.N E0 E' st' (a.put o.dst v) → Pur P C g o a v E.w E'.w → K (a.put o.dst v) E'.w) : o.wp P a E.w K Q := by
  obtain ⟨v, h1, h2⟩ := load_val htt hd hl h hx
  exact quiet_sound hk h (fun u' hu' => by
    obtain rfl := hu'.resolve_left (by simp [isLd, ho])
    unfold execOp; simp [ho, h1]) h2 hK
end

end Go.Am
