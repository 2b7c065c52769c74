/- Stores. -/
import Derived.Test.YtmdmkakkodeniaaAmOps9
set_option linter.unusedVariables false
set_option linter.unusedSimpArgs false
namespace Go.Am

theorem run_storeAt {P : Program} {w : World} {t : TypeId} {n : Nat} (hi : ∃ i, P.info? t = some i ∧ i.size = n) {g o : Nat} {cur : Array Value} {e : TypeId} {v : Value} {vs : List Value} (hg : w.heap[g]? = some (.cells cur e (0, 0)))
    (hv : v.cells.toList = vs) (hl : vs.length = n) (hf : o + n ≤ cur.size) (h1 : ∀ x, x ∈ vs → x.oneCell' = true) :
    (Instr.storeAt t (.pointer (some ⟨g, o, none⟩)) v).run P w = .ok () (w.setRow g (splice cur.toList o vs).toArray) := by
  obtain ⟨i, k1, k2⟩ := hi
  have hs : v.cells.size = i.size := by rw [k2, ← hl, ← hv]; simp
  have hst := run_storeCells_at P g o e vs 0 cur w hg (by omega) h1
  simp only [Nat.add_zero] at hst
  simp [Instr.storeAt, Instr.sureAddr, storeVar, sizeOf, typeInfo, k1, hs, hv, hst, splice]

/-! ### a part of a variable's content replaced -/
theorem fits_cons {a b : Ty} {x y : Cn} : fits (.cons a b) (.cons x y) = (fits a x && fits b y) := rfl

theorem setNth_fits {E : Env} {ob : Nat → Ob} {nx : Nat} {g : Cn → Option Cn} {vs : List Value} {po : Nat} {pv : Ty} (hg : ∀ (x y : Cn), fits pv x = true → g x = some y → fits pv y = true ∧
      ∀ cs, CRep E ob nx x false cs → po + vs.length ≤ cs.length ∧ CRep E ob nx y false (splice cs po vs)) :
    ∀ (t : Ty) (c d : Cn) (n o : Nat) (v : Ty), fits t c = true → t.at n = some (o, v) → v = pv → setNth g c n = some d → fits t d = true ∧
      ∀ cs, CRep E ob nx c false cs → o + po + vs.length ≤ cs.length ∧ CRep E ob nx d false (splice cs (o + po) vs) := by
  intro t
  induction t with
  | cons a b _ ihb =>
    intro c d n o v hf ha hv hs
    cases c with
    | cons x y =>
      rw [fits_cons, Bool.and_eq_true] at hf
      cases n with
      | zero =>
        simp only [Ty.at, Option.some.injEq, Prod.mk.injEq] at ha
        obtain ⟨rfl, rfl⟩ := ha
        simp only [setNth] at hs
        split at hs
        · rename_i z hz
          cases hs
          subst hv
          obtain ⟨k1, k2⟩ := hg x z hf.1 hz
          refine ⟨by rw [fits_cons, k1, hf.2]; rfl, fun cs h => ?_⟩
          obtain ⟨c1, c2, h0, h1, h2⟩ := h
          obtain ⟨m1, m2⟩ := k2 c1 h1
          refine ⟨by rw [h0]; simp; omega, splice c1 po vs, c2, ?_, m2, h2⟩
          rw [h0, Nat.zero_add]
          simp only [splice]
          rw [List.take_append_of_le_length (by omega), List.drop_append_of_le_length (by omega)]
          simp
        · cases hs
      | succ n =>
        simp only [Ty.at] at ha
        split at ha
        · rename_i o' v' hb
          simp only [Option.some.injEq, Prod.mk.injEq] at ha
          obtain ⟨rfl, rfl⟩ := ha
          simp only [setNth] at hs
          split at hs
          · rename_i z hz
            cases hs
            obtain ⟨k1, k2⟩ := ihb y z n o' v' hf.2 hb hv hz
            refine ⟨by rw [fits_cons, hf.1, k1]; rfl, fun cs h => ?_⟩
            obtain ⟨c1, c2, h0, h1, h2⟩ := h
            obtain ⟨m1, m2⟩ := k2 c2 h2
            have hl := fits_length a x c1 hf.1 h1
            refine ⟨by rw [h0]; simp; omega, c1, splice c2 (o' + po) vs, ?_, h1, m2⟩
            rw [h0]
            simp only [splice]
            rw [List.take_append, List.take_of_length_le (by omega), show a.size + o' + po - c1.length = o' + po by omega, List.drop_append, List.drop_of_length_le (by omega), show a.size + o' + po + vs.length - c1.length = o' + po + vs.length by omega]
            simp
          · cases hs
        · cases ha
    | _ => simp [fits] at hf
  | _ => intro c d n o v hf ha; simp [Ty.at] at ha

theorem setCP_fits {E : Env} {ob : Nat → Ob} {nx : Nat} {c' : Cn} {vs : List Value} (hc : CRep E ob nx c' false vs) : ∀ (path : List Nat) (t : Ty) (c d : Cn) (o : Nat) (v : Ty), fits t c = true → t.offP path = some (o, v) → fits v c' = true →
    setCP c' path c = some d → fits t d = true ∧ ∀ cs, CRep E ob nx c false cs → o + vs.length ≤ cs.length ∧ CRep E ob nx d false (splice cs o vs)
  | [], t, c, d, o, v, hf, ho, hv, hs => by
    simp only [Ty.offP, Option.some.injEq, Prod.mk.injEq] at ho
    obtain ⟨rfl, rfl⟩ := ho
    have hs : some c' = some d := by cases c <;> simpa [setCP] using hs
    cases hs
    refine ⟨hv, fun cs h => ?_⟩
    have l1 := fits_length _ _ _ hf h
    have l2 := fits_length _ _ _ hv hc
    refine ⟨by omega, ?_⟩
    simp only [splice, List.take_zero, List.nil_append, Nat.zero_add]
    rw [List.drop_of_length_le (by omega)]
    simpa using hc
  | f :: r, t, c, d, o, v, hf, ho, hv, hs => by
    simp only [Ty.offP] at ho
    split at ho
    · rename_i o1 u1 k1
      split at ho
      · rename_i o2 u2 k2
        simp only [Option.some.injEq, Prod.mk.injEq] at ho
        obtain ⟨rfl, rfl⟩ := ho
        cases c with
        | agg fs =>
          simp only [setCP] at hs
          split at hs
          · rename_i x hx
            cases hs
            cases t with
            | st ft =>
              have := setNth_fits (E := E) (ob := ob) (nx := nx) (g := setCP c' r) (vs := vs) (po := o2) (pv := u1) (fun x y hfx hy => setCP_fits hc r u1 x y o2 u2 hfx k2 hv hy) ft fs x f o1 u1 hf k1 rfl hx
              exact this
            | _ => simp [Ty.fld] at k1
          · cases hs
        | _ => simp [setCP] at hs
      · cases ho
    · cases ho

/-! ### a part of an element replaced -/
theorem setF_Ow {w : World} {g : (t : Ty) → t.Den → Option t.Den} {vs : List Value} {po : Nat} {pv : Ty}
    (hg : ∀ (x y : pv.Den), g pv x = some y → ∀ cs bs, Ow w pv x cs bs → po + vs.length ≤ cs.length ∧ Ow w pv y (splice cs po vs) bs) :
    ∀ (t : Ty) (n : Nat) (x y : t.Den) (o : Nat) (v : Ty), t.at n = some (o, v) → v = pv → setF g t n x = some y → ∀ cs bs, Ow w t x cs bs → o + po + vs.length ≤ cs.length ∧ Ow w t y (splice cs (o + po) vs) bs := by
  intro t
  induction t with
  | cons a b _ ihb =>
    intro n x y o v ha hv hs cs bs h
    obtain ⟨c, d, e, f, h0, h0', h1, h2⟩ := h
    cases n with
    | zero =>
      simp only [Ty.at, Option.some.injEq, Prod.mk.injEq] at ha
      obtain ⟨rfl, rfl⟩ := ha
      subst hv
      simp only [setF] at hs
      split at hs
      · rename_i z hz
        cases hs
        obtain ⟨m1, m2⟩ := hg _ _ hz c e h1
        refine ⟨by rw [h0]; simp; omega, splice c po vs, d, e, f, ?_, h0', m2, h2⟩
        rw [h0, Nat.zero_add]
        simp only [splice]
        rw [List.take_append_of_le_length (by omega), List.drop_append_of_le_length (by omega)]
        simp
      · cases hs
    | succ n =>
      simp only [Ty.at] at ha
      split at ha
      · rename_i o' v' hb
        simp only [Option.some.injEq, Prod.mk.injEq] at ha
        obtain ⟨rfl, rfl⟩ := ha
        simp only [setF] at hs
        split at hs
        · rename_i z hz
          cases hs
          obtain ⟨m1, m2⟩ := ihb n _ _ o' v' hb hv hz d f h2
          have hl := Ow_length a _ c e h1
          refine ⟨by rw [h0]; simp; omega, c, splice d (o' + po) vs, e, f, ?_, h0', h1, m2⟩
          rw [h0]
          simp only [splice]
          rw [List.take_append, List.take_of_length_le (by omega), show a.size + o' + po - c.length = o' + po by omega, List.drop_append, List.drop_of_length_le (by omega), show a.size + o' + po + vs.length - c.length = o' + po + vs.length by omega]
          simp
        · cases hs
      · cases ha
  | _ => intro n x y o v ha; simp [Ty.at] at ha

theorem setP_Ow {w : World} {d : DV} {vs : List Value} (hd : Rd w (fun _ => False) d.ty d.v vs) (hf : d.ty.flat = true) : ∀ (path : List Nat) (t : Ty) (x y : t.Den) (o : Nat) (v : Ty), t.offP path = some (o, v) → setP d path t x = some y →
    ∀ cs bs, Ow w t x cs bs → o + vs.length ≤ cs.length ∧ Ow w t y (splice cs o vs) bs
  | [], t, x, y, o, v, ho, hs, cs, bs, h => by
    simp only [Ty.offP, Option.some.injEq, Prod.mk.injEq] at ho
    obtain ⟨rfl, rfl⟩ := ho
    obtain rfl := castDV_eq (show castDV t d = some y from hs)
    have l1 := Ow_length _ _ _ _ h
    have l2 := Rd_length _ _ _ hd
    have hb := Ow_flat t hf x cs bs h
    refine ⟨by simp only at l2; omega, ?_⟩
    simp only [splice, List.take_zero, List.nil_append, Nat.zero_add]
    rw [List.drop_of_length_le (by simp only at l2; omega), List.append_nil, hb]
    exact Rd_Ow_flat t hf y vs hd
  | f :: r, t, x, y, o, v, ho, hs, cs, bs, h => by
    simp only [Ty.offP] at ho
    split at ho
    · rename_i o1 u1 k1
      split at ho
      · rename_i o2 u2 k2
        simp only [Option.some.injEq, Prod.mk.injEq] at ho
        obtain ⟨rfl, rfl⟩ := ho
        cases t with
        | st ft =>
          exact setF_Ow (w := w) (g := setP d r) (vs := vs) (po := o2) (pv := u1) (fun x y hy cs bs hx => setP_Ow hd hf r u1 x y o2 u2 k2 hy cs bs hx) ft f x y o1 u1 k1 rfl hs cs bs h
        | _ => simp [Ty.fld] at k1
      · cases ho
    · cases ho

theorem OEls_set {α : Type} {R : α → List Value → List Nat → Prop} {s : Nat} (hs : ∀ x c b, R x c b → c.length = s) {y : α} {vs : List Value} {po : Nat} : ∀ (xs : List α) (f : List Value) (bs : List Nat) (k : Nat) (x : α), OEls R xs f bs → xs[k]? = some x →
    (∀ c b, R x c b → po + vs.length ≤ c.length ∧ R y (splice c po vs) b) → k * s + po + vs.length ≤ f.length ∧ OEls R (xs.set k y) (splice f (k * s + po) vs) bs
  | [], f, bs, k, x, h, hx, _ => by simp at hx
  | z :: zs, f, bs, 0, x, ⟨c, g, b, d, h1, h2, h3, h4⟩, hx, hy => by
    simp at hx
    subst hx
    obtain ⟨m1, m2⟩ := hy c b h3
    refine ⟨by rw [h1]; simp; omega, splice c po vs, g, b, d, ?_, h2, m2, h4⟩
    rw [h1, Nat.zero_mul, Nat.zero_add]
    simp only [splice]
    rw [List.take_append_of_le_length (by omega), List.drop_append_of_le_length (by omega)]
    simp
  | z :: zs, f, bs, k + 1, x, ⟨c, g, b, d, h1, h2, h3, h4⟩, hx, hy => by
    obtain ⟨m1, m2⟩ := OEls_set hs zs g d k x h4 (by simpa using hx) hy
    have hl := hs _ _ _ h3
    have e0 : (k + 1) * s = s + k * s := by rw [Nat.add_mul, Nat.one_mul, Nat.add_comm]
    refine ⟨by rw [h1, e0]; simp; omega, c, splice g (k * s + po) vs, b, d, ?_, h2, h3, m2⟩
    rw [h1, e0]
    simp only [splice]
    rw [List.take_append, List.take_of_length_le (by omega), show s + k * s + po - c.length = k * s + po by omega, List.drop_append, List.drop_of_length_le (by omega), show s + k * s + po + vs.length - c.length = k * s + po + vs.length by omega]
    simp

theorem flatDV_sound {E : Env} {ob : Nat → Ob} {nx : Nat} : ∀ (c : Cn) (d : DV) (cs : List Value), flatDV c = some d → CRep E ob nx c false cs → Rd E.w (fun _ => False) d.ty d.v cs ∧ d.ty.flat = true ∧ d.ty.isAgg = c.isAgg
  | .ro none d0, d, cs, h, hc => by
    simp only [flatDV] at h
    split at h
    · rename_i hf
      cases h
      exact ⟨Rd_flat _ hf _ _ (hc.2.2 trivial), hf, rfl⟩
    · cases h
  | .nil, d, cs, h, hc => by simp only [flatDV, Option.some.injEq] at h; subst h; exact ⟨hc, rfl, rfl⟩
  | .cons a b, d, cs, h, hc => by
    simp only [flatDV] at h
    split at h
    · rename_i x y hx hy
      cases h
      obtain ⟨c1, c2, h0, h1, h2⟩ := hc
      obtain ⟨k1, k2, _⟩ := flatDV_sound a x c1 hx h1
      obtain ⟨m1, m2, _⟩ := flatDV_sound b y c2 hy h2
      exact ⟨⟨c1, c2, h0, k1, m1⟩, by simp [Ty.flat, k2, m2], rfl⟩
    · cases h
  | .agg c, d, cs, h, hc => by
    simp only [flatDV] at h
    split at h
    · rename_i x hx
      cases h
      obtain ⟨k1, k2, _⟩ := flatDV_sound c x cs hx hc
      exact ⟨k1, k2, rfl⟩
    · cases h
  | .ro (some _) _, _, _, h, _ | .nils _ _, _, _, h, _ | .h _, _, _, h, _ | .p _, _, _, h, _ | .addr _ _ _ _ _ _, _, _, h, _ | .rdp _ _, _, _, h, _ | .fn _ _, _, _, h, _ | .tup _, _, _, h, _
  | .cst _, _, _, h, _ | .dead, _, _, h, _ => by simp [flatDV] at h

section
variable {P : Program} {R : Type} {C : Ctx} {o : Oper} {st : St} {k : St → Option R} {r : R} {E0 E : Env} {a : Act} {K : Act → World → Prop} {Q : Exit → Act → World → Prop} {g : Bool}

theorem heap_set_same {w : World} {g : Nat} {cur cs : Array Value} {t : TypeId} (hg : w.heap[g]? = some (.cells cur t (0, 0))) : (w.setRow g cs).heap[g]? = some (.cells cs t (0, 0)) := setRow_heap w g cur cs t (0, 0) hg

/-- a store into a variable in memory -/
theorem boxStore_sound (htt : ∀ t u, C.tt t = some u → TOk P t u) {ty : TypeId} {A X : Operand} {c c' n old : Cn} {i off : Nat} {u v : Ty} {path : List Nat} (ho : o.op = .store ty A X) (hgf : g = false) (hd : o.dst = none)
    (hob : st.ob i = .box u old) (hof : u.offP path = some (off, v)) (hb : boxable c = some c') (hf : fits v c' = true) (hT : isT C.tt ty v = true) (hn : setCP c' path old = some n)
    (hA : ∃ g, blkOf (E.rho i) = some g ∧ a.eval A = .pointer (some ⟨g, off, none⟩)) (hi : i < st.nx)
    (hk : k (st.set i (.box u n)) = some r) (h : Inv C.N E0 E st a) (hx : VRep E st.ob st.nx c (a.eval X))
    (hK : ∀ st' E' v, k st' = some r → Inv C.N E0 E' st' (a.put o.dst v) → Pur P C g o a v E.w E'.w → K (a.put o.dst v) E'.w) : o.wp P a E.w K Q := by
  obtain ⟨g, hbk, hA⟩ := hA
  have hbx := h.rep.ob i
  rw [hob] at hbx
  obtain ⟨g', cs, t, k1, k2, k3, k4, k5⟩ := hbx
  have : g' = g := by rw [k1] at hbk; simpa [blkOf] using hbk
  subst this
  obtain ⟨vs, m1, m2, m3, _⟩ := boxable_sound hb hx
  obtain ⟨q1, q2⟩ := setCP_fits m1 path u old n off v k4 hof hf hn
  obtain ⟨q3, q4⟩ := q2 cs k3
  have hvl := fits_length v c' vs hf m1
  obtain ⟨ii, zz, i1, i2, _⟩ := (htt _ _ (isT_eq hT)).info
  have hrun := run_storeAt (P := P) (w := E.w) (t := ty) (n := v.size) ⟨ii, i1, i2⟩ k2 m2 hvl (by rw [← hvl]; simpa using q3) m3
  have hI := h.touch i (.box u n) (w := E.w.setRow g' (splice cs off vs).toArray) rfl rfl rfl (by simp) (fun b hb => setRow_other E.w g' b _ (fun e => hb (by rw [k5, e]; simp))) hi
    (fun fz v e t xs he => by cases he) ⟨fun u' hu' => by rw [hob]; exact hu', fun _ => by rw [hob]; rfl⟩
    (fun ev => ⟨g', splice cs off vs, t, k1, heap_set_same k2, CRep_ev ev _ _ _ q4, q1, k5⟩)
  refine wp_skip' (w' := E.w.setRow g' (splice cs off vs).toArray) (by unfold execOp; simp [ho, hA, hrun]) ?_
  have hput : a.put o.dst undef = a := by rw [hd]; rfl
  exact hK _ _ undef hk (by rw [hput]; exact hI) (.loud (by simp [still, ho]) (fun hgt => by rw [hgf] at hgt; cases hgt))

/-- a store into a row -/
theorem rowStore_sound (htt : ∀ t u, C.tt t = some u → TOk P t u) {ty : TypeId} {A X : Operand} {c : Cn} {d : DV} {i off ver : Nat} {ix : Int} {e : TypeId} {t v : Ty} {xs : List t.Den} {x y : t.Den} {path : List Nat} (ho : o.op = .store ty A X) (hgf : g = false) (hd : o.dst = none)
    (hob : st.ob i = .sl false ver e t xs) (hof : t.offP path = some (off, v)) (hc : flatDV c = some d) (hT : isT C.tt ty d.ty = true) (h0 : 0 ≤ ix) (hxs : xs[ix.toNat]? = some x) (hy : setP d path t x = some y)
    (hA : ∃ g, blkOf (E.rho i) = some g ∧ a.eval A = .pointer (some ⟨g, ix.toNat * t.size + off, none⟩)) (hi : i < st.nx)
    (hk : k (st.set i (.sl false (ver + 1) e t (xs.set ix.toNat y))) = some r) (h : Inv C.N E0 E st a) (hx : VRep E st.ob st.nx c (a.eval X))
    (hK : ∀ st' E' v, k st' = some r → Inv C.N E0 E' st' (a.put o.dst v) → Pur P C g o a v E.w E'.w → K (a.put o.dst v) E'.w) : o.wp P a E.w K Q := by
  obtain ⟨g, hbk, hA⟩ := hA
  have hrow := h.rep.ob i
  rw [hob] at hrow
  obtain ⟨rv, f, nb, k1, k2, k3, k4⟩ := hrow
  have k1 : E.rho i = rv := by simpa using k1
  have hlt : ix.toNat < xs.length := (List.getElem?_eq_some_iff.1 hxs).1
  rcases k2.2 with ⟨_, hz⟩ | ⟨g', cap, cur, hrv, hg0, hgg, hnc, hcm, hcs, htk⟩
  · omega
  have : g' = g := by rw [k1, hrv] at hbk; simpa [blkOf] using hbk
  subst this
  have hde : c ≠ .dead := by intro e; rw [e] at hc; simp [flatDV] at hc
  obtain ⟨vs, hv1, hv2⟩ := VRep_one hx hde
  obtain ⟨r1, r2, r3⟩ := flatDV_sound c d vs hc hv1
  have hone := Rd_one _ _ _ r1
  have hcells := mkV_cells hv2 hone
  obtain ⟨s1, s2⟩ := OEls_set (Ow_length t) (y := y) (vs := vs) (po := off) xs f nb ix.toNat x k3 hxs (fun c b hcb => setP_Ow (w := E.w) r1 r2 path t x y off v hof hy c b hcb)
  have hvl := Rd_length _ _ _ r1
  obtain ⟨ii, zz, i1, i2, _⟩ := (htt _ _ (isT_eq hT)).info
  have hfl : f.length = xs.length * t.size := k2.1
  have hcap : xs.length * t.size ≤ cap * t.size := Nat.mul_le_mul_right _ hnc
  have hrun := run_storeAt (P := P) (w := E.w) (t := ty) (n := d.ty.size) ⟨ii, i1, i2⟩ (o := ix.toNat * t.size + off) hgg hcells hvl (by omega) hone
  have hnd := h.rep.nd i
  rw [k4, hrv] at hnd
  simp [Value.ownBlock] at hnd
  have hI := h.touch i (.sl false (ver + 1) e t (xs.set ix.toNat y)) (w := E.w.setRow g' (splice cur.toList (ix.toNat * t.size + off) vs).toArray) rfl rfl rfl (by simp)
    (fun b hb => setRow_other E.w g' b _ (fun e => hb (by rw [k4, hrv, e]; simp [Value.ownBlock]))) hi
    (fun fz v' e' t' xs' he => by cases he; exact ⟨false, ver, xs, hob, by simp, Nat.lt_succ_self _⟩) ⟨fun u' hu' => by rw [hob]; exact hu', fun hh => by cases hh⟩
    (fun ev => by
      refine ⟨rv, splice f (ix.toNat * t.size + off) vs, nb, by rw [← k1], ⟨?_, .inr ⟨g', cap, (splice cur.toList (ix.toNat * t.size + off) vs).toArray, by rw [hrv]; simp, hg0, heap_set_same hgg, by simpa using hnc, hcm, ?_, ?_⟩⟩, ?_, k4⟩
      · rw [splice_length s1, hfl]; simp
      · rw [List.size_toArray, splice_length (by simp; omega)]; simpa using hcs
      · rw [← htk]
        simp only [List.length_set]
        simp only [splice]
        have e1 : ix.toNat * t.size + off + vs.length ≤ xs.length * t.size := by rw [← hfl]; exact s1
        rw [List.take_append, List.take_append]
        simp only [List.length_append, List.length_take, Array.length_toList]
        rw [List.take_take, List.take_take, Nat.min_eq_left (by omega : ix.toNat * t.size + off ≤ cur.size), Nat.min_eq_right (by omega : ix.toNat * t.size + off ≤ xs.length * t.size), Nat.min_eq_left (by omega : ix.toNat * t.size + off ≤ xs.length * t.size),
          List.take_of_length_le (by omega : vs.length ≤ xs.length * t.size - (ix.toNat * t.size + off)), List.drop_take]
      · exact OEls_nodup_sub s2 fun b hb => setRow_other E.w g' b _ (fun e => hnd.1 (by rw [← e]; exact hb)))
  refine wp_skip' (w' := E.w.setRow g' (splice cur.toList (ix.toNat * t.size + off) vs).toArray) (by unfold execOp; simp [ho, hA, hrun]) ?_
  have hput : a.put o.dst undef = a := by rw [hd]; rfl
  exact hK _ _ undef hk (by rw [hput]; exact hI) (.loud (by simp [still, ho]) (fun hgt => by rw [hgf] at hgt; cases hgt))

theorem storeK_sound (htt : ∀ t u, C.tt t = some u → TOk P t u) {ty : TypeId} {A X : Operand} {x c : Cn} (ho : o.op = .store ty A X) (hgf : g = false) (hd : o.dst = none)
    (hk : storeK C.tt ty st x c k = some r) (h : Inv C.N E0 E st a) (hA : VRep E st.ob st.nx x (a.eval A)) (hx : VRep E st.ob st.nx c (a.eval X))
    (hK : ∀ st' E' v, k st' = some r → Inv C.N E0 E' st' (a.put o.dst v) → Pur P C g o a v E.w E'.w → K (a.put o.dst v) E'.w) : o.wp P a E.w K Q := by
  cases x with
  | p i =>
    simp only [storeK] at hk
    obtain ⟨cs, hc, hm⟩ := hA
    have hm : cs = [a.eval A] := hm
    have hAv : a.eval A = E.rho i := by have := hc.2.2; rw [hm] at this; simpa using this
    cases hob : st.ob i with
    | box u old =>
      simp only [hob] at hk
      split at hk
      · rename_i c' hb
        split at hk
        · rename_i hf
          rw [Bool.and_eq_true] at hf
          have hbx := h.rep.ob i
          rw [hob] at hbx
          obtain ⟨g', cs', t, k1, _⟩ := hbx
          exact boxStore_sound htt (path := []) (off := 0) (n := c') ho hgf hd hob rfl hb hf.1 hf.2 (by cases old <;> rfl) ⟨g', by simp [k1, blkOf], by rw [hAv, k1]⟩ hc.1 hk h hx hK
        · cases hk
      · cases hk
    | _ => simp [hob] at hk
  | addr i ix es off path cache =>
    simp only [storeK] at hk
    obtain ⟨cs, ⟨c1, c2, ⟨g, c3, c4⟩, c5, c6, c7⟩, hm⟩ := hA
    have hm : cs = [a.eval A] := hm
    have hAv : a.eval A = .pointer (some ⟨g, ix.toNat * es + off, none⟩) := by rw [hm] at c4; simpa using c4
    cases hob : st.ob i with
    | box u old =>
      simp only [hob] at hk
      split at hk
      · rename_i o' v hof
        split at hk
        · rename_i c' hb
          split at hk
          · rename_i hf
            rw [Bool.and_eq_true] at hf
            split at hk
            · rename_i n hn
              obtain ⟨v', hv'⟩ := c5 u (by rw [hob]; rfl)
              rw [hof] at hv'
              simp only [Option.some.injEq, Prod.mk.injEq] at hv'
              obtain ⟨rfl, rfl⟩ := hv'
              have hes : es = 0 := c7 (by rw [hob]; rfl)
              exact boxStore_sound htt ho hgf hd hob hof hb hf.1 hf.2 hn ⟨g, c3, by rw [hAv, hes]; simp⟩ c1 hk h hx hK
            · cases hk
          · cases hk
        · cases hk
      · cases hk
    | sl fz ver e t xs =>
      simp only [hob] at hk
      cases fz with
      | true => simp at hk
      | false =>
        simp only at hk
        split at hk
        · rename_i d hdv
          split at hk
          · rename_i hT
            obtain ⟨x, hx1, hk⟩ := Option.bind_eq_some_iff.1 hk
            obtain ⟨h0, h1, h2, _⟩ := rdL_spec hx1
            split at hk
            · rename_i y hy
              obtain ⟨v', hv'⟩ := c5 t (by rw [hob]; rfl)
              rw [hob] at c6
              exact rowStore_sound htt ho hgf hd hob hv' hdv hT h0 h2 hy ⟨g, c3, by rw [hAv, c6.2.1]⟩ c1 hk h hx hK
            · cases hk
          · cases hk
        · cases hk
    | _ => simp [hob] at hk
  | _ => simp [storeK] at hk
end

end Go.Am
