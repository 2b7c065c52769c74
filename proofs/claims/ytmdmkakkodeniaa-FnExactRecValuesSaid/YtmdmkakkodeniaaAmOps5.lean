/- What makes memory: variables, literals, rows. -/
import Derived.Test.YtmdmkakkodeniaaAmOps4
import Derived.Laws.OwnMore
set_option linter.unusedVariables false
set_option linter.unusedSimpArgs false
namespace Go.Am

theorem ZR_length : ∀ (u : Ty) (cs : List Value), ZR u cs → cs.length = u.size
  | .int _, _, h | .bool, _, h | .str, _, h | .list _ _, _, h | .nil, _, h => by rw [show _ = _ from h]; rfl
  | .cons a b, _, ⟨c, d, h, h1, h2⟩ => by rw [h, List.length_append, ZR_length a c h1, ZR_length b d h2]; rfl
  | .st a, cs, h => ZR_length a cs h
  | .ptr, _, h => h

theorem ZR_Ow {w : World} : ∀ (u : Ty) (cs : List Value), u.noPtr = true → ZR u cs → Ow w u u.dflt cs []
  | .int _, _, _, h | .bool, _, _, h | .str, _, _, h | .nil, _, _, h => ⟨h, rfl⟩
  | .list e t, _, _, h => ⟨.slice none 0 0, [], [], h, World.ownsRow_nil w 0 e t.size, ⟨rfl, rfl⟩, rfl⟩
  | .cons a b, _, hp, ⟨c, d, h, h1, h2⟩ => by
    simp only [Ty.noPtr, Bool.and_eq_true] at hp
    exact ⟨c, d, [], [], h, rfl, ZR_Ow a c hp.1 h1, ZR_Ow b d hp.2 h2⟩
  | .st a, cs, hp, h => ZR_Ow a cs hp h
  | .ptr, _, hp, _ => by simp [Ty.noPtr] at hp

theorem fits_zero : ∀ (u : Ty), fits u (zeroC u) = true → u.noPtr = true
  | .int _, _ | .bool, _ | .str, _ | .nil, _ | .list _ _, _ => rfl
  | .cons a b, h => by
    simp only [zeroC, fits, Bool.and_eq_true] at h
    simp [Ty.noPtr, fits_zero a h.1, fits_zero b h.2]
  | .st a, h => fits_zero a h
  | .ptr, h => by simp [zeroC, fits] at h

theorem zeroC_rep {E : Env} {ob : Nat → Ob} {nx : Nat} : ∀ (u : Ty) (cs : List Value), u.noPtr = true → ZR u cs → CRep E ob nx (zeroC u) false cs
  | .int k, _, _, h => ⟨by rw [show _ = _ from h]; rfl, trivial, fun _ => h⟩
  | .bool, _, _, h => ⟨by rw [show _ = _ from h]; rfl, trivial, fun _ => h⟩
  | .str, _, _, h => ⟨by rw [show _ = _ from h]; rfl, trivial, fun _ => h⟩
  | .nil, _, _, h => h
  | .list e t, _, _, h => h
  | .cons a b, _, hp, ⟨c, d, h, h1, h2⟩ => by
    simp only [Ty.noPtr, Bool.and_eq_true] at hp
    exact ⟨c, d, h, zeroC_rep a c hp.1 h1, zeroC_rep b d hp.2 h2⟩
  | .st a, cs, hp, h => zeroC_rep a cs hp h
  | .ptr, _, hp, _ => by simp [Ty.noPtr] at hp

theorem expl_rep {E : Env} {ob : Nat → Ob} {nx : Nat} : ∀ (u : Ty) (x : u.Den) (cs : List Value), Rd E.w E.Z u x cs → CRep E ob nx (expl u x) false cs
  | .int k, x, cs, h => ⟨Rd_length _ _ _ h, trivial, fun _ => h⟩
  | .bool, x, cs, h => ⟨Rd_length _ _ _ h, trivial, fun _ => h⟩
  | .str, x, cs, h => ⟨Rd_length _ _ _ h, trivial, fun _ => h⟩
  | .list e t, x, cs, h => ⟨Rd_length _ _ _ h, trivial, fun _ => h⟩
  | .nil, _, _, h => h
  | .cons a b, x, _, ⟨c, d, h, h1, h2⟩ => ⟨c, d, h, expl_rep a _ c h1, expl_rep b _ d h2⟩
  | .st a, x, cs, h => expl_rep a x cs h
  | .ptr, _, _, h => (show False from h).elim

theorem Rd_one {w : World} {S : Nat → Prop} : ∀ (t : Ty) (x : t.Den) (cs : List Value), Rd w S t x cs → ∀ v, v ∈ cs → v.oneCell' = true
  | .int _, _, _, h, v, hv | .bool, _, _, h, v, hv | .str, _, _, h, v, hv => by
    rw [show _ = _ from h] at hv
    obtain rfl := List.mem_singleton.1 hv
    rfl
  | .list _ _, _, _, ⟨_, _, _, _, h, _⟩, v, hv => by
    rw [h] at hv
    obtain rfl := List.mem_singleton.1 hv
    rfl
  | .nil, _, _, h, v, hv => by rw [show _ = _ from h] at hv; simp at hv
  | .cons a b, x, _, ⟨c, d, h, h1, h2⟩, v, hv => by
    rw [h] at hv
    rcases List.mem_append.1 hv with hv | hv
    · exact Rd_one a _ c h1 v hv
    · exact Rd_one b _ d h2 v hv
  | .st a, x, cs, h, v, hv => Rd_one a x cs h v hv
  | .ptr, _, _, h, _, _ => (show False from h).elim

theorem Ow_one {w : World} (t : Ty) (x : t.Den) (cs : List Value) (bs : List Nat) (h : Ow w t x cs bs) : ∀ v, v ∈ cs → v.oneCell' = true := Rd_one t x cs (Ow_Rd t x cs bs h)

theorem mkV_cells {agg : Bool} {cs : List Value} {v : Value} (h : mkV agg cs v) (h1 : ∀ x, x ∈ cs → x.oneCell' = true) : v.cells.toList = cs := by
  unfold mkV at h
  cases agg with
  | true => simp only [if_true] at h; subst h; simp [Value.cells]
  | false =>
    simp only [Bool.false_eq_true, if_false] at h
    subst h
    have := h1 v (by simp)
    cases v <;> first | rfl | (simp [Value.oneCell'] at this)

/-- a content that may stand in a variable: its cells -/
theorem boxable_cells {E : Env} {ob : Nat → Ob} {nx : Nat} : ∀ (c b : Cn), boxable c = some b → ∀ (cs : List Value), CRep E ob nx c false cs →
    CRep E ob nx b false cs ∧ (∀ x, x ∈ cs → x.oneCell' = true) ∧ b.isAgg = c.isAgg := by
  intro c
  induction c with
  | ro b d =>
    intro b' hb cs h
    cases b with
    | none =>
      simp only [boxable] at hb
      split at hb
      case h_2 => cases hb
      simp only [Option.some.injEq] at hb
      subst hb
      refine ⟨expl_rep _ _ _ (h.2.2 trivial), Rd_one _ _ _ (h.2.2 trivial), ?_⟩
      obtain ⟨ty, v⟩ := d
      cases ty <;> rfl
    | some p => simp [boxable] at hb
  | nils e t =>
    intro b hb cs h
    simp only [boxable, Option.some.injEq] at hb; subst hb
    exact ⟨h, fun x hx => by rw [show cs = _ from h] at hx; obtain rfl := List.mem_singleton.1 hx; rfl, rfl⟩
  | h i =>
    intro b hb cs h
    simp only [boxable, Option.some.injEq] at hb; subst hb
    exact ⟨h, fun x hx => by rw [h.2.2] at hx; obtain rfl := List.mem_singleton.1 hx; exact h.2.1, rfl⟩
  | p i =>
    intro b hb cs h
    simp only [boxable, Option.some.injEq] at hb; subst hb
    exact ⟨h, fun x hx => by rw [h.2.2] at hx; obtain rfl := List.mem_singleton.1 hx; exact h.2.1, rfl⟩
  | rdp b d =>
    intro b' hb cs h
    cases b with
    | none =>
      simp only [boxable, Option.some.injEq] at hb; subst hb
      refine ⟨h, fun x hx => ?_, rfl⟩
      obtain ⟨_, ad, h1, _⟩ := h
      rw [h1] at hx; obtain rfl := List.mem_singleton.1 hx; rfl
    | some p => simp [boxable] at hb
  | fn f caps ih =>
    intro b hb cs h
    simp only [boxable, Option.some.injEq] at hb; subst hb
    refine ⟨h, fun x hx => ?_, rfl⟩
    obtain ⟨vs, h1, _⟩ := h
    rw [h1] at hx; obtain rfl := List.mem_singleton.1 hx; rfl
  | nil =>
    intro b hb cs h
    simp only [boxable, Option.some.injEq] at hb; subst hb
    exact ⟨h, fun x hx => by rw [show cs = _ from h] at hx; simp at hx, rfl⟩
  | cons a c iha ihc =>
    intro b hb cs h
    simp only [boxable] at hb
    split at hb
    · rename_i x y hx hy
      cases hb
      obtain ⟨c1, c2, h0, h1, h2⟩ := h
      obtain ⟨k1, k2, _⟩ := iha x hx c1 h1
      obtain ⟨m1, m2, _⟩ := ihc y hy c2 h2
      refine ⟨⟨c1, c2, h0, k1, m1⟩, fun v hv => ?_, rfl⟩
      rw [h0] at hv
      rcases List.mem_append.1 hv with hv | hv
      · exact k2 v hv
      · exact m2 v hv
    · cases hb
  | agg c ih =>
    intro b hb cs h
    simp only [boxable] at hb
    split at hb
    · rename_i x hx
      cases hb
      obtain ⟨k1, k2, _⟩ := ih x hx cs h
      exact ⟨k1, k2, rfl⟩
    · cases hb
  | cst v =>
    intro b hb cs h
    simp only [boxable, Option.some.injEq] at hb; subst hb
    exact ⟨h, fun x hx => by rw [h.2] at hx; obtain rfl := List.mem_singleton.1 hx; exact h.1, rfl⟩
  | addr => intro b hb; simp [boxable] at hb
  | tup => intro b hb; simp [boxable] at hb
  | dead => intro b hb; simp [boxable] at hb

theorem boxable_sound {E : Env} {ob : Nat → Ob} {nx : Nat} {c b : Cn} {v : Value} (hb : boxable c = some b) (h : VRep E ob nx c v) :
    ∃ cs, CRep E ob nx b false cs ∧ v.cells.toList = cs ∧ (∀ x, x ∈ cs → x.oneCell' = true) ∧ mkV b.isAgg cs v := by
  obtain ⟨cs, h1, h2⟩ := VRep_one h (by intro e; subst e; simp [boxable] at hb)
  obtain ⟨k1, k2, k3⟩ := boxable_cells c b hb cs h1
  exact ⟨cs, k1, mkV_cells h2 k2, k2, by rw [k3]; exact h2⟩

section
variable {P : Program} {R : Type} {C : Ctx} {o : Oper} {st : St} {k : St → Option R} {r : R} {E0 E : Env} {a : Act} {K : Act → World → Prop} {Q : Exit → Act → World → Prop} {g : Bool}

/-- an operation that makes one object -/
theorem push_sound {w : World} {ob : Ob} {c : Cn} {v : Value} {bs : List Nat} (hst : still C o = false) (hk : putK C o c (st.push ob) k = some r) (h : Inv C.N E0 E st a)
    (hrun : (execOp a.eval o).run P E.w = .ok (.value v) w) (hw : Grew E.w w)
    (hb : ∀ b, b ∈ bs → E.w.heap.size ≤ b ∧ b < w.heap.size) (hn : bs.Nodup)
    (ho : Ev E st.ob st.nx ⟨w, E.Z, upd E.rho st.nx v, upd E.B st.nx bs⟩ (st.push ob).ob (st.push ob).nx → ObOk ⟨w, E.Z, upd E.rho st.nx v, upd E.B st.nx bs⟩ (st.push ob).ob (st.push ob).nx st.nx ob)
    (hc : c = .h st.nx ∨ c = .p st.nx) (h1 : v.oneCell' = true)
    (hK : ∀ st' E' v, k st' = some r → Inv C.N E0 E' st' (a.put o.dst v) → Pur P C g o a v E.w E'.w → K (a.put o.dst v) E'.w) : o.wp P a E.w K Q := by
  have hi := h.push hw ob v bs hb hn ho
  refine wp_value hrun (putK_sound (G := fun a' => K a' w) hk hi ?_ fun st' hk' hi' => hK st' _ _ hk' hi' (.loud hst (fun _ => hw)))
  have e1 : (upd E.rho st.nx v) st.nx = v := upd_same _ _ _
  rcases hc with rfl | rfl
  · exact ⟨[v], ⟨Nat.lt_succ_self _, by simpa only [e1] using h1, by simp only [e1]⟩, rfl⟩
  · exact ⟨[v], ⟨Nat.lt_succ_self _, by simpa only [e1] using h1, by simp only [e1]⟩, rfl⟩

/-- a new variable in memory -/
theorem newBox_sound {u : Ty} {c : Cn} {t : TypeId} {cs : Array Value} (hst : still C o = false) (hk : putK C o (.p st.nx) (st.push (.box u c)) k = some r) (h : Inv C.N E0 E st a)
    (hrun : (execOp a.eval o).run P E.w = .ok (.value (.pointer (some ⟨E.w.heap.size, 0, none⟩))) (E.w.alloc (.cells cs t)))
    (hf : fits u c = true) (hc : CRep E st.ob st.nx c false cs.toList)
    (hK : ∀ st' E' v, k st' = some r → Inv C.N E0 E' st' (a.put o.dst v) → Pur P C g o a v E.w E'.w → K (a.put o.dst v) E'.w) : o.wp P a E.w K Q := by
  refine push_sound (bs := [E.w.heap.size]) hst hk h hrun (Grew.alloc _ _) ?_ (by simp) ?_ (.inr rfl) rfl hK
  · intro b hb
    obtain rfl := List.mem_singleton.1 hb
    exact ⟨Nat.le_refl _, by simp⟩
  · intro ev
    refine ⟨E.w.heap.size, cs.toList, t, upd_same _ _ _, ?_, CRep_ev ev _ _ _ hc, hf, upd_same _ _ _⟩
    simpa using heap_alloc_new E.w (.cells cs t)

theorem alloc_sound (htt : ∀ t u, C.tt t = some u → TOk P t u) {t : TypeId} {u : Ty} (ho : o.op = .alloc t) (hT : C.tt t = some u) (hf : fits u (zeroC u) = true)
    (hk : putK C o (.p st.nx) (st.push (.box u (zeroC u))) k = some r) (h : Inv C.N E0 E st a)
    (hK : ∀ st' E' v, k st' = some r → Inv C.N E0 E' st' (a.put o.dst v) → Pur P C g o a v E.w E'.w → K (a.put o.dst v) E'.w) : o.wp P a E.w K Q := by
  obtain ⟨i, z, k1, k2, k3, k4, _⟩ := (htt _ _ hT).info
  exact newBox_sound (cs := z.cells) (t := t) (by simp [still, ho]) hk h (by unfold execOp; simp [ho, Instr.alloc, zeroValue, typeInfo, k1, k3, newVar, newRow]) hf
    (zeroC_rep _ _ (fits_zero _ hf) k4) hK

theorem box_sound {t : TypeId} {u : Ty} {X : Operand} {c b : Cn} (ho : o.op = .box t X) (hb : boxable c = some b) (hf : fits u b = true)
    (hk : putK C o (.p st.nx) (st.push (.box u b)) k = some r) (h : Inv C.N E0 E st a) (hx : VRep E st.ob st.nx c (a.eval X))
    (hK : ∀ st' E' v, k st' = some r → Inv C.N E0 E' st' (a.put o.dst v) → Pur P C g o a v E.w E'.w → K (a.put o.dst v) E'.w) : o.wp P a E.w K Q := by
  obtain ⟨cs, h1, h2, _⟩ := boxable_sound hb hx
  exact newBox_sound (cs := (a.eval X).cells) (t := t) (by simp [still, ho]) hk h (by unfold execOp; simp [ho, Instr.box, newVar, newRow]) hf (by rw [h2]; exact h1) hK

theorem madeCells_flatten (z : Array Value) (n : Nat) (hz : 0 < z.size) : (madeCells z (n * z.size)).toList = (List.replicate n z.toList).flatten := by
  apply List.ext_getElem?
  intro i
  have hl : (List.replicate n z.toList).flatten.length = n * z.size := by simp
  by_cases hi : i < n * z.size
  · rw [List.getElem?_eq_getElem (by simpa [madeCells] using hi), List.getElem?_eq_getElem (by rw [hl]; exact hi)]
    congr 1
    have : ∀ (n i : Nat) (h : i < (List.replicate n z.toList).flatten.length), (List.replicate n z.toList).flatten[i] = z[i % z.size]'(Nat.mod_lt _ hz) := by
      intro n
      induction n with
      | zero => intro i h; simp at h
      | succ n ih =>
        intro i h
        simp only [List.replicate_succ, List.flatten_cons]
        rw [List.getElem_append]
        split
        · rename_i hlt
          simp at hlt
          simp [Nat.mod_eq_of_lt hlt]
        · rename_i hge
          simp at hge
          simp only [Array.length_toList]
          rw [ih (i - z.size)]
          congr 1
          rw [← Nat.mod_eq_sub_mod hge]
    rw [this n i]
    have hlt := Nat.mod_lt i hz
    simp [madeCells, hlt]
  · rw [List.getElem?_eq_none (by simpa [madeCells] using Nat.le_of_not_lt hi), List.getElem?_eq_none (by rw [hl]; omega)]

theorem OEls_replicate {α : Type} {R : α → List Value → List Nat → Prop} {x : α} {c : List Value} (h : R x c []) : ∀ n, OEls R (List.replicate n x) (List.replicate n c).flatten []
  | 0 => ⟨rfl, rfl⟩
  | n + 1 => ⟨c, (List.replicate n c).flatten, [], [], rfl, rfl, h, OEls_replicate h n⟩

theorem makeK_sound (htt : ∀ t u, C.tt t = some u → TOk P t u) {t : TypeId} {X Y : Operand} {n : Int} {k1 k2 : IntKind} (ho : o.op = .makeSlice t X Y)
    (hk : makeK C o t n st k = some r) (h : Inv C.N E0 E st a) (hx : a.eval X = .int k1 n) (hy : a.eval Y = .int k2 n)
    (hK : ∀ st' E' v, k st' = some r → Inv C.N E0 E' st' (a.put o.dst v) → Pur P C g o a v E.w E'.w → K (a.put o.dst v) E'.w) : o.wp P a E.w K Q := by
  unfold makeK at hk
  split at hk
  · rename_i e u hT
    split at hk
    case h_2 => cases hk
    rename_i hp
    cases hl : okLen n with
    | false => simp [hl] at hk
    | true =>
      simp only [hl, cond_true] at hk
      unfold okLen at hl
      rw [Bool.and_eq_true] at hl
      have h0 := of_decide_eq_true hl.1
      have h1 := of_decide_eq_true hl.2
      obtain ⟨m, rfl⟩ := Int.eq_ofNat_of_zero_le h0
      have hd := (htt _ _ hT).desc
      simp only at hd
      obtain ⟨i, z, q1, q2, q3, q4, q5, q6, _⟩ := hd.2.1
      have hm : m ≤ 4294967296 := by omega
      obtain ⟨w', r1, r2, r3⟩ := run_make_full (P := P) E.w 0 t e i z u.size hd.1 q1 q3 q2 k1 k2 m (by
        have := Nat.mul_le_mul q6 hm; omega) (by simp only [maxLen]; omega) (Nat.zero_le _)
      have hzs : z.cells.size = u.size := by have := ZR_length _ _ q4; simpa using this
      refine push_sound (bs := [E.w.heap.size]) (v := .slice (some ⟨E.w.heap.size, 0, none⟩) m m) (by simp [still, ho]) hk h (by unfold execOp; simp [ho, hx, hy, r1])
        ⟨r3.os, r3.tape, r3.output, r3.size, fun b hb => r3.block b hb (by simp)⟩ ?_ (by simp) ?_ (.inl rfl) rfl hK
      · intro b hb
        obtain rfl := List.mem_singleton.1 hb
        exact ⟨Nat.le_refl _, (r2.lt _ rfl).2⟩
      · intro ev
        have hzl : (madeCells z.cells (m * u.size)).toList = (List.replicate m z.cells.toList).flatten := by
          rw [← hzs]; exact madeCells_flatten _ _ (by omega)
        refine ⟨.slice (some ⟨E.w.heap.size, 0, none⟩) m m, (List.replicate m z.cells.toList).flatten, [], by simp [upd_same], ?_, ?_, ?_⟩
        · rw [← hzl]; simpa using r2
        · exact OEls_replicate (ZR_Ow u _ hp q4) _
        · simp [upd_same, Value.ownBlock]
  · cases hk
end

end Go.Am
