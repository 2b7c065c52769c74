/- Appending, as the machine does it; literals of rows. -/
import Derived.Test.YtmdmkakkodeniaaAmOps7
set_option linter.unusedVariables false
set_option linter.unusedSimpArgs false
open Go.Lib
namespace Go.Am

theorem castL {e e' : TypeId} {t u : Ty} {xs : List t.Den} {ys : List u.Den} (h : castDV (.list e u) ⟨.list e' t, xs⟩ = some ys) : e' = e ∧ ∃ h : t = u, h ▸ xs = ys := by
  have := castDV_eq h
  simp only [DV.mk.injEq, Ty.list.injEq] at this
  obtain ⟨⟨rfl, rfl⟩, h2⟩ := this
  exact ⟨rfl, rfl, eq_of_heq h2⟩

def oldB (E : Env) (v : Value) (nb : List Nat) : Option Nat → Prop
  | some i => E.B i = v.ownBlock.toList ++ nb
  | none => v.ownBlock = none ∧ nb = []

def goneB (E : Env) (nb : List Nat) : Option Nat → Prop
  | some j => ∃ l, E.B j = l ++ nb
  | none => nb = []

theorem appS_sound {E : Env} {st : St} {tm : Array Value} {e : TypeId} {u : Ty} {c : Cn} {xs : List u.Den} {old : Option Nat} {v : Value} (h : appS st.ob e u c = some (xs, old)) (hr : Rep E st tm) (hv : VRep E st.ob st.nx c v) :
    ∃ f nb, E.w.ownsRow 0 e u.size v xs.length f ∧ OEls (Ow E.w u) xs f nb ∧ oldB E v nb old ∧
      (∀ i, old = some i → ∃ ver, st.ob i = .sl false ver e u xs) := by
  cases c with
  | nils e1 t1 =>
    simp only [appS, Option.some.injEq, Prod.mk.injEq] at h
    obtain ⟨rfl, rfl⟩ := h
    obtain ⟨cs, h1, h2⟩ := hv
    have h1 : cs = [.slice none 0 0] := h1
    have h2 : cs = [v] := h2
    have hvv : v = .slice none 0 0 := by rw [h1] at h2; simpa using h2.symm
    subst hvv
    exact ⟨[], [], World.ownsRow_nil _ _ _ _, ⟨rfl, rfl⟩, ⟨rfl, rfl⟩, fun i hi => by cases hi⟩
  | h i =>
    simp only [appS] at h
    obtain ⟨cs, h1, h2⟩ := hv
    have h2 : cs = [v] := h2
    have hvv : v = E.rho i := by have := h1.2.2; rw [h2] at this; simpa using this
    split at h
    · rename_i fz ver e' t' ys hob
      split at h
      · cases h
      · rename_i hb
        simp only [Bool.or_eq_false_iff, Bool.not_eq_false'] at hb
        obtain ⟨hb1, hb2⟩ := hb
        obtain rfl := Nat.eq_of_beq_eq_true hb2
        split at h
        · rename_i zs hz
          cases h
          obtain ⟨_, rfl, rfl⟩ := castL hz
          have hi := hr.ob i
          rw [hob, hb1] at hi
          obtain ⟨v', f, nb, k1, k2, k3, k4⟩ := hi
          have k1 : E.rho i = v' := by simpa using k1
          subst hvv
          rw [k1]
          exact ⟨f, nb, k2, k3, k4, fun j hj => by cases hj; exact ⟨ver, by rw [hob, hb1]⟩⟩
        · cases h
    · cases h
  | _ => simp [appS] at h

theorem Els_one {w : World} {S : Nat → Prop} {t : Ty} : ∀ (xs : List t.Den) (f : List Value), Els (Rd w S t) xs f → ∀ v, v ∈ f → v.oneCell' = true
  | [], f, h, v, hv => by rw [show f = [] from h] at hv; simp at hv
  | x :: xs, f, ⟨c, g, h1, h2, h3⟩, v, hv => by
    rw [h1] at hv
    rcases List.mem_append.1 hv with hv | hv
    · exact Rd_one t x c h2 v hv
    · exact Els_one xs g h3 v hv

/-- a row that reads, as what is appended -/
theorem Rd_Src {P : Program} {w : World} {S : Nat → Prop} {e t : TypeId} {u : Ty} {xs : List u.Den} {v : Value} {e0 : TypeId} (h : Rd w S (.list e0 u) xs [v]) : ∃ f, Src P w t e u.size t v xs.length f ∧ Els (Rd w S u) xs f := by
  obtain ⟨A, n, c, f, k1, k2, k3, k4, k5, k6, k7, k8⟩ := h
  have k1 : v = .slice A n c := by simpa using k1
  subst k1
  have hl := Els_length (Rd_length u) xs f k4
  cases A with
  | none =>
    have hn : n = 0 := by
      rcases Nat.eq_zero_or_pos n with h | h
      · exact h
      · exact absurd rfl (k7 h)
    have hc := k8 rfl
    subst hn hc
    rw [← k2] at hl ⊢
    have : f = [] := List.eq_nil_of_length_eq_zero (by simpa using hl)
    subst this
    exact ⟨[], .none rfl, k4⟩
  | some ad =>
    rw [k2]
    refine ⟨f, .row ad xs.length c f rfl hl (fun j u hu => ?_) (fun v hv => Els_one xs f k4 v hv), k4⟩
    obtain ⟨ad', q1, q2⟩ := k6 j u hu
    obtain rfl := Option.some.inj q1
    have hp : 0 < n := by
      rcases Nat.eq_zero_or_pos n with h | h
      · have := (List.getElem?_eq_some_iff.1 hu).1
        rw [hl, ← k2, h] at this
        omega
      · exact h
    rw [Addr.add_eq ad (k5 ad rfl hp).1]
    exact q2

theorem strInts_length (s : ByteArray) : (strInts s).length = s.size := by simp [strInts]

theorem strInts_OEls (w : World) (s : ByteArray) : OEls (Ow w (.int .u8)) (strInts s) (strCells s) [] := by
  unfold strInts strCells
  induction s.data.toList with
  | nil => exact ⟨rfl, rfl⟩
  | cons b l ih => exact ⟨[.int .u8 b.toNat], _, [], [], rfl, rfl, ⟨rfl, rfl⟩, ih⟩

theorem strOf_eq {c : Cn} {b : ByteArray} (h : strOf c = some b) : c = .ro none ⟨.str, b⟩ := by
  unfold strOf at h
  split at h
  · cases h; rfl
  · cases h

theorem fst0_eq {α β : Type} {x : Option α} {y : α} {z : Option β} (h : fst0 x = some (y, z)) : x = some y ∧ z = none := by
  cases x with
  | none => simp [fst0] at h
  | some v => simp only [fst0, Option.some.injEq, Prod.mk.injEq] at h; exact ⟨by rw [h.1], h.2.symm⟩

/-- an owned row as what is appended -/
theorem own_Src {P : Program} {w : World} {e t : TypeId} {u : Ty} {v : Value} {n : Nat} {f : List Value} (h : w.ownsRow 0 e u.size v n f) (h1 : ∀ x, x ∈ f → x.oneCell' = true) : Src P w t e u.size t v n f := by
  rcases h.2 with ⟨rfl, rfl⟩ | ⟨g, cap, cur, rfl, _⟩
  · have : f = [] := List.eq_nil_of_length_eq_zero (by simpa using h.1)
    subst this
    exact .none rfl
  · exact .row _ _ _ _ rfl h.1 (h.cells (g := g) rfl) h1

theorem OEls_one {w : World} {t : Ty} : ∀ (xs : List t.Den) (f : List Value) (nb : List Nat), OEls (Ow w t) xs f nb → ∀ v, v ∈ f → v.oneCell' = true
  | [], f, _, h, v, hv => by rw [h.1] at hv; simp at hv
  | x :: xs, f, _, ⟨c, g, b, d, h1, _, h2, h3⟩, v, hv => by
    rw [h1] at hv
    rcases List.mem_append.1 hv with hv | hv
    · exact Ow_one t x c b h2 v hv
    · exact OEls_one xs g d h3 v hv

theorem appX_sound {P : Program} {C : Ctx} (htt : ∀ t u, C.tt t = some u → TOk P t u) {E : Env} {st : St} {tm : Array Value} {t t2 e : TypeId} {u : Ty} {c : Cn} {ys : List u.Den} {gone : Option Nat} {v : Value}
    (h : appX C.tt st.ob t t2 e u c = some (ys, gone)) (hi : InfoOk P e u) (hr : Rep E st tm) (hv : VRep E st.ob st.nx c v) :
    ∃ f nb, Src P E.w t2 e u.size t v ys.length f ∧ OEls (Ow E.w u) ys f nb ∧ goneB E nb gone := by
  unfold appX at h
  cases hs : strOf c with
  | some b =>
    have hc := strOf_eq hs
    subst hc
    clear hs
    have h' : (match isT C.tt t2 .str with
      | true => fst0 (castDV (.list e u) ⟨.list e (.int .u8), strInts b⟩)
      | false => none) = some (ys, gone) := h
    clear h
    cases hT : isT C.tt t2 .str with
    | false => rw [hT] at h'; cases h'
    | true =>
      rw [hT] at h'
      obtain ⟨hz, rfl⟩ := fst0_eq h'
      obtain ⟨_, rfl, rfl⟩ := castL hz
      have hd := (htt _ _ (isT_eq hT)).desc
      simp only at hd
      obtain ⟨i, z, k1, k2, k3, k4, k5, k6, k7, k8⟩ := hi
      have hz1 : z = .int .u8 0 := by
        have h1 : z.cells.toList = [.int .u8 0] := k4
        have h2 : z.cells.toList = [z] := k7
        rw [h1] at h2; simpa using h2.symm
      obtain rfl := VRep_str_inv hv
      show ∃ f nb, Src P E.w t2 e _ t _ (strInts b).length f ∧ _
      rw [strInts_length]
      exact ⟨strCells b, [], .str b hd rfl ⟨i, k1, by rw [k3, hz1], k8 rfl⟩, strInts_OEls _ b, rfl⟩
  | none =>
    simp only [hs] at h
    cases hb : Nat.beq t2 t with
    | false => simp [hb] at h
    | true =>
      obtain rfl := Nat.eq_of_beq_eq_true hb
      simp only [hb] at h
      cases hf : u.flat with
      | true =>
        simp only [hf] at h
        obtain ⟨hz, rfl⟩ := fst0_eq h
        unfold appR at hz
        split at hz
        · rename_i lv hl
          obtain ⟨be, ee, te, xe⟩ := lv
          obtain ⟨_, rfl, rfl⟩ := castL hz
          obtain ⟨m1, _, _⟩ := asL_sound hl hr.ob hv
          obtain ⟨f, q1, q2⟩ := Rd_Src (P := P) (e := e) (t := t2) m1
          exact ⟨f, [], q1, Els_OEls_flat hf _ _ q2, rfl⟩
        · cases hz
      | false =>
        simp only [hf] at h
        obtain ⟨f, nb, p1, p2, p3, p4⟩ := appS_sound h hr hv
        refine ⟨f, nb, own_Src p1 (OEls_one _ _ _ p2), p2, ?_⟩
        cases gone with
        | none => exact p3.2
        | some j => exact ⟨_, p3⟩

section
variable {P : Program} {R : Type} {C : Ctx} {o : Oper} {st : St} {k : St → Option R} {r : R} {E0 E : Env} {a : Act} {K : Act → World → Prop} {Q : Exit → Act → World → Prop} {g : Bool}

theorem eqO_iff (old : Option Nat) (j : Nat) : eqO old j = (old == some j) := by
  cases old with
  | none => rfl
  | some i =>
    simp only [eqO]
    cases h : Nat.beq i j with
    | true => rw [Nat.eq_of_beq_eq_true h]; simp
    | false =>
      have : i ≠ j := fun e => by subst e; simp at h
      simp [this]

theorem appK_sound (htt : ∀ t u, C.tt t = some u → TOk P t u) {pure : Bool} {t t2 : TypeId} {S X : Operand} {s x : Cn} (ho : o.op = .call { callee := .builtin .append, args := #[S, X], argTypes := #[t, t2] }) (hgf : g = false)
    (hk : appK C pure o t t2 s x st k = some r) (h : Inv C.N E0 E st a) (hs : VRep E st.ob st.nx s (a.eval S)) (hx : VRep E st.ob st.nx x (a.eval X))
    (hK : ∀ st' E' v, k st' = some r → Inv C.N E0 E' st' (a.put o.dst v) → Pur P C g o a v E.w E'.w → K (a.put o.dst v) E'.w) : o.wp P a E.w K Q := by
  unfold appK at hk
  split at hk
  · rename_i e u hT
    have hd := (htt _ _ hT).desc
    simp only at hd
    split at hk
    · rename_i xs old hS
      split at hk
      · rename_i ys gone hX
        split at hk
        · cases hk
        · rename_i hfl
          simp only [Bool.or_eq_false_iff] at hfl
          cases hl : lim (xs.length + ys.length) with
          | false => simp [hl] at hk
          | true =>
            simp only [hl, cond_true] at hk
            obtain ⟨f1, nb1, p1, p2, p3, p4⟩ := appS_sound hS h.rep hs
            obtain ⟨f2, nb2, q1, q2, q3⟩ := appX_sound htt hX hd.2.1 h.rep hx
            refine app_sound (old := old) (gone := gone) ho hgf rfl rfl hd.1 hd.2.1 h p1 p2 (by cases old <;> exact p3) q1 q2 ?_ hl (kill2 st.ob old gone) ?_ hk hK
            · cases gone with
              | none => exact q3
              | some j =>
                refine ⟨q3, fun e => ?_⟩
                have : eqO old j = false := hfl.2
                rw [eqO_iff, e] at this
                simp at this
            · intro j
              simp only [kill2, eqO_iff]
              cases (old == some j || gone == some j) <;> rfl
      · cases hk
    · cases hk
  · cases hk
end

end Go.Am
