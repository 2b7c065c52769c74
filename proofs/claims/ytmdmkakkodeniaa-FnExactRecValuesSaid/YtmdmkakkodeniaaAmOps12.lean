/- Conversions; copying into a row. -/
import Derived.Test.YtmdmkakkodeniaaAmOps11
set_option linter.unusedVariables false
set_option linter.unusedSimpArgs false
open Go.Lib
namespace Go.Am

/-- new blocks that nobody will write -/
theorem Inv.zgrow {N : Nat} {E0 E : Env} {st : St} {a : Act} (h : Inv N E0 E st a) {w : World} (hw : Grew E.w w) (Z : Nat → Prop) (h0 : ∀ b, E.Z b → Z b) (h1 : ∀ b, Z b → E.Z b ∨ (E.w.heap.size ≤ b ∧ b < w.heap.size)) :
    Inv N E0 { E with w := w, Z := Z } st a := by
  have hz : ∀ b, E.Z b → w.heap[b]? = E.w.heap[b]? := fun b hb => hw.block b (h.rep.zb b hb)
  have ev : Ev E st.ob st.nx { E with w := w, Z := Z } st.ob st.nx := ⟨Nat.le_refl _, fun _ _ => rfl, h0, hz, fun i hi u hu => hu, fun i hi hu => hu, fun i hi fz v e t xs ho =>
    ⟨fz, v, xs, ho, rfl, Nat.le_refl _, fun _ => ⟨rfl, fun b hb => by
      rcases hb with hb | hb
      · exact ⟨hw.block b (h.rep.bb i b hb).1, .inl hb⟩
      · exact ⟨hz b hb, .inr (h0 b hb)⟩⟩⟩⟩
  refine ⟨h.rep.turn rfl ev (fun i => ObOk_ev ev rfl rfl (fun b hb => hw.block b (h.rep.bb i b hb).1) (h.rep.ob i)) h.rep.lt h.rep.dj h.rep.nd ?_ ?_, ?_, h.defers, h.size, h.nx⟩
  · intro i b hb
    refine ⟨Nat.lt_of_lt_of_le (h.rep.bb i b hb).1 hw.size, fun hzb => ?_⟩
    rcases h1 b hzb with h2 | h2
    · exact (h.rep.bb i b hb).2 h2
    · have := (h.rep.bb i b hb).1; omega
  · intro b hb
    rcases h1 b hb with h2 | h2
    · exact Nat.lt_of_lt_of_le (h.rep.zb b h2) hw.size
    · exact h2.2
  · exact h.fr.trans ⟨hw.os, hw.tape, hw.output, hw.size, fun b hb _ => hw.block b hb, fun i b hb => .inl ⟨i, hb⟩, h0, fun b hb => by
      rcases h1 b hb with h2 | h2
      · exact .inl h2
      · exact .inr (.inr h2.1), fun _ _ => rfl⟩

section
variable {P : Program} {R : Type} {C : Ctx} {o : Oper} {st : St} {k : St → Option R} {r : R} {E0 E : Env} {a : Act} {K : Act → World → Prop} {Q : Exit → Act → World → Prop} {g : Bool}

theorem run_convert_bytes_zero {P : Program} (w : World) (src e : TypeId) (hs : P.underlying src = some (.slice e)) (he : P.underlying e = some (.int .u8)) (ad : Addr) (c : Nat) :
    ∀ dst, P.underlying dst = some .string → (convert src dst (.slice (some ad) 0 c)).run P w = .ok (.string (strOfNums [])) w := by
  intro dst hd
  have hl : (loadCells ad 0).run P w = .ok #[] w := by
    have := run_loadCells_list (P := P) w ad [] (by simp)
    simpa using this
  rw [run_convert_bytes_string w src dst e _ 0 c hs he hd, run_bytesToString w _ 0 c [] (by simpa using hl), foldl_push_bytes]
  simp [strOfNums, ByteArray.empty, ByteArray.emptyWithCapacity]
  rfl

theorem Els_ints {w : World} {S : Nat → Prop} {k : IntKind} : ∀ (xs : List Int) (f : List Value), Els (Rd w S (.int k)) xs f → f = xs.map (Value.int k)
  | [], f, h => h
  | x :: xs, f, ⟨c, g, h, h1, h2⟩ => by
    rw [h, show c = [.int k x] from h1, Els_ints xs g h2]; rfl

theorem asBytes_sound {E : Env} {ob : Nat → Ob} {nx : Nat} {c : Cn} {e : TypeId} {xs : List Int} {u : Value} (h : asBytes ob c = some (e, xs)) (hob : ∀ i, ObOk E ob nx i (ob i)) (hv : VRep E ob nx c u) :
    ∃ S, Rd E.w S (.list e (.int .u8)) xs [u] := by
  unfold asBytes at h
  split at h
  · rename_i v hl
    split at h
    · rename_i ys hy
      obtain ⟨vb, ve, vt, vx⟩ := v
      have h1 := castDV_eq hy
      simp only [Option.some.injEq, Prod.mk.injEq] at h
      obtain ⟨rfl, rfl⟩ := h
      obtain ⟨m1, _, _⟩ := asL_sound hl hob hv
      simp only at m1 h1 ⊢
      refine ⟨src E vb, ?_⟩
      have : ∀ (d : DV), Rd E.w (src E vb) d.ty d.v [u] → d = ⟨.list ve (.int .u8), ys⟩ → Rd E.w (src E vb) (.list ve (.int .u8)) ys [u] := by
        intro d hd e
        subst e
        exact hd
      exact this _ m1 h1
    · cases h
  · cases h

theorem convK_sound (htt : ∀ t u, C.tt t = some u → TOk P t u) {ts td : TypeId} {X : Operand} {x : Cn} (ho : o.op = .convert ts td X) (hk : convK C o ts td x st k = some r) (h : Inv C.N E0 E st a)
    (hx : VRep E st.ob st.nx x (a.eval X)) (hK : ∀ st' E' v, k st' = some r → Inv C.N E0 E' st' (a.put o.dst v) → Pur P C g o a v E.w E'.w → K (a.put o.dst v) E'.w) : o.wp P a E.w K Q := by
  unfold convK at hk
  split at hk
  · rename_i ki n
    split at hk
    · rename_i k1 kd h1 h2
      have d1 := (htt _ _ h1).desc
      have d2 := (htt _ _ h2).desc
      simp only at d1 d2
      exact quiet_sound hk h (fun u _ => by unfold execOp; simp [ho, VRep_int_inv hx, convert, run_underlying d1, run_underlying d2, Conv.intToInt]) (VRep_int ..) hK
    · cases hk
  · rename_i s
    split at hk
    · rename_i e h1 h2
      split at hk
      · rename_i hT
        have d1 := (htt _ _ h1).desc
        have d2 := (htt _ _ h2).desc
        have d3 := (htt _ _ (isT_eq hT)).desc
        simp only at d1 d2 d3
        have hX := VRep_str_inv hx
        have hgr : Grew E.w (bytesWorld E.w e s) := ⟨rfl, rfl, rfl, by rw [bytesWorld_size]; omega, fun b hb => bytesWorld_at_old _ _ _ _ hb⟩
        have hI := h.zgrow hgr (fun b => E.Z b ∨ b = E.w.heap.size) (fun b hb => .inl hb) (fun b hb => by
          rcases hb with hb | rfl
          · exact .inl hb
          · exact .inr ⟨Nat.le_refl _, by rw [bytesWorld_size]; omega⟩)
        have hcap : (s : ByteArray).size ≤ grownCap E.w (s : ByteArray).size 0 e := grownCap_ge _ _ _ _
        refine wp_value (v := .slice (some ⟨E.w.heap.size, 0, none⟩) (s : ByteArray).size (grownCap E.w (s : ByteArray).size 0 e)) (w' := bytesWorld E.w e s)
          (by unfold execOp; simp [ho, hX, run_convert_string_bytes E.w ts td e s d1 d2.1 d3]) (putK_sound (G := fun a' => K a' _) hk hI ?_ fun st' hk' hi' => hK st' _ _ hk' hi' (.loud (by simp [still, ho, h2]) (fun _ => hgr)))
        refine ⟨[.slice (some ⟨E.w.heap.size, 0, none⟩) (s : ByteArray).size (grownCap E.w (s : ByteArray).size 0 e)], ⟨rfl, trivial, fun _ => ?_⟩, rfl⟩
        refine ⟨_, _, _, (strInts s).map (Value.int .u8), rfl, by rw [strInts_length], hcap, ?_, ?_, ?_, by simp, by simp⟩
        · have : ∀ xs : List Int, Els (Rd (bytesWorld E.w e s) (fun b => E.Z b ∨ b = E.w.heap.size) (.int .u8)) xs (xs.map (Value.int .u8)) := by
            intro xs
            induction xs with
            | nil => rfl
            | cons y ys ih => exact ⟨[.int .u8 y], _, rfl, rfl, ih⟩
          exact this _
        · intro ad hA
          obtain rfl := Option.some.inj hA
          exact fun _ => ⟨rfl, .inr rfl⟩
        · intro j u hu
          refine ⟨_, rfl, ?_⟩
          have hj : j < (s : ByteArray).size := by
            have := (List.getElem?_eq_some_iff.1 hu).1
            simpa [strInts] using this
          have := bytesWorld_cell E.w e s j hj
          rw [Nat.zero_add, this]
          simp only [strInts, List.map_map, List.getElem?_map] at hu
          rw [List.getElem?_eq_getElem (by simpa using hj)] at hu
          simp only [Option.map_some, Option.some.injEq, Function.comp] at hu
          rw [← hu, List.getD_eq_getElem?_getD, List.getElem?_eq_getElem (by simpa using hj)]
          rfl
      · cases hk
    · rename_i h1 h2
      have d1 := (htt _ _ h1).desc
      have d2 := (htt _ _ h2).desc
      simp only at d1 d2
      exact quiet_sound hk h (fun u _ => by unfold execOp; simp [ho, VRep_str_inv hx, convert, run_underlying d1, run_underlying d2]) (VRep_str ..) hK
    · cases hk
  · split at hk
    · rename_i e xs hv
      split at hk
      · rename_i hT
        rw [Bool.and_eq_true, Bool.and_eq_true] at hT
        have d1 := (htt _ _ (isT_eq hT.1)).desc
        have d2 := (htt _ _ (isT_eq hT.2.1)).desc
        have d3 := (htt _ _ (isT_eq hT.2.2)).desc
        simp only at d1 d2 d3
        obtain ⟨S, A, n, c, f, k1, k2, k3, k4, k5, k6, k7, k8⟩ := asBytes_sound hv h.rep.ob hx
        have k1 : a.eval X = .slice A n c := by simpa using k1
        have hf := Els_ints _ _ k4
        refine quiet_sound hk h (fun u' hu' => ?_) (VRep_str ..) hK
        obtain rfl := hu'.resolve_left (by simp [isLd, ho])
        cases A with
        | none =>
          have hn : n = 0 := by
            rcases Nat.eq_zero_or_pos n with h0 | h0
            · exact h0
            · exact absurd rfl (k7 h0)
          have hx0 : xs = [] := List.eq_nil_of_length_eq_zero (by rw [← hn, k2])
          unfold execOp
          simp only [ho, k1, Sem.run_bind, run_convert_bytes_nil E.w ts e d1.1 d2 n c td d3]
          rw [hx0]
          rfl
        | some ad =>
          rcases Nat.eq_zero_or_pos n with hn | hn
          · subst hn
            have hx0 : xs = [] := List.eq_nil_of_length_eq_zero k2.symm
            unfold execOp
            simp only [ho, k1, Sem.run_bind, run_convert_bytes_zero E.w ts e d1.1 d2 ad c td d3]
            rw [hx0]
            rfl
          obtain ⟨q1, q2⟩ := k5 ad rfl hn
          have had : ad = ⟨ad.block, ad.off, none⟩ := by obtain ⟨b, o, s⟩ := ad; simp_all
          have := run_convert_bytes_arg (P := P) E.w ts e d1.1 d2 ad.block ad.off n c xs k2.symm (fun i hi => by
            have hi' : i < xs.length := by rw [← k2]; exact hi
            obtain ⟨ad', r1, r2⟩ := k6 i (.int .u8 (xs.getD i 0)) (by
              rw [hf, List.getElem?_map, List.getElem?_eq_getElem hi', List.getD_eq_getElem?_getD, List.getElem?_eq_getElem hi']; rfl)
            obtain rfl := Option.some.inj r1
            exact r2) td d3
          rw [← had] at this
          unfold execOp
          simp only [ho, k1, Sem.run_bind, this]
          rfl
      · cases hk
    · cases hk
end

end Go.Am
