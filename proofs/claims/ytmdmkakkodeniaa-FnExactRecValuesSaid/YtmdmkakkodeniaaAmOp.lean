/- One operation. -/
import Derived.Test.YtmdmkakkodeniaaAmCall3
import Derived.Test.YtmdmkakkodeniaaAmEq
set_option linter.unusedVariables false
set_option linter.unusedSimpArgs false
namespace Go.Am

structure CtxOk (P : Program) (C : Ctx) : Prop where
  tt : ∀ t u, C.tt t = some u → TOk P t u
  phi : ∀ g c, c ∈ C.phi g → FnOk P g c
  mixed : P.follows .mixedOrders = true
  eq : ∀ t u, C.tt t = some u → u.isAgg = true → u.flat = true → EqT P u t [] 0 ∧ P.eqGuardType P.depth t = false

theorem arr1 {α : Type} {xs : Array α} {a : α} (h : xs.toList = [a]) : xs = #[a] := by
  rw [← xs.toArray_toList, h]
theorem arr2 {α : Type} {xs : Array α} {a b : α} (h : xs.toList = [a, b]) : xs = #[a, b] := by
  rw [← xs.toArray_toList, h]

section
variable {P : Program} {R : Type} {C : Ctx} {o : Oper} {st : St} {k : St → Option R} {r : R} {E0 E : Env} {a : Act} {K : Act → World → Prop} {Q : Exit → Act → World → Prop} {g : Bool}

theorem caps_sound {a : Act} (hr : Rep E st a.tmps) : ∀ (xs : List Operand) (ts : List TypeId) (l : List Cn), evL C st xs ts = some l → CRep E st.ob st.nx (caps l) true (xs.map a.eval)
  | [], ts, l, h => by cases h; exact rfl
  | x :: r, ts, l, h => by
    simp only [evL] at h
    split at h
    · rename_i c l' h1 h2
      cases h
      have hv := ev_sound h1 hr
      have hd : c ≠ .dead := by
        intro e; subst e
        unfold ev at h1
        split at h1
        · split at h1
          · cases h1
          · rename_i _ hs; simp only [Option.some.injEq] at h1; exact hs h1
        · rename_i v
          unfold constCn at h1
          split at h1 <;> first | (cases h1; done) | skip
          split at h1 <;> cases h1
        · cases h1
        · cases h1
      obtain ⟨cs, h3, h4⟩ := VRep_one hv hd
      exact ⟨_, _, cs, rfl, h3, h4, caps_sound hr r _ _ h2⟩
    · cases h

theorem evL_one {a : Act} (hr : Rep E st a.tmps) {xs : Array Operand} {ts : List TypeId} {c : Cn} (h : evL C st xs.toList ts = some [c]) : ∃ X, xs = #[X] ∧ VRep E st.ob st.nx c (a.eval X) := by
  obtain ⟨h1, h2⟩ := evL_sound hr xs.toList ts _ h
  match hx : xs.toList, h1 with
  | [X], _ =>
    refine ⟨X, arr1 hx, ?_⟩
    have := h2 0
    rw [hx] at this
    exact this

theorem evL_two {a : Act} (hr : Rep E st a.tmps) {xs : Array Operand} {ts : List TypeId} {c d : Cn} (h : evL C st xs.toList ts = some [c, d]) : ∃ X Y, xs = #[X, Y] ∧ VRep E st.ob st.nx c (a.eval X) ∧ VRep E st.ob st.nx d (a.eval Y) := by
  obtain ⟨h1, h2⟩ := evL_sound hr xs.toList ts _ h
  match hx : xs.toList, h1 with
  | [X, Y], _ =>
    refine ⟨X, Y, arr2 hx, ?_, ?_⟩
    · have := h2 0
      rw [hx] at this
      exact this
    · have := h2 1
      rw [hx] at this
      exact this

theorem opK_sound (hc : CtxOk P C) {pure : Bool} (hgp : g = true → pure = true) (hk : opK C pure o st k = some r) (h : Inv C.N E0 E st a)
    (hK : ∀ st' E' v, k st' = some r → Inv C.N E0 E' st' (a.put o.dst v) → Pur P C g o a v E.w E'.w → K (a.put o.dst v) E'.w) : o.wp P a E.w K Q := by
  have hr := h.rep
  have hgf : ∀ {b : Bool}, pure = false → g = false := by
    intro _ hp
    cases hg : g with
    | false => rfl
    | true => rw [hgp hg] at hp; cases hp
  unfold opK at hk
  split at hk
  · -- move
    rename_i X ho
    split at hk
    · rename_i c hX
      exact move_sound (.inl ho) hk h (ev_sound hX hr) hK
    · cases hk
  · -- assign
    rename_i X ho
    split at hk
    · cases hk
    · split at hk
      · rename_i c hX
        exact move_sound (.inr ho) hk h (ev_sound hX hr) hK
      · cases hk
  · -- alloc
    rename_i t ho
    split at hk
    · rename_i u hT
      split at hk
      · rename_i hf
        exact alloc_sound hc.tt ho hT hf hk h hK
      · cases hk
    · cases hk
  · -- box
    rename_i t X ho
    split at hk
    · rename_i c hX
      split at hk
      · rename_i b hb
        split at hk
        · split at hk
          · rename_i hf
            exact box_sound ho hb hf hk h (ev_sound hX hr) hK
          · cases hk
        · cases hk
      · cases hk
    · cases hk
  · -- build
    rename_i t ps ho
    split at hk
    · rename_i l hl
      split at hk
      · rename_i c hb
        exact build_sound hc.tt ho (evParts_sound hr _ _ hl) hb hk h hK
      · cases hk
    · cases hk
  · -- buildSlice
    rename_i t len ps ho
    split at hk
    · cases hk
    · exact buildSliceK_sound hc.tt ho (hgf (b := true) rfl) hk h hK
  · -- load
    rename_i t X ho
    split at hk
    · rename_i c hX
      split at hk
      · rename_i d hd
        split at hk
        · rename_i hl
          exact load_sound hc.tt ho hd hl hk h (ev_sound hX hr) hK
        · cases hk
      · cases hk
    · cases hk
  · -- store
    rename_i t A X ho
    split at hk
    · cases hk
    · split at hk
      · rename_i c d hA hX
        split at hk
        · rename_i hd
          exact storeK_sound hc.tt ho (hgf (b := true) rfl) hd hk h (ev_sound hA hr) (ev_sound hX hr) hK
        · cases hk
      · cases hk
  · -- nilCheck
    rename_i X ho
    split at hk
    · rename_i c hX
      have hv := ev_sound hX hr
      split at hk
      · rename_i i
        split at hk
        · rename_i u c' hob
          refine nilCheck_same ho hk h hv (.inl ?_) hK
          obtain ⟨cs, h1, h2⟩ := hv
          have ho := hr.ob i
          rw [hob] at ho
          obtain ⟨gg, cs', t, k1, _⟩ := ho
          have e1 : cs = [E.rho i] := h1.2.2
          have e2 : cs = [a.eval X] := h2
          rw [e1, k1] at e2
          exact ⟨_, (by simpa using e2.symm)⟩
        · rename_i b u d hob
          split at hk
          · cases hk
          · cases b with
            | false => cases hk
            | true =>
              simp only [cond_true] at hk
              exact nilCheck_box ho hob hk h hv hK
        · cases hk
      · refine nilCheck_same ho hk h hv (.inl ?_) hK
        obtain ⟨cs, h1, h2⟩ := hv
        obtain ⟨_, _, ⟨gg, _, e1⟩, _⟩ := h1
        have e2 : cs = [a.eval X] := h2
        rw [e1] at e2
        exact ⟨_, (by simpa using e2.symm)⟩
      · refine nilCheck_same ho hk h hv (.inl ?_) hK
        obtain ⟨cs, h1, h2⟩ := hv
        obtain ⟨_, ad, e1, _⟩ := h1
        have e2 : cs = [a.eval X] := h2
        rw [e1] at e2
        exact ⟨_, (by simpa using e2.symm)⟩
      · refine nilCheck_same ho hk h hv (.inr ?_) hK
        obtain ⟨cs, h1, h2⟩ := hv
        obtain ⟨vs, e1, _⟩ := h1
        have e2 : cs = [a.eval X] := h2
        rw [e1] at e2
        exact ⟨_, _, (by simpa using e2.symm)⟩
      · cases hk
    · cases hk
  · -- binOp
    rename_i op xt X Y yt ho
    split at hk
    · rename_i c d hX hY
      split at hk
      · split at hk
        · rename_i x y hx hy
          exact eqK_sound hc.eq ho hx hy hk h (ev_sound hX hr) (ev_sound hY hr) hK
        · cases hk
      · exact binK_sound hc.tt ho hk h (ev_sound hX hr) (ev_sound hY hr) hK
    · cases hk
  · -- unOp
    rename_i op t X ho
    split at hk
    · rename_i c hX
      exact unK_sound ho hk h (ev_sound hX hr) hK
    · cases hk
  · -- convert
    rename_i ts td X ho
    split at hk
    · rename_i c hX
      exact convK_sound hc.tt ho hk h (ev_sound hX hr) hK
    · cases hk
  · -- fieldAddr
    rename_i s X f ho
    split at hk
    · rename_i c hX
      split at hk
      · rename_i d hd
        exact fldAddr_sound hc.tt ho hd hk h (ev_sound hX hr) hK
      · cases hk
    · cases hk
  · -- indexAddr
    rename_i t X I ho
    split at hk
    · rename_i c d hX hI
      exact indexAddrK_sound hc.tt ho hk h (ev_sound hX hr) (ev_sound hI hr) hK
    · cases hk
  · -- index
    rename_i t X I ho
    split at hk
    · rename_i c d hX hI
      exact indexK_sound hc.tt ho hk h (ev_sound hX hr) (ev_sound hI hr) hK
    · cases hk
  · -- slice
    rename_i t X LO HI ho
    split at hk
    · rename_i c hX
      split at hk
      · rename_i lo hi hlo hhi
        have key : ∀ (L : Option Operand) (l : Option Int), (match L with
            | none => some none
            | some l => (match ev C st 0 l with
              | some (.ro none ⟨.int _, n⟩) => some (some n)
              | _ => (none : Option (Option Int)))) = some l → ∃ kl, L.map a.eval = l.map fun n => Value.int kl n := by
          intro L l hl
          cases L with
          | none => cases hl; exact ⟨.i64, rfl⟩
          | some x =>
            simp only at hl
            split at hl
            · rename_i kk n hx
              cases hl
              exact ⟨kk, by simp [VRep_int_inv (ev_sound hx hr)]⟩
            · cases hl
        obtain ⟨kl, h1⟩ := key _ _ hlo
        obtain ⟨kh, h2⟩ := key _ _ hhi
        exact sliceK_sound hc.tt ho h1 h2 hk h (ev_sound hX hr) hK
      · cases hk
    · cases hk
  · -- makeSlice of one number
    rename_i t n m ho
    split at hk
    · rename_i hnm
      obtain rfl := Nat.eq_of_beq_eq_true hnm
      split at hk
      · rename_i kk x hs
        have hv := hr.sl n
        rw [hs] at hv
        exact makeK_sound hc.tt ho hk h (VRep_int_inv hv) (VRep_int_inv hv) hK
      · cases hk
    · cases hk
  · rename_i t k1 n k2 m ho
    split at hk
    · rename_i hnm
      obtain rfl := of_decide_eq_true hnm
      exact makeK_sound hc.tt ho hk h rfl rfl hK
    · cases hk
  · -- makeFunc
    rename_i f fs cs ho
    split at hk
    · rename_i hfs
      split at hk
      · rename_i l hl
        have hfs' : fs = #[] := by rw [← fs.toArray_toList, hfs]
        refine quiet_sound (v := .func (.func f) #[] (cs.toList.map a.eval).toArray) hk h ?_ ?_ hK
        · intro u _
          unfold execOp
          simp [ho, Instr.makeFunc, hfs']
          apply Array.ext'
          simp
        · exact ⟨_, ⟨_, rfl, caps_sound hr _ _ _ hl⟩, rfl⟩
      · cases hk
    · cases hk
  · -- extract
    rename_i X ix ho
    split at hk
    · rename_i c hX
      split at hk
      · rename_i d hd
        exact extract_sound ho hd hk h (ev_sound hX hr) hK
      · cases hk
    · cases hk
  · -- call
    rename_i c ho
    obtain ⟨callee, args, ats⟩ := c
    simp only at hk
    split at hk
    · rename_i f
      split at hk
      · rename_i l hl
        obtain ⟨hl1, hl2⟩ := evL_sound hr _ _ _ hl
        refine callK_sound (argv := args.map a.eval) (C.phi f) (fun c hc' => hc.phi f c hc') hgp (by simp [still, ho]) hk h (by rw [hl1]; simp) (fun i => ?_) ?_ hK
        · have := hl2 i
          have e : (args.map a.eval).getD i undef = (args.toList.map a.eval).getD i undef := by
            rw [← Array.toList_map]; simp
          rw [e]; exact this
        · intro q hq
          unfold execOp
          simp only [ho]
          simp [resolve, Act.eval, Deferred.ofValue, invoke, hq]
      · cases hk
    · rename_i X hne
      split at hk
      · rename_i f cs l hfn hl
        split at hk
        · rename_i rr hrr
          obtain ⟨hl1, hl2⟩ := evL_sound hr _ _ _ hl
          have hv := ev_sound hfn hr
          obtain ⟨ws, hw1, hw2⟩ := hv
          obtain ⟨vs, e1, h5⟩ := hw1
          have e2 : ws = [a.eval X] := hw2
          rw [e1] at e2
          have hX : a.eval X = .func (.func f) #[] vs.toArray := by simpa using e2.symm
          obtain ⟨hu1, hu2⟩ := uncaps_sound _ _ _ hrr h5
          refine callK_sound (argv := args.map a.eval ++ vs.toArray) (C.phi f) (fun c hc' => hc.phi f c hc') hgp (by simp [still, ho]) hk h (by rw [List.length_append, hl1, hu1]; simp) (fun i => ?_) ?_ hK
          · rw [argSl_append]
            have e : (args.map a.eval ++ vs.toArray).getD i undef = if i < l.length then (args.toList.map a.eval).getD i undef else vs.getD (i - l.length) undef := by
              have : args.map a.eval ++ vs.toArray = (args.toList.map a.eval ++ vs).toArray := by
                rw [← Array.toList_map]
                apply Array.ext'
                simp
              rw [this]
              have : ∀ (xs : List Value) i, xs.toArray.getD i undef = xs.getD i undef := by intro xs i; simp
              rw [this, List.getD_eq_getElem?_getD, List.getElem?_append]
              simp only [List.length_map, hl1]
              split <;> simp [List.getD_eq_getElem?_getD]
            rw [e]
            split
            · exact hl2 i
            · exact hu2 _
          · intro q hq
            unfold execOp
            simp only [ho]
            simp [resolve, hX, Deferred.ofValue, invoke, hq]
        · cases hk
      · cases hk
    · split at hk
      · rename_i x t hl hts
        obtain ⟨X, rfl, hX⟩ := evL_one hr hl
        obtain rfl := arr1 hts
        exact lenK_sound hc.tt ho hk h hX hK
      · cases hk
    · split at hk
      · rename_i s x t t2 hl hts
        obtain ⟨X, Y, rfl, hX, hY⟩ := evL_two hr hl
        obtain rfl := arr2 hts
        split at hk
        · cases hk
        · exact appK_sound hc.tt ho (hgf (b := true) rfl) hk h hX hY hK
      · cases hk
    · split at hk
      · rename_i ka x kb y hl
        obtain ⟨X, Y, rfl, hX, hY⟩ := evL_two hr hl
        exact minmax_sound true ho hk h hX hY hK
      · cases hk
    · split at hk
      · rename_i ka x kb y hl
        obtain ⟨X, Y, rfl, hX, hY⟩ := evL_two hr hl
        exact minmax_sound false ho hk h hX hY hK
      · cases hk
    · cases hk
  · cases hk
end

end Go.Am
