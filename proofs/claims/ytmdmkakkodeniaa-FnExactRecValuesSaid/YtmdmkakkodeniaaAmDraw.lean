/- Regions whose order is drawn. -/
import Derived.Test.YtmdmkakkodeniaaAmReg
set_option linter.unusedVariables false
set_option linter.unusedSimpArgs false
namespace Go.Am

section
variable {P : Program} {ops : Array Oper} {Q : Exit → Act → World → Prop} {md : Region.Mode} {T : Nat → Bool}

/-- as wpAny; those of T leave the world as it is -/
def wpAnyR (P : Program) (md : Region.Mode) (ops : Array Oper) (T : Nat → Bool) (Q : Exit → Act → World → Prop) : Nat → Array Bool → Act → World → Prop
  | 0, listed, a, w => Region.ready md ops listed = [] ∧ Q .normal a w
  | fuel + 1, listed, a, w =>
    (Region.ready md ops listed = [] → Q .normal a w) ∧
    ∀ i ∈ Region.ready md ops listed, wpOp P ops Q i (fun a' w' => (T i = true → w' = w) ∧ wpAnyR P md ops T Q fuel (listed.setIfInBounds i true) a' w') a w

theorem wpAny_of_R : ∀ (fuel : Nat) (listed : Array Bool) (a : Act) (w : World), wpAnyR P md ops T Q fuel listed a w → wpAny P md ops Q fuel listed a w
  | 0, _, _, _, h => h
  | fuel + 1, _, _, _, h => ⟨h.1, fun i hi => wpOp_mono (fun a' w' h' => wpAny_of_R fuel _ a' w' h'.2) (h.2 i hi)⟩

theorem wpAnyR_first {i : Nat} {oi : Oper} {v : Value} {ld : Bool} (hi : ops[i]? = some oi) (hsel : ∀ (j : Nat) (o : Oper) cs b, ops[j]? = some o → o.op ≠ .select cs b)
    (hQ : ∀ c a w, Q (.panic c) (a.put oi.dst v) w → Q (.panic c) a w) :
    ∀ (fuel : Nat) (listed : Array Bool) (a : Act) (w : World),
      (∀ j oj, ops[j]? = some oj → j ≠ i → listed.getD j true = false → (∀ e ∈ oj.after, Region.binds md e = true → e.on ≠ i) → oi.apart ops oj = true ∧ (ld = true → T j = true)) →
      i ∈ Region.ready md ops listed → YieldsIf P ops (fun u => ld = false ∨ u = w) oi v a →
      wpAnyR P md ops T Q fuel (listed.setIfInBounds i true) (a.put oi.dst v) w → wpAnyR P md ops T Q (fuel + 1) listed a w := by
  intro fuel
  induction fuel with
  | zero =>
    intro listed a w _ hr hy H
    refine ⟨fun h => (by rw [h] at hr; cases hr), fun j hj => ?_⟩
    by_cases hji : j = i
    · subst hji; exact hy.wpOp hi (.inr rfl) ⟨fun _ => rfl, H⟩
    · have := ready_mono hj hji
      rw [H.1] at this
      cases this
  | succ fuel ih =>
    intro listed a w hfree hr hy H
    refine ⟨fun h => (by rw [h] at hr; cases hr), fun j hj => ?_⟩
    by_cases hji : j = i
    · subst hji; exact hy.wpOp hi (.inr rfl) ⟨fun _ => rfl, H⟩
    · have h1 := H.2 j (ready_mono hj hji)
      obtain ⟨hjun, oj, hoj, hall⟩ := mem_ready.1 hj
      have hnot : ∀ e ∈ oj.after, Region.binds md e = true → e.on ≠ i := fun e he hb heq => by
        have h1 := hall e he hb
        have h0 := (mem_ready.1 hr).1
        rw [heq] at h1
        rcases Nat.lt_or_ge i listed.size with h' | h'
        · simp [h'] at h0 h1; rw [h0] at h1; cases h1
        · simp [Array.getElem?_eq_none h'] at h1
      obtain ⟨hap, hT⟩ := hfree j oj hoj hji hjun hnot
      have h2 := wpOp_putIf hoj hap (fun cs b => hsel i oi cs b hi) (fun cs b => hsel j oj cs b hoj) hQ hy h1
      have hfree' : ∀ k ok, ops[k]? = some ok → k ≠ i → (listed.setIfInBounds j true).getD k true = false →
          (∀ e ∈ ok.after, Region.binds md e = true → e.on ≠ i) → oi.apart ops ok = true ∧ (ld = true → T k = true) := fun k ok hk hki hun hno => by
        refine hfree k ok hk hki ?_ hno
        by_cases hjk : j = k
        · subst hjk; exact hjun
        · rw [getD_set_ne true hjk] at hun; exact hun
      refine wpOp_mono (fun a' w' h3 => ⟨h3.2.1, ih (listed.setIfInBounds j true) a' w' hfree' (ready_mono hr (Ne.symm hji)) ?_ ?_⟩) h2
      · rcases h3.1 with ⟨p1, p2⟩ | p
        · refine .inl ⟨p1, fun u hu => p2 u ?_⟩
          rcases hu with hu | hu
          · exact .inl hu
          · cases ld with
            | false => exact .inl rfl
            | true => exact .inr (hu.trans (h3.2.1 (hT rfl)))
        · exact .inr p
      · rw [Array.setIfInBounds_comm _ _ hji]
        exact h3.2.2
end

/-- ways out other than by running on are none -/
def calm (Q : Exit → Act → World → Prop) : Exit → Act → World → Prop
  | .normal, a, w => Q .normal a w
  | _, _, _ => False

section
variable {P : Program} {C : Ctx} {E0 E : Env} {Q : Exit → Act → World → Prop} {ops : Array Oper}

def stillAt (C : Ctx) (ops : Array Oper) (j : Nat) : Bool :=
  match ops[j]? with
  | some o => still C o
  | none => true

def drawW (P : Program) (C : Ctx) (Q : Exit → Act → World → Prop) (ops : Array Oper) (l : List Oper) (a : Act) (w : World) : Prop :=
  ∀ (rest : List Nat) (listed : Array Bool), rest.map (fun i => ops[i]?) = l.map some → drawOk C ops listed rest = true → wpAnyR P .any ops (stillAt C ops) (calm Q) l.length listed a w

theorem free_of {listed : Array Bool} {i : Nat} {o : Oper} (hi : ops[i]? = some o) (hf : Region.free .any ops listed i = true) (hl : isLd o = true → ldFree C ops listed i = true) :
    ∀ j oj, ops[j]? = some oj → j ≠ i → listed.getD j true = false → (∀ e ∈ oj.after, Region.binds .any e = true → e.on ≠ i) → o.apart ops oj = true ∧ (isLd o = true → stillAt C ops j = true) := by
  intro j oj hj hne hun hno
  refine ⟨Region.free_spec hi hf j oj hj hne hun hno, fun h => ?_⟩
  have h := hl h
  simp only [ldFree, List.all_eq_true, List.mem_range] at h
  have h1 := h j (Array.getElem?_eq_some_iff.1 hj).1
  simp only [hj, Bool.or_eq_true, beq_iff_eq, hne, false_or, hun, Bool.false_eq_true] at h1
  simp only [stillAt, hj]
  rcases h1 with h1 | h1
  · obtain ⟨e, he, hb⟩ := Array.any_eq_true'.1 h1
    simp only [Bool.and_eq_true, beq_iff_eq] at hb
    exact absurd hb.2 (hno e he hb.1)
  · exact h1

theorem one_ready {o : Oper} {l : List Oper} {i : Nat} {listed : Array Bool} {a : Act} {w : World} (hr : Region.ready .any ops listed = [i])
    (h : wpOp P ops (calm Q) i (fun a' w' => (stillAt C ops i = true → w' = w) ∧ wpAnyR P .any ops (stillAt C ops) (calm Q) l.length (listed.setIfInBounds i true) a' w') a w) :
    wpAnyR P .any ops (stillAt C ops) (calm Q) (o :: l).length listed a w :=
  by
  simp only [List.length_cons, wpAnyR]
  refine ⟨fun e => ?_, fun j hj => ?_⟩
  · rw [hr] at e; cases e
  · rw [hr] at hj
    obtain rfl := List.mem_singleton.1 hj
    exact h

theorem stp_draw (hsel : Region.noSelect ops = true) : Stp P C (calm Q) ops (drawW P C Q ops) where
  take := fun o l a w v hw hs hrun h => by
    intro rest listed hm hok
    cases rest with
    | nil => cases hm
    | cons i rest =>
      simp only [List.map_cons, List.cons.injEq] at hm
      obtain ⟨hi, hm⟩ := hm
      simp only [drawOk, hi, Bool.and_eq_true] at hok
      have hy : YieldsIf P ops (fun u => isLd o = false ∨ u = w) o v a := .inl ⟨hw, hrun⟩
      have H := h rest _ hm hok.2
      rcases Bool.or_eq_true_iff.1 hok.1 with h1 | h1
      · simp only [Bool.and_eq_true] at h1
        obtain ⟨h1, h2, h3, h4⟩ := h1
        refine wpAnyR_first hi (Region.noSelect_spec hsel) (fun c a w hq => hq) l.length listed a w (free_of hi h2 (fun e => by simpa [e] using h4)) (by simpa using h3) hy H
      · split at h1
        · rename_i j hr
          obtain rfl := Nat.eq_of_beq_eq_true h1
          exact one_ready hr (hy.wpOp hi (.inr rfl) ⟨fun _ => rfl, H⟩)
        · cases h1
  doo := fun o l a w hw hs h => by
    intro rest listed hm hok
    cases rest with
    | nil => cases hm
    | cons i rest =>
      simp only [List.map_cons, List.cons.injEq] at hm
      obtain ⟨hi, hm⟩ := hm
      simp only [drawOk, hi, hs, Bool.false_and, Bool.false_or, Bool.and_eq_true] at hok
      obtain ⟨h1, h2⟩ := hok
      split at h1
      · rename_i j hr
        obtain rfl := Nat.eq_of_beq_eq_true h1
        refine one_ready hr ?_
        unfold wpOp
        simp only [hi, hw, if_true]
        refine .inl (Oper.wp_mono (fun a' w' h' => ⟨fun e => ?_, h' rest _ hm h2⟩) h)
        simp [stillAt, hi, hs] at e
      · cases h1
  skip := fun o l a w hw h => by
    intro rest listed hm hok
    cases rest with
    | nil => cases hm
    | cons i rest =>
      simp only [List.map_cons, List.cons.injEq] at hm
      obtain ⟨hi, hm⟩ := hm
      simp only [drawOk, hi, Bool.and_eq_true] at hok
      have hy : YieldsIf P ops (fun u => isLd o = false ∨ u = w) o undef a := .inr ⟨hw, rfl⟩
      have H := h rest _ hm hok.2
      rcases Bool.or_eq_true_iff.1 hok.1 with h1 | h1
      · simp only [Bool.and_eq_true] at h1
        obtain ⟨h1, h2, h3, h4⟩ := h1
        refine wpAnyR_first hi (Region.noSelect_spec hsel) (fun c a w hq => hq) l.length listed a w (free_of hi h2 (fun e => by simpa [e] using h4)) (by simpa using h3) hy H
      · split at h1
        · rename_i j hr
          obtain rfl := Nat.eq_of_beq_eq_true h1
          exact one_ready hr (hy.wpOp hi (.inr rfl) ⟨fun _ => rfl, H⟩)
        · cases h1

theorem draw_sound (hc : CtxOk P C) {R : Type} {st : St} {k : St → Option R} {r : R} {a : Act} {id : Nat} (h : regK C ops R (ops.size + ops.size + 1) false [] ops.toList st k = some r)
    (hok : (Region.noSelect ops && drawOk C ops (Array.replicate ops.size false) (List.range ops.size)) = true) (hi : Inv C.N E0 E st a)
    (hn : ∀ st' E' a', k st' = some r → Inv C.N E0 E' st' a' → Q .normal a' E'.w) : (Code.region id ops true).wp P Q a E.w := by
  simp only [Bool.and_eq_true] at hok
  refine Code.wp_mono (Q := calm Q) (fun e a w q => by cases e <;> first | exact q | exact q.elim) ?_
  refine wp_region_any hc.mixed (wpAny_of_R (T := stillAt C ops) _ _ _ _ ?_)
  have hi' := hi.grew (w := { E.w with drawn := E.w.drawn + 1 }) ⟨rfl, rfl, rfl, Nat.le_refl _, fun _ _ => rfl⟩
  have := regK_sound (Q := calm Q) (all := ops) (E0 := E0) hc (stp_draw (Q := Q) hok.1) (ops.size + ops.size + 1) R false [] ops.toList st k r _ a [] false h (by simp) hi' (fun s b hl => by cases hl)
    (fun st' E' a' hk hi' _ _ => by
      intro rest listed hm hok'
      cases rest with
      | cons x r => cases hm
      | nil =>
        refine ⟨?_, hn st' E' a' hk hi'⟩
        simpa [drawOk] using hok')
  have := this (List.range ops.size) (Array.replicate ops.size false) ?_ hok.2
  · simpa using this
  · simp only [List.append_nil]
    apply List.ext_getElem?
    intro i
    simp only [List.getElem?_map, List.getElem?_range']
    by_cases hlt : i < ops.size
    · simp [hlt]
    · simp [hlt]
end

end Go.Am
