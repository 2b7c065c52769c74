import Derived.Test.YtabocefniklbpaaLawMAY1
import Derived.Test.YtabocefniklbpaaLawMAY0
set_option linter.unnecessarySimpa false
set_option linter.unusedSimpArgs false
set_option linter.unusedVariables false
set_option linter.unusedSectionVars false
section
/- Records are drawn, whatever the bytes. -/
set_option linter.unusedVariables false
set_option linter.unusedSimpArgs false
set_option linter.unusedSectionVars false
namespace Go.Law
open Go.Am Go.Fn

def WfVs' (l : List TVal) : Prop := ∀ v, v ∈ l → WfV v
theorem WfVs'.app {a b : List TVal} (h : WfVs' a) (h' : WfVs' b) : WfVs' (a ++ b) := fun n hn => (List.mem_append.1 hn).elim (h n) (h' n)
theorem WfVs'.one {v : TVal} (h : WfV v) : WfVs' [v] := fun m hm => by simp at hm; subst hm; exact h

def bnd : Nat → Nat
  | 0 => 1
  | d + 1 => 21 * bnd d
theorem bnd_pos : ∀ d, 1 ≤ bnd d
  | 0 => Nat.le_refl _
  | d + 1 => by have := bnd_pos d; simp only [bnd]; omega
theorem bnd_mono (d : Nat) : bnd d ≤ bnd (d + 1) := by simp only [bnd]; omega
theorem bnd6 {d : Nat} (h : d ≤ 6) : bnd d ≤ 85766121 := by
  have : ∀ d e, d ≤ e → bnd d ≤ bnd e := by
    intro d e h
    induction h with
    | refl => exact Nat.le_refl _
    | step _ ih => exact Nat.le_trans ih (bnd_mono _)
  exact Nat.le_trans (this d 6 h) (by decide)

section
variable (k : Nat) (s : List TCol) (hs : s.length ≤ 20) (hn : ∀ c, c ∈ s → c.1.size < k ∧ c.1.size < 1000000000 ∧ I64 c.2.2.2.1) (hk : 2000000 ≤ k)
include hs hn hk

def DrS (r : Option (Unit × TL1Cur × List TVal)) (acc : List TVal) (B : Nat) : Prop := ∃ c' Y, r = some ((), (c', acc ++ Y)) ∧ CurOk c' ∧ Y.length ≤ B ∧ WfVs' Y

theorem drItems (S : List TCol → Int → TL1Cur → List TVal → Option (Unit × TL1Cur × List TVal)) (a : Nat) (B : Nat) (n : Int) (hn20 : n ≤ 20)
    (h : ∀ (f : Nat) (i : Int) (c : TL1Cur) (acc : List TVal), i < n → 0 ≤ i → CurOk c → acc.length + B ≤ 4294967295 → ∃ c' Y, CurOk c' ∧ Y.length ≤ B ∧ WfVs' Y ∧ spec_l13DrawPart.l10 k S (f + 1) s (a : Int) n i c acc = spec_l13DrawPart.l10 k S f s (a : Int) n (i + 1) c' (acc ++ Y)) :
    ∀ (m : Nat) (i : Int) (f : Nat) (c : TL1Cur) (acc : List TVal), n - i ≤ m → 0 ≤ i → m < f → CurOk c → acc.length + B * m ≤ 4294967295 → DrS (spec_l13DrawPart.l10 k S f s (a : Int) n i c acc) acc (B * m) := by
  intro m
  induction m with
  | zero =>
    intro i f c acc hi h0 hf hc ha
    obtain ⟨f, rfl⟩ : ∃ q, f = q + 1 := ⟨f - 1, by omega⟩
    simp only [spec_l13DrawPart.l10, decide_eq_false (show ¬ i < n by omega), cond_false]
    exact ⟨c, [], by simp, hc, by simp, fun v hv => by cases hv⟩
  | succ m ih =>
    intro i f c acc hi h0 hf hc ha
    obtain ⟨f, rfl⟩ : ∃ q, f = q + 1 := ⟨f - 1, by omega⟩
    rw [Nat.mul_succ] at ha
    by_cases hlt : i < n
    · obtain ⟨c', Y, q1, q2, q3, q4⟩ := h f i c acc hlt h0 hc (by omega)
      rw [q4]
      obtain ⟨c2, Y2, r1, r2, r3, r4⟩ := ih (i + 1) f c' (acc ++ Y) (by omega) (by omega) (by omega) q1 (by rw [List.length_append]; omega)
      exact ⟨c2, Y ++ Y2, by rw [r1, List.append_assoc], r2, by rw [List.length_append, Nat.mul_succ]; omega, q3.app r4⟩
    · simp only [spec_l13DrawPart.l10, decide_eq_false hlt, cond_false]
      exact ⟨c, [], by simp, hc, by simp, fun v hv => by cases hv⟩

theorem drPart_ok : ∀ (d E a nx : Nat), SubC s d a nx → nx ≤ s.length → d ≤ 6 → d ≤ E →
    (∀ (n : Int) (f : Nat) (i : Int) (c : TL1Cur) (acc : List TVal), n ≤ 20 → i < n → 0 ≤ i → CurOk c → acc.length + bnd d * (nx - a) ≤ 4294967295 →
      ∃ c' Y, CurOk c' ∧ Y.length ≤ bnd d * (nx - a) ∧ WfVs' Y ∧ spec_l13DrawPart.l10 k (spec_l13DrawPart.rec k E) (f + 1) s (a : Int) n i c acc = spec_l13DrawPart.l10 k (spec_l13DrawPart.rec k E) f s (a : Int) n (i + 1) c' (acc ++ Y)) ∧
    (∀ (c : TL1Cur) (acc : List TVal), CurOk c → acc.length + bnd (d + 1) * (nx - a) ≤ 4294967295 → DrS (spec_l13DrawPart.rec k (E + 1) s (a : Int) c acc) acc (bnd (d + 1) * (nx - a))) := by
  intro d
  induction d with
  | zero => intro E a nx h; exact h.elim
  | succ d ih =>
    intro E a nx h hnx hd hE
    obtain ⟨E, rfl⟩ : ∃ q, E = q + 1 := ⟨E - 1, by omega⟩
    have hlt := SubC_lt _ _ _ h
    have hsub := h
    obtain ⟨col, hc, hco, _, hpp⟩ := h
    have hcr : rdL s (a : Int) = some col := hc
    have hcm := (hn col (List.mem_of_getElem? hc)).2.2
    have hmp := PartsC_le (SubC_lt d) _ _ _ _ hpp
    have ha1 : IntKind.wrap .i64 ((a : Int) + 1) = ((a + 1 : Nat) : Int) := by rw [w64 (by omega) (by omega)]; omega
    have hbp := bnd_pos (d + 1)
    have hcont : ∀ (n : Int) (f : Nat) (i : Int) (c : TL1Cur) (acc : List TVal), n ≤ 20 → i < n → 0 ≤ i → CurOk c → acc.length + bnd (d + 1) * (nx - a) ≤ 4294967295 →
      ∃ c' Y, CurOk c' ∧ Y.length ≤ bnd (d + 1) * (nx - a) ∧ WfVs' Y ∧ spec_l13DrawPart.l10 k (spec_l13DrawPart.rec k (E + 1)) (f + 1) s (a : Int) n i c acc = spec_l13DrawPart.l10 k (spec_l13DrawPart.rec k (E + 1)) f s (a : Int) n (i + 1) c' (acc ++ Y) := by
      intro n f i c acc hn20 hi h0 hcu ha
      have hi1 : IntKind.wrap .i64 (i + 1) = i + 1 := w64 (by omega) (by omega)
      have hB1 : bnd (d + 1) * 1 ≤ bnd (d + 1) * (nx - a) := Nat.mul_le_mul_left _ (by omega)
      by_cases h7 : col.2.1 = 7
      · have hmn : 0 ≤ col.2.2.2.1 := by
          unfold colOk at hco
          rw [h7, tyOk_7] at hco
          simp at hco
          omega
        have key : ∀ (m pl : Nat) (j : Int) (names : List ByteArray) (f2 : Nat) (c : TL1Cur) (acc : List TVal), PartsC (SubC s d) s m pl names nx → col.2.2.2.1 - j = m → 0 ≤ j → m < f2 → CurOk c → acc.length + bnd (d + 1) * (nx - pl) ≤ 4294967295 →
            ∃ c' Y, CurOk c' ∧ Y.length ≤ bnd (d + 1) * (nx - pl) ∧ WfVs' Y ∧ spec_l13DrawPart.l16 k (spec_l13DrawPart.rec k (E + 1)) (spec_l13DrawPart.l10 k (spec_l13DrawPart.rec k (E + 1)) f) f2 s (a : Int) n i (pl : Int) j c acc = spec_l13DrawPart.l10 k (spec_l13DrawPart.rec k (E + 1)) f s (a : Int) n (i + 1) c' (acc ++ Y) := by
          intro m
          induction m with
          | zero =>
            intro pl j names f2 c acc hpp hj h0 hf hcu ha
            obtain ⟨f2, rfl⟩ : ∃ q, f2 = q + 1 := ⟨f2 - 1, by omega⟩
            refine ⟨c, [], hcu, by simp, fun v hv => (by cases hv), ?_⟩
            simp only [spec_l13DrawPart.l16, hcr, Option.bind_some, decide_eq_false (show ¬ (j < col.2.2.2.1) by omega), cond_false, spec_l13DrawPart.c11, hi1, List.append_nil]
          | succ m ihm =>
            intro pl j names f2 c acc hpp hj h0 hf hcu ha
            obtain ⟨q, mid, q1, q2, q3, q4⟩ := hpp
            have hmn' := PartsC_nx (SubC_lt d) _ _ _ _ q4
            have hlt' := SubC_lt _ _ _ q3
            obtain ⟨f2, rfl⟩ : ∃ q, f2 = q + 1 := ⟨f2 - 1, by omega⟩
            have hj1 : IntKind.wrap .i64 (j + 1) = j + 1 := w64 (by omega) (by omega)
            have haf := l5After_sub k s hs hn (by omega) q3 (show d ≤ 6 by omega) (by omega)
            have hsplit : bnd (d + 1) * (nx - pl) = bnd (d + 1) * (mid - pl) + bnd (d + 1) * (nx - mid) := by rw [← Nat.mul_add]; congr 1; omega
            obtain ⟨c1, Y1, e1, e2, e3, e4⟩ := (ih E pl mid q3 (by omega) (by omega) (by omega)).2 c acc hcu (by omega)
            obtain ⟨c2, Y2, g1, g2, g3, g4⟩ := ihm mid (j + 1) _ f2 c1 (acc ++ Y1) q4 (by omega) (by omega) (by omega) e2 (by rw [List.length_append]; omega)
            refine ⟨c2, Y1 ++ Y2, g1, by rw [List.length_append]; omega, e4.app g3, ?_⟩
            simp only [spec_l13DrawPart.l16, hcr, Option.bind_some, decide_eq_true (show j < col.2.2.2.1 by omega), cond_true, e1, haf, hj1]
            rw [g4, List.append_assoc]
        have hle : bnd (d + 1) * (nx - (a + 1)) ≤ bnd (d + 1) * (nx - a) := Nat.mul_le_mul_left _ (by omega)
        obtain ⟨c', Y, g1, g2, g3, g4⟩ := key col.2.2.2.1.toNat (a + 1) 0 [] k c acc hpp (by omega) (by omega) (by omega) hcu (by omega)
        refine ⟨c', Y, g1, by omega, g3, ?_⟩
        rw [← g4]
        simp only [spec_l13DrawPart.l10, decide_eq_true hi, cond_true, hcr, Option.bind_some, bneF h7, cond_false, ha1]
      · obtain ⟨v, c', e1, e2, e3⟩ := drawRight_ok k (by omega) col.2.1 c hcu
        refine ⟨c', [v], e3, by simp only [List.length_singleton]; omega, WfVs'.one e2, ?_⟩
        simp only [spec_l13DrawPart.l10, decide_eq_true hi, cond_true, hcr, Option.bind_some, bneT h7, e1, spec_l13DrawPart.c11, hi1]
        rw [lim_ok (by simp; omega), cond_true]
    refine ⟨hcont, fun c acc hcu ha => ?_⟩
    have hb2 : bnd (d + 2) * (nx - a) = 21 * (bnd (d + 1) * (nx - a)) := by simp only [bnd]; rw [Nat.mul_assoc]
    have hB1 : bnd (d + 1) * 1 ≤ bnd (d + 1) * (nx - a) := Nat.mul_le_mul_left _ (by omega)
    rw [hb2] at ha ⊢
    generalize hBB : bnd (d + 1) * (nx - a) = B at *
    have items : ∀ (n : Int) (c : TL1Cur) (acc : List TVal) (m : Nat), n ≤ m → m ≤ 20 → CurOk c → acc.length + B * m ≤ 4294967295 → DrS (spec_l13DrawPart.l10 k (spec_l13DrawPart.rec k (E + 1)) k s (a : Int) n 0 c acc) acc (B * m) := by
      intro n c acc m h1 h2 hcu ha
      refine drItems k s hs hn hk (spec_l13DrawPart.rec k (E + 1)) a B n (by omega) (fun f i c acc hi h0 hcu ha => hcont n f i c acc (by omega) hi h0 hcu ha) m 0 k c acc (by omega) (by omega) (by omega) hcu ha
    have some_ : ∀ (n : Int) (c : TL1Cur), 0 ≤ n → n ≤ 20 → CurOk c → DrS (spec_l13DrawPart.c8 k (spec_l13DrawPart.rec k (E + 1)) s (a : Int) n c acc) acc (21 * B) := by
      intro n c h0 h20 hcu
      obtain ⟨m, rfl⟩ := Int.eq_ofNat_of_zero_le h0
      have hBm : B * m ≤ B * 20 := Nat.mul_le_mul_left _ (by omega)
      unfold spec_l13DrawPart.c8 spec_l13DrawPart.c9
      rw [lim_ok (by simp; omega), cond_true]
      obtain ⟨c', Y, e1, e2, e3, e4⟩ := items (m : Int) c (acc ++ [((m : Int), (⟨#[]⟩ : ByteArray), ())]) m (by omega) (by omega) hcu (by simp; omega)
      refine ⟨c', [((m : Int), (⟨#[]⟩ : ByteArray), ())] ++ Y, by rw [e1, List.append_assoc], e2, by rw [List.length_append, List.length_singleton]; omega, WfVs'.app (WfVs'.one ⟨⟨by omega, by omega⟩, e0⟩) e4⟩
    rw [show spec_l13DrawPart.rec k (E + 1 + 1) = spec_l13DrawPart.b k (spec_l13DrawPart.rec k (E + 1)) from rfl]
    unfold spec_l13DrawPart.b
    have hb8 : ((cond (decide ((a : Int) > 0)) ((rdL s (a : Int)).bind fun y7 => some (y7.2.2.1 != 0)) (some false)) : Option Bool) = some (decide (0 < a) && (col.2.2.1 != 0)) := by
      rw [hcr]
      by_cases h : 0 < a
      · rw [decide_eq_true (show (a : Int) > 0 by omega), decide_eq_true h]; rfl
      · rw [decide_eq_false (show ¬ (a : Int) > 0 by omega), decide_eq_false h]; rfl
    rw [hb8]
    simp only [Option.bind_some]
    cases hbb : (decide (0 < a) && (col.2.2.1 != 0)) with
    | false =>
      simp only [cond_false, spec_l13DrawPart.c9]
      obtain ⟨c', Y, e1, e2, e3, e4⟩ := items 1 c acc 1 (by omega) (by omega) hcu (by omega)
      exact ⟨c', Y, e1, e2, by omega, e4⟩
    | true =>
      simp only [cond_true]
      obtain ⟨v1, c1, e1, _, b1, hc1⟩ := below_ok k 2 (by omega) c hcu
      have b1 := b1 (by omega)
      simp only [e1, Option.bind_some, hcr]
      by_cases h2 : col.2.2.1 = 2
      · rw [beqT h2, cond_true]
        obtain ⟨v2, c2, e2, _, b2, hc2⟩ := below_ok k 4 (by omega) c1 hc1
        have b2 := b2 (by omega)
        obtain ⟨v3, c3, e3, hc3⟩ := once_ok k 60 (by omega) c2 hc2
        simp only [e2, e3, Option.bind_some]
        cases v3 with
        | true => exact some_ 20 c3 (by omega) (by omega) hc3
        | false => exact some_ v2 c3 (by omega) (by omega) hc3
      · rw [beqF h2, cond_false]
        exact some_ v1 c1 (by omega) (by omega) hc1
end

theorem drawRec_ok (k : Nat) (hk : 2000000 ≤ k) (s : List TCol) (hw : WfDs s) (hS : IsSchema s) (hok : spec_SchemaOk k s = some true) (c : TL1Cur) (hc : CurOk c) :
    ∃ c' V, spec_l13DrawRight k s c = some (((), ()), (c', V)) ∧ CurOk c' ∧ (recEv s V).isSome = true ∧ WfVs' V := by
  have hn := wfSmall k (by omega) hw
  have hs20 := hS.2.1
  obtain ⟨k', rfl⟩ : ∃ q, k = q + 7 := ⟨k - 7, by omega⟩
  have hb := bnd6 (Nat.le_refl 6)
  have hb7 : bnd 7 = 21 * bnd 6 := rfl
  have hbb : bnd 6 * s.length ≤ 85766121 * 20 := Nat.mul_le_mul hb hs20
  have h0 := (drPart_ok (k' + 7) s hs20 hn hk 6 (k' + 6) 0 s.length hS.2.2.1 (Nat.le_refl _) (by omega) (by omega)).1
  -- the root is Required: one item
  have hpart : DrS (spec_l13DrawPart (k' + 7) s 0 c []) [] (bnd 6 * s.length) := by
    show DrS (spec_l13DrawPart.b (k' + 7) (spec_l13DrawPart.rec (k' + 7) (k' + 6)) s 0 c []) [] _
    unfold spec_l13DrawPart.b spec_l13DrawPart.c9
    rw [show decide ((0 : Int) > 0) = false from rfl]
    simp only [cond_false, Option.bind_some]
    obtain ⟨c', Y, e1, e2, e3, e4⟩ := h0 1 (k' + 6) 0 c [] (by omega) (by omega) (by omega) hc (by simp; omega)
    have e4 : spec_l13DrawPart.l10 (k' + 7) (spec_l13DrawPart.rec (k' + 7) (k' + 6)) (k' + 7) s 0 1 0 c [] = _ := e4
    rw [e4]
    refine ⟨c', Y, ?_, e1, by simpa using e2, e3⟩
    simp only [spec_l13DrawPart.l10, decide_eq_false (show ¬ ((0 : Int) + 1 < 1) by omega), cond_false]
  obtain ⟨c', Y, e1, e2, e3, e4⟩ := hpart
  rw [List.nil_append] at e1
  unfold spec_l13DrawRight spec_l13DrawRight.c4
  rw [e1]
  obtain ⟨b, q1, _, _, q2, _⟩ := recOk_eq (k' + 7) hk s hn Y
  have hbt : b = true := by rw [hok] at q1; simpa using q1.symm
  subst hbt
  simp only [Option.bind_some, q2, Bool.true_and]
  cases hr : (recEv s Y).isSome with
  | true =>
    simp only [Bool.not_true, cond_false]
    exact ⟨c', Y, rfl, e2, hr, e4⟩
  | false =>
    simp only [Bool.not_false, cond_true]
    obtain ⟨g1, _, g2⟩ := recEmpty_eq (k' + 7) hk s hn hS
    rw [hok] at g1
    simp only [Option.bind_some, Bool.not_true, cond_false] at g1
    rw [g1]
    exact ⟨c', empV s, rfl, e2, g2, fun v hv => by rw [emC_mem 6 0 v hv]; exact ⟨⟨by decide, by decide⟩, by decide⟩⟩
end Go.Law
end

section
/- Conditions are drawn. -/
set_option linter.unusedVariables false
set_option linter.unusedSimpArgs false
set_option linter.unusedSectionVars false
namespace Go.Law
open Go.Am Go.Fn

section
variable (k : Nat) (hk : 2000000 ≤ k)
include hk

theorem sshift_ok (n : Int) (q : List TPred) (hq : q.length ≤ 100) : ∃ out, spec_l20Shift k q n = some ((), out) ∧ out.length = q.length := by
  have key : ∀ (m f i : Nat) (o : List TPred), i + m = q.length → m < f → o.length = i → ∃ out, spec_l20Shift.l3 k f q n (i : Int) o = some ((), out) ∧ out.length = q.length := by
    intro m
    induction m with
    | zero =>
      intro f i o hi hf ho
      obtain ⟨f, rfl⟩ : ∃ q, f = q + 1 := ⟨f - 1, by omega⟩
      simp only [spec_l20Shift.l3, decide_eq_false (show ¬ ((i : Int) < (q.length : Int)) by omega), cond_false]
      exact ⟨_, rfl, by omega⟩
    | succ m ih =>
      intro f i o hi hf ho
      obtain ⟨f, rfl⟩ : ∃ q, f = q + 1 := ⟨f - 1, by omega⟩
      obtain ⟨x, hx, _⟩ := rdL_some (xs := q) (i := (i : Int)) (by omega) (by omega)
      have hi1 : IntKind.wrap .i64 ((i : Int) + 1) = ((i + 1 : Nat) : Int) := by rw [w64 (by omega) (by omega)]; omega
      have step : ∀ y, ∃ out, spec_l20Shift.c13 k (spec_l20Shift.l3 k f) q n (i : Int) o y = some ((), out) ∧ out.length = q.length := by
        intro y
        unfold spec_l20Shift.c13
        rw [lim_ok (by simp; omega), cond_true, hi1]
        exact ih f (i + 1) (o ++ [y]) (by omega) (by omega) (by simp; omega)
      simp only [spec_l20Shift.l3, decide_eq_true (show (i : Int) < (q.length : Int) by omega), cond_true, hx, Option.bind_some, spec_l20Shift.c9]
      cases (x.1 == 5) <;> cases (x.1 == 6) <;> cases (x.1 == 7) <;> simp only [cond_true, cond_false] <;> exact step _
  obtain ⟨out, e, h⟩ := key q.length k 0 [] (by omega) (by omega) rfl
  exact ⟨out, e, h⟩

theorem spair_ok (kd : Int) (p q : List TPred) (hp : p.length ≤ 100) (hq : q.length ≤ 100) : ∃ b out, spec_PredPair k kd p q = some (((), b), out) ∧ (b = true → 1 ≤ out.length ∧ out.length ≤ 31) := by
  obtain ⟨sh, e1, e2⟩ := sshift_ok k hk (p.length : Int) q hq
  unfold spec_PredPair
  have ew : IntKind.wrap .i64 (IntKind.wrap .i64 ((p.length : Int) + (q.length : Int)) + 1) = ((p.length + q.length + 1 : Nat) : Int) := by
    rw [w64 (show -9223372036854775808 ≤ (p.length : Int) + (q.length : Int) by omega) (by omega), w64 (by omega) (by omega)]; omega
  simp only [cst, csf, Option.bind_some, ew, e1]
  cases hc : (((kd != 5 && kd != 6) || ((p.length : Int) == 0)) || ((q.length : Int) == 0)) || decide (((p.length + q.length + 1 : Nat) : Int) > 31) with
  | true => exact ⟨false, [], rfl, fun h => by cases h⟩
  | false =>
    simp only [Bool.or_eq_false_iff, beq_eq_false_iff_ne, decide_eq_false_iff_not] at hc
    simp only [cond_false]
    rw [lim_ok (by omega), cond_true, lim_ok (by simp; omega), cond_true, lim_ok (by simp; omega), cond_true]
    exact ⟨_, _, rfl, fun _ => by simp; omega⟩

variable (s : List TCol) (hn : ∀ c, c ∈ s → c.1.size < k ∧ c.1.size < 1000000000 ∧ I64 c.2.2.2.1)
variable (hS : IsSchema s) (hok : spec_SchemaOk k s = some true) (hok2 : impl_SchemaOk k s = some true)
include hn hS hok hok2

theorem leaves20_ok : ∃ L, spec_l20Leaves k s = some ((), L) ∧ L.length ≤ 20 := by
  obtain ⟨_, v1⟩ := leaves_eq k (by omega) s (by have := hS.2.1; omega)
  have hll := leavesFrom_len 0 s
  have hs20 := hS.2.1
  have key : ∀ (m f i : Nat) (o : List Int), i + m = (leavesFrom 0 s).length → m < f → o.length ≤ i → ∃ L, spec_l20Leaves.l3 k f s (i : Int) o = some ((), L) ∧ L.length ≤ 20 := by
    intro m
    induction m with
    | zero =>
      intro f i o hi hf ho
      obtain ⟨f, rfl⟩ : ∃ q, f = q + 1 := ⟨f - 1, by omega⟩
      simp only [spec_l20Leaves.l3, v1, Option.bind_some, decide_eq_false (show ¬ ((i : Int) < ((leavesFrom 0 s).length : Int)) by omega), cond_false]
      exact ⟨o, rfl, by omega⟩
    | succ m ih =>
      intro f i o hi hf ho
      obtain ⟨f, rfl⟩ : ∃ q, f = q + 1 := ⟨f - 1, by omega⟩
      obtain ⟨l, b, e1, _⟩ := leafOf_eq k s hn hk hS hok hok2 (i : Int)
      have hi1 : IntKind.wrap .i64 ((i : Int) + 1) = ((i + 1 : Nat) : Int) := by rw [w64 (by omega) (by omega)]; omega
      simp only [spec_l20Leaves.l3, v1, Option.bind_some, decide_eq_true (show (i : Int) < ((leavesFrom 0 s).length : Int) by omega), cond_true, e1, csf, spec_l20Leaves.c4, hi1]
      cases (b && (l.2.1 == 0)) with
      | true =>
        rw [cond_true, lim_ok (by simp; omega), cond_true]
        exact ih f (i + 1) (o ++ [(i : Int)]) (by omega) (by omega) (by simp; omega)
      | false =>
        rw [cond_false]
        exact ih f (i + 1) o (by omega) (by omega) (by omega)
  obtain ⟨L, e, h⟩ := key (leavesFrom 0 s).length k 0 [] (by omega) (by omega) (by simp)
  exact ⟨L, e, h⟩

theorem drawTree20_ok : ∀ (d D : Nat) (c : TL1Cur), d ≤ 5 → d < D → CurOk c → ∃ c' P, spec_l20DrawTree.rec k D s (d : Int) c = some ((), (c', P)) ∧ CurOk c' ∧ 1 ≤ P.length ∧ P.length ≤ 31 := by
  obtain ⟨L, eL, hL⟩ := leaves20_ok k hk s hn hS hok hok2
  intro d
  induction d with
  | zero =>
    intro D c hd hD hc
    obtain ⟨D, rfl⟩ : ∃ q, D = q + 1 := ⟨D - 1, by omega⟩
    simp only [spec_l20DrawTree.rec, spec_l20DrawTree.b, eL, Option.bind_some]
    by_cases h0 : (L.length : Int) = 0
    · rw [beqT h0, cond_true]
      exact ⟨_, _, rfl, hc, by simp, by simp⟩
    · rw [beqF h0, cond_false, decide_eq_false (show ¬ (((0 : Nat) : Int) > 0) by omega), cond_false, cond_false]
      obtain ⟨v1, c1, e1, _, _, hc1⟩ := below_ok k 4 (by omega) c hc
      obtain ⟨v2, c2, e2, _, hc2⟩ := pick_ok k L (by omega) (by omega) c1 hc1
      simp only [e1, e2, Option.bind_some, spec_l20DrawTree.c18]
      cases (IntKind.wrap .i64 (1 + v1) != 4) with
      | true =>
        obtain ⟨l, b, e3, _⟩ := leafOf_eq k s hn hk hS hok hok2 v2
        obtain ⟨v, c3, e4, _, hc3⟩ := drawRight_ok k (by omega) l.1 c2 hc2
        simp only [cond_true, e3, e4, Option.bind_some]
        exact ⟨_, _, rfl, hc3, by simp, by simp⟩
      | false => exact ⟨_, _, rfl, hc2, by simp, by simp⟩
  | succ d ih =>
    intro D c hd hD hc
    obtain ⟨D, rfl⟩ : ∃ q, D = q + 1 := ⟨D - 1, by omega⟩
    have hd1 : IntKind.wrap .i64 (((d + 1 : Nat) : Int) - 1) = (d : Int) := by rw [w64 (by omega) (by omega)]; omega
    simp only [spec_l20DrawTree.rec, spec_l20DrawTree.b, eL, Option.bind_some]
    by_cases h0 : (L.length : Int) = 0
    · rw [beqT h0, cond_true]
      exact ⟨_, _, rfl, hc, by simp, by simp⟩
    · rw [beqF h0, cond_false, decide_eq_true (show (((d + 1 : Nat) : Int) > 0) by omega), cond_true]
      obtain ⟨v0, c0, e0, hc0⟩ := once_ok k 2 (by omega) c hc
      simp only [e0, Option.bind_some, hd1]
      cases v0 with
      | true =>
        obtain ⟨c1, P, e1, hc1, p1, p2⟩ := ih D c0 (by omega) (by omega) hc0
        obtain ⟨v2, c2, e2, hc2⟩ := once_ok k 3 (by omega) c1 hc1
        simp only [cond_true, e1, e2, Option.bind_some]
        have more : ∃ c' P', spec_l20DrawTree.c10 k (spec_l20DrawTree.rec k D) s ((d + 1 : Nat) : Int) c2 P = some ((), (c', P')) ∧ CurOk c' ∧ 1 ≤ P'.length ∧ P'.length ≤ 31 := by
          unfold spec_l20DrawTree.c10
          obtain ⟨v3, c3, e3, _, _, hc3⟩ := below_ok k 2 (by omega) c2 hc2
          obtain ⟨c4, Q, e4, hc4, q1, q2⟩ := ih D c3 (by omega) (by omega) hc3
          obtain ⟨b, out, e5, h5⟩ := spair_ok k hk (IntKind.wrap .i64 (5 + v3)) P Q (by omega) (by omega)
          simp only [e3, e4, e5, Option.bind_some, hd1]
          cases b with
          | true => exact ⟨_, _, rfl, hc4, (h5 rfl).1, (h5 rfl).2⟩
          | false => exact ⟨_, _, rfl, hc4, p1, p2⟩
        cases v2 with
        | true =>
          simp only [cond_true, (inot_eq k hk P (by omega)).2]
          by_cases hl : P.length ≠ 0 ∧ P.length + 1 ≤ 31
          · rw [if_pos hl]
            simp only [Option.bind_some, cond_true]
            exact ⟨_, _, rfl, hc2, by simp, by simp; omega⟩
          · rw [if_neg hl]
            simp only [Option.bind_some, cond_false]
            exact more
        | false => exact more
      | false =>
        obtain ⟨v1, c1, e1, _, _, hc1⟩ := below_ok k 4 (by omega) c0 hc0
        obtain ⟨v2, c2, e2, _, hc2⟩ := pick_ok k L (by omega) (by omega) c1 hc1
        simp only [cond_false, e1, e2, Option.bind_some, spec_l20DrawTree.c18]
        cases (IntKind.wrap .i64 (1 + v1) != 4) with
        | true =>
          obtain ⟨l, b, e3, _⟩ := leafOf_eq k s hn hk hS hok hok2 v2
          obtain ⟨v, c3, e4, _, hc3⟩ := drawRight_ok k (by omega) l.1 c2 hc2
          simp only [cond_true, e3, e4, Option.bind_some]
          exact ⟨_, _, rfl, hc3, by simp, by simp⟩
        | false => exact ⟨_, _, rfl, hc2, by simp, by simp⟩

end

theorem drawSchema20_ok (k : Nat) (hk : 2000000 ≤ k) (c : TL1Cur) (hc : CurOk c) : ∃ c' l, spec_l20DrawSchema k c = some ((), (c', l)) ∧ CurOk c' ∧ WfDs l ∧ l.length ≤ 20 ∧ spec_SchemaOk k l = some true ∧ impl_SchemaOk k l = some true ∧ IsSchema l := by
  have key : ∀ (m f : Nat) (i : Int) (c : TL1Cur) (l : List TCol), 0 ≤ i → 6 - i ≤ m → m < f → CurOk c → (WfDs l ∧ l.length ≤ 20 ∧ spec_SchemaOk k l = some true ∧ impl_SchemaOk k l = some true ∧ IsSchema l) → ∃ c' l', spec_l20DrawSchema.l3 k f i c l = some ((), (c', l')) ∧ CurOk c' ∧ WfDs l' ∧ l'.length ≤ 20 ∧ spec_SchemaOk k l' = some true ∧ impl_SchemaOk k l' = some true ∧ IsSchema l' := by
    intro m
    induction m with
    | zero =>
      intro f i c l h0 hi hf hc hl
      obtain ⟨f, rfl⟩ : ∃ q, f = q + 1 := ⟨f - 1, by omega⟩
      simp only [spec_l20DrawSchema.l3, decide_eq_false (show ¬ i < 6 by omega), cond_false, Option.bind_some]
      exact ⟨_, _, rfl, hc, hl⟩
    | succ m ih =>
      intro f i c l h0 hi hf hc hl
      obtain ⟨f, rfl⟩ : ∃ q, f = q + 1 := ⟨f - 1, by omega⟩
      by_cases h6 : i < 6
      · obtain ⟨h1, h2, h3, h4, h5⟩ := hl
        obtain ⟨L, e1, _⟩ := leaves20_ok k hk l (wfSmall k (by omega) h1) h5 h3 h4
        simp only [spec_l20DrawSchema.l3, decide_eq_true h6, cond_true, e1, Option.bind_some]
        cases ((L.length : Int) == 0) with
        | true =>
          obtain ⟨c2, l2, e2, hc2, hw2⟩ := drawCols_ok k (by omega) c hc
          simp only [cond_true, e2, Option.bind_some]
          rw [w64 (by omega) (by omega)]
          exact ih f (i + 1) c2 l2 (by omega) (by omega) (by omega) hc2 hw2
        | false => exact ⟨_, _, rfl, hc, h1, h2, h3, h4, h5⟩
      · simp only [spec_l20DrawSchema.l3, decide_eq_false h6, cond_false, Option.bind_some]
        exact ⟨_, _, rfl, hc, hl⟩
  unfold spec_l20DrawSchema
  obtain ⟨c2, l2, e2, hc2, hw2⟩ := drawCols_ok k (by omega) c hc
  simp only [e2, Option.bind_some]
  exact key 6 k 0 c2 l2 (by omega) (by omega) (by omega) hc2 hw2
end Go.Law
end

section
/- Records are drawn, to be put in columns. -/
set_option linter.unusedVariables false
set_option linter.unusedSimpArgs false
namespace Go.Law
open Go.Am Go.Fn
variable (k : Nat)

theorem drawRecs_loop (hk : 2000000 ≤ k) (s : List TCol) (hw : WfDs s) (hS : IsSchema s) (hok : spec_SchemaOk k s = some true) (many : Int) (hm : many ≤ 1000) : ∀ (m f : Nat) (i : Int) (c : TL1Cur) (o : List TRec), many - i ≤ m → 0 ≤ i → m < f → CurOk c → o.length + m ≤ 10000 → (∀ r, r ∈ o → (recEv s r.1).isSome = true ∧ WfVs' r.1) →
    ∃ c' R, spec_l14DrawRecs.l4 k f s many i c o = some ((), (c', R)) ∧ CurOk c' ∧ R.length ≤ o.length + m ∧ (∀ r, r ∈ R → (recEv s r.1).isSome = true ∧ WfVs' r.1) := by
  intro m
  induction m with
  | zero =>
    intro f i c o hi h0 hf hc hl ho
    obtain ⟨f, rfl⟩ : ∃ q, f = q + 1 := ⟨f - 1, by omega⟩
    simp only [spec_l14DrawRecs.l4, decide_eq_false (show ¬ i < many by omega), cond_false]
    exact ⟨_, _, rfl, hc, by omega, ho⟩
  | succ m ih =>
    intro f i c o hi h0 hf hc hl ho
    obtain ⟨f, rfl⟩ : ∃ q, f = q + 1 := ⟨f - 1, by omega⟩
    by_cases hlt : i < many
    · obtain ⟨c1, V, e1, hc1, g1, g2⟩ := drawRec_ok k hk s hw hS hok c hc
      have hi1 : IntKind.wrap .i64 (i + 1) = i + 1 := w64 (by omega) (by omega)
      simp only [spec_l14DrawRecs.l4, decide_eq_true hlt, cond_true, e1, Option.bind_some, hi1]
      rw [lim_ok (by simp; omega), cond_true]
      obtain ⟨c', R, r1, r2, r3, r4⟩ := ih f (i + 1) c1 (o ++ [(V, ())]) (by omega) (by omega) (by omega) hc1 (by simp; omega) (fun r hr => by
        rcases List.mem_append.1 hr with hr | hr
        · exact ho r hr
        · rw [List.mem_singleton] at hr
          subst hr
          exact ⟨g1, g2⟩)
      exact ⟨c', R, r1, r2, by simp at r3; omega, r4⟩
    · simp only [spec_l14DrawRecs.l4, decide_eq_false hlt, cond_false]
      exact ⟨_, _, rfl, hc, by omega, ho⟩

theorem drawRecs_ok (hk : 2000000 ≤ k) (s : List TCol) (hw : WfDs s) (hS : IsSchema s) (hok : spec_SchemaOk k s = some true) (most : Nat) (hm : most ≤ 500) (c : TL1Cur) (hc : CurOk c) :
    ∃ c' R, spec_l14DrawRecs k s (most : Int) c = some ((), (c', R)) ∧ CurOk c' ∧ R.length ≤ most ∧ (∀ r, r ∈ R → (recEv s r.1).isSome = true ∧ WfVs' r.1) := by
  unfold spec_l14DrawRecs
  rw [w64 (by omega) (by omega)]
  obtain ⟨v, c1, e1, _, b1, hc1⟩ := below_ok k ((most : Int) + 1) (by omega) c hc
  have b1 := b1 (by omega)
  simp only [e1, Option.bind_some]
  obtain ⟨m, rfl⟩ := Int.eq_ofNat_of_zero_le b1.1
  obtain ⟨c', R, r1, r2, r3, r4⟩ := drawRecs_loop k hk s hw hS hok (m : Int) (by omega) m k 0 c1 [] (by omega) (by omega) (by omega) hc1 (by simp; omega) (fun r hr => by cases hr)
  exact ⟨c', R, r1, r2, by simp at r3; omega, r4⟩

end Go.Law
end

section
/- FnMay -/
set_option linter.unusedVariables false
set_option linter.unusedSimpArgs false
set_option linter.unusedSectionVars false
namespace Go.Law
open Go.Am Go.Fn

section
variable (k : Nat) (s : List TCol) (hn : ∀ c, c ∈ s → c.1.size < k ∧ c.1.size < 1000000000 ∧ I64 c.2.2.2.1) (hk : 2000000 ≤ k)
include hn hk

theorem leafOf_at (hS : IsSchema s) (hok : spec_SchemaOk k s = some true) (hok2 : impl_SchemaOk k s = some true) {L : Nat} {c : TCol} (hc : s[L]? = some c) (h7 : c.2.1 ≠ 7) :
    spec_LeafOf k s (lnum s L : Int) = some ((c.2.1, (lvD s isRep 1 L : Int), (lvD s isOpt 1 L : Int), ()), true) := by
  obtain ⟨v1, v2⟩ := leaves_eq k (by omega) s (by have := hS.2.1; omega)
  have hll := leavesFrom_len 0 s
  have hs20 := hS.2.1
  have hlm := leafMax_eq k s hS hn hk hok hok2 (lnum s L : Int)
  have hat := leaves_at hc h7
  unfold spec_LeafOf spec_SchemaLeaves
  rw [hok]
  simp only [Option.bind_some, Bool.not_true, cond_false, v2, l1In_eq]
  generalize hlv : leavesFrom 0 s = lv at hll hlm hat
  rw [w64 (show -9223372036854775808 ≤ (lv.length : Int) - 1 by omega) (by omega)]
  have hlt := (List.getElem?_eq_some_iff.1 hat).1
  rcases hlm with ⟨L', c', hg, h0, h1, _, hc', h7', hj, m2, m3⟩ | ⟨hin, _⟩
  · have hLL : L = L' := lnum_inj hc hc' h7 h7' (by omega)
    subst hLL
    have hw : (decide (0 ≤ (lnum s L : Int)) && decide ((lnum s L : Int) ≤ (lv.length : Int) - 1)) = true := by simp; omega
    rw [hw]
    simp only [Bool.not_true, cond_false, hg, Option.bind_some, m2, m3, rdL_nat, hc]
  · omega

theorem single_val (V : List TVal) (x : TPred) (h14 : 1 ≤ x.1 ∧ x.1 ≤ 4) (l : TLeaf) (b : Bool) (e : impl_LeafOf k s x.2.1 = some (l, b)) (w : Unit × Bool) (out : List TVal) (e' : impl_RecValues k s (V, ()) x.2.1 = some (w, out)) :
    (out = [] → single k s (V, ()) x = (x.1 == 4)) ∧ (∀ v r, out = v :: r → single k s (V, ()) x = if x.1 = 1 then eqV v x.2.2.1 else if x.1 = 2 then vless l.1 v x.2.2.1 else if x.1 = 3 then !vless l.1 x.2.2.1 v else false) := by
  unfold single impl_holds
  simp only [e, e', Option.bind_some, cst, csf]
  cases out with
  | nil =>
    refine ⟨fun _ => ?_, fun v r h => (by cases h)⟩
    simp only [List.length_nil]
    rw [show (((0 : Nat) : Int) == 0) = true from rfl]
    simp only [Bool.or_true, cond_true, Bool.and_true, Option.getD_some]
  | cons v out =>
    refine ⟨fun h => (by cases h), fun v' r h => ?_⟩
    simp only [List.cons.injEq] at h
    obtain ⟨rfl, rfl⟩ := h
    have hz : (((v :: out).length : Int) == 0) = false := beqF (by simp; omega)
    have hr : rdL (v :: out) 0 = some v := rfl
    rw [hz]
    simp only [Bool.or_false, cond_false, hr, Option.bind_some, (valLess_eq k hk _ _ _).2]
    by_cases h4 : x.1 = 4
    · rw [beqT h4, if_neg (by omega), if_neg (by omega), if_neg (by omega)]
      rfl
    · rw [beqF h4, cond_false]
      by_cases h1 : x.1 = 1
      · rw [beqT h1, if_pos h1]; rfl
      · rw [beqF h1, if_neg h1]
        by_cases h2 : x.1 = 2
        · rw [beqT h2, if_pos h2]; rfl
        · rw [beqF h2, if_neg h2, if_pos (show x.1 = 3 by omega)]; rfl

theorem known_sound (hS : IsSchema s) (hok : spec_SchemaOk k s = some true) (hok2 : impl_SchemaOk k s = some true) {R : List TRec} {X : List Ev} (hX : recsEv s R = some X) (hW : ∀ r, r ∈ R → WfVs' r.1)
    (known : List TKnown) (hkl : known.length = (leavesFrom 0 s).length)
    (hkn : ∀ (L : Nat) (c : TCol) (K : TKnown), s[L]? = some c → c.2.1 ≠ 7 → known[lnum s L]? = some K → K.1 = true → ∃ st, K = (true, st, ()) ∧ StOk (c.2.1, 0, (lvD s isOpt 1 L : Int), ()) ((evAt L X).map trip) st)
    {p : List TPred} (g : GoodPreds k s p) (V : List TVal) (hr : (V, ()) ∈ R) :
    ∀ x, x ∈ p → 1 ≤ x.1 ∧ x.1 ≤ 4 → (single k s (V, ()) x = true → (mayS k s known x).1 = true) ∧ (single k s (V, ()) x = false → (mayS k s known x).2 = true) := by
  intro x hx h14
  obtain ⟨L, c, f1, f2, f3, f4, f5, f6, f7⟩ := plain_leaf k s hn hk hS hok hok2 x h14 (g.plain x hx)
  obtain ⟨l', K, k1, k2, k3, k4⟩ := known_at k s hn hk g known hkl x hx h14
  rw [f6] at k1
  simp only [Option.some.injEq, Prod.mk.injEq, and_true] at k1
  subst k1
  rw [k4]
  rw [f4, rdL_nat] at k3
  cases hK : K.1 with
  | false =>
    unfold mayT
    rw [if_pos hK]
    exact ⟨fun _ => rfl, fun _ => rfl⟩
  | true =>
    obtain ⟨st, rfl, hst⟩ := hkn L c K f2 f3 k3 hK
    obtain ⟨_, a2⟩ := recs_mem R X hX
    obtain ⟨Y, y1, y2⟩ := a2 _ hr
    obtain ⟨e, he⟩ := evAt_one hS y1 f2 f3 f5
    have hem : e ∈ evAt L Y := by rw [he]; simp
    obtain ⟨em, ea⟩ := evAt_mem hem
    have hmem : trip e ∈ (evAt L X).map trip := by
      refine List.mem_map_of_mem ?_
      unfold evAt
      rw [List.mem_filter]
      exact ⟨y2 e em, by simp [ea]⟩
    have hRT : ∀ t, t ∈ (evAt L X).map trip → RT (c.2.1, 0, (lvD s isOpt 1 L : Int), ()) t ∧ I64 t.2.2.1.1 := by
      intro t ht
      have q := col_RT hS hX f2 t ht
      rw [f5] at q
      refine ⟨q, ?_⟩
      obtain ⟨e', he', rfl⟩ := List.mem_map.1 ht
      obtain ⟨m1, m2⟩ := evAt_mem he'
      obtain ⟨a1, _⟩ := recs_mem R X hX
      obtain ⟨r', Y', r1, r2, r3⟩ := a1 e' m1
      show I64 e'.v.1
      cases hlf : e'.leaf with
      | true => exact (hW r' r1 _ (recEv_M r2 e' r3 hlf)).1
      | false =>
        have := (recs_RV hS R X hX e' m1).2.2 hlf
        rw [this]
        exact ⟨by decide, by decide⟩
    have hev := recEv_ok hS y1 e em
    have hvals : valsAt (L : Int) Y = if e.leaf = true then [e.v] else [] := by
      have : ∀ Z : List Ev, valsAt (L : Int) Z = valsAt (L : Int) (evAt L Z) := fun Z => by
        unfold valsAt evAt
        rw [List.filter_filter]
        congr 1
        apply List.filter_congr
        intro a _
        by_cases h : a.at_ = L
        · simp [h]
        · simp [h, show ¬ (a.at_ : Int) = L by omega]
      rw [this, he]
      unfold valsAt
      cases hlf : e.leaf with
      | true => simp [hlf, ea]
      | false => simp [hlf]
    obtain ⟨w, hrv⟩ : ∃ w, impl_RecValues k s (V, ()) x.2.1 = some (w, valsAt (L : Int) Y) := by
      rcases recVals_eq k s hn hk hS hok hok2 V x.2.1 with ⟨L', q1, _, q2⟩ | ⟨q1, _, _⟩
      · rw [f1] at q1
        simp only [Option.some.injEq] at q1
        have : L = L' := by omega
        subst this
        have y1 : recEv s V = some Y := y1
        rw [y1] at q2
        exact ⟨_, q2⟩
      · refine (q1 ?_).elim
        rw [f4, rdL_nat] at f1
        have := (List.getElem?_eq_some_iff.1 f1).1
        omega
    rw [hvals] at hrv
    have hsv := single_val k s hn hk V x h14 _ _ f7 w _ hrv
    have hyes := hev.yes
    have hno := hev.no
    rw [ea, Nat.zero_add] at hyes hno
    cases hlf : e.leaf with
    | true =>
      have hd : ¬ (trip e).2.1 < (lvD s isOpt 1 L : Int) := by have := hyes hlf; show ¬ e.def_ < _; omega
      have := mayT_val hst hRT (trip e) hmem hd x h14
      simp only at this
      rw [hsv.2 e.v [] (if_pos hlf)]
      exact this
    | false =>
      have hd : (trip e).2.1 < (lvD s isOpt 1 L : Int) := by have := hno hlf; show e.def_ < _; omega
      obtain ⟨m1, m2⟩ := mayT_null hst (trip e) hmem hd x h14
      rw [hsv.1 (if_neg (by rw [hlf]; decide))]
      exact ⟨fun h => m1 (by simpa using h), fun h => m2 (by simpa using h)⟩
end

theorem fnMay (code : List Int) : ∃ k, laws_FnMay k code = some true := by
  refine ⟨3000000, ?_⟩
  generalize hk : 3000000 = k
  have hk' : 2000000 ≤ k := by omega
  clear hk
  unfold laws_FnMay laws_big
  simp only [Option.bind_some]
  by_cases hbig : (code.length : Int) > 1048576
  · simp only [decide_eq_true hbig, cond_true]
  simp only [decide_eq_false hbig, cond_false]
  unfold spec_DrawSome spec_DrawSome.d5
  obtain ⟨c, e, hc⟩ := new_ok k (by omega) code (by omega)
  obtain ⟨c1, s, e1, hc1, hw, hl20, ok1, ok2, hS⟩ := drawSchema20_ok k hk' c hc
  have hn := wfSmall k (by omega) hw
  obtain ⟨c2, R, e2, hc2, hR, hRo⟩ := drawRecs_ok k hk' s hw hS ok1 12 (by omega) c1 hc1
  have e2 : spec_l14DrawRecs k s 12 c1 = some ((), (c2, R)) := e2
  obtain ⟨v, b, pr, gr, dm, E, c3, e3, _, _, _, _, _, hc3⟩ := drawConfig_ok k (by omega) s (by omega) (schema_ty hS) c2 hc2
  obtain ⟨d, c4, e4, _, b4, hc4⟩ := below_ok k 2 (by decide) c3 hc3
  have b4 := b4 (by decide)
  obtain ⟨n, hnn⟩ := Int.eq_ofNat_of_zero_le (show 0 ≤ 1 + d by omega)
  obtain ⟨c5, P, e5, hc5, hP1, hP⟩ := drawTree20_ok k hk' s hn hS ok1 ok2 n k c4 (by omega) (by omega) hc4
  have e5 : spec_l20DrawTree k s (n : Int) c4 = some ((), (c5, P)) := e5
  have hw1 : IntKind.wrap .i64 (1 + d) = (n : Int) := by rw [w64 (by omega) (by omega)]; omega
  obtain ⟨p1, p2⟩ := predOk_val k s hn hk' hS ok1 ok2 P
  simp only [e, e1, e2, e3, e4, e5, hw1, Option.bind_some, p1, p2]
  cases hpo : predOkV k s P with
  | false =>
    have := ((predMay_eq k s hn hk' hS ok1 ok2 P []).2 (.inl hpo)).1
    simp only [this, Option.bind_some, Bool.not_false, cond_true, csf]
    rfl
  | true =>
    simp only [Bool.not_true, cond_false]
    obtain ⟨b0, h1, h2, h3, h4, h5⟩ := shred_eq k s hn hk' R
    have hb0 : b0 = true := by rw [ok1] at h1; exact (Option.some.inj h1).symm
    subst hb0
    rw [if_pos ⟨rfl, by omega⟩] at h4
    rw [h4]
    cases hsh : shr s R with
    | none => rfl
    | some T =>
      simp only [shrOut, Option.bind_some, Bool.not_true, cond_false]
      obtain ⟨X, hX, _, hTl, hT2⟩ := shr_some hsh
      have hl20' := lnum_le s s.length
      have hll : (leavesFrom 0 s).length = lnum s s.length := leavesFrom_lnum s [] s rfl
      have leafOfJ : ∀ j, j < T.length → ∃ L c, s[L]? = some c ∧ c.2.1 ≠ 7 ∧ lnum s L = j ∧ T[j]? = some ((evAt L X).map trip) := by
        intro j hj
        obtain ⟨a, f1, _, f3, c, f4, f5⟩ := leavesFrom_get s [] s rfl j _ (List.getElem?_eq_getElem (show j < (leavesFrom ([] : List TCol).length s).length by show j < (leavesFrom 0 s).length; omega))
        have f3 : lnum s a = 0 + j := f3
        refine ⟨a, c, f4, f5, by omega, ?_⟩
        have := shr_col hsh hX f4 f5
        rwa [show lnum s a = j by omega] at this
      -- the end: all records
      have fin : ∀ known : List TKnown, known.length = T.length → (∀ (L : Nat) (c : TCol) (K : TKnown), s[L]? = some c → c.2.1 ≠ 7 → known[lnum s L]? = some K → K.1 = true → ∃ st, K = (true, st, ()) ∧ StOk (c.2.1, 0, (lvD s isOpt 1 L : Int), ()) ((evAt L X).map trip) st) →
          ((impl_PredMay k s P known).bind fun r14 =>
            (spec_PredMay k s P known).bind fun r15 =>
            (cond (!(r14.1 == r15.1)) (some (true)) (some (!(r14.2 == r15.2)))).bind fun b16 =>
            cond b16 (some false) (laws_FnMay.l22 k k s R r14.1 r14.2 0 P)) = some true := by
        intro known hkl hkn
        obtain ⟨g, m1, m2⟩ := (predMay_eq k s hn hk' hS ok1 ok2 P known).1 hpo (by omega)
        simp only [m1, m2, Option.bind_some, beq_self_eq_true, Bool.not_true, cond_false, cst, Bool.or_self]
        have hgl := g.len
        have key : ∀ (post pre : List TRec) (f : Nat), R = pre ++ post → post.length < f → laws_FnMay.l22 k f s R (mayV k s P known 100 ((P.length : Int) - 1)).1 (mayV k s P known 100 ((P.length : Int) - 1)).2 (pre.length : Int) P = some true := by
          intro post
          induction post with
          | nil =>
            intro pre f h hf
            obtain ⟨f, rfl⟩ : ∃ q, f = q + 1 := ⟨f - 1, by omega⟩
            rw [List.append_nil] at h
            subst h
            simp only [laws_FnMay.l22, decide_eq_false (show ¬ ((R.length : Int) < (R.length : Int)) by omega), cond_false]
          | cons r post ih =>
            intro pre f h hf
            simp only [List.length_cons] at hf
            obtain ⟨f, rfl⟩ : ∃ q, f = q + 1 := ⟨f - 1, by omega⟩
            have hlen : R.length = pre.length + (post.length + 1) := by rw [h]; simp
            have hg : rdL R (pre.length : Int) = some r := by rw [h]; exact getMid _ _ _
            have hrm : r ∈ R := by rw [h]; simp
            have hi1 : IntKind.wrap .i64 ((pre.length : Int) + 1) = ((pre.length + 1 : Nat) : Int) := by rw [w64 (by omega) (by omega)]; omega
            have hi := ih (pre ++ [r]) f (by rw [h]; simp) (by omega)
            rw [List.length_append, List.length_singleton] at hi
            obtain ⟨V, ⟨⟩⟩ := r
            have hph := (predHolds_val k s hn hk' hS ok1 ok2 P V).2
            have hre := (hRo _ hrm).1
            have hre : (recEv s V).isSome = true := hre
            rw [hpo, hre, Bool.true_and, Bool.true_and] at hph
            obtain ⟨q1, q2⟩ := may_sound k s hn hk' g known (V, ()) (known_sound k s hn hk' hS ok1 ok2 hX (fun r hr => (hRo r hr).2) known (by omega) hkn g V hrm) 100 (P.length - 1) (by omega) (by omega)
            rw [show ((P.length - 1 : Nat) : Int) = (P.length : Int) - 1 by omega] at q1 q2
            simp only [laws_FnMay.l22, decide_eq_true (show (pre.length : Int) < (R.length : Int) by omega), cond_true, hg, Option.bind_some, hph, laws_FnMay.c23, hi1]
            cases hh : hld k s P (V, ()) 100 ((P.length : Int) - 1) with
            | true =>
              have hy := q1 hh
              simp only [cond_true, hy, Bool.not_true, cond_false]
              rw [hy] at hi
              exact hi
            | false =>
              have hy := q2 hh
              simp only [cond_false, hy, Bool.not_true]
              rw [hy] at hi
              exact hi
        exact key R [] k rfl (by omega)
      have loop : ∀ (m f i : Nat) (known : List TKnown), i + m = T.length → m < f → known.length = i →
          (∀ (L : Nat) (c : TCol) (K : TKnown), s[L]? = some c → c.2.1 ≠ 7 → known[lnum s L]? = some K → K.1 = true → ∃ st, K = (true, st, ()) ∧ StOk (c.2.1, 0, (lvD s isOpt 1 L : Int), ()) ((evAt L X).map trip) st) →
          laws_FnMay.l12 k f code s R (i : Int) P (T.map colOf) known = some true := by
        intro m
        induction m with
        | zero =>
          intro f i known hi hf hkl hkn
          obtain ⟨f, rfl⟩ : ∃ q, f = q + 1 := ⟨f - 1, by omega⟩
          simp only [laws_FnMay.l12, List.length_map, decide_eq_false (show ¬ ((i : Int) < (T.length : Int)) by omega), cond_false]
          exact fin known (by omega) hkn
        | succ m ih =>
          intro f i known hi hf hkl hkn
          obtain ⟨f, rfl⟩ : ∃ q, f = q + 1 := ⟨f - 1, by omega⟩
          obtain ⟨L, c, g1, g2, g3, g4⟩ := leafOfJ i (by omega)
          have hi1 : IntKind.wrap .i64 ((i : Int) + 1) = ((i + 1 : Nat) : Int) := by rw [w64 (by omega) (by omega)]; omega
          have hlf := leafOf_at k s hn hk' hS ok1 ok2 g1 g2
          rw [g3] at hlf
          have hx2 := hT2 _ (List.mem_of_getElem? g4)
          have hdep := lvD_depth (f := isOpt) 6 0 s.length (Nat.le_refl _) hS.2.2.1 L (Nat.zero_le _) (List.getElem?_eq_some_iff.1 g1).1
          rw [Nat.zero_add] at hdep
          have hro := lvD_rep_opt s 1 L
          have hlfo : lfOk (c.2.1, (lvD s isRep 1 L : Int), (lvD s isOpt 1 L : Int), ()) = true := by
            unfold lfOk
            simp only [schema_ty hS L c g1 g2, Bool.true_and, Bool.and_eq_true, decide_eq_true_eq]
            omega
          obtain ⟨st, s1, s2⟩ := stats_ok k hk' _ hlfo ((evAt L X).map trip) hx2 (fun t ht => col_RT hS hX g1 t ht)
          have hg : rdL (T.map colOf) (i : Int) = some ((evAt L X).map trip, ()) := by rw [rdL_nat, List.getElem?_map, g4]; rfl
          simp only [laws_FnMay.l12, List.length_map, decide_eq_true (show (i : Int) < (T.length : Int) by omega), cond_true, hlf, Option.bind_some, laws_FnMay.d15, hg, s1, laws_FnMay.d16, hi1]
          have step : ∀ flag : Bool, (flag = true → lvD s isRep 1 L = 0) → (cond (lim (known.length + [((flag, st, ()) : TKnown)].length)) (laws_FnMay.l12 k f code s R ((i + 1 : Nat) : Int) P (T.map colOf) (known ++ [(flag, st, ())])) none) = some true := by
            intro flag hfl
            rw [lim_ok (by simp; omega), cond_true]
            refine ih f (i + 1) _ (by omega) (by omega) (by simp [hkl]) (fun L' c' K k1 k2 k3 k4 => ?_)
            rcases Nat.lt_or_ge (lnum s L') i with h | h
            · rw [List.getElem?_append_left (by omega)] at k3
              exact hkn L' c' K k1 k2 k3 k4
            · rw [List.getElem?_append_right (by omega)] at k3
              have h0 : lnum s L' - known.length = 0 := by
                have := (List.getElem?_eq_some_iff.1 k3).1
                simp at this; omega
              rw [h0] at k3
              simp only [List.getElem?_cons_zero, Option.some.injEq] at k3
              subst k3
              have hLL : L' = L := lnum_inj k1 g1 k2 g2 (by omega)
              subst hLL
              rw [g1] at k1
              cases k1
              have k4 : flag = true := k4
              subst k4
              refine ⟨st, rfl, ?_⟩
              have := hfl rfl
              rw [this] at s2
              exact s2
          by_cases h0 : (lvD s isRep 1 L : Int) = 0
          · rw [beqT h0, cond_true]
            obtain ⟨z, hz⟩ : ∃ z, laws_at k code (i : Int) = some z := by
              unfold laws_at
              by_cases h : (i : Int) < (code.length : Int)
              · obtain ⟨y, hy, _⟩ := rdL_some (xs := code) (i := (i : Int)) (by omega) h
                rw [decide_eq_true h, cond_true, hy]
                exact ⟨_, rfl⟩
              · rw [decide_eq_false h, cond_false]
                exact ⟨_, rfl⟩
            rw [hz]
            simp only [Option.bind_some]
            exact step _ (fun _ => by omega)
          · rw [beqF h0, cond_false]
            exact step false (fun h => by cases h)
      exact loop T.length k 0 [] (by omega) (by omega) rfl (fun L c K _ _ h _ => by simp at h)
end Go.Law
end
