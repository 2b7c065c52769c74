import Derived.Test.YtkngohdjlondgaaGreatLawEFM0
import Derived.Test.YtkngohdjlondgaaGreatEFMF0
import Derived.Test.YtkngohdjlondgaaGreatAmRow
set_option linter.unnecessarySimpa false
set_option linter.unusedSimpArgs false
set_option linter.unusedVariables false
set_option linter.unusedSectionVars false
section
/- Trees: what is read of any bytes. -/
set_option linter.unusedVariables false
set_option linter.unusedSimpArgs false
namespace Go.Law
open Go.Am Go.Fn

inductive Res (α : Type) where
  | bad (code : Int)
  | ok (p : Nat) (x : α)

def zagV (x : Int) : Int := if x % 2 = 0 then (x % 18446744073709551616) / 2 else - ((x % 18446744073709551616) / 2) - 1

def int32 (x : Int) : Bool := decide (-2147483648 ≤ x) && decide (x ≤ 2147483647)

def prMany (b : List Int) (p : Nat) : Res (Int × Int) :=
  match b[p]? with
  | none => .bad 1
  | some h =>
    match (if h / 16 = 15 then (gv (b.drop (p + 1))).map fun x => (x.1, p + 1 + x.2) else some (h / 16, p + 1)) with
    | none => .bad 1
    | some (many, q) =>
      if many = 0 then .ok q (0, 0)
      else if isItem (h % 16) = false then .bad 2
      else if many < 0 ∨ 1500 < many then .bad 4
      else .ok q (many, h % 16)

def prHead (b : List Int) (p : Nat) (last : Int) : Res (Int × Int) :=
  match b[p]? with
  | none => .bad 1
  | some h =>
    if h = 0 then .ok (p + 1) (0, 0)
    else if isKind (h % 16) = false then .bad 2
    else match (if h / 16 = 0 then (gv (b.drop (p + 1))).map fun x => (zagV x.1, p + 1 + x.2) else some (last + h / 16, p + 1)) with
    | none => .bad 1
    | some (id, q) =>
      if id < 1 ∨ 1000 < id then .bad 3
      else if id ≤ last then .bad 5
      else .ok q (h % 16, id)

def prText (b : List Int) (p : Nat) : Res ByteArray :=
  match gv (b.drop p) with
  | none => .bad 1
  | some (u, n) =>
    if u < 0 ∨ 300 < u then .bad 4
    else if (b.length : Int) - (p + n : Nat) < u then .bad 1
    else .ok (p + n + u.toNat) (intsStr ((b.drop (p + n)).take u.toNat))

def prParts (S : Nat → Nat → Res (List TNode)) : Nat → Nat → Nat → Res (List TNode)
  | 0, p, _ => .ok p []
  | m + 1, p, c => match S p c with
    | .bad e => .bad e
    | .ok q Y => match prParts S m q (c + Y.length) with
      | .bad e => .bad e
      | .ok r Z => .ok r (Y ++ Z)

def prFields (S : Int → Int → Nat → Nat → Res (List TNode)) (b : List Int) : Nat → Int → Nat → Nat → Res (Nat × List TNode)
  | 0, _, _, _ => .bad 1
  | f + 1, last, p, c => match prHead b p last with
    | .bad e => .bad e
    | .ok q (t, id) =>
      if t = 0 then .ok q (0, [])
      else match S t id q c with
      | .bad e => .bad e
      | .ok r Y => match prFields S b f id r (c + Y.length) with
        | .bad e => .bad e
        | .ok z (m, Z) => .ok z (m + 1, Y ++ Z)

def prN : Nat → List Int → Int → Int → Nat → Nat → Res (List TNode)
  | 0, _, _, _, _, _ => .bad 4
  | d + 1, b, kind, id, p, c =>
    if c = 1500 then .bad 4
    else if kind = 5 ∨ kind = 6 then
      match gv (b.drop p) with
      | none => .bad 1
      | some (u, n) => if kind = 5 ∧ int32 (zagV u) = false then .bad 3 else .ok (p + n) [(kind, id, zagV u, ⟨#[]⟩, 0, ())]
    else if kind = 8 then
      match prText b p with
      | .bad e => .bad e
      | .ok q s => .ok q [(8, id, 0, s, 0, ())]
    else if kind = 9 then
      match prMany b p with
      | .bad e => .bad e
      | .ok q (many, item) => match prParts (fun p c => prN d b item 0 p c) many.toNat q (c + 1) with
        | .bad e => .bad e
        | .ok r Y => .ok r ((9, id, item, ⟨#[]⟩, many, ()) :: Y)
    else if kind = 12 then
      match prFields (fun t id p c => prN d b t id p c) b 1002 0 p (c + 1) with
      | .bad e => .bad e
      | .ok r (m, Y) => .ok r ((12, id, 0, ⟨#[]⟩, (m : Int), ()) :: Y)
    else .ok p [(kind, id, 0, ⟨#[]⟩, 0, ())]

theorem zig_zagV {u : Int} (h : I64 u) : zig (zagV u) = u := by
  obtain ⟨h0, h1⟩ := h
  unfold zig zagV
  simp only [IntKind.wrap_i64]
  split <;> split <;> omega

theorem zagV_i64 (u : Int) : I64 (zagV u) := by
  unfold zagV I64
  split <;> omega

theorem zag_eq (k : Nat) {u : Int} (h : I64 u) : impl_Zag k u = some (zagV u) := by
  have h2 := zagV_i64 u
  have := zag_zig k (zagV u) h2.1 h2.2
  rwa [zig_zagV h] at this

/-! ### what is read is a tree -/
theorem isKind_of_item {t : Int} (h : isItem t = true) : isKind t = true := by unfold isKind; rw [h]; simp
theorem kind_cases {t : Int} (h : isKind t = true) : t = 1 ∨ t = 2 ∨ t = 5 ∨ t = 6 ∨ t = 8 ∨ t = 9 ∨ t = 12 := by
  unfold isKind isItem at h
  simp only [Bool.or_eq_true, beq_iff_eq] at h
  omega

theorem prHead_ok {b : List Int} {p : Nat} {last : Int} {q : Nat} {t id : Int} (h : prHead b p last = .ok q (t, id)) : p < q ∧ (t = 0 ∨ (isKind t = true ∧ t ≠ 0 ∧ last + 1 ≤ id ∧ 1 ≤ id ∧ id ≤ 1000)) := by
  unfold prHead at h
  split at h
  · cases h
  · rename_i y hy
    split at h
    · simp only [Res.ok.injEq, Prod.mk.injEq] at h
      exact ⟨by omega, .inl h.2.1.symm⟩
    · split at h
      · cases h
      · rename_i hk
        split at h
        · cases h
        · rename_i id' q' hm
          split at h
          · cases h
          · split at h
            · cases h
            · simp only [Res.ok.injEq, Prod.mk.injEq] at h
              obtain ⟨rfl, rfl, rfl⟩ := h
              have hk : isKind (y % 16) = true := by simpa using hk
              refine ⟨?_, .inr ⟨hk, ?_, by omega, by omega, by omega⟩⟩
              · split at hm
                · cases hg : gv (b.drop (p + 1)) with
                  | none => rw [hg] at hm; cases hm
                  | some x =>
                    rw [hg] at hm
                    simp only [Option.map_some, Option.some.injEq, Prod.mk.injEq] at hm
                    omega
                · simp only [Option.some.injEq, Prod.mk.injEq] at hm
                  omega
              · rcases kind_cases hk with e | e | e | e | e | e | e <;> omega

theorem prMany_ok {b : List Int} {p q : Nat} {many item : Int} (h : prMany b p = .ok q (many, item)) : p < q ∧ ((many = 0 ∧ item = 0) ∨ (1 ≤ many ∧ many ≤ 1500 ∧ isItem item = true)) := by
  unfold prMany at h
  split at h
  · cases h
  · rename_i y hy
    split at h
    · cases h
    · rename_i m q' hm
      have hq : p < q' := by
        split at hm
        · cases hg : gv (b.drop (p + 1)) with
          | none => rw [hg] at hm; cases hm
          | some x =>
            rw [hg] at hm
            simp only [Option.map_some, Option.some.injEq, Prod.mk.injEq] at hm
            omega
        · simp only [Option.some.injEq, Prod.mk.injEq] at hm
          omega
      split at h
      · simp only [Res.ok.injEq, Prod.mk.injEq] at h
        exact ⟨by omega, .inl ⟨h.2.1.symm, h.2.2.symm⟩⟩
      · split at h
        · cases h
        · rename_i hi
          split at h
          · cases h
          · simp only [Res.ok.injEq, Prod.mk.injEq] at h
            obtain ⟨rfl, rfl, rfl⟩ := h
            exact ⟨hq, .inr ⟨by omega, by omega, by simpa using hi⟩⟩

theorem prText_ok {b : List Int} {p q : Nat} {s : ByteArray} (h : prText b p = .ok q s) : p ≤ q ∧ s.size ≤ 300 := by
  unfold prText at h
  split at h
  · cases h
  · split at h
    · cases h
    · split at h
      · cases h
      · simp only [Res.ok.injEq] at h
        obtain ⟨rfl, rfl⟩ := h
        refine ⟨by omega, ?_⟩
        rw [intsStr_size, List.length_take]
        omega

def EncS (d : Nat) (kind id : Int) (c : Nat) (Y : List TNode) : Prop := ∃ n X, Y = n :: X ∧ n.1 = kind ∧ n.2.1 = id ∧ Enc d Y ∧ c + Y.length ≤ 1500

theorem prParts_enc {d : Nat} {item : Int} {S : Nat → Nat → Res (List TNode)} (ih : ∀ p c q Y, c ≤ 1500 → S p c = .ok q Y → p ≤ q ∧ EncS d item 0 c Y) (n : TNode) (hn : n.1 = 9) (hi : n.2.2.1 = item) : ∀ (m p c : Nat) (last : Int) (q : Nat) (Y : List TNode), c ≤ 1500 → prParts S m p c = .ok q Y → p ≤ q ∧ EncP (Enc d) n m last Y ∧ c + Y.length ≤ 1500 := by
  intro m
  induction m with
  | zero =>
    intro p c last q Y hc h
    simp only [prParts, Res.ok.injEq] at h
    obtain ⟨rfl, rfl⟩ := h
    exact ⟨Nat.le_refl _, rfl, by simpa using hc⟩
  | succ m ihm =>
    intro p c last q Y hc h
    simp only [prParts] at h
    split at h
    · cases h
    · rename_i q1 Y1 h1
      split at h
      · cases h
      · rename_i q2 Z h2
        simp only [Res.ok.injEq] at h
        obtain ⟨rfl, rfl⟩ := h
        obtain ⟨hp, x, X, rfl, x1, x2, x3, x4⟩ := ih _ _ _ _ hc h1
        obtain ⟨g0, g1, g2⟩ := ihm _ _ x.2.1 _ _ (by omega) h2
        exact ⟨by omega, ⟨x, X, Z, rfl, fun _ => ⟨by rw [x1, hi], x2⟩, fun h12 => by omega, x3, g1⟩, by simp at g2 ⊢; omega⟩

theorem prFields_enc {d : Nat} {S : Int → Int → Nat → Nat → Res (List TNode)} {b : List Int} (ih : ∀ t id p c q Y, isKind t = true → c ≤ 1500 → S t id p c = .ok q Y → p ≤ q ∧ EncS d t id c Y) (n : TNode) (hn : n.1 = 12) : ∀ (f : Nat) (last : Int) (p c q m : Nat) (Y : List TNode), c ≤ 1500 → prFields S b f last p c = .ok q (m, Y) → p < q ∧ EncP (Enc d) n m last Y ∧ c + Y.length ≤ 1500 := by
  intro f
  induction f with
  | zero => intro last p c q m Y hc h; cases h
  | succ f ihf =>
    intro last p c q m Y hc h
    simp only [prFields] at h
    split at h
    · cases h
    · rename_i q1 t id h1
      obtain ⟨a1, a2⟩ := prHead_ok h1
      split at h
      · simp only [Res.ok.injEq, Prod.mk.injEq] at h
        obtain ⟨rfl, rfl, rfl⟩ := h
        exact ⟨a1, rfl, by simpa using hc⟩
      · rename_i ht
        rcases a2 with a2 | ⟨a2, _, a3, a4, a5⟩
        · exact (ht a2).elim
        · split at h
          · cases h
          · rename_i q2 Y1 h2
            split at h
            · cases h
            · rename_i q3 m' Z h3
              simp only [Res.ok.injEq, Prod.mk.injEq] at h
              obtain ⟨rfl, rfl, rfl⟩ := h
              obtain ⟨hp, x, X, rfl, x1, x2, x3, x4⟩ := ih _ _ _ _ _ _ a2 hc h2
              obtain ⟨g0, g1, g2⟩ := ihf _ _ _ _ _ _ (by omega) h3
              rw [← x2] at g1
              exact ⟨by omega, ⟨x, X, Z, rfl, fun h9 => by omega, fun _ => ⟨by omega, by omega⟩, x3, g1⟩, by simp at g2 ⊢; omega⟩

theorem prN_enc : ∀ (d : Nat) (b : List Int) (kind id : Int) (p c q : Nat) (Y : List TNode), isKind kind = true → c ≤ 1500 → prN d b kind id p c = .ok q Y → p ≤ q ∧ EncS d kind id c Y := by
  intro d
  induction d with
  | zero => intro b kind id p c q Y hk hc h; cases h
  | succ d ih =>
    intro b kind id p c q Y hk hc h
    have one : ∀ n : TNode, nok n = true → n.2.2.2.2.1 = 0 → Enc (d + 1) [n] := fun n hn h0 => ⟨hn, by rw [h0]; rfl⟩
    have ez : eqS (⟨#[]⟩ : ByteArray) ⟨#[]⟩ = true := by rw [eqS_iff]; simp
    simp only [prN] at h
    split at h
    · cases h
    · rename_i hc5
      split at h
      · rename_i h56
        split at h
        · cases h
        · rename_i u n hg
          split at h
          · cases h
          · rename_i h32
            simp only [Res.ok.injEq] at h
            obtain ⟨rfl, rfl⟩ := h
            refine ⟨by omega, _, [], rfl, rfl, rfl, one _ ?_ rfl, by simp; omega⟩
            unfold nok
            by_cases h5 : kind = 5
            · have : int32 (zagV u) = true := by
                cases hh : int32 (zagV u) with
                | true => rfl
                | false => exact (h32 ⟨h5, hh⟩).elim
              unfold int32 at this
              simp only [h5, if_true, this, ez, Bool.true_and]
              rfl
            · have h6 : kind = 6 := by omega
              simp [h6, ez]
      · rename_i h56
        split at h
        · rename_i h8
          split at h
          · cases h
          · rename_i q' s hs
            simp only [Res.ok.injEq] at h
            obtain ⟨rfl, rfl⟩ := h
            obtain ⟨s1, s2⟩ := prText_ok hs
            refine ⟨s1, _, [], rfl, h8.symm, rfl, one _ ?_ rfl, by simp; omega⟩
            unfold nok
            simp
            omega
        · rename_i h8
          split at h
          · rename_i h9
            split at h
            · cases h
            · rename_i q1 many item hm
              obtain ⟨m0, m1⟩ := prMany_ok hm
              split at h
              · cases h
              · rename_i q2 Y' hp
                simp only [Res.ok.injEq] at h
                obtain ⟨rfl, rfl⟩ := h
                rcases m1 with ⟨rfl, rfl⟩ | ⟨m1, m2, m3⟩
                · simp only [Int.toNat_zero, prParts, Res.ok.injEq] at hp
                  obtain ⟨rfl, rfl⟩ := hp
                  refine ⟨by omega, _, [], rfl, h9.symm, rfl, one _ ?_ rfl, by simp; omega⟩
                  unfold nok
                  simp [ez]
                · obtain ⟨g0, g1, g2⟩ := prParts_enc (d := d) (item := item) (fun p c q Y hc h => ih b item 0 p c q Y (isKind_of_item m3) hc h) (9, id, item, ⟨#[]⟩, many, ()) rfl rfl _ _ _ 0 _ _ (by omega) hp
                  refine ⟨by omega, _, Y', rfl, h9.symm, rfl, ⟨?_, g1⟩, by simp; omega⟩
                  unfold nok
                  simp [ez, m3]
                  omega
          · rename_i h9
            split at h
            · rename_i h12
              split at h
              · cases h
              · rename_i q1 m Y' hf
                simp only [Res.ok.injEq] at h
                obtain ⟨rfl, rfl⟩ := h
                obtain ⟨g0, g1, g2⟩ := prFields_enc (d := d) (fun t id p c q Y hk hc h => ih b t id p c q Y hk hc h) (12, id, 0, ⟨#[]⟩, (m : Int), ()) rfl _ _ _ _ _ _ _ (by omega) hf
                refine ⟨by omega, _, Y', rfl, h12.symm, rfl, ⟨?_, ?_⟩, by simp; omega⟩
                · unfold nok
                  simp [ez]
                · show EncP (Enc d) _ ((m : Int)).toNat 0 Y'
                  rw [Int.toNat_natCast]; exact g1
            · rename_i h12
              simp only [Res.ok.injEq] at h
              obtain ⟨rfl, rfl⟩ := h
              refine ⟨Nat.le_refl _, _, [], rfl, rfl, rfl, one _ ?_ rfl, by simp; omega⟩
              have : kind = 1 ∨ kind = 2 := by
                rcases kind_cases hk with e | e | e | e | e | e | e <;> omega
              unfold nok
              rcases this with rfl | rfl <;> simp [ez]

end Go.Law
end

section
/- Trees: what a reader reads of the bytes at hand. -/
set_option linter.unusedVariables false
set_option linter.unusedSimpArgs false
namespace Go.Law
open Go.Am Go.Fn

variable (k : Nat) (hk : 2000 ≤ k)

theorem begin_ok {o : TTreeReaderB} {n : TNode} {deep : Nat} {acc : List TNode} (ho : o.2.2.2.1 = 0) (hd : deep ≤ 12) (ha : acc.length < 1500) :
    impl_treeReader_begin k n (deep : Int) o acc = some ((acc.length : Int), (o, acc ++ [n])) := by
  unfold impl_treeReader_begin impl_treeReader_begin.c3
  have c1 : decide ((deep : Int) > 12) = false := decide_eq_false (by omega)
  have c2 : ((acc.length : Int) == 1500) = false := beqF (by omega)
  have c3 : lim (acc.length + [n].length) = true := lim_ok (by simp; omega)
  have e : IntKind.wrap .i64 (((acc ++ [n]).length : Int) - 1) = (acc.length : Int) := by
    rw [List.length_append, List.length_singleton, w64 (by omega) (by omega)]; omega
  simp only [c1, c2, cond_false, Option.bind_some, ho, bneF rfl, c3, cond_true, e]
end Go.Law
end

section
/- Trees: what the program reads of any bytes. -/
set_option linter.unusedVariables false
set_option linter.unusedSimpArgs false
namespace Go.Law
open Go.Am Go.Fn

abbrev rdE (b : List Int) (p : Nat) (e : Int) : TTreeReaderB := (b, (p : Int), (), e, ())

variable (k : Nat)

theorem fail_ok (b : List Int) (p : Nat) (e : Int) (acc : List TNode) : impl_treeReader_fail k e (rdE b p 0) acc = some ((), (rdE b p e, acc)) := by
  unfold impl_treeReader_fail
  rw [beqT rfl, cond_true]
theorem fail_no (b : List Int) (p : Nat) {e : Int} (he : e ≠ 0) (x : Int) (acc : List TNode) : impl_treeReader_fail k x (rdE b p e) acc = some ((), (rdE b p e, acc)) := by
  unfold impl_treeReader_fail
  rw [beqF he, cond_false]

theorem iget_any (hk : 2000 ≤ k) {b : List Int} (hl : b.length < 4611686018427387904) (hb : Byt b) (p : Nat) (hp : p ≤ b.length) : impl_UvarGet k b (p : Int) = match gv (b.drop p) with
    | none => some (0, 0, false)
    | some (u, n) => some (u, ((p + n : Nat) : Int), true) := by
  unfold impl_UvarGet
  rw [decide_eq_false (by omega), cond_false]
  have h := igetLoop k b p hl hb (by omega) 10 k 0 0 rfl (by omega) (by simp)
  rw [show ((0 : Nat) : Int) = 0 from rfl] at h
  rw [h]
  unfold gv
  rw [Nat.add_zero]
  cases gvN 10 (b.drop p) with
  | none => rfl
  | some x =>
    simp only [Option.map_some, Nat.mul_zero, Nat.pow_zero, Nat.mul_one, Nat.zero_add]

theorem uvar_any (hk : 2000 ≤ k) {b : List Int} (hl : b.length < 4611686018427387904) (hb : Byt b) (p : Nat) (hp : p ≤ b.length) (acc : List TNode) : impl_treeReader_uvar k (rdE b p 0) acc = match gv (b.drop p) with
    | none => some (0, (rdE b p 1, acc))
    | some (u, n) => some (u, (rdE b (p + n) 0, acc)) := by
  unfold impl_treeReader_uvar
  rw [show (rdE b p 0).1 = b from rfl, show (rdE b p 0).2.1 = (p : Int) from rfl, iget_any k hk hl hb p hp]
  cases gv (b.drop p) with
  | none => simp only [Option.bind_some, bneF rfl, cst, Bool.not_false, Bool.or_true, cond_true, fail_ok]
  | some x => simp only [Option.bind_some, bneF rfl, cst, Bool.not_true, Bool.or_self, cond_false]

theorem uvar_no (hk : 2000 ≤ k) {b : List Int} (hl : b.length < 4611686018427387904) (hb : Byt b) (p : Nat) (hp : p ≤ b.length) {e : Int} (he : e ≠ 0) (acc : List TNode) : impl_treeReader_uvar k (rdE b p e) acc = some (0, (rdE b p e, acc)) := by
  unfold impl_treeReader_uvar
  rw [show (rdE b p e).1 = b from rfl, show (rdE b p e).2.1 = (p : Int) from rfl, iget_any k hk hl hb p hp]
  cases gv (b.drop p) with
  | none => simp only [Option.bind_some, bneT he, cst, Bool.true_or, cond_true, fail_no k b p he]
  | some x => simp only [Option.bind_some, bneT he, cst, Bool.true_or, cond_true, fail_no k b p he]

theorem one_any {b : List Int} (hl : b.length < 4611686018427387904) (hb : Byt b) (p : Nat) (hp : p ≤ b.length) (acc : List TNode) : impl_treeReader_one k (rdE b p 0) acc = match b[p]? with
    | none => some (0, (rdE b p 1, acc))
    | some h => some (h, (rdE b (p + 1) 0, acc)) := by
  unfold impl_treeReader_one
  by_cases hlt : p < b.length
  · obtain ⟨c, hc, hc2⟩ := drop_cons_of hlt
    obtain ⟨c0, c1⟩ := hb c (List.mem_of_getElem? hc2)
    rw [hc2]
    have e : IntKind.wrap .i64 ((p : Int) + 1) = ((p + 1 : Nat) : Int) := by rw [w64 (by omega) (by omega)]; omega
    have e2 : IntKind.wrap .i64 (((p + 1 : Nat) : Int) - 1) = (p : Int) := by rw [w64 (by omega) (by omega)]; omega
    have cc : decide ((p : Int) ≥ (b.length : Int)) = false := decide_eq_false (by omega)
    have ec : IntKind.wrap .i64 c = c := w64 (by omega) (by omega)
    simp only [bneF rfl, cst, Option.bind_some, cc, Bool.or_self, cond_false, e, e2, rdL_nat, hc2, ec]
  · rw [List.getElem?_eq_none (by omega)]
    have c : decide ((p : Int) ≥ (b.length : Int)) = true := decide_eq_true (by omega)
    simp only [bneF rfl, cst, Option.bind_some, c, Bool.or_true, cond_true, fail_ok]

theorem one_no {b : List Int} (p : Nat) {e : Int} (he : e ≠ 0) (acc : List TNode) : impl_treeReader_one k (rdE b p e) acc = some (0, (rdE b p e, acc)) := by
  unfold impl_treeReader_one
  simp only [bneT he, cst, Option.bind_some, Bool.true_or, cond_true, fail_no k b p he]

theorem text_any (hk : 2000 ≤ k) {b : List Int} (hl : b.length < 4611686018427387904) (hb : Byt b) (p : Nat) (hp : p ≤ b.length) (acc : List TNode) :
    match prText b p with
    | .bad e => e ≠ 0 ∧ ∃ q, q ≤ b.length ∧ impl_treeReader_text k (rdE b p 0) acc = some (⟨#[]⟩, (rdE b q e, acc))
    | .ok q s => impl_treeReader_text k (rdE b p 0) acc = some (s, (rdE b q 0, acc)) := by
  unfold impl_treeReader_text prText
  rw [uvar_any k hk hl hb p hp]
  cases hg : gv (b.drop p) with
  | none =>
    refine ⟨by decide, p, hp, ?_⟩
    simp only [Option.bind_some, beqF (show ¬ (1 : Int) = 0 by decide), cond_false, impl_treeReader_text.c4, impl_treeReader_text.c6, bneT (show ¬ (1 : Int) = 0 by decide), cond_true]
  | some z =>
    obtain ⟨u, n⟩ := z
    obtain ⟨⟨f0, f1⟩, f2, f3, f4, f5⟩ := gv_facts _ u n (fun x hx => hb x (List.mem_of_mem_drop hx)) hg
    rw [List.length_drop] at f3
    simp only [Option.bind_some, beqT rfl, cond_true, within_eq]
    by_cases hu : u < 0 ∨ 300 < u
    · rw [if_pos hu]
      have c1 : (decide ((0 : Int) ≤ u) && decide (u ≤ 300)) = false := by
        rw [Bool.eq_false_iff]; intro q
        simp only [Bool.and_eq_true, decide_eq_true_eq] at q
        omega
      refine ⟨by decide, p + n, by omega, ?_⟩
      simp only [c1, Bool.not_false, cond_true, fail_ok, Option.bind_some, impl_treeReader_text.c4, impl_treeReader_text.c6, beqF (show ¬ (4 : Int) = 0 by decide), cond_false, bneT (show ¬ (4 : Int) = 0 by decide)]
    · rw [if_neg hu]
      have c1 : (decide ((0 : Int) ≤ u) && decide (u ≤ 300)) = true := by simp; omega
      have e1 : IntKind.wrap .i64 ((b.length : Int) - ((p + n : Nat) : Int)) = (b.length : Int) - ((p + n : Nat) : Int) := w64 (by omega) (by omega)
      simp only [c1, Bool.not_true, cond_false, impl_treeReader_text.c4, beqT rfl, cond_true, Option.bind_some, e1]
      by_cases hs : (b.length : Int) - ((p + n : Nat) : Int) < u
      · rw [if_pos hs]
        refine ⟨by decide, p + n, by omega, ?_⟩
        simp only [decide_eq_true (show u > (b.length : Int) - ((p + n : Nat) : Int) from hs), cond_true, fail_ok, Option.bind_some, impl_treeReader_text.c6, bneT (show ¬ (1 : Int) = 0 by decide)]
      · rw [if_neg hs]
        obtain ⟨U, rfl⟩ := Int.eq_ofNat_of_zero_le (show 0 ≤ u by omega)
        have e2 : IntKind.wrap .i64 (((p + n : Nat) : Int) + (U : Int)) = ((p + n + U : Nat) : Int) := by rw [w64 (by omega) (by omega)]; omega
        have e3 : IntKind.wrap .i64 (((p + n + U : Nat) : Int) - (U : Int)) = ((p + n : Nat) : Int) := by rw [w64 (by omega) (by omega)]; omega
        have c3 : inSl ((p + n : Nat) : Int) ((p + n + U : Nat) : Int) b.length = true := inSl_ok (by omega) (by omega) (by omega)
        have hcut : cutL b ((p + n : Nat) : Int) ((p + n + U : Nat) : Int) = (b.drop (p + n)).take U := by
          unfold cutL
          rw [Int.toNat_natCast, Int.toNat_natCast, List.drop_take, show p + n + U - (p + n) = U by omega]
        simp only [decide_eq_false (show ¬ ((U : Int) > (b.length : Int) - ((p + n : Nat) : Int)) from hs), cond_false, impl_treeReader_text.c6, bneF rfl, e2, e3, c3, cond_true, hcut, Int.toNat_natCast]

def INode (S : Int → Int → Int → TTreeReaderB → List TNode → Option (Unit × TTreeReaderB × List TNode)) (b : List Int) (kind id deep : Int) (p : Nat) (acc : List TNode) (r : Res (List TNode)) : Prop :=
  match r with
  | .bad e => e ≠ 0 ∧ ∃ q l, q ≤ b.length ∧ S kind id deep (rdE b p 0) acc = some ((), (rdE b q e, l))
  | .ok q Y => q ≤ b.length ∧ S kind id deep (rdE b p 0) acc = some ((), (rdE b q 0, acc ++ Y))

theorem iparts (S : Int → Int → Int → TTreeReaderB → List TNode → Option (Unit × TTreeReaderB × List TNode)) (b : List Int) (item : Int) (deep : Nat) (hdeep : deep ≤ 100) (P : Nat → Nat → Res (List TNode))
    (ih : ∀ (p : Nat) (acc : List TNode), p ≤ b.length → acc.length ≤ 1500 → INode S b item 0 ((deep + 1 : Nat) : Int) p acc (P p acc.length))
    (hP : ∀ p c q Y, c ≤ 1500 → P p c = .ok q Y → c + Y.length ≤ 1500) (many : Int) (hm : many ≤ 1500) :
    ∀ (m f : Nat) (i : Int) (p : Nat) (acc : List TNode), many - i = m → 0 ≤ i → m < f → p ≤ b.length → acc.length ≤ 1500 →
    match prParts P m p acc.length with
    | .bad e => e ≠ 0 ∧ ∃ q l, q ≤ b.length ∧ impl_treeReader_parts.l11 k S f (deep : Int) many item i (rdE b p 0) acc = some ((), (rdE b q e, l))
    | .ok q Y => q ≤ b.length ∧ impl_treeReader_parts.l11 k S f (deep : Int) many item i (rdE b p 0) acc = some ((), (rdE b q 0, acc ++ Y)) := by
  have hdw : IntKind.wrap .i64 ((deep : Int) + 1) = ((deep + 1 : Nat) : Int) := by rw [w64 (by omega) (by omega)]; omega
  intro m
  induction m with
  | zero =>
    intro f i p acc hi h0 hf hp hc
    obtain ⟨f, rfl⟩ : ∃ j, f = j + 1 := ⟨f - 1, by omega⟩
    simp only [prParts, impl_treeReader_parts.l11, decide_eq_false (show ¬ i < many by omega), cond_false, Option.bind_some, List.append_nil]
    exact ⟨hp, trivial⟩
  | succ m ihm =>
    intro f i p acc hi h0 hf hp hc
    obtain ⟨f, rfl⟩ : ∃ j, f = j + 1 := ⟨f - 1, by omega⟩
    have hi1 : IntKind.wrap .i64 (i + 1) = i + 1 := w64 (by omega) (by omega)
    have h1 := ih p acc hp hc
    simp only [prParts, impl_treeReader_parts.l11, decide_eq_true (show i < many by omega), cond_true, Option.bind_some, beqT rfl, hdw, hi1]
    unfold INode at h1
    cases hr : P p acc.length with
    | bad e =>
      rw [hr] at h1
      obtain ⟨he, q, l, hq, e1⟩ := h1
      refine ⟨he, q, l, hq, ?_⟩
      obtain ⟨f, rfl⟩ : ∃ j, f = j + 1 := ⟨f - 1, by omega⟩
      simp only [e1, Option.bind_some, impl_treeReader_parts.l11, beqF he]
      cases decide (i + 1 < many) <;> rfl
    | ok q Y =>
      rw [hr] at h1
      obtain ⟨hq, e1⟩ := h1
      have hlen := hP _ _ _ _ hc hr
      have h2 := ihm f (i + 1) q (acc ++ Y) (by omega) (by omega) (by omega) hq (by rw [List.length_append]; exact hlen)
      rw [List.length_append] at h2
      simp only [e1, Option.bind_some]
      cases hr2 : prParts P m q (acc.length + Y.length) with
      | bad e => rw [hr2] at h2; exact h2
      | ok q2 Z => rw [hr2] at h2; simpa [List.append_assoc] using h2

def IField (b : List Int) (pre : List TNode) (id0 : Int) (j : Nat) (mid : List TNode) (r : Res (Nat × List TNode)) (X : Option (Unit × TTreeReaderB × List TNode)) : Prop :=
  match r with
  | .bad e => e ≠ 0 ∧ ∃ q l, q ≤ b.length ∧ X = some ((), (rdE b q e, l))
  | .ok q (m, Y) => q ≤ b.length ∧ X = some ((), (rdE b q 0, pre ++ sn id0 ((j + m : Nat) : Int) :: (mid ++ Y)))

theorem ifields (hk : 2000 ≤ k) (S : Int → Int → Int → TTreeReaderB → List TNode → Option (Unit × TTreeReaderB × List TNode)) (b : List Int) (hl : b.length < 4611686018427387904) (hb : Byt b) (deep : Nat) (hdeep : deep ≤ 100) (P : Int → Int → Nat → Nat → Res (List TNode))
    (ih : ∀ (t id : Int) (p : Nat) (acc : List TNode), isKind t = true → p ≤ b.length → acc.length ≤ 1500 → INode S b t id ((deep + 1 : Nat) : Int) p acc (P t id p acc.length))
    (hP : ∀ t id p c q Y, isKind t = true → c ≤ 1500 → P t id p c = .ok q Y → c + Y.length ≤ 1500) (id0 : Int) (pre : List TNode) :
    ∀ (g f : Nat) (last : Int) (p : Nat) (j : Nat) (mid : List TNode), 1002 ≤ (g : Int) + last → 0 ≤ last → last ≤ 1000 → g < f → p ≤ b.length → pre.length + 1 + mid.length ≤ 1500 → (j : Int) + g ≤ 4000 →
    IField b pre id0 j mid (prFields P b g last p (pre.length + 1 + mid.length)) (impl_treeReader_fields.l1 k S f (pre.length : Int) (deep : Int) last (rdE b p 0) (pre ++ sn id0 j :: mid)) := by
  have hdw : IntKind.wrap .i64 ((deep : Int) + 1) = ((deep + 1 : Nat) : Int) := by rw [w64 (by omega) (by omega)]; omega
  intro g
  induction g with
  | zero => intro f last p j mid h1 h2 h3; omega
  | succ g ihg =>
    intro f last p j mid h1 h2 h3 hf hp hc hj
    obtain ⟨f, rfl⟩ : ∃ j, f = j + 1 := ⟨f - 1, by omega⟩
    simp only [prFields, prHead, impl_treeReader_fields.l1, one_any k hl hb p hp]
    cases hy : b[p]? with
    | none =>
      refine ⟨by decide, p, pre ++ sn id0 j :: mid, hp, ?_⟩
      simp only [Option.bind_some, bneT (show ¬ (1 : Int) = 0 by decide), cst, Bool.true_or, cond_true]
    | some y =>
      have hp1 : p < b.length := (List.getElem?_eq_some_iff.1 hy).1
      obtain ⟨y0, y1⟩ := hb y (List.mem_of_getElem? hy)
      simp only [Option.bind_some, bneF rfl, cst, Bool.false_or]
      by_cases hy0 : y = 0
      · rw [if_pos hy0]
        simp only [beqT hy0, cond_true, if_true]
        exact ⟨by omega, by simp⟩
      · have hmod : Int.tmod y 16 = y % 16 := Int.tmod_eq_emod_of_nonneg y0
        have hdiv : IntKind.wrap .i64 (last + IntKind.wrap .i64 (Int.tdiv y 16)) = last + y / 16 := by
          rw [Int.tdiv_eq_ediv_of_nonneg y0, w64 (show -9223372036854775808 ≤ y / 16 by omega) (by omega), w64 (by omega) (by omega)]
        rw [if_neg hy0]
        simp only [beqF hy0, cond_false, hmod, hdiv, isType_eq, Option.bind_some]
        have hty : (isItem (y % 16) || ((y % 16 == 1 || y % 16 == 2) && !false)) = isKind (y % 16) := by
          unfold isKind
          cases isItem (y % 16) <;> cases (y % 16 == 1) <;> cases (y % 16 == 2) <;> rfl
        rw [hty]
        -- a reader that is stuck
        have stuck8 : ∀ (q : Nat) (e : Int), e ≠ 0 → ∀ x y z : Int, impl_treeReader_fields.c8 k S (impl_treeReader_fields.l1 k S f) (pre.length : Int) (deep : Int) x y z (rdE b q e) (pre ++ sn id0 j :: mid) = some ((), (rdE b q e, pre ++ sn id0 j :: mid)) := by
          intro q e he x y z
          simp only [impl_treeReader_fields.c8, impl_treeReader_fields.c10, impl_treeReader_fields.c12, beqF he, cond_false, Option.bind_some, bneT he, cond_true]
        by_cases hkd : isKind (y % 16) = true
        · rw [if_neg (by rw [hkd]; decide), hkd]
          simp only [Bool.not_true, cond_false, impl_treeReader_fields.c6]
          -- behind the Id
          have tail : ∀ (id : Int) (q : Nat), I64 id → q ≤ b.length →
              IField b pre id0 j mid (match (if id < 1 ∨ 1000 < id then (.bad 3 : Res (Int × Int)) else if id ≤ last then .bad 5 else .ok q (y % 16, id)) with
                | .bad e => .bad e
                | .ok q (t, id) => if t = 0 then .ok q (0, []) else match P t id q (pre.length + 1 + mid.length) with
                  | .bad e => .bad e
                  | .ok r Y => match prFields P b g id r (pre.length + 1 + mid.length + Y.length) with
                    | .bad e => .bad e
                    | .ok z (m, Z) => .ok z (m + 1, Y ++ Z))
                (impl_treeReader_fields.c8 k S (impl_treeReader_fields.l1 k S f) (pre.length : Int) (deep : Int) last (y % 16) id (rdE b q 0) (pre ++ sn id0 j :: mid)) := by
            have ht0 : ¬ y % 16 = 0 := by rcases kind_cases hkd with e | e | e | e | e | e | e <;> omega
            intro id q hid hq
            have hget : ∀ x : TNode, rdL (pre ++ x :: mid) (pre.length : Int) = some x := fun x => by
              rw [rdL_nat, List.getElem?_append_right (Nat.le_refl _)]; simp
            have hset : ∀ x y : TNode, List.set (pre ++ x :: mid) (Int.toNat (pre.length : Int)) y = pre ++ y :: mid := fun x y => by
              rw [Int.toNat_natCast, List.set_append_right _ _ (Nat.le_refl _)]; simp
            by_cases c1 : id < 1 ∨ 1000 < id
            · rw [if_pos c1]
              have hw : (decide ((1 : Int) ≤ id) && decide (id ≤ 1000)) = false := by
                rw [Bool.eq_false_iff]; intro q
                simp only [Bool.and_eq_true, decide_eq_true_eq] at q
                omega
              refine ⟨by decide, q, pre ++ sn id0 j :: mid, hq, ?_⟩
              simp only [impl_treeReader_fields.c8, beqT rfl, cond_true, within_eq, hw, Option.bind_some, Bool.not_false, fail_ok, impl_treeReader_fields.c10, impl_treeReader_fields.c12, beqF (show ¬ (3 : Int) = 0 by decide), cond_false, bneT (show ¬ (3 : Int) = 0 by decide)]
            · rw [if_neg c1]
              have hw : (decide ((1 : Int) ≤ id) && decide (id ≤ 1000)) = true := by simp; omega
              simp only [impl_treeReader_fields.c8, beqT rfl, cond_true, within_eq, hw, Option.bind_some, Bool.not_true, cond_false, impl_treeReader_fields.c10]
              by_cases c2 : id ≤ last
              · rw [if_pos c2]
                refine ⟨by decide, q, pre ++ sn id0 j :: mid, hq, ?_⟩
                simp only [decide_eq_true c2, cond_true, fail_ok, Option.bind_some, impl_treeReader_fields.c12, bneT (show ¬ (5 : Int) = 0 by decide)]
              · rw [if_neg c2]
                have hjw : IntKind.wrap .i64 ((j : Int) + 1) = ((j + 1 : Nat) : Int) := by rw [w64 (by omega) (by omega)]; omega
                have hsn : ((sn id0 j).1, (sn id0 j).2.1, (sn id0 j).2.2.1, (sn id0 j).2.2.2.1, IntKind.wrap .i64 ((sn id0 j).2.2.2.2.1 + 1), ()) = sn id0 ((j + 1 : Nat) : Int) := by
                  show (_, _, _, _, IntKind.wrap .i64 ((j : Int) + 1), ()) = _
                  rw [hjw]; rfl
                simp only [decide_eq_false c2, cond_false, impl_treeReader_fields.c12, bneF rfl, hget, hset, Option.bind_some, hdw, hsn, if_neg ht0]
                have hn := ih (y % 16) id q (pre ++ sn id0 ((j + 1 : Nat) : Int) :: mid) hkd hq (by simp; omega)
                rw [show (pre ++ sn id0 ((j + 1 : Nat) : Int) :: mid).length = pre.length + 1 + mid.length by simp; omega] at hn
                unfold INode at hn
                cases hr : P (y % 16) id q (pre.length + 1 + mid.length) with
                | bad e =>
                  rw [hr] at hn
                  obtain ⟨he, q', l, hq', e1⟩ := hn
                  refine ⟨he, q', l, hq', ?_⟩
                  obtain ⟨f, rfl⟩ : ∃ j, f = j + 1 := ⟨f - 1, by omega⟩
                  simp only [e1, Option.bind_some, impl_treeReader_fields.l1, one_no k q' he, bneT he, cst, Bool.true_or, cond_true]
                | ok r Y =>
                  rw [hr] at hn
                  obtain ⟨hr1, e1⟩ := hn
                  have hlen := hP _ _ _ _ _ _ hkd (by omega) hr
                  have h4 := ihg f id r (j + 1) (mid ++ Y) (by omega) (by omega) (by omega) (by omega) hr1 (by rw [List.length_append]; omega) (by omega)
                  rw [List.length_append, ← Nat.add_assoc] at h4
                  simp only [e1, Option.bind_some, List.append_assoc, List.cons_append]
                  cases hr2 : prFields P b g id r (pre.length + 1 + mid.length + Y.length) with
                  | bad e => rw [hr2] at h4; exact h4
                  | ok z x =>
                    obtain ⟨m, Z⟩ := x
                    rw [hr2] at h4
                    obtain ⟨h5, h6⟩ := h4
                    refine ⟨h5, ?_⟩
                    rw [h6, show j + 1 + m = j + (m + 1) by omega, List.append_assoc]
          by_cases h16 : y / 16 = 0
          · simp only [if_pos h16, decide_eq_true (show y < 16 by omega), cond_true, uvar_any k hk hl hb (p + 1) (by omega)]
            cases hg : gv (b.drop (p + 1)) with
            | none =>
              simp only [Option.map_none, Option.bind_some]
              obtain ⟨w, hw⟩ : ∃ w, impl_Zag k 0 = some w := ⟨_, zag_eq k ⟨by decide, by decide⟩⟩
              refine ⟨by decide, p + 1, pre ++ sn id0 j :: mid, by omega, ?_⟩
              rw [hw, Option.bind_some, stuck8 (p + 1) 1 (by decide)]
            | some z =>
              obtain ⟨u, n⟩ := z
              obtain ⟨f1, f2, f3, f4, f5⟩ := gv_facts _ u n (fun x hx => hb x (List.mem_of_mem_drop hx)) hg
              rw [List.length_drop] at f3
              simp only [Option.map_some, Option.bind_some, zag_eq k f1]
              exact tail (zagV u) (p + 1 + n) (zagV_i64 u) (by omega)
          · simp only [if_neg h16, decide_eq_false (show ¬ y < 16 by omega), cond_false]
            exact tail (last + y / 16) (p + 1) ⟨by omega, by omega⟩ (by omega)
        · have hkf : isKind (y % 16) = false := by simpa using hkd
          rw [if_pos hkf, hkf]
          simp only [Bool.not_false, cond_true, fail_ok, Option.bind_some, impl_treeReader_fields.c6]
          refine ⟨by decide, p + 1, pre ++ sn id0 j :: mid, by omega, ?_⟩
          by_cases h16 : y < 16
          · obtain ⟨w, hw⟩ : ∃ w, impl_Zag k 0 = some w := ⟨_, zag_eq k ⟨by decide, by decide⟩⟩
            simp only [decide_eq_true h16, cond_true, uvar_no k hk hl hb (p + 1) (by omega) (show (2 : Int) ≠ 0 by decide), Option.bind_some, hw, stuck8 (p + 1) 2 (by decide)]
          · simp only [decide_eq_false h16, cond_false, stuck8 (p + 1) 2 (by decide)]
theorem begin_any {n : TNode} {b : List Int} {p : Nat} {deep : Nat} {acc : List TNode} (hd : deep ≤ 100) (ha : acc.length ≤ 1500) :
    impl_treeReader_begin k n (deep : Int) (rdE b p 0) acc = if 12 < deep ∨ acc.length = 1500 then some (0, (rdE b p 4, acc)) else some ((acc.length : Int), (rdE b p 0, acc ++ [n])) := by
  by_cases h : 12 < deep ∨ acc.length = 1500
  · rw [if_pos h]
    unfold impl_treeReader_begin impl_treeReader_begin.c3
    have : (decide ((deep : Int) > 12) || ((acc.length : Int) == 1500)) = true := by
      rcases h with h | h
      · rw [decide_eq_true (show (deep : Int) > 12 by omega), Bool.true_or]
      · rw [beqT (show (acc.length : Int) = 1500 by omega), Bool.or_true]
    simp only [cst, this, Option.bind_some, cond_true, fail_ok, bneT (show ¬ (4 : Int) = 0 by decide)]
  · rw [if_neg h]
    exact begin_ok k rfl (by omega) (by omega)

theorem irdN (hk : 2000 ≤ k) (b : List Int) (hl : b.length < 4611686018427387904) (hb : Byt b) : ∀ (d D deep : Nat) (kind id : Int) (p : Nat) (acc : List TNode), d + deep = 13 → 2 * d < D → isKind kind = true → p ≤ b.length → acc.length ≤ 1500 →
    INode (impl_treeReader_node.rec k D).1 b kind id (deep : Int) p acc (prN d b kind id p acc.length) := by
  intro d
  induction d with
  | zero =>
    intro D deep kind id p acc hdd hD hkd hp hc
    obtain ⟨D, rfl⟩ : ∃ m, D = m + 1 := ⟨D - 1, by omega⟩
    refine ⟨by decide, p, acc, hp, ?_⟩
    simp only [impl_treeReader_node.rec, impl_treeReader_node.b]
    rw [begin_any k (by omega) hc, if_pos (by omega)]
    simp only [Option.bind_some, bneT (show ¬ (4 : Int) = 0 by decide), cond_true]
  | succ d ih =>
    intro D deep kind id p acc hdd hD hkd hp hc
    obtain ⟨D, rfl⟩ : ∃ m, D = m + 2 := ⟨D - 2, by omega⟩
    have hset : ∀ (acc : List TNode) (x y : TNode), List.set (acc ++ [x]) (Int.toNat (acc.length : Int)) y = acc ++ [y] := fun acc x y => by
      rw [Int.toNat_natCast, List.set_append_right _ _ (Nat.le_refl _)]; simp
    have hget : ∀ (acc : List TNode) (x : TNode), rdL (acc ++ [x]) (acc.length : Int) = some x := fun acc x => by
      rw [rdL_nat, List.getElem?_append_right (Nat.le_refl _)]; simp
    unfold prN
    by_cases hc5 : acc.length = 1500
    · rw [if_pos hc5]
      refine ⟨by decide, p, acc, hp, ?_⟩
      simp only [impl_treeReader_node.rec, impl_treeReader_node.b]
      rw [begin_any k (by omega) hc, if_pos (.inr hc5)]
      simp only [Option.bind_some, bneT (show ¬ (4 : Int) = 0 by decide), cond_true]
    · rw [if_neg hc5]
      unfold INode
      simp only [impl_treeReader_node.rec, impl_treeReader_node.b]
      rw [begin_any k (by omega) hc, if_neg (show ¬ (12 < deep ∨ acc.length = 1500) by omega)]
      simp only [Option.bind_some, bneF rfl, cond_false]
      by_cases h56 : kind = 5 ∨ kind = 6
      · rw [if_pos h56]
        have e0 : (cond (kind == 5)
             (impl_treeReader_node.c5 k (impl_treeReader_node.rec k (D + 1)).2.1 (impl_treeReader_node.rec k (D + 1)).2.2 kind (deep : Int) (acc.length : Int) kind (kind == 5) (rdE b p 0) (acc ++ [(kind, id, 0, (⟨#[]⟩ : ByteArray), 0, ())]))
             (impl_treeReader_node.c5 k (impl_treeReader_node.rec k (D + 1)).2.1 (impl_treeReader_node.rec k (D + 1)).2.2 kind (deep : Int) (acc.length : Int) kind (kind == 6) (rdE b p 0) (acc ++ [(kind, id, 0, (⟨#[]⟩ : ByteArray), 0, ())])))
            = impl_treeReader_node.c5 k (impl_treeReader_node.rec k (D + 1)).2.1 (impl_treeReader_node.rec k (D + 1)).2.2 kind (deep : Int) (acc.length : Int) kind true (rdE b p 0) (acc ++ [(kind, id, 0, (⟨#[]⟩ : ByteArray), 0, ())]) := by
          rcases h56 with h | h
          · rw [beqT h, cond_true]
          · rw [beqF (show ¬ kind = 5 by omega), beqT h, cond_false]
        simp only [impl_treeReader_node.rec] at e0
        rw [e0]
        simp only [impl_treeReader_node.c5, cond_true, uvar_any k hk hl hb p hp]
        cases hg : gv (b.drop p) with
        | none =>
          obtain ⟨w, hw⟩ : ∃ w, impl_Zag k 0 = some w := ⟨_, zag_eq k ⟨by decide, by decide⟩⟩
          refine ⟨by decide, p, acc ++ [(kind, id, w, ⟨#[]⟩, 0, ())], hp, ?_⟩
          simp only [Option.bind_some, hw, beqF (show ¬ (1 : Int) = 0 by decide), csf, Bool.and_false, cond_false, impl_treeReader_node.c8, hget, hset]
        | some z =>
          obtain ⟨u, n⟩ := z
          obtain ⟨f1, f2, f3, f4, f5⟩ := gv_facts _ u n (fun x hx => hb x (List.mem_of_mem_drop hx)) hg
          rw [List.length_drop] at f3
          simp only [Option.bind_some, zag_eq k f1, beqT rfl, csf, Bool.and_true, impl_isInt32, within_eq]
          have h32 : (decide (-2147483648 ≤ zagV u) && decide (zagV u ≤ 2147483647)) = int32 (zagV u) := rfl
          rw [h32]
          by_cases hbad : kind = 5 ∧ int32 (zagV u) = false
          · rw [if_pos hbad]
            refine ⟨by decide, p + n, acc ++ [(kind, id, zagV u, ⟨#[]⟩, 0, ())], by omega, ?_⟩
            simp only [beqT hbad.1, hbad.2, Bool.not_false, Bool.and_self, cond_true, fail_ok, Option.bind_some, impl_treeReader_node.c8, hget, hset]
          · rw [if_neg hbad]
            have hb2 : ((kind == 5) && !int32 (zagV u)) = false := by
              rw [Bool.eq_false_iff]; intro q
              simp only [Bool.and_eq_true, beq_iff_eq, Bool.not_eq_true'] at q
              exact hbad q
            refine ⟨by omega, ?_⟩
            simp only [hb2, cond_false, impl_treeReader_node.c8, hget, hset, Option.bind_some]
      · rw [if_neg h56]
        have e5 : (kind == 5) = false := beqF (by omega)
        have e6 : (kind == 6) = false := beqF (by omega)
        simp only [e5, e6, cond_false, impl_treeReader_node.c5]
        by_cases h8 : kind = 8
        · subst h8
          simp only [if_true, show ((8 : Int) == 8) = true from rfl, cond_true, impl_treeReader_node.d10]
          have ht := text_any k hk hl hb p hp (acc ++ [(8, id, 0, (⟨#[]⟩ : ByteArray), 0, ())])
          cases hr : prText b p with
          | bad e =>
            rw [hr] at ht
            obtain ⟨he, q, hq, e1⟩ := ht
            refine ⟨he, q, acc ++ [(8, id, 0, ⟨#[]⟩, 0, ())], hq, ?_⟩
            simp only [e1, Option.bind_some, hget, hset]
          | ok q s =>
            rw [hr] at ht
            have hq : q ≤ b.length := by
              unfold prText at hr
              split at hr
              · cases hr
              · rename_i u n hg
                obtain ⟨f1, f2, f3, f4, f5⟩ := gv_facts _ u n (fun x hx => hb x (List.mem_of_mem_drop hx)) hg
                rw [List.length_drop] at f3
                split at hr
                · cases hr
                · split at hr
                  · cases hr
                  · simp only [Res.ok.injEq] at hr
                    omega
            refine ⟨hq, ?_⟩
            simp only [ht, Option.bind_some, hget, hset]
        · rw [if_neg h8]
          simp only [beqF h8, cond_false]
          by_cases h9 : kind = 9
          · subst h9
            simp only [if_true, show ((9 : Int) == 9) = true from rfl, cond_true, impl_treeReader_parts.b, prMany, one_any k hl hb p hp]
            cases hy : b[p]? with
            | none =>
              refine ⟨by decide, p, acc ++ [(9, id, 0, ⟨#[]⟩, 0, ())], hp, ?_⟩
              simp only [Option.bind_some, show (IntKind.wrap .i64 (Int.tdiv 0 16) == 15) = false by decide, cond_false, impl_treeReader_parts.c4, bneT (show ¬ (1 : Int) = 0 by decide), cst, Bool.true_or, cond_true]
            | some y =>
              have hp1 : p < b.length := (List.getElem?_eq_some_iff.1 hy).1
              obtain ⟨y0, y1⟩ := hb y (List.mem_of_getElem? hy)
              have e16 : IntKind.wrap .i64 (Int.tdiv y 16) = y / 16 := by
                rw [Int.tdiv_eq_ediv_of_nonneg y0, w64 (by omega) (by omega)]
              have em : Int.tmod y 16 = y % 16 := Int.tmod_eq_emod_of_nonneg y0
              simp only [Option.bind_some, e16, em]
              have tail : ∀ (many : Int) (q : Nat), I64 many → q ≤ b.length →
                  match (match (if many = 0 then (.ok q (0, 0) : Res (Int × Int)) else if isItem (y % 16) = false then .bad 2 else if many < 0 ∨ 1500 < many then .bad 4 else .ok q (many, y % 16)) with
                    | .bad e => (.bad e : Res (List TNode))
                    | .ok q (many, item) => match prParts (fun p c => prN d b item 0 p c) many.toNat q (acc.length + 1) with
                      | .bad e => .bad e
                      | .ok r Y => .ok r ((9, id, item, ⟨#[]⟩, many, ()) :: Y)) with
                  | .bad e => e ≠ 0 ∧ ∃ q' l, q' ≤ b.length ∧ ((impl_treeReader_parts.c4 k (impl_treeReader_node.rec k D).1 (acc.length : Int) (deep : Int) many (y % 16) (rdE b q 0) (acc ++ [(9, id, 0, (⟨#[]⟩ : ByteArray), 0, ())])).bind fun r12 => some ((), (r12.2.1, r12.2.2))) = some ((), (rdE b q' e, l))
                  | .ok q' Y => q' ≤ b.length ∧ ((impl_treeReader_parts.c4 k (impl_treeReader_node.rec k D).1 (acc.length : Int) (deep : Int) many (y % 16) (rdE b q 0) (acc ++ [(9, id, 0, (⟨#[]⟩ : ByteArray), 0, ())])).bind fun r12 => some ((), (r12.2.1, r12.2.2))) = some ((), (rdE b q' 0, acc ++ Y)) := by
                intro many q hmany hq
                simp only [impl_treeReader_parts.c4, bneF rfl, cst, Bool.false_or, Option.bind_some]
                by_cases h0 : many = 0
                · simp only [if_pos h0, Int.toNat_zero, prParts, beqT h0, cond_true, Option.bind_some]
                  exact ⟨hq, trivial⟩
                · simp only [if_neg h0, beqF h0, cond_false, isType_eq, Bool.not_true, Bool.and_false, Bool.or_false, Option.bind_some]
                  by_cases hi : isItem (y % 16) = true
                  · rw [if_neg (by rw [hi]; decide), hi]
                    simp only [Bool.not_true, cond_false, impl_treeReader_parts.c7, within_eq, Option.bind_some]
                    by_cases hm : many < 0 ∨ 1500 < many
                    · have hw : (decide ((0 : Int) ≤ many) && decide (many ≤ 1500)) = false := by
                        rw [Bool.eq_false_iff]; intro q
                        simp only [Bool.and_eq_true, decide_eq_true_eq] at q
                        omega
                      obtain ⟨K, hK⟩ : ∃ K, k = K + 1 := ⟨k - 1, by omega⟩
                      rw [if_pos hm]
                      refine ⟨by decide, q, acc ++ [(9, id, y % 16, ⟨#[]⟩, many, ())], hq, ?_⟩
                      have hstop : impl_treeReader_parts.l11 k (impl_treeReader_node.rec k D).1 k (deep : Int) many (y % 16) 0 (rdE b q 4) (acc ++ [(9, id, y % 16, ⟨#[]⟩, many, ())]) = some ((), (rdE b q 4, acc ++ [(9, id, y % 16, ⟨#[]⟩, many, ())])) := by
                        conv => lhs; rw [show k = k from rfl]
                        have : ∀ f, f ≠ 0 → impl_treeReader_parts.l11 k (impl_treeReader_node.rec k D).1 f (deep : Int) many (y % 16) 0 (rdE b q 4) (acc ++ [(9, id, y % 16, ⟨#[]⟩, many, ())]) = some ((), (rdE b q 4, acc ++ [(9, id, y % 16, ⟨#[]⟩, many, ())])) := by
                          intro f hf
                          obtain ⟨f, rfl⟩ : ∃ j, f = j + 1 := ⟨f - 1, by omega⟩
                          simp only [impl_treeReader_parts.l11, beqF (show ¬ (4 : Int) = 0 by decide)]
                          cases decide ((0 : Int) < many) <;> rfl
                        exact this k (by omega)
                      simp only [hw, Bool.not_false, cond_true, fail_ok, Option.bind_some, impl_treeReader_parts.c9, hget, hset, hstop]
                    · rw [if_neg hm]
                      have hw : (decide ((0 : Int) ≤ many) && decide (many ≤ 1500)) = true := by simp; omega
                      simp only [hw, Bool.not_true, cond_false, impl_treeReader_parts.c9, hget, hset, Option.bind_some]
                      have hp := iparts k (impl_treeReader_node.rec k D).1 b (y % 16) deep (by omega) (fun p c => prN d b (y % 16) 0 p c)
                        (fun p acc hp hc => ih D (deep + 1) (y % 16) 0 p acc (by omega) (by omega) (isKind_of_item hi) hp hc)
                        (fun p c q Y hc h => by
                          obtain ⟨_, n, X, rfl, _, _, _, h5⟩ := prN_enc d b (y % 16) 0 p c q Y (isKind_of_item hi) hc h
                          exact h5) many (by omega) many.toNat k 0 q (acc ++ [(9, id, y % 16, ⟨#[]⟩, many, ())]) (by omega) (by omega) (by omega) hq (by simp; omega)
                      rw [List.length_append, List.length_singleton] at hp
                      cases hr : prParts (fun p c => prN d b (y % 16) 0 p c) many.toNat q (acc.length + 1) with
                      | bad e =>
                        rw [hr] at hp
                        obtain ⟨he, q', l, hq', e1⟩ := hp
                        exact ⟨he, q', l, hq', by rw [e1]; rfl⟩
                      | ok q' Y =>
                        rw [hr] at hp
                        obtain ⟨hq', e1⟩ := hp
                        exact ⟨hq', by rw [e1]; simp⟩
                  · have hif : isItem (y % 16) = false := by simpa using hi
                    rw [if_pos hif, hif]
                    simp only [Bool.not_false, cond_true, fail_ok, Option.bind_some, impl_treeReader_parts.c7, within_eq]
                    have hstop : impl_treeReader_parts.c9 k (impl_treeReader_node.rec k D).1 (acc.length : Int) (deep : Int) many (y % 16) (rdE b q 2) (acc ++ [(9, id, 0, (⟨#[]⟩ : ByteArray), 0, ())]) = some ((), (rdE b q 2, acc ++ [(9, id, y % 16, ⟨#[]⟩, many, ())])) := by
                      simp only [impl_treeReader_parts.c9, hget, hset, Option.bind_some]
                      have : ∀ f, f ≠ 0 → impl_treeReader_parts.l11 k (impl_treeReader_node.rec k D).1 f (deep : Int) many (y % 16) 0 (rdE b q 2) (acc ++ [(9, id, y % 16, ⟨#[]⟩, many, ())]) = some ((), (rdE b q 2, acc ++ [(9, id, y % 16, ⟨#[]⟩, many, ())])) := by
                        intro f hf
                        obtain ⟨f, rfl⟩ : ∃ j, f = j + 1 := ⟨f - 1, by omega⟩
                        simp only [impl_treeReader_parts.l11, beqF (show ¬ (2 : Int) = 0 by decide)]
                        cases decide ((0 : Int) < many) <;> rfl
                      exact this k (by omega)
                    refine ⟨by decide, q, acc ++ [(9, id, y % 16, ⟨#[]⟩, many, ())], hq, ?_⟩
                    cases hw : (decide ((0 : Int) ≤ many) && decide (many ≤ 1500)) with
                    | true => simp only [Bool.not_true, cond_false, hstop, Option.bind_some]
                    | false => simp only [Bool.not_false, cond_true, fail_no k b q (show (2 : Int) ≠ 0 by decide), Option.bind_some, hstop]
              by_cases h15 : y / 16 = 15
              · simp only [if_pos h15, beqT h15, cond_true, uvar_any k hk hl hb (p + 1) (by omega)]
                cases hg : gv (b.drop (p + 1)) with
                | none =>
                  refine ⟨by decide, p + 1, acc ++ [(9, id, 0, ⟨#[]⟩, 0, ())], by omega, ?_⟩
                  simp only [Option.map_none, Option.bind_some, impl_treeReader_parts.c4, bneT (show ¬ (1 : Int) = 0 by decide), cst, Bool.true_or, cond_true]
                | some z =>
                  obtain ⟨u, n⟩ := z
                  obtain ⟨f1, f2, f3, f4, f5⟩ := gv_facts _ u n (fun x hx => hb x (List.mem_of_mem_drop hx)) hg
                  rw [List.length_drop] at f3
                  simp only [Option.map_some, Option.bind_some]
                  exact tail u (p + 1 + n) f1 (by omega)
              · simp only [if_neg h15, beqF h15, cond_false]
                exact tail (y / 16) (p + 1) ⟨by omega, by omega⟩ (by omega)
          · rw [if_neg h9]
            simp only [beqF h9, cond_false]
            by_cases h12 : kind = 12
            · subst h12
              simp only [if_true, show ((12 : Int) == 12) = true from rfl, cond_true, impl_treeReader_fields.b]
              have hf := ifields k hk (impl_treeReader_node.rec k D).1 b hl hb deep (by omega) (fun t id p c => prN d b t id p c)
                (fun t id p acc ht hp hc => ih D (deep + 1) t id p acc (by omega) (by omega) ht hp hc)
                (fun t id p c q Y ht hc h => by
                  obtain ⟨_, n, X, rfl, _, _, _, h5⟩ := prN_enc d b t id p c q Y ht hc h
                  exact h5) id acc 1002 k 0 p 0 [] (by omega) (by omega) (by omega) (by omega) hp (by simp; omega) (by omega)
              rw [List.length_nil, Nat.add_zero] at hf
              rw [show (acc ++ [((12 : Int), id, (0 : Int), (⟨#[]⟩ : ByteArray), (0 : Int), ())] : List TNode) = acc ++ sn id ((0 : Nat) : Int) :: [] from rfl]
              unfold IField at hf
              cases hr : prFields (fun t id p c => prN d b t id p c) b 1002 0 p (acc.length + 1) with
              | bad e =>
                rw [hr] at hf
                obtain ⟨he, q', l, hq', e1⟩ := hf
                exact ⟨he, q', l, hq', by rw [e1]; rfl⟩
              | ok q' x =>
                obtain ⟨m, Y⟩ := x
                rw [hr] at hf
                obtain ⟨hq', e1⟩ := hf
                refine ⟨hq', ?_⟩
                rw [e1]
                simp [sn]
            · rw [if_neg h12]
              simp only [beqF h12, cond_false]
              exact ⟨hp, trivial⟩
end Go.Law
end

section
/- Bits side by side: written and read. -/
set_option linter.unusedVariables false
set_option linter.unusedSimpArgs false
namespace Go.Law
open Go.Am Go.Fn
variable (k : Nat)

theorem wrap_emod (k : IntKind) (x : Int) : IntKind.wrap k x % 2 ^ k.bits = x % 2 ^ k.bits := by
  have hp : (0 : Int) < 2 ^ k.bits := by have := Nat.two_pow_pos k.bits; exact_mod_cast this
  have h0 := Int.emod_nonneg x (show (2 : Int) ^ k.bits ≠ 0 by omega)
  cases k <;> simp [IntKind.wrap, IntKind.bits, IntKind.signed] <;> omega

theorem ofInt_congr {n : Nat} {a b : Int} (h : a % 2 ^ n = b % 2 ^ n) : BitVec.ofInt n a = BitVec.ofInt n b := by
  apply BitVec.eq_of_toNat_eq
  rw [BitVec.toNat_ofInt, BitVec.toNat_ofInt]
  have : ((2 ^ n : Nat) : Int) = (2 : Int) ^ n := by simp
  rw [this, h]

theorem or_wrap (k : IntKind) (a b : Int) : bits .or k (k.wrap a) (k.wrap b) = bits .or k a b := by
  simp only [bits]
  rw [ofInt_congr (wrap_emod k a), ofInt_congr (wrap_emod k b)]

theorem or_nat (k : IntKind) {a b i : Nat} (ha : a < 2 ^ i) (hab : a + b * 2 ^ i < 2 ^ k.bits) : bits .or k (a : Int) ((b * 2 ^ i : Nat) : Int) = k.wrap ((a + b * 2 ^ i : Nat) : Int) := by
  have h1 : a ||| b * 2 ^ i = a + b * 2 ^ i := by
    rw [Nat.or_comm, Nat.mul_comm, ← Nat.two_pow_add_eq_or_of_lt ha b, Nat.add_comm]
  simp only [bits, BitVec.ofInt_natCast, BitVec.toNat_or, BitVec.toNat_ofNat]
  rw [Nat.mod_eq_of_lt (show a < 2 ^ k.bits by omega), Nat.mod_eq_of_lt (show b * 2 ^ i < 2 ^ k.bits by omega), h1]

theorem or_shl (k : IntKind) {a b i : Nat} (hi : i ≤ k.bits) (ha : a < 2 ^ i) (hab : a + b * 2 ^ i < 2 ^ k.bits) : bits .or k (k.wrap (a : Int)) (shlI k (b : Int) (i : Int)) = k.wrap ((a + b * 2 ^ i : Nat) : Int) := by
  unfold shlI
  rw [Int.toNat_natCast, Nat.min_eq_left hi, or_wrap]
  have := or_nat k ha hab
  rw [← this]
  simp

/-! ### numbers side by side -/
def u64 (v : Int) : Nat := (v % 18446744073709551616).toNat

end Go.Law
end

section
/- Trees: what the reference reads of any bytes. -/
set_option linter.unusedVariables false
set_option linter.unusedSimpArgs false
namespace Go.Law
open Go.Am Go.Fn

theorem bits_xor_comm (k : IntKind) (a b : Int) : bits .xor k a b = bits .xor k b a := by
  simp only [bits, BitVec.xor_comm]

theorem and_mask63 (x : Int) : bits .and .i64 x 9223372036854775807 = x % 9223372036854775808 := by
  have hc : (9223372036854775807 : Int) = ((2 ^ 63 - 1 : Nat) : Int) := by decide
  have hb : (2 ^ 63 - 1) % 2 ^ IntKind.i64.bits = 2 ^ 63 - 1 := by decide
  rw [hc]
  simp only [bits, BitVec.ofInt_natCast, BitVec.toNat_and, BitVec.toNat_ofNat, hb, Nat.and_two_pow_sub_one_eq_mod, BitVec.toNat_ofInt]
  show IntKind.wrap .i64 (((x % ((2 ^ 64 : Nat) : Int)).toNat % 2 ^ 63 : Nat) : Int) = _
  rw [w64 (by omega) (by omega)]
  omega

variable (k : Nat)

theorem szag_eq {u : Int} (h : I64 u) : spec_Zag k u = some (zagV u) := by
  obtain ⟨h0, h1⟩ := h
  have hm : IntKind.wrap .i64 (shlI .i64 1 (IntKind.wrap .i64 (64 - 1)) - 1) = 9223372036854775807 := by decide
  have hd : spec_l2Down k u 1 = some ((u % 18446744073709551616) / 2) := by
    unfold spec_l2Down
    rw [beqF (by decide), cond_false, decide_eq_true (show (0 : Int) ≤ 1 by decide), cond_true, decide_eq_true (show (0 : Int) ≤ IntKind.wrap .i64 (64 - 1) by decide), cond_true, hm, and_mask63]
    have := shrI_eq .i64 u 1 (by decide)
    rw [show ((1 : Nat) : Int) = 1 from rfl] at this
    rw [this]
    congr 1
    omega
  unfold spec_Zag zagV
  rw [hd, and1]
  by_cases h2 : u % 2 = 0
  · rw [if_pos h2, beqF (by omega)]
    rfl
  · rw [if_neg h2, beqT (by omega)]
    simp only [cond_true, Option.bind_some]
    rw [bits_xor_comm, xor_ones _ (by omega) (by omega)]

theorem sgetLoop (b : List Int) (p : Nat) (hb : b.length < 4611686018427387904) (hby : ∀ x, x ∈ b → 0 ≤ x ∧ x < 256) (hp : p ≤ b.length) : ∀ (f n i acc : Nat), i + f = 10 → f < n → acc < 2 ^ (7 * i) →
    spec_UvarGet.l5 k n b (p : Int) (IntKind.wrap .i64 (acc : Int)) (i : Int) = match gvN f (b.drop (p + i)) with
      | none => some (0, 0, false)
      | some (v, m) => some (IntKind.wrap .i64 ((acc + v * 2 ^ (7 * i) : Nat) : Int), ((p + i + m : Nat) : Int), true) := by
  have last : ∀ (n : Nat) (x : Int), 0 < n → spec_UvarGet.l5 k n b (p : Int) x ((10 : Nat) : Int) = some (0, 0, false) := by
    intro n x hn
    obtain ⟨n, rfl⟩ : ∃ j, n = j + 1 := ⟨n - 1, by omega⟩
    simp only [spec_UvarGet.l5, show decide (((10 : Nat) : Int) < 10) = false by decide, cond_false, Option.bind_some]
  intro f
  induction f with
  | zero =>
    intro n i acc hi hn hacc
    obtain rfl : i = 10 := by omega
    exact last n _ (by omega)
  | succ f ih =>
    intro n i acc hi hn hacc
    obtain ⟨n, rfl⟩ : ∃ j, n = j + 1 := ⟨n - 1, by omega⟩
    have hP : 0 < 2 ^ (7 * i) := Nat.two_pow_pos _
    have hP7 : 2 ^ (7 * (i + 1)) = 128 * 2 ^ (7 * i) := by rw [Nat.mul_add, Nat.pow_add]; simp [Nat.mul_comm]
    have c1 : decide ((i : Int) < 10) = true := by simp; omega
    have e2 : IntKind.wrap .i64 ((p : Int) + (i : Int)) = ((p + i : Nat) : Int) := by rw [w64 (by omega) (by omega)]; omega
    by_cases hlt : p + i < b.length
    · obtain ⟨c, hc, hc2⟩ := drop_cons_of hlt
      obtain ⟨c0, c255⟩ := hby c (List.mem_of_getElem? hc2)
      have e3 : IntKind.wrap .i64 (7 * (i : Int)) = ((7 * i : Nat) : Int) := by rw [w64 (by omega) (by omega)]; omega
      have e5 : IntKind.wrap .i64 (((p + i : Nat) : Int) + 1) = ((p + i + 1 : Nat) : Int) := by rw [w64 (by omega) (by omega)]; omega
      have e6 : IntKind.wrap .i64 ((i : Int) + 1) = ((i + 1 : Nat) : Int) := by rw [w64 (by omega) (by omega)]; omega
      have c2 : decide (((p + i : Nat) : Int) < (b.length : Int)) = true := by simp; omega
      have c5 : decide ((0 : Int) ≤ ((7 * i : Nat) : Int)) = true := decide_eq_true (by omega)
      have hget : rdL b ((p + i : Nat) : Int) = some c := by rw [rdL_nat]; exact hc2
      have ec : IntKind.wrap .i64 c = c := w64 (by omega) (by omega)
      have e127 : bits .and .i64 c 127 = (((c % 128).toNat : Nat) : Int) := by
        have := and_mask_i64 c 7 (by decide)
        rw [show ((2 : Int) ^ 7 - 1) = 127 by decide, show ((2 : Int) ^ 7) = 128 by decide] at this
        rw [this]; omega
      rw [hc, gvN]
      simp only [spec_UvarGet.l5, c1, c2, e2, e3, e5, e6, hget, ec, c5, cond_true, Option.bind_some, csf, e127]
      by_cases h9 : f = 0 ∧ 1 < c
      · obtain ⟨rfl, h1c⟩ := h9
        obtain rfl : i = 9 := by omega
        rw [if_pos ⟨rfl, h1c⟩]
        by_cases h128 : c < 128
        · simp only [decide_eq_true h128, cond_true, show (((9 : Nat) : Int) == 9) = true by decide, show decide (c > 1) = true from decide_eq_true h1c, Bool.and_self]
        · simp only [decide_eq_false h128, cond_false]
          exact last n _ (by omega)
      · rw [if_neg h9]
        have h9b : (((i : Int) == 9) && decide (c > 1)) = false := by
          rw [Bool.eq_false_iff]; intro q
          simp only [Bool.and_eq_true, beq_iff_eq, decide_eq_true_eq] at q
          exact h9 ⟨by omega, q.2⟩
        have hsum : acc + (c % 128).toNat * 2 ^ (7 * i) < 2 ^ IntKind.bits .i64 := by
          show _ < 2 ^ 64
          by_cases hf : f = 0
          · have : i = 9 := by omega
            subst this
            have hc1 : c ≤ 1 := by
              rcases Int.lt_or_le 1 c with q | q
              · exact (h9 ⟨hf, q⟩).elim
              · exact q
            have h1 : (c % 128).toNat ≤ 1 := by omega
            have h2 : (2 : Nat) ^ (7 * 9) = 9223372036854775808 := by decide
            rw [h2] at hacc ⊢
            have := Nat.mul_le_mul_right 9223372036854775808 h1
            omega
          · have h1 : (c % 128).toNat * 2 ^ (7 * i) ≤ 127 * 2 ^ (7 * i) := Nat.mul_le_mul_right _ (by omega)
            have h2 : 2 ^ (7 * (i + 1)) ≤ 2 ^ 63 := Nat.pow_le_pow_right (by omega) (by omega)
            rw [hP7] at h2
            have h3 : (2 : Nat) ^ 63 = 9223372036854775808 := by decide
            omega
        have eor := or_shl .i64 (a := acc) (b := (c % 128).toNat) (i := 7 * i) (show 7 * i ≤ 64 by omega) hacc hsum
        rw [eor]
        by_cases h128 : c < 128
        · rw [if_pos h128]
          simp only [decide_eq_true h128, cond_true, h9b, cond_false]
          have : (c % 128).toNat = c.toNat := by omega
          rw [this]
        · rw [if_neg h128]
          simp only [decide_eq_false h128, cond_false]
          have hlt2 : acc + (c % 128).toNat * 2 ^ (7 * i) < 2 ^ (7 * (i + 1)) := by
            rw [hP7]
            have : (c % 128).toNat * 2 ^ (7 * i) ≤ 127 * 2 ^ (7 * i) := Nat.mul_le_mul_right _ (by omega)
            omega
          rw [ih n (i + 1) _ (by omega) (by omega) hlt2, ← Nat.add_assoc]
          cases gvN f (b.drop (p + i + 1)) with
          | none => rfl
          | some x =>
            obtain ⟨v, m⟩ := x
            simp only [Option.map_some]
            rw [hP7, show acc + (c % 128).toNat * 2 ^ (7 * i) + v * (128 * 2 ^ (7 * i)) = acc + ((c % 128).toNat + 128 * v) * 2 ^ (7 * i) by grind, show p + i + 1 + m = p + i + (m + 1) by omega]
    · have c2 : decide (((p + i : Nat) : Int) < (b.length : Int)) = false := decide_eq_false (by omega)
      rw [List.drop_eq_nil_of_le (by omega), gvN]
      simp only [spec_UvarGet.l5, c1, e2, c2, cond_true, cond_false, Option.bind_some]

theorem sget_any (hk : 2000 ≤ k) {b : List Int} (hl : b.length < 4611686018427387904) (hb : Byt b) (p : Nat) (hp : p ≤ b.length) : spec_UvarGet k b (p : Int) = match gv (b.drop p) with
    | none => some (0, 0, false)
    | some (u, n) => some (u, ((p + n : Nat) : Int), true) := by
  unfold spec_UvarGet
  rw [decide_eq_false (show ¬ ((p : Int) < 0) by omega)]
  by_cases h : p = b.length
  · rw [decide_eq_true (show (p : Int) ≥ (b.length : Int) by omega), List.drop_eq_nil_of_le (by omega)]
    rfl
  · rw [decide_eq_false (show ¬ (p : Int) ≥ (b.length : Int) by omega)]
    simp only [cond_false, Option.bind_some]
    have h := sgetLoop k b p hl hb hp 10 k 0 0 rfl (by omega) (by simp)
    rw [show IntKind.wrap .i64 ((0 : Nat) : Int) = 0 by decide, show ((0 : Nat) : Int) = 0 from rfl] at h
    rw [h]
    unfold gv
    rw [Nat.add_zero]
    cases gvN 10 (b.drop p) with
    | none => rfl
    | some x =>
      simp only [Option.map_some, Nat.mul_zero, Nat.pow_zero, Nat.mul_one, Nat.zero_add]

theorem szig_any (hk : 2000 ≤ k) {b : List Int} (hl : b.length < 4611686018427387904) (hb : Byt b) (p : Nat) (hp : p ≤ b.length) : spec_ZigGet k b (p : Int) = match gv (b.drop p) with
    | none => some (0, 0, false)
    | some (u, n) => some (zagV u, ((p + n : Nat) : Int), true) := by
  unfold spec_ZigGet
  rw [sget_any k hk hl hb p hp]
  cases hg : gv (b.drop p) with
  | none => rfl
  | some z =>
    obtain ⟨u, n⟩ := z
    obtain ⟨f1, _⟩ := gv_facts _ u n (fun x hx => hb x (List.mem_of_mem_drop hx)) hg
    simp only [Option.bind_some, Bool.not_true, cond_false, szag_eq k f1]

theorem smany_any (hk : 2000 ≤ k) {b : List Int} (hl : b.length < 4611686018427387904) (hb : Byt b) (p : Nat) (hp : p ≤ b.length) : ∃ x y z e, spec_l4Many k b (p : Int) = some (x, y, z, e) ∧
    (match prMany b p with
    | .bad c => e = c ∧ c ≠ 0
    | .ok q (many, item) => x = many ∧ y = item ∧ z = (q : Int) ∧ e = 0 ∧ q ≤ b.length) := by
  unfold spec_l4Many prMany
  by_cases hlt : p < b.length
  · obtain ⟨c, hc, hc2⟩ := drop_cons_of hlt
    obtain ⟨c0, c255⟩ := hb c (List.mem_of_getElem? hc2)
    have ec : IntKind.wrap .i64 c = c := w64 (by omega) (by omega)
    have e16 : IntKind.wrap .i64 (Int.tdiv c 16) = c / 16 := by
      rw [Int.tdiv_eq_ediv_of_nonneg c0, w64 (by omega) (by omega)]
    have em : Int.tmod c 16 = c % 16 := Int.tmod_eq_emod_of_nonneg c0
    have ep : IntKind.wrap .i64 ((p : Int) + 1) = ((p + 1 : Nat) : Int) := by rw [w64 (by omega) (by omega)]; omega
    rw [decide_eq_false (by omega), cond_false, rdL_nat, hc2]
    simp only [Option.bind_some, ec, e16, em, ep]
    have tail : ∀ (many : Int) (q : Nat), q ≤ b.length → ∃ x y z e, spec_l4Many.c11 k (q : Int) many (c % 16) = some (x, y, z, e) ∧
        (match (if many = 0 then (.ok q (0, 0) : Res (Int × Int)) else if isItem (c % 16) = false then .bad 2 else if many < 0 ∨ 1500 < many then .bad 4 else .ok q (many, c % 16)) with
        | .bad c => e = c ∧ c ≠ 0
        | .ok q (many, item) => x = many ∧ y = item ∧ z = (q : Int) ∧ e = 0 ∧ q ≤ b.length) := by
      intro many q hq
      unfold spec_l4Many.c11
      by_cases h0 : many = 0
      · rw [beqT h0, cond_true, if_pos h0]
        exact ⟨_, _, _, _, rfl, rfl, rfl, rfl, rfl, hq⟩
      · rw [beqF h0, cond_false, if_neg h0, l4Item_eq]
        simp only [Option.bind_some, cst]
        cases isItem (c % 16) with
        | false =>
          rw [if_pos rfl]
          exact ⟨_, _, _, _, rfl, rfl, by decide⟩
        | true =>
          rw [if_neg (by decide)]
          simp only [Bool.not_true, cond_false]
          by_cases hm : many < 0 ∨ 1500 < many
          · rw [if_pos hm]
            have : (decide (many < 0) || decide (many > 1500)) = true := by
              rcases hm with h | h
              · rw [decide_eq_true h, Bool.true_or]
              · rw [decide_eq_true (show many > 1500 from h), Bool.or_true]
            rw [this]
            exact ⟨_, _, _, _, rfl, rfl, by decide⟩
          · rw [if_neg hm]
            rw [decide_eq_false (show ¬ many < 0 by omega), decide_eq_false (show ¬ many > 1500 by omega)]
            exact ⟨_, _, _, _, rfl, rfl, rfl, rfl, rfl, hq⟩
    by_cases h15 : c / 16 = 15
    · simp only [if_pos h15, beqT h15, cond_true, sget_any k hk hl hb (p + 1) (by omega)]
      cases hg : gv (b.drop (p + 1)) with
      | none =>
        simp only [Option.bind_some, Bool.not_false, cond_true, Option.map_none]
        exact ⟨_, _, _, _, rfl, rfl, by decide⟩
      | some z =>
        obtain ⟨u, n⟩ := z
        obtain ⟨f1, f2, f3, f4, f5⟩ := gv_facts _ u n (fun x hx => hb x (List.mem_of_mem_drop hx)) hg
        rw [List.length_drop] at f3
        simp only [Option.bind_some, Bool.not_true, cond_false, Option.map_some]
        exact tail u (p + 1 + n) (by omega)
    · simp only [if_neg h15, beqF h15, cond_false]
      exact tail (c / 16) (p + 1) (by omega)
  · rw [decide_eq_true (by omega), cond_true, List.getElem?_eq_none (by omega)]
    exact ⟨_, _, _, _, rfl, rfl, by decide⟩

theorem shead_any (hk : 2000 ≤ k) {b : List Int} (hl : b.length < 4611686018427387904) (hb : Byt b) (p : Nat) (hp : p ≤ b.length) (last : Int) (hla : 0 ≤ last ∧ last ≤ 1000) : ∃ x y z e, spec_l4Head k b (p : Int) last = some (x, y, z, e) ∧
    (match prHead b p last with
    | .bad c => e = c ∧ c ≠ 0
    | .ok q (t, id) => x = t ∧ (t ≠ 0 → y = id) ∧ z = (q : Int) ∧ e = 0 ∧ q ≤ b.length) := by
  unfold spec_l4Head prHead
  by_cases hlt : p < b.length
  · obtain ⟨c, hc, hc2⟩ := drop_cons_of hlt
    obtain ⟨c0, c255⟩ := hb c (List.mem_of_getElem? hc2)
    have ec : IntKind.wrap .i64 c = c := w64 (by omega) (by omega)
    have e16 : IntKind.wrap .i64 (Int.tdiv c 16) = c / 16 := by
      rw [Int.tdiv_eq_ediv_of_nonneg c0, w64 (by omega) (by omega)]
    have em : Int.tmod c 16 = c % 16 := Int.tmod_eq_emod_of_nonneg c0
    have ep : IntKind.wrap .i64 ((p : Int) + 1) = ((p + 1 : Nat) : Int) := by rw [w64 (by omega) (by omega)]; omega
    have el : IntKind.wrap .i64 (last + c / 16) = last + c / 16 := w64 (by omega) (by omega)
    rw [decide_eq_false (by omega), cond_false, rdL_nat, hc2]
    simp only [Option.bind_some, ec, e16, em, ep, el]
    by_cases h0 : c = 0
    · rw [beqT h0, cond_true, if_pos h0]
      exact ⟨_, _, _, _, rfl, rfl, fun h => (h rfl).elim, rfl, rfl, by omega⟩
    · rw [beqF h0, cond_false, if_neg h0, l4Kind_eq]
      simp only [Option.bind_some]
      cases hkd : isKind (c % 16) with
      | false =>
        rw [if_pos rfl]
        exact ⟨_, _, _, _, rfl, rfl, by decide⟩
      | true =>
        rw [if_neg (by decide)]
        simp only [Bool.not_true, cond_false]
        have tail : ∀ (id : Int) (q : Nat), q ≤ b.length → ∃ x y z e, spec_l4Head.c16 k (q : Int) last (c % 16) id = some (x, y, z, e) ∧
            (match (if id < 1 ∨ 1000 < id then (.bad 3 : Res (Int × Int)) else if id ≤ last then .bad 5 else .ok q (c % 16, id)) with
            | .bad c => e = c ∧ c ≠ 0
            | .ok q (t, id) => x = t ∧ (t ≠ 0 → y = id) ∧ z = (q : Int) ∧ e = 0 ∧ q ≤ b.length) := by
          intro id q hq
          unfold spec_l4Head.c16
          rw [l1In_eq]
          simp only [Option.bind_some]
          by_cases hi : id < 1 ∨ 1000 < id
          · rw [if_pos hi]
            have hw : (decide ((1 : Int) ≤ id) && decide (id ≤ 1000)) = false := by
              rw [Bool.eq_false_iff]; intro q
              simp only [Bool.and_eq_true, decide_eq_true_eq] at q
              omega
            rw [hw]
            exact ⟨_, _, _, _, rfl, rfl, by decide⟩
          · rw [if_neg hi]
            have hw : (decide ((1 : Int) ≤ id) && decide (id ≤ 1000)) = true := by simp; omega
            rw [hw]
            simp only [Bool.not_true, cond_false]
            by_cases h5 : id ≤ last
            · rw [if_pos h5, decide_eq_true h5]
              exact ⟨_, _, _, _, rfl, rfl, by decide⟩
            · rw [if_neg h5, decide_eq_false h5]
              exact ⟨_, _, _, _, rfl, rfl, fun _ => rfl, rfl, rfl, hq⟩
        by_cases h16 : c / 16 = 0
        · simp only [if_pos h16, beqT h16, cond_true, szig_any k hk hl hb (p + 1) (by omega)]
          cases hg : gv (b.drop (p + 1)) with
          | none =>
            simp only [Option.bind_some, Bool.not_false, cond_true, Option.map_none]
            exact ⟨_, _, _, _, rfl, rfl, by decide⟩
          | some z =>
            obtain ⟨u, n⟩ := z
            obtain ⟨f1, f2, f3, f4, f5⟩ := gv_facts _ u n (fun x hx => hb x (List.mem_of_mem_drop hx)) hg
            rw [List.length_drop] at f3
            simp only [Option.bind_some, Bool.not_true, cond_false, Option.map_some]
            exact tail (zagV u) (p + 1 + n) (by omega)
        · simp only [if_neg h16, beqF h16, cond_false]
          exact tail (last + c / 16) (p + 1) (by omega)
  · rw [decide_eq_true (by omega), cond_true, List.getElem?_eq_none (by omega)]
    exact ⟨_, _, _, _, rfl, rfl, by decide⟩

theorem stext_any (hk : 2000 ≤ k) {b : List Int} (hl : b.length < 4611686018427387904) (hb : Byt b) (p : Nat) (hp : p ≤ b.length) : ∃ x z e, spec_l4Text k b (p : Int) = some (x, z, e) ∧
    (match prText b p with
    | .bad c => e = c ∧ c ≠ 0
    | .ok q s => x = s ∧ z = (q : Int) ∧ e = 0 ∧ q ≤ b.length) := by
  unfold spec_l4Text prText
  rw [sget_any k hk hl hb p hp]
  cases hg : gv (b.drop p) with
  | none => exact ⟨_, _, _, rfl, rfl, by decide⟩
  | some z =>
    obtain ⟨u, n⟩ := z
    obtain ⟨⟨f0, f1⟩, f2, f3, f4, f5⟩ := gv_facts _ u n (fun x hx => hb x (List.mem_of_mem_drop hx)) hg
    rw [List.length_drop] at f3
    simp only [Option.bind_some, Bool.not_true, cond_false, cst]
    by_cases hu : u < 0 ∨ 300 < u
    · rw [if_pos hu]
      have : (decide (u < 0) || decide (u > 300)) = true := by
        rcases hu with h | h
        · rw [decide_eq_true h, Bool.true_or]
        · rw [decide_eq_true (show u > 300 from h), Bool.or_true]
      rw [this]
      exact ⟨_, _, _, rfl, rfl, by decide⟩
    · rw [if_neg hu, decide_eq_false (show ¬ u < 0 by omega), decide_eq_false (show ¬ u > 300 by omega)]
      have e1 : IntKind.wrap .i64 ((b.length : Int) - ((p + n : Nat) : Int)) = (b.length : Int) - ((p + n : Nat) : Int) := w64 (by omega) (by omega)
      simp only [Bool.or_self, cond_false, e1]
      by_cases hs : (b.length : Int) - ((p + n : Nat) : Int) < u
      · rw [if_pos hs, decide_eq_true hs]
        exact ⟨_, _, _, rfl, rfl, by decide⟩
      · rw [if_neg hs, decide_eq_false hs]
        obtain ⟨U, rfl⟩ := Int.eq_ofNat_of_zero_le (show 0 ≤ u by omega)
        have e2 : IntKind.wrap .i64 (((p + n : Nat) : Int) + (U : Int)) = ((p + n + U : Nat) : Int) := by rw [w64 (by omega) (by omega)]; omega
        have c3 : inSl ((p + n : Nat) : Int) ((p + n + U : Nat) : Int) b.length = true := inSl_ok (by omega) (by omega) (by omega)
        have hcut : cutL b ((p + n : Nat) : Int) ((p + n + U : Nat) : Int) = (b.drop (p + n)).take U := by
          unfold cutL
          rw [Int.toNat_natCast, Int.toNat_natCast, List.drop_take, show p + n + U - (p + n) = U by omega]
        simp only [cond_false, e2, c3, cond_true, hcut, Int.toNat_natCast]
        exact ⟨_, _, _, rfl, rfl, rfl, rfl, by omega⟩

def SNode (S : (List Int) → Int → Int → Int → Int → (List TNode) → Option ((Unit × Int × Int) × (List TNode))) (b : List Int) (kind id deep : Int) (p : Nat) (acc : List TNode) (r : Res (List TNode)) : Prop :=
  match r with
  | .bad e => e ≠ 0 ∧ ∃ q l, S b (p : Int) kind id deep acc = some (((), q, e), l)
  | .ok q Y => q ≤ b.length ∧ S b (p : Int) kind id deep acc = some (((), (q : Int), 0), acc ++ Y)

theorem sparts (S : (List Int) → Int → Int → Int → Int → (List TNode) → Option ((Unit × Int × Int) × (List TNode))) (b : List Int) (item : Int) (deep : Nat) (hdeep : deep ≤ 100) (P : Nat → Nat → Res (List TNode))
    (ih : ∀ (p : Nat) (acc : List TNode), p ≤ b.length → acc.length ≤ 1500 → SNode S b item 0 ((deep + 1 : Nat) : Int) p acc (P p acc.length))
    (hP : ∀ p c q Y, c ≤ 1500 → P p c = .ok q Y → c + Y.length ≤ 1500) (many : Int) (hm : many ≤ 1500) :
    ∀ (m f : Nat) (i : Int) (p : Nat) (acc : List TNode), many - i = m → 0 ≤ i → m < f → p ≤ b.length → acc.length ≤ 1500 →
    match prParts P m p acc.length with
    | .bad e => e ≠ 0 ∧ ∃ q l, spec_l4Read.l24 k S f b (deep : Int) many item (p : Int) 0 i acc = some (((), q, e), l)
    | .ok q Y => q ≤ b.length ∧ spec_l4Read.l24 k S f b (deep : Int) many item (p : Int) 0 i acc = some (((), (q : Int), 0), acc ++ Y) := by
  have hdw : IntKind.wrap .i64 ((deep : Int) + 1) = ((deep + 1 : Nat) : Int) := by rw [w64 (by omega) (by omega)]; omega
  intro m
  induction m with
  | zero =>
    intro f i p acc hi h0 hf hp hc
    obtain ⟨f, rfl⟩ : ∃ j, f = j + 1 := ⟨f - 1, by omega⟩
    simp only [prParts, spec_l4Read.l24, decide_eq_false (show ¬ i < many by omega), cond_false, Option.bind_some, List.append_nil]
    exact ⟨hp, trivial⟩
  | succ m ihm =>
    intro f i p acc hi h0 hf hp hc
    obtain ⟨f, rfl⟩ : ∃ j, f = j + 1 := ⟨f - 1, by omega⟩
    have hi1 : IntKind.wrap .i64 (i + 1) = i + 1 := w64 (by omega) (by omega)
    have h1 := ih p acc hp hc
    simp only [prParts, spec_l4Read.l24, decide_eq_true (show i < many by omega), cond_true, Option.bind_some, beqT rfl, hdw, hi1]
    unfold SNode at h1
    cases hr : P p acc.length with
    | bad e =>
      rw [hr] at h1
      obtain ⟨he, q, l, e1⟩ := h1
      refine ⟨he, q, l, ?_⟩
      obtain ⟨f, rfl⟩ : ∃ j, f = j + 1 := ⟨f - 1, by omega⟩
      simp only [e1, Option.bind_some, spec_l4Read.l24, beqF he]
      cases decide (i + 1 < many) <;> rfl
    | ok q Y =>
      rw [hr] at h1
      obtain ⟨hq, e1⟩ := h1
      have hlen := hP _ _ _ _ hc hr
      have h2 := ihm f (i + 1) q (acc ++ Y) (by omega) (by omega) (by omega) hq (by rw [List.length_append]; exact hlen)
      rw [List.length_append] at h2
      simp only [e1, Option.bind_some]
      cases hr2 : prParts P m q (acc.length + Y.length) with
      | bad e => rw [hr2] at h2; exact h2
      | ok q2 Z => rw [hr2] at h2; simpa [List.append_assoc] using h2

theorem sfields (hk : 2000 ≤ k) (S : (List Int) → Int → Int → Int → Int → (List TNode) → Option ((Unit × Int × Int) × (List TNode))) (b : List Int) (hl : b.length < 4611686018427387904) (hb : Byt b) (deep : Nat) (hdeep : deep ≤ 100) (P : Int → Int → Nat → Nat → Res (List TNode))
    (ih : ∀ (t id : Int) (p : Nat) (acc : List TNode), isKind t = true → p ≤ b.length → acc.length ≤ 1500 → SNode S b t id ((deep + 1 : Nat) : Int) p acc (P t id p acc.length))
    (hP : ∀ t id p c q Y, isKind t = true → c ≤ 1500 → P t id p c = .ok q Y → c + Y.length ≤ 1500) (id0 : Int) (pre : List TNode) :
    ∀ (g f : Nat) (last : Int) (p : Nat) (j : Nat) (mid : List TNode), 1002 ≤ (g : Int) + last → 0 ≤ last → last ≤ 1000 → g < f → p ≤ b.length → pre.length + 1 + mid.length ≤ 1500 → (j : Int) + g ≤ 4000 →
    match prFields P b g last p (pre.length + 1 + mid.length) with
    | .bad e => e ≠ 0 ∧ ∃ q l, spec_l4Read.l30 k S f b (p : Int) (deep : Int) (pre.length : Int) last (j : Int) (pre ++ sn id0 0 :: mid) = some (((), q, e), l)
    | .ok q (m, Y) => q ≤ b.length ∧ spec_l4Read.l30 k S f b (p : Int) (deep : Int) (pre.length : Int) last (j : Int) (pre ++ sn id0 0 :: mid) = some (((), (q : Int), 0), pre ++ sn id0 ((j + m : Nat) : Int) :: (mid ++ Y)) := by
  have hdw : IntKind.wrap .i64 ((deep : Int) + 1) = ((deep + 1 : Nat) : Int) := by rw [w64 (by omega) (by omega)]; omega
  intro g
  induction g with
  | zero => intro f last p j mid h1 h2 h3; omega
  | succ g ihg =>
    intro f last p j mid h1 h2 h3 hf hp hc hj
    obtain ⟨f, rfl⟩ : ∃ j, f = j + 1 := ⟨f - 1, by omega⟩
    have hjw : IntKind.wrap .i64 ((j : Int) + 1) = ((j + 1 : Nat) : Int) := by rw [w64 (by omega) (by omega)]; omega
    obtain ⟨x, y, z, e, e1, e2⟩ := shead_any k hk hl hb p hp last ⟨h2, h3⟩
    simp only [prFields, spec_l4Read.l30, e1, Option.bind_some]
    cases hr : prHead b p last with
    | bad c =>
      rw [hr] at e2
      obtain ⟨rfl, he⟩ := e2
      simp only [bneT he, cond_true]
      exact ⟨he, _, _, rfl⟩
    | ok q w =>
      obtain ⟨t, id⟩ := w
      rw [hr] at e2
      obtain ⟨rfl, hy, rfl, rfl, hq⟩ := e2
      obtain ⟨a1, a2⟩ := prHead_ok hr
      simp only [bneF rfl, cond_false]
      by_cases ht : x = 0
      · simp only [if_pos ht, beqT ht, cond_true]
        have hget : rdL (pre ++ sn id0 0 :: mid) (pre.length : Int) = some (sn id0 0) := by
          rw [rdL_nat, List.getElem?_append_right (Nat.le_refl _)]; simp
        have hset : ∀ x y : TNode, List.set (pre ++ x :: mid) (Int.toNat (pre.length : Int)) y = pre ++ y :: mid := fun x y => by
          rw [Int.toNat_natCast, List.set_append_right _ _ (Nat.le_refl _)]; simp
        simp only [hget, Option.bind_some, hset]
        exact ⟨hq, by simp [sn]⟩
      · obtain rfl := hy ht
        rcases a2 with a2 | ⟨a2, _, a3, a4, a5⟩
        · exact (ht a2).elim
        · simp only [if_neg ht, beqF ht, cond_false, hdw]
          have hn := ih x y q (pre ++ sn id0 0 :: mid) a2 hq (by simp; omega)
          rw [show (pre ++ sn id0 0 :: mid).length = pre.length + 1 + mid.length by simp; omega] at hn
          unfold SNode at hn
          cases hr2 : P x y q (pre.length + 1 + mid.length) with
          | bad e =>
            rw [hr2] at hn
            obtain ⟨he, q', l, e3⟩ := hn
            simp only [e3, Option.bind_some, bneT he, cond_true]
            exact ⟨he, _, _, rfl⟩
          | ok r Y =>
            rw [hr2] at hn
            obtain ⟨hr1, e3⟩ := hn
            have hlen := hP _ _ _ _ _ _ a2 (by omega) hr2
            have h4 := ihg f y r (j + 1) (mid ++ Y) (by omega) (by omega) (by omega) (by omega) hr1 (by rw [List.length_append]; omega) (by omega)
            rw [List.length_append, ← Nat.add_assoc] at h4
            simp only [e3, Option.bind_some, bneF rfl, cond_false, hjw, List.append_assoc, List.cons_append]
            cases hr3 : prFields P b g y r (pre.length + 1 + mid.length + Y.length) with
            | bad e => rw [hr3] at h4; exact h4
            | ok z w =>
              obtain ⟨m, Z⟩ := w
              rw [hr3] at h4
              obtain ⟨h5, h6⟩ := h4
              refine ⟨h5, ?_⟩
              rw [h6, show j + 1 + m = j + (m + 1) by omega, List.append_assoc]

theorem srdN (hk : 2000 ≤ k) (b : List Int) (hl : b.length < 4611686018427387904) (hb : Byt b) : ∀ (d D deep : Nat) (kind id : Int) (p : Nat) (acc : List TNode), d + deep = 13 → d < D → isKind kind = true → p ≤ b.length → acc.length ≤ 1500 →
    SNode (spec_l4Read.rec k D) b kind id (deep : Int) p acc (prN d b kind id p acc.length) := by
  intro d
  induction d with
  | zero =>
    intro D deep kind id p acc hdd hD hkd hp hc
    obtain ⟨D, rfl⟩ : ∃ m, D = m + 1 := ⟨D - 1, by omega⟩
    refine ⟨by decide, 0, acc, ?_⟩
    simp only [spec_l4Read.rec, spec_l4Read.b, cst, decide_eq_true (show (deep : Int) > 12 by omega), Bool.or_true, Option.bind_some, cond_true]
  | succ d ih =>
    intro D deep kind id p acc hdd hD hkd hp hc
    obtain ⟨D, rfl⟩ : ∃ m, D = m + 1 := ⟨D - 1, by omega⟩
    have hset : ∀ (acc : List TNode) (x y : TNode), List.set (acc ++ [x]) (Int.toNat (acc.length : Int)) y = acc ++ [y] := fun acc x y => by
      rw [Int.toNat_natCast, List.set_append_right _ _ (Nat.le_refl _)]; simp
    have hget : ∀ (acc : List TNode) (x : TNode), rdL (acc ++ [x]) (acc.length : Int) = some x := fun acc x => by
      rw [rdL_nat, List.getElem?_append_right (Nat.le_refl _)]; simp
    unfold prN
    by_cases hc5 : acc.length = 1500
    · rw [if_pos hc5]
      refine ⟨by decide, 0, acc, ?_⟩
      simp only [spec_l4Read.rec, spec_l4Read.b, cst, beqT (show (acc.length : Int) = 1500 by omega), Bool.true_or, Option.bind_some, cond_true]
    · rw [if_neg hc5]
      unfold SNode
      simp only [spec_l4Read.rec, spec_l4Read.b, cst, beqF (show ¬ (acc.length : Int) = 1500 by omega), decide_eq_false (show ¬ (deep : Int) > 12 by omega), Bool.or_self, Option.bind_some, cond_false]
      rw [lim_ok (by simp; omega), cond_true]
      by_cases h56 : kind = 5 ∨ kind = 6
      · rw [if_pos h56]
        have e0 : (cond (kind == 5)
             (spec_l4Read.c8 k (spec_l4Read.rec k D) b (p : Int) kind (deep : Int) (acc.length : Int) kind (kind == 5) (acc ++ [(kind, id, 0, (⟨#[]⟩ : ByteArray), 0, ())]))
             (spec_l4Read.c8 k (spec_l4Read.rec k D) b (p : Int) kind (deep : Int) (acc.length : Int) kind (kind == 6) (acc ++ [(kind, id, 0, (⟨#[]⟩ : ByteArray), 0, ())])))
            = spec_l4Read.c8 k (spec_l4Read.rec k D) b (p : Int) kind (deep : Int) (acc.length : Int) kind true (acc ++ [(kind, id, 0, (⟨#[]⟩ : ByteArray), 0, ())]) := by
          rcases h56 with h | h
          · rw [beqT h, cond_true]
          · rw [beqF (show ¬ kind = 5 by omega), beqT h, cond_false]
        rw [e0]
        simp only [spec_l4Read.c8, cond_true, szig_any k hk hl hb p hp]
        cases hg : gv (b.drop p) with
        | none => exact ⟨by decide, _, _, rfl⟩
        | some z =>
          obtain ⟨u, n⟩ := z
          obtain ⟨f1, f2, f3, f4, f5⟩ := gv_facts _ u n (fun x hx => hb x (List.mem_of_mem_drop hx)) hg
          rw [List.length_drop] at f3
          simp only [Option.bind_some, Bool.not_true, cond_false, spec_l4Int, l1In_eq, csf]
          have h32 : (decide (-2147483648 ≤ zagV u) && decide (zagV u ≤ 2147483647)) = int32 (zagV u) := rfl
          rw [h32]
          by_cases hbad : kind = 5 ∧ int32 (zagV u) = false
          · rw [if_pos hbad]
            refine ⟨by decide, 0, acc ++ [(kind, id, 0, ⟨#[]⟩, 0, ())], ?_⟩
            simp only [beqT hbad.1, hbad.2, Bool.not_false, Bool.and_self, cond_true]
          · rw [if_neg hbad]
            have hb2 : ((kind == 5) && !int32 (zagV u)) = false := by
              rw [Bool.eq_false_iff]; intro q
              simp only [Bool.and_eq_true, beq_iff_eq, Bool.not_eq_true'] at q
              exact hbad q
            refine ⟨by omega, ?_⟩
            simp only [hb2, cond_false, hget, hset, Option.bind_some]
      · rw [if_neg h56]
        have e5 : (kind == 5) = false := beqF (by omega)
        have e6 : (kind == 6) = false := beqF (by omega)
        simp only [e5, e6, cond_false, spec_l4Read.c8]
        by_cases h8 : kind = 8
        · subst h8
          simp only [if_true, show ((8 : Int) == 8) = true from rfl, cond_true]
          obtain ⟨x, z, e, e1, e2⟩ := stext_any k hk hl hb p hp
          simp only [e1, Option.bind_some, hget, hset]
          cases hr : prText b p with
          | bad c =>
            rw [hr] at e2
            obtain ⟨rfl, he⟩ := e2
            exact ⟨he, _, _, rfl⟩
          | ok q s =>
            rw [hr] at e2
            obtain ⟨rfl, rfl, rfl, hq⟩ := e2
            exact ⟨hq, rfl⟩
        · rw [if_neg h8]
          simp only [beqF h8, cond_false]
          by_cases h9 : kind = 9
          · subst h9
            simp only [if_true, show ((9 : Int) == 9) = true from rfl, cond_true]
            obtain ⟨x, y, z, e, e1, e2⟩ := smany_any k hk hl hb p hp
            simp only [e1, Option.bind_some, hget, hset]
            cases hr : prMany b p with
            | bad c =>
              rw [hr] at e2
              obtain ⟨rfl, he⟩ := e2
              have : ∀ f a, f ≠ 0 → spec_l4Read.l24 k (spec_l4Read.rec k D) f b (deep : Int) x y z e 0 a = some (((), z, e), a) := by
                intro f a hf
                obtain ⟨f, rfl⟩ : ∃ j, f = j + 1 := ⟨f - 1, by omega⟩
                simp only [spec_l4Read.l24, beqF he]
                cases decide ((0 : Int) < x) <;> rfl
              refine ⟨he, _, _, this k _ (by omega)⟩
            | ok q w =>
              obtain ⟨many, item⟩ := w
              rw [hr] at e2
              obtain ⟨rfl, rfl, rfl, rfl, hq⟩ := e2
              obtain ⟨_, m1⟩ := prMany_ok hr
              simp only
              have hx : x ≤ 1500 := by rcases m1 with h | h <;> omega
              have hx0 : 0 ≤ x := by rcases m1 with h | h <;> omega
              rcases m1 with ⟨rfl, rfl⟩ | ⟨m1, m2, m3⟩
              · obtain ⟨K, hK⟩ : ∃ K, k = K + 1 := ⟨k - 1, by omega⟩
                have : ∀ f a, f ≠ 0 → spec_l4Read.l24 k (spec_l4Read.rec k D) f b (deep : Int) 0 0 (q : Int) 0 0 a = some (((), (q : Int), 0), a) := by
                  intro f a hf
                  obtain ⟨f, rfl⟩ : ∃ j, f = j + 1 := ⟨f - 1, by omega⟩
                  simp only [spec_l4Read.l24, decide_eq_false (show ¬ ((0 : Int) < 0) by omega), cond_false, Option.bind_some]
                simp only [Int.toNat_zero, prParts]
                exact ⟨hq, this k _ (by omega)⟩
              · have hp := sparts k (spec_l4Read.rec k D) b y deep (by omega) (fun p c => prN d b y 0 p c)
                  (fun p acc hp hc => ih D (deep + 1) y 0 p acc (by omega) (by omega) (isKind_of_item m3) hp hc)
                  (fun p c q Y hc h => by
                    obtain ⟨_, n, X, rfl, _, _, _, h5⟩ := prN_enc d b y 0 p c q Y (isKind_of_item m3) hc h
                    exact h5) x hx x.toNat k 0 q (acc ++ [(9, id, y, ⟨#[]⟩, x, ())]) (by omega) (by omega) (by omega) hq (by simp; omega)
                rw [List.length_append, List.length_singleton] at hp
                cases hr2 : prParts (fun p c => prN d b y 0 p c) x.toNat q (acc.length + 1) with
                | bad e => rw [hr2] at hp; exact hp
                | ok q' Y =>
                  rw [hr2] at hp
                  obtain ⟨h1, h2⟩ := hp
                  exact ⟨h1, by rw [h2]; simp⟩
          · rw [if_neg h9]
            simp only [beqF h9, cond_false]
            by_cases h12 : kind = 12
            · subst h12
              simp only [if_true, show ((12 : Int) == 12) = true from rfl, cond_true]
              have hf := sfields k hk (spec_l4Read.rec k D) b hl hb deep (by omega) (fun t id p c => prN d b t id p c)
                (fun t id p acc ht hp hc => ih D (deep + 1) t id p acc (by omega) (by omega) ht hp hc)
                (fun t id p c q Y ht hc h => by
                  obtain ⟨_, n, X, rfl, _, _, _, h5⟩ := prN_enc d b t id p c q Y ht hc h
                  exact h5) id acc 1002 k 0 p 0 [] (by omega) (by omega) (by omega) (by omega) hp (by simp; omega) (by omega)
              rw [List.length_nil, Nat.add_zero] at hf
              rw [show (acc ++ [((12 : Int), id, (0 : Int), (⟨#[]⟩ : ByteArray), (0 : Int), ())] : List TNode) = acc ++ sn id 0 :: [] from rfl]
              cases hr : prFields (fun t id p c => prN d b t id p c) b 1002 0 p (acc.length + 1) with
              | bad e => rw [hr] at hf; exact hf
              | ok q' x =>
                obtain ⟨m, Y⟩ := x
                rw [hr] at hf
                obtain ⟨hq', e1⟩ := hf
                refine ⟨hq', ?_⟩
                rw [show ((0 : Nat) : Int) = 0 from rfl] at e1
                rw [e1]
                simp [sn]
            · rw [if_neg h12]
              simp only [beqF h12, cond_false]
              exact ⟨hp, trivial⟩
end Go.Law
end

section
/- Trees: what is read of bytes that are cut off. -/
set_option linter.unusedVariables false
set_option linter.unusedSimpArgs false
namespace Go.Law
open Go.Am Go.Fn

theorem prParts_mono {S : Nat → Nat → Res (List TNode)} (ih : ∀ p c q Y, S p c = .ok q Y → p ≤ q) : ∀ (j p c q : Nat) (Y : List TNode), prParts S j p c = .ok q Y → p ≤ q := by
  intro j
  induction j with
  | zero =>
    intro p c q Y h
    simp only [prParts, Res.ok.injEq] at h
    omega
  | succ j ihj =>
    intro p c q Y h
    simp only [prParts] at h
    split at h
    · cases h
    · rename_i h1
      split at h
      · cases h
      · rename_i h2
        simp only [Res.ok.injEq] at h
        have := ih _ _ _ _ h1
        have := ihj _ _ _ _ h2
        omega

theorem prFields_mono {S : Int → Int → Nat → Nat → Res (List TNode)} {b : List Int} (ih : ∀ t id p c q Y, S t id p c = .ok q Y → p ≤ q) : ∀ (f : Nat) (last : Int) (p c q : Nat) (Y : Nat × List TNode), prFields S b f last p c = .ok q Y → p < q := by
  intro f
  induction f with
  | zero => intro last p c q Y h; cases h
  | succ f ihf =>
    intro last p c q Y h
    simp only [prFields] at h
    split at h
    · cases h
    · rename_i h1
      have := (prHead_ok h1).1
      split at h
      · simp only [Res.ok.injEq] at h
        omega
      · split at h
        · cases h
        · rename_i h2
          split at h
          · cases h
          · rename_i h3
            simp only [Res.ok.injEq] at h
            have := ih _ _ _ _ _ _ h2
            have := ihf _ _ _ _ _ h3
            omega

theorem prN_mono : ∀ (d : Nat) (b : List Int) (kind id : Int) (p c q : Nat) (Y : List TNode), prN d b kind id p c = .ok q Y → p ≤ q := by
  intro d
  induction d with
  | zero => intro b kind id p c q Y h; cases h
  | succ d ih =>
    intro b kind id p c q Y h
    simp only [prN] at h
    split at h
    · cases h
    · split at h
      · split at h
        · cases h
        · split at h
          · cases h
          · simp only [Res.ok.injEq] at h
            omega
      · split at h
        · split at h
          · cases h
          · rename_i hs
            simp only [Res.ok.injEq] at h
            have := (prText_ok hs).1
            omega
        · split at h
          · split at h
            · cases h
            · rename_i hm
              have := (prMany_ok hm).1
              split at h
              · cases h
              · rename_i hp
                simp only [Res.ok.injEq] at h
                have := prParts_mono (fun p c q Y h => ih b _ 0 p c q Y h) _ _ _ _ _ hp
                omega
          · split at h
            · split at h
              · cases h
              · rename_i hf
                simp only [Res.ok.injEq] at h
                have := prFields_mono (fun t id p c q Y h => ih b t id p c q Y h) _ _ _ _ _ _ hf
                omega
            · simp only [Res.ok.injEq] at h
              omega

end Go.Law
end

section
/- Trees: how many bytes they have, and how many have been read at least. -/
set_option linter.unusedVariables false
set_option linter.unusedSimpArgs false
namespace Go.Law
open Go.Am Go.Fn

def CostLe (d : Nat) (Y : List TNode) (m : Nat) : Prop := ∀ rest, (cost d (Y ++ rest)).2 = rest ∧ (cost d (Y ++ rest)).1 ≤ m
def CostPLe (d : Nat) (st : Bool) (c : Nat) (last : Int) (Y : List TNode) (m : Nat) : Prop := ∀ rest, (costP (cost d) st c last (Y ++ rest)).2 = rest ∧ (costP (cost d) st c last (Y ++ rest)).1 ≤ m

theorem CostPLe_cons {d : Nat} {st : Bool} {c : Nat} {last : Int} {x : TNode} {X Z : List TNode} {m1 m2 m : Nat} (h1 : CostLe d (x :: X) m1) (h2 : CostPLe d st c x.2.1 Z m2) (hm : (if st then (headB x last).length else 0) + m1 + m2 ≤ m) : CostPLe d st (c + 1) last ((x :: X) ++ Z) m := by
  intro rest
  obtain ⟨a1, a2⟩ := h1 (Z ++ rest)
  obtain ⟨b1, b2⟩ := h2 rest
  rw [List.append_assoc, List.cons_append]
  rw [List.cons_append] at a1 a2
  simp only [costP, a1]
  exact ⟨b1, by omega⟩

theorem prHead_len {b : List Int} (hb : Byt b) {p : Nat} {last : Int} {q : Nat} {t id : Int} (hl : 0 ≤ last) (h : prHead b p last = .ok q (t, id)) : q ≤ b.length ∧ (t ≠ 0 → ∀ x : TNode, x.2.1 = id → p + (headB x last).length ≤ q) := by
  unfold prHead at h
  split at h
  · cases h
  · rename_i y hy
    have hp : p < b.length := (List.getElem?_eq_some_iff.1 hy).1
    obtain ⟨y0, y1⟩ := hb y (List.mem_of_getElem? hy)
    split at h
    · simp only [Res.ok.injEq, Prod.mk.injEq] at h
      exact ⟨by omega, fun hh => by omega⟩
    · split at h
      · cases h
      · split at h
        · cases h
        · rename_i id' q' hm
          split at h
          · cases h
          · split at h
            · cases h
            · simp only [Res.ok.injEq, Prod.mk.injEq] at h
              obtain ⟨rfl, rfl, rfl⟩ := h
              split at hm
              · cases hg : gv (b.drop (p + 1)) with
                | none => rw [hg] at hm; cases hm
                | some z =>
                  rw [hg] at hm
                  obtain ⟨u, n⟩ := z
                  simp only [Option.map_some, Option.some.injEq, Prod.mk.injEq] at hm
                  obtain ⟨rfl, rfl⟩ := hm
                  obtain ⟨f1, f2, f3, f4, f5⟩ := gv_facts _ u n (fun x hx => hb x (List.mem_of_mem_drop hx)) hg
                  rw [List.length_drop] at f3
                  refine ⟨by omega, fun _ x hx => ?_⟩
                  unfold headB
                  split
                  · simp <;> omega
                  · rw [hx, zig_zagV f1, List.length_cons]; omega
              · simp only [Option.some.injEq, Prod.mk.injEq] at hm
                obtain ⟨rfl, rfl⟩ := hm
                refine ⟨by omega, fun _ x hx => ?_⟩
                unfold headB
                rw [if_pos (by omega)]
                simp

theorem prMany_len {b : List Int} (hb : Byt b) {p q : Nat} {many item : Int} (h : prMany b p = .ok q (many, item)) : q ≤ b.length ∧ p + (if many ≤ 14 then 1 else 1 + (uv many).length) ≤ q := by
  unfold prMany at h
  split at h
  · cases h
  · rename_i y hy
    have hp : p < b.length := (List.getElem?_eq_some_iff.1 hy).1
    obtain ⟨y0, y1⟩ := hb y (List.mem_of_getElem? hy)
    split at h
    · cases h
    · rename_i m q' hm
      have hq : q' ≤ b.length ∧ p + (if m ≤ 14 then 1 else 1 + (uv m).length) ≤ q' := by
        split at hm
        · cases hg : gv (b.drop (p + 1)) with
          | none => rw [hg] at hm; cases hm
          | some z =>
            rw [hg] at hm
            obtain ⟨u, n⟩ := z
            simp only [Option.map_some, Option.some.injEq, Prod.mk.injEq] at hm
            obtain ⟨rfl, rfl⟩ := hm
            obtain ⟨f1, f2, f3, f4, f5⟩ := gv_facts _ u n (fun x hx => hb x (List.mem_of_mem_drop hx)) hg
            rw [List.length_drop] at f3
            refine ⟨by omega, ?_⟩
            split <;> omega
        · simp only [Option.some.injEq, Prod.mk.injEq] at hm
          obtain ⟨rfl, rfl⟩ := hm
          refine ⟨by omega, ?_⟩
          rw [if_pos (by omega)]
          omega
      split at h
      · rename_i h0
        simp only [Res.ok.injEq, Prod.mk.injEq] at h
        obtain ⟨rfl, rfl, rfl⟩ := h
        rw [h0] at hq
        exact hq
      · split at h
        · cases h
        · split at h
          · cases h
          · simp only [Res.ok.injEq, Prod.mk.injEq] at h
            obtain ⟨rfl, rfl, rfl⟩ := h
            exact hq

theorem prText_len {b : List Int} (hb : Byt b) {p q : Nat} {s : ByteArray} (h : prText b p = .ok q s) : q ≤ b.length ∧ p + ((uv (s.size : Int)).length + s.size) ≤ q := by
  unfold prText at h
  split at h
  · cases h
  · rename_i u n hg
    obtain ⟨f1, f2, f3, f4, f5⟩ := gv_facts _ u n (fun x hx => hb x (List.mem_of_mem_drop hx)) hg
    rw [List.length_drop] at f3
    split at h
    · cases h
    · split at h
      · cases h
      · simp only [Res.ok.injEq] at h
        obtain ⟨rfl, rfl⟩ := h
        have hs : (intsStr (List.take u.toNat (List.drop (p + n) b))).size = u.toNat := by
          rw [intsStr_size, List.length_take, List.length_drop]; omega
        rw [hs, show ((u.toNat : Nat) : Int) = u by omega]
        omega

theorem prParts_cost {d : Nat} {b : List Int} {S : Nat → Nat → Res (List TNode)} (ih : ∀ p c q Y, p ≤ b.length → c ≤ 1500 → S p c = .ok q Y → p ≤ q ∧ q ≤ b.length ∧ Y ≠ [] ∧ c + Y.length ≤ 1500 ∧ CostLe d Y (q - p)) : ∀ (m p c : Nat) (last : Int) (q : Nat) (Y : List TNode), p ≤ b.length → c ≤ 1500 → prParts S m p c = .ok q Y → p ≤ q ∧ q ≤ b.length ∧ CostPLe d false m last Y (q - p) := by
  intro m
  induction m with
  | zero =>
    intro p c last q Y hp hc h
    simp only [prParts, Res.ok.injEq] at h
    obtain ⟨rfl, rfl⟩ := h
    exact ⟨Nat.le_refl _, hp, fun rest => ⟨rfl, Nat.zero_le _⟩⟩
  | succ m ihm =>
    intro p c last q Y hp hc h
    simp only [prParts] at h
    split at h
    · cases h
    · rename_i q1 Y1 h1
      split at h
      · cases h
      · rename_i q2 Z h2
        simp only [Res.ok.injEq] at h
        obtain ⟨rfl, rfl⟩ := h
        obtain ⟨a1, a2, a3, a4, a5⟩ := ih _ _ _ _ hp hc h1
        cases Y1 with
        | nil => exact (a3 rfl).elim
        | cons x X =>
          obtain ⟨b1, b2, b3⟩ := ihm _ _ x.2.1 _ _ a2 (by omega) h2
          exact ⟨by omega, b2, CostPLe_cons a5 b3 (by simp; omega)⟩

theorem prFields_cost {d : Nat} {b : List Int} (hb : Byt b) {S : Int → Int → Nat → Nat → Res (List TNode)} (ih : ∀ t id p c q Y, isKind t = true → p ≤ b.length → c ≤ 1500 → S t id p c = .ok q Y → p ≤ q ∧ q ≤ b.length ∧ (∃ x X, Y = x :: X ∧ x.2.1 = id) ∧ c + Y.length ≤ 1500 ∧ CostLe d Y (q - p)) : ∀ (f : Nat) (last : Int) (p c q m : Nat) (Y : List TNode), 0 ≤ last → p ≤ b.length → c ≤ 1500 → prFields S b f last p c = .ok q (m, Y) → p < q ∧ q ≤ b.length ∧ CostPLe d true m last Y (q - p - 1) := by
  intro f
  induction f with
  | zero => intro last p c q m Y hl hp hc h; cases h
  | succ f ihf =>
    intro last p c q m Y hl hp hc h
    simp only [prFields] at h
    split at h
    · cases h
    · rename_i q1 t id h1
      obtain ⟨a1, a2⟩ := prHead_ok h1
      obtain ⟨l1, l2⟩ := prHead_len hb hl h1
      split at h
      · simp only [Res.ok.injEq, Prod.mk.injEq] at h
        obtain ⟨rfl, rfl, rfl⟩ := h
        exact ⟨a1, l1, fun rest => ⟨rfl, Nat.zero_le _⟩⟩
      · rename_i ht
        rcases a2 with a2 | ⟨a2, _, a3, a4, a5⟩
        · exact (ht a2).elim
        · split at h
          · cases h
          · rename_i q2 Y1 h2
            split at h
            · cases h
            · rename_i q3 m' Z h3
              simp only [Res.ok.injEq, Prod.mk.injEq] at h
              obtain ⟨rfl, rfl, rfl⟩ := h
              obtain ⟨c1, c2, ⟨x, X, rfl, hx⟩, c4, c5⟩ := ih _ _ _ _ _ _ a2 l1 hc h2
              obtain ⟨b1, b2, b3⟩ := ihf _ _ _ _ _ _ (by omega) c2 (by omega) h3
              rw [← hx] at b3
              have := l2 ht x hx
              exact ⟨by omega, b2, CostPLe_cons c5 b3 (by simp; omega)⟩

theorem prN_cost : ∀ (d : Nat) (b : List Int) (hb : Byt b) (kind id : Int) (p c q : Nat) (Y : List TNode), isKind kind = true → p ≤ b.length → c ≤ 1500 → prN d b kind id p c = .ok q Y → q ≤ b.length ∧ CostLe d Y (q - p) := by
  intro d
  induction d with
  | zero => intro b hb kind id p c q Y hk hp hc h; cases h
  | succ d ih =>
    intro b hb kind id p c q Y hk hp hc h
    have ihS : ∀ t id p c q Y, isKind t = true → p ≤ b.length → c ≤ 1500 → prN d b t id p c = .ok q Y → p ≤ q ∧ q ≤ b.length ∧ (∃ x X, Y = x :: X ∧ x.2.1 = id) ∧ c + Y.length ≤ 1500 ∧ CostLe d Y (q - p) := by
      intro t id p c q Y hk hp hc h
      obtain ⟨a1, x, X, rfl, x1, x2, x3, x4⟩ := prN_enc d b t id p c q Y hk hc h
      obtain ⟨b1, b2⟩ := ih b hb t id p c q _ hk hp hc h
      exact ⟨a1, b1, ⟨x, X, rfl, x2⟩, x4, b2⟩
    simp only [prN] at h
    split at h
    · cases h
    · rename_i hc5
      split at h
      · rename_i h56
        split at h
        · cases h
        · rename_i u n hg
          obtain ⟨f1, f2, f3, f4, f5⟩ := gv_facts _ u n (fun x hx => hb x (List.mem_of_mem_drop hx)) hg
          rw [List.length_drop] at f3
          split at h
          · cases h
          · simp only [Res.ok.injEq] at h
            obtain ⟨rfl, rfl⟩ := h
            refine ⟨by omega, fun rest => ?_⟩
            simp only [List.cons_append, List.nil_append, cost, if_pos h56, zig_zagV f1]
            exact ⟨trivial, by omega⟩
      · rename_i h56
        split at h
        · rename_i h8
          split at h
          · cases h
          · rename_i q' s hs
            simp only [Res.ok.injEq] at h
            obtain ⟨rfl, rfl⟩ := h
            obtain ⟨s1, s2⟩ := prText_len hb hs
            refine ⟨s1, fun rest => ?_⟩
            simp only [List.cons_append, List.nil_append, cost, if_neg (show ¬ ((8 : Int) = 5 ∨ (8 : Int) = 6) by omega), if_true]
            exact ⟨trivial, by omega⟩
        · rename_i h8
          split at h
          · rename_i h9
            split at h
            · cases h
            · rename_i q1 many item hm
              obtain ⟨m0, m1⟩ := prMany_ok hm
              obtain ⟨l0, l1⟩ := prMany_len hb hm
              split at h
              · cases h
              · rename_i q2 Y' hq
                simp only [Res.ok.injEq] at h
                obtain ⟨rfl, rfl⟩ := h
                have key : q1 ≤ q2 ∧ q2 ≤ b.length ∧ CostPLe d false many.toNat 0 Y' (q2 - q1) := by
                  rcases m1 with ⟨rfl, rfl⟩ | ⟨m1, m2, m3⟩
                  · simp only [Int.toNat_zero, prParts, Res.ok.injEq] at hq
                    obtain ⟨rfl, rfl⟩ := hq
                    exact ⟨Nat.le_refl _, l0, fun rest => ⟨rfl, Nat.zero_le _⟩⟩
                  · refine prParts_cost (d := d) (b := b) (fun p c q Y hp hc h => ?_) _ _ _ 0 _ _ l0 (by omega) hq
                    obtain ⟨c1, c2, ⟨x, X, c3, _⟩, c4, c5⟩ := ihS _ _ _ _ _ _ (isKind_of_item m3) hp hc h
                    exact ⟨c1, c2, by rw [c3]; simp, c4, c5⟩
                obtain ⟨k0, k1, k2⟩ := key
                refine ⟨k1, fun rest => ?_⟩
                obtain ⟨e1, e2⟩ := k2 rest
                simp only [List.cons_append, cost, if_neg (show ¬ ((9 : Int) = 5 ∨ (9 : Int) = 6) by omega), if_neg (show ¬ ((9 : Int) = 8) by omega), if_true]
                exact ⟨e1, by omega⟩
          · rename_i h9
            split at h
            · rename_i h12
              split at h
              · cases h
              · rename_i q1 m Y' hf
                simp only [Res.ok.injEq] at h
                obtain ⟨rfl, rfl⟩ := h
                obtain ⟨k0, k1, k2⟩ := prFields_cost (d := d) hb ihS _ _ _ _ _ _ _ (Int.le_refl 0) hp (by omega) hf
                refine ⟨k1, fun rest => ?_⟩
                obtain ⟨e1, e2⟩ := k2 rest
                simp only [List.cons_append, cost, if_neg (show ¬ ((12 : Int) = 5 ∨ (12 : Int) = 6) by omega), if_neg (show ¬ ((12 : Int) = 8) by omega), if_neg (show ¬ ((12 : Int) = 9) by omega), if_true, Int.toNat_natCast]
                exact ⟨e1, by omega⟩
            · rename_i h12
              simp only [Res.ok.injEq] at h
              obtain ⟨rfl, rfl⟩ := h
              refine ⟨hp, fun rest => ?_⟩
              simp only [List.cons_append, List.nil_append, cost, if_neg h56, if_neg h8, if_neg h9, if_neg h12]
              exact ⟨trivial, by omega⟩
end Go.Law
end

section
/- Trees: the program and the reference read the same of any bytes. -/
set_option linter.unusedVariables false
set_option linter.unusedSimpArgs false
namespace Go.Law
open Go.Am Go.Fn

theorem isz {x : Int} (h0 : -1000000000000 ≤ x) (h1 : x ≤ 1000000000000) : I64 x := ⟨by omega, by omega⟩

theorem wfn_mk {k id num m : Int} {t : ByteArray} (h1 : I64 k) (h2 : I64 id) (h3 : I64 num) (h4 : I64 m) (h5 : t.size ≤ 1073741824) : WfN (k, id, num, t, m, ()) := ⟨h1, h2, h3, h4, h5⟩
theorem i8 : I64 8 := ⟨by decide, by decide⟩
theorem i9 : I64 9 := ⟨by decide, by decide⟩
theorem i12 : I64 12 := ⟨by decide, by decide⟩

theorem prParts_wf {S : Nat → Nat → Res (List TNode)} (ih : ∀ p c q Y, S p c = .ok q Y → ∀ n, n ∈ Y → WfN n) : ∀ (m p c q : Nat) (Y : List TNode), prParts S m p c = .ok q Y → ∀ n, n ∈ Y → WfN n := by
  intro m
  induction m with
  | zero =>
    intro p c q Y h n hn
    simp only [prParts, Res.ok.injEq] at h
    obtain ⟨_, rfl⟩ := h
    cases hn
  | succ m ihm =>
    intro p c q Y h n hn
    simp only [prParts] at h
    split at h
    · cases h
    · rename_i h1
      split at h
      · cases h
      · rename_i h2
        simp only [Res.ok.injEq] at h
        obtain ⟨_, rfl⟩ := h
        rcases List.mem_append.1 hn with hn | hn
        · exact ih _ _ _ _ h1 n hn
        · exact ihm _ _ _ _ h2 n hn

theorem prFields_wf {S : Int → Int → Nat → Nat → Res (List TNode)} {b : List Int} (ih : ∀ t id p c q Y, isKind t = true → 0 ≤ id → id ≤ 1000 → S t id p c = .ok q Y → ∀ n, n ∈ Y → WfN n) : ∀ (f : Nat) (last : Int) (p c q m : Nat) (Y : List TNode), prFields S b f last p c = .ok q (m, Y) → m ≤ f ∧ ∀ n, n ∈ Y → WfN n := by
  intro f
  induction f with
  | zero => intro last p c q m Y h; cases h
  | succ f ihf =>
    intro last p c q m Y h
    simp only [prFields] at h
    split at h
    · cases h
    · rename_i q1 t id h1
      obtain ⟨a1, a2⟩ := prHead_ok h1
      split at h
      · simp only [Res.ok.injEq, Prod.mk.injEq] at h
        obtain ⟨_, rfl, rfl⟩ := h
        exact ⟨by omega, fun n hn => by cases hn⟩
      · rename_i ht
        rcases a2 with a2 | ⟨a2, _, a3, a4, a5⟩
        · exact (ht a2).elim
        · split at h
          · cases h
          · rename_i h2
            split at h
            · cases h
            · rename_i h3
              simp only [Res.ok.injEq, Prod.mk.injEq] at h
              obtain ⟨_, rfl, rfl⟩ := h
              obtain ⟨g1, g2⟩ := ihf _ _ _ _ _ _ h3
              refine ⟨by omega, fun n hn => ?_⟩
              rcases List.mem_append.1 hn with hn | hn
              · exact ih _ _ _ _ _ _ a2 (by omega) a5 h2 n hn
              · exact g2 n hn

theorem prN_wf : ∀ (d : Nat) (b : List Int) (kind id : Int) (p c q : Nat) (Y : List TNode), isKind kind = true → 0 ≤ id → id ≤ 1000 → prN d b kind id p c = .ok q Y → ∀ n, n ∈ Y → WfN n := by
  intro d
  induction d with
  | zero => intro b kind id p c q Y _ _ _ h; cases h
  | succ d ih =>
    intro b kind id p c q Y hk h0 h1 h
    have hkb : I64 kind := by rcases kind_cases hk with e | e | e | e | e | e | e <;> subst e <;> exact ⟨by decide, by decide⟩
    have hid : I64 id := isz (by omega) (by omega)
    have hz : I64 0 := ⟨by decide, by decide⟩
    have he : (⟨#[]⟩ : ByteArray).size ≤ 1073741824 := by decide
    have mk : ∀ (x : TNode) (Y : List TNode), WfN x → (∀ n, n ∈ Y → WfN n) → ∀ n, n ∈ x :: Y → WfN n := fun x Y hx hY n hn => by
      rcases List.mem_cons.1 hn with rfl | hn
      · exact hx
      · exact hY n hn
    have nil : ∀ n : TNode, n ∈ ([] : List TNode) → WfN n := fun n hn => by cases hn
    simp only [prN] at h
    split at h
    · cases h
    · split at h
      · split at h
        · cases h
        · split at h
          · cases h
          · simp only [Res.ok.injEq] at h
            obtain ⟨_, rfl⟩ := h
            exact mk _ _ (wfn_mk hkb hid (zagV_i64 _) hz he) nil
      · split at h
        · split at h
          · cases h
          · rename_i s hs
            obtain ⟨_, s2⟩ := prText_ok hs
            simp only [Res.ok.injEq] at h
            obtain ⟨_, rfl⟩ := h
            exact mk _ _ (wfn_mk i8 hid hz hz (by omega)) nil
        · split at h
          · split at h
            · cases h
            · rename_i many item hm
              obtain ⟨_, m1⟩ := prMany_ok hm
              split at h
              · cases h
              · rename_i hp
                simp only [Res.ok.injEq] at h
                obtain ⟨_, rfl⟩ := h
                rcases m1 with ⟨rfl, rfl⟩ | ⟨m1, m2, m3⟩
                · simp only [Int.toNat_zero, prParts, Res.ok.injEq] at hp
                  obtain ⟨_, rfl⟩ := hp
                  exact mk _ _ (wfn_mk i9 hid hz hz he) nil
                · refine mk _ _ (wfn_mk i9 hid ?_ (isz (by omega) (by omega)) he) (prParts_wf (fun p c q Y h => ih b item 0 p c q Y (isKind_of_item m3) (by omega) (by omega) h) _ _ _ _ _ hp)
                  rcases kind_cases (isKind_of_item m3) with e | e | e | e | e | e | e <;> subst e <;> exact ⟨by decide, by decide⟩
          · split at h
            · split at h
              · cases h
              · rename_i hf
                simp only [Res.ok.injEq] at h
                obtain ⟨_, rfl⟩ := h
                obtain ⟨g1, g2⟩ := prFields_wf (fun t id p c q Y hk h0 h1 h => ih b t id p c q Y hk h0 h1 h) _ _ _ _ _ _ _ hf
                exact mk _ _ (wfn_mk i12 hid hz (isz (by omega) (by omega)) he) g2
            · simp only [Res.ok.injEq] at h
              obtain ⟨_, rfl⟩ := h
              exact mk _ _ (wfn_mk hkb hid hz hz he) nil

def trd (b : List Int) (at_ : Int) : Res (List TNode) := if 0 ≤ at_ ∧ at_ < b.length then prN 12 b 12 0 at_.toNat 0 else .bad 1

structure ReadOk (b : List Int) (at_ : Int) (q : Nat) (Y : List TNode) : Prop where
  rng : 0 ≤ at_ ∧ at_ < q ∧ q ≤ b.length
  enc : Enc 12 Y
  root : ∃ X, ∃ n : TNode, Y = n :: X ∧ n.1 = 12 ∧ n.2.1 = 0
  len : Y.length ≤ 1500
  wf : ∀ n, n ∈ Y → WfN n

theorem trd_ok {b : List Int} (hl : b.length < 4611686018427387904) (hb : Byt b) {at_ : Int} {q : Nat} {Y : List TNode} (h : trd b at_ = .ok q Y) : ReadOk b at_ q Y := by
  unfold trd at h
  split at h
  · rename_i hr
    obtain ⟨a1, n, X, e1, e2, e3, e4, e5⟩ := prN_enc 12 b 12 0 _ 0 q Y (by decide) (by omega) h
    have hlt : at_.toNat < q := by
      simp only [prN] at h
      simp only [if_neg (show ¬ (0 : Nat) = 1500 by omega), if_neg (show ¬ ((12 : Int) = 5 ∨ (12 : Int) = 6) by omega), if_neg (show ¬ ((12 : Int) = 8) by omega), if_neg (show ¬ ((12 : Int) = 9) by omega), if_true] at h
      split at h
      · cases h
      · rename_i hf
        simp only [Res.ok.injEq] at h
        obtain ⟨rfl, rfl⟩ := h
        exact prFields_mono (fun t id p c q Y h => prN_mono 11 b t id p c q Y h) _ _ _ _ _ _ hf
    have hq := (prN_cost 12 b hb 12 0 _ 0 q Y (by decide) (by omega) (by omega) h).1
    exact ⟨⟨hr.1, by omega, hq⟩, e4, ⟨X, n, e1, e2, e3⟩, by omega, prN_wf 12 b 12 0 _ 0 q Y (by decide) (by omega) (by omega) h⟩
  · cases h

variable (k : Nat)

theorem treeRead_eq (hk : 2000 ≤ k) (b : List Int) (hl : b.length < 4611686018427387904) (hb : Byt b) (at_ : Int) :
    match trd b at_ with
    | .bad e => e ≠ 0 ∧ spec_TreeRead k b at_ = some (((), 0, e), []) ∧ impl_TreeRead k b at_ = some (((), 0, e), [])
    | .ok q Y => spec_TreeRead k b at_ = some (((), (q : Int), 0), Y) ∧ impl_TreeRead k b at_ = some (((), (q : Int), 0), Y) := by
  unfold trd spec_TreeRead impl_TreeRead
  simp only [cst, within_eq]
  by_cases hr : 0 ≤ at_ ∧ at_ < b.length
  · rw [if_pos hr]
    have c1 : (decide ((0 : Int) ≤ at_) && decide (at_ ≤ IntKind.wrap .i64 ((b.length : Int) - 1))) = true := by
      rw [w64 (by omega) (by omega)]
      simp
      omega
    rw [decide_eq_false (show ¬ at_ < 0 by omega), decide_eq_false (show ¬ at_ ≥ (b.length : Int) by omega), c1]
    simp only [Bool.or_self, Option.bind_some, cond_false, Bool.not_true]
    obtain ⟨p, rfl⟩ := Int.eq_ofNat_of_zero_le hr.1
    rw [Int.toNat_natCast]
    have hs := srdN k hk b hl hb 12 k 1 12 0 p [] (by omega) (by omega) (by decide) (by omega) (by simp)
    have hi := irdN k hk b hl hb 12 k 1 12 0 p [] (by omega) (by omega) (by decide) (by omega) (by simp)
    have es : ∀ x, spec_l4Read k b (p : Int) 12 0 1 [] = x ↔ spec_l4Read.rec k k b (p : Int) 12 0 ((1 : Nat) : Int) [] = x := fun x => Iff.rfl
    have ei : ∀ x, impl_treeReader_node k 12 0 1 (b, (p : Int), (), 0, ()) [] = x ↔ (impl_treeReader_node.rec k k).1 12 0 ((1 : Nat) : Int) (rdE b p 0) [] = x := fun x => Iff.rfl
    rw [List.length_nil] at hs hi
    unfold SNode at hs
    unfold INode at hi
    cases h : prN 12 b 12 0 p 0 with
    | bad e =>
      rw [h] at hs hi
      obtain ⟨he, q, l, e1⟩ := hs
      obtain ⟨_, q', l', _, e2⟩ := hi
      rw [(es _).2 e1, (ei _).2 e2]
      simp only [Option.bind_some, bneT he, cond_true]
      exact ⟨he, trivial, trivial⟩
    | ok q Y =>
      rw [h] at hs hi
      obtain ⟨_, e1⟩ := hs
      obtain ⟨_, e2⟩ := hi
      rw [(es _).2 e1, (ei _).2 e2]
      simp only [Option.bind_some, bneF rfl, cond_false, List.nil_append]
      exact ⟨trivial, trivial⟩
  · rw [if_neg hr]
    have c1 : (decide ((0 : Int) ≤ at_) && decide (at_ ≤ IntKind.wrap .i64 ((b.length : Int) - 1))) = false := by
      rw [w64 (by omega) (by omega), Bool.eq_false_iff]
      intro q
      simp only [Bool.and_eq_true, decide_eq_true_eq] at q
      omega
    have c2 : (decide (at_ < 0) || decide (at_ ≥ (b.length : Int))) = true := by
      simp only [Bool.or_eq_true, decide_eq_true_eq]
      omega
    rw [c1, c2]
    simp only [Option.bind_some, cond_true, Bool.not_false]
    exact ⟨by decide, trivial, trivial⟩

end Go.Law
end

section
/- The foot of bytes, by both. -/
set_option linter.unusedVariables false
set_option linter.unusedSimpArgs false
namespace Go.Law
open Go.Am Go.Fn

abbrev TFoot := ((Unit × Int × Unit × Unit) × Int × Bool) × (List TCol) × (List TGroupMeta)
abbrev noFoot : TFoot := ((((), 0, (), ()), 0, false), ([], []))

def FootFit (cols : List TCol) (G : List TGroupMeta) : Prop := cols.length ≤ 20 ∧ G.length ≤ 40 ∧ ∀ g, g ∈ G → g.2.1.length ≤ 1500 ∧ ∀ c, c ∈ g.2.1 → c.2.2.2.2.2.1.length ≤ 1500

theorem noFit : FootFit [] [] := ⟨by simp, by simp, fun g hg => by cases hg⟩

theorem metaRead_eq (k : Nat) (hk : 2000000 ≤ k) (b : List Int) (hl : b.length < 4611686018427387904) (hb : Byt b) (at_ : Int) : ∃ r : TFoot, spec_MetaRead k b at_ = some r ∧ impl_MetaRead k b at_ = some r ∧ FootFit r.2.1 r.2.2 ∧ 0 ≤ r.1.2.1 ∧ r.1.2.1 ≤ b.length := by
  have hr := treeRead_eq k (by omega) b hl hb at_
  unfold spec_MetaRead impl_MetaRead
  cases h : trd b at_ with
  | bad c =>
    rw [h] at hr
    obtain ⟨hc, e1, e2⟩ := hr
    simp only [e1, e2, Option.bind_some, bneT hc, cond_true]
    exact ⟨noFoot, rfl, rfl, noFit, by decide, by simp⟩
  | ok q Y =>
    rw [h] at hr
    obtain ⟨e1, e2⟩ := hr
    have g := trd_ok hl hb h
    obtain ⟨r, m1, m2, m3, m4, m5, m6⟩ := metaFrom_eq k hk Y g.wf (by have := g.len; omega)
    simp only [e1, e2, Option.bind_some, bneF rfl, cond_false, m1, m2]
    have := g.rng
    cases r.1.2 with
    | false =>
      simp only [Bool.not_false, cond_true]
      exact ⟨noFoot, rfl, rfl, noFit, by decide, by simp⟩
    | true =>
      simp only [Bool.not_true, cond_false]
      exact ⟨_, rfl, rfl, ⟨m4, m5, m6⟩, by simp, by simp; omega⟩
end Go.Law
end

section
/- Words of bytes, by both. -/
set_option linter.unusedVariables false
set_option linter.unusedSimpArgs false
namespace Go.Law
open Go.Am Go.Fn

def wv : List Int → Nat
  | [] => 0
  | c :: r => c.toNat + 256 * wv r

theorem wv_lt : ∀ (l : List Int), (∀ x, x ∈ l → 0 ≤ x ∧ x < 256) → wv l < 2 ^ (8 * l.length)
  | [], _ => by simp [wv]
  | c :: r, h => by
    have h1 := wv_lt r (fun x hx => h x (by simp [hx]))
    obtain ⟨h2, h3⟩ := h c (by simp)
    simp only [wv, List.length_cons]
    have : 2 ^ (8 * (r.length + 1)) = 256 * 2 ^ (8 * r.length) := by rw [Nat.mul_add, Nat.pow_add]; simp [Nat.mul_comm]
    omega

theorem word_loop (k : Nat) (b : List Int) (p n : Nat) (hn : n ≤ 8) (hl : p + n ≤ b.length) (hb : b.length < 4611686018427387904) (hby : ∀ x, x ∈ b → 0 ≤ x ∧ x < 256) : ∀ (m f i acc : Nat), i + m = n → m < f → acc < 2 ^ (8 * i) →
    spec_WordGet.l5 k f b (p : Int) (n : Int) (IntKind.wrap .i64 (acc : Int)) (i : Int) = some (IntKind.wrap .i64 ((acc + wv ((b.drop (p + i)).take m) * 2 ^ (8 * i) : Nat) : Int), ((p + n : Nat) : Int), true) ∧
    impl_WordGet.l5 k f b (p : Int) (n : Int) (IntKind.wrap .i64 (acc : Int)) (n : Int) (i : Int) = some (IntKind.wrap .i64 ((acc + wv ((b.drop (p + i)).take m) * 2 ^ (8 * i) : Nat) : Int), ((p + n : Nat) : Int), true) := by
  intro m
  induction m with
  | zero =>
    intro f i acc hi hf ha
    obtain ⟨f, rfl⟩ : ∃ q, f = q + 1 := ⟨f - 1, by omega⟩
    have e : IntKind.wrap .i64 ((p : Int) + (n : Int)) = ((p + n : Nat) : Int) := by rw [w64 (by omega) (by omega)]; omega
    simp only [spec_WordGet.l5, impl_WordGet.l5, decide_eq_false (show ¬ ((i : Int) < (n : Int)) by omega), cond_false, e, List.take_zero, wv, Nat.zero_mul, Nat.add_zero]
    exact ⟨trivial, trivial⟩
  | succ m ih =>
    intro f i acc hi hf ha
    obtain ⟨f, rfl⟩ : ∃ q, f = q + 1 := ⟨f - 1, by omega⟩
    obtain ⟨c, hc, hc2⟩ := drop_cons_of (show p + i < b.length by omega)
    obtain ⟨c0, c1⟩ := hby c (List.mem_of_getElem? hc2)
    have e1 : IntKind.wrap .i64 ((p : Int) + (i : Int)) = ((p + i : Nat) : Int) := by rw [w64 (by omega) (by omega)]; omega
    have e2 : IntKind.wrap .i64 (8 * (i : Int)) = ((8 * i : Nat) : Int) := by rw [w64 (by omega) (by omega)]; omega
    have e3 : IntKind.wrap .i64 ((i : Int) + 1) = ((i + 1 : Nat) : Int) := by rw [w64 (by omega) (by omega)]; omega
    have ec : IntKind.wrap .i64 c = ((c.toNat : Nat) : Int) := by rw [w64 (by omega) (by omega)]; omega
    have hP8 : 2 ^ (8 * (i + 1)) = 256 * 2 ^ (8 * i) := by rw [Nat.mul_add, Nat.pow_add]; simp [Nat.mul_comm]
    have hle : 2 ^ (8 * (i + 1)) ≤ 2 ^ 64 := Nat.pow_le_pow_right (by omega) (by omega)
    have hlt : acc + c.toNat * 2 ^ (8 * i) < 2 ^ (8 * (i + 1)) := by
      rw [hP8]
      have : c.toNat * 2 ^ (8 * i) ≤ 255 * 2 ^ (8 * i) := Nat.mul_le_mul_right _ (by omega)
      omega
    have eor := or_shl .i64 (a := acc) (b := c.toNat) (i := 8 * i) (show 8 * i ≤ 64 by omega) ha (by show _ < 2 ^ 64; omega)
    have hg : rdL b ((p + i : Nat) : Int) = some c := by rw [rdL_nat]; exact hc2
    simp only [spec_WordGet.l5, impl_WordGet.l5, decide_eq_true (show (i : Int) < (n : Int) by omega), cond_true, e1, hg, Option.bind_some, e2, decide_eq_true (show (0 : Int) ≤ ((8 * i : Nat) : Int) by omega), ec, eor, e3]
    obtain ⟨i1, i2⟩ := ih f (i + 1) _ (by omega) (by omega) hlt
    have hw : acc + c.toNat * 2 ^ (8 * i) + wv ((b.drop (p + (i + 1))).take m) * 2 ^ (8 * (i + 1)) = acc + wv ((b.drop (p + i)).take (m + 1)) * 2 ^ (8 * i) := by
      rw [hc, List.take_succ_cons, wv, hP8, ← Nat.add_assoc]
      grind
    rw [hw] at i1 i2
    exact ⟨i1, i2⟩

theorem word4 (k : Nat) (hk : 100 ≤ k) (b : List Int) (p : Nat) (hl : p + 4 ≤ b.length) (hb : b.length < 4611686018427387904) (hby : ∀ x, x ∈ b → 0 ≤ x ∧ x < 256) :
    ∃ v : Nat, v < 4294967296 ∧ spec_WordGet k b (p : Int) 4 = some ((v : Int), ((p + 4 : Nat) : Int), true) ∧ impl_WordGet k b (p : Int) 4 = some ((v : Int), ((p + 4 : Nat) : Int), true) := by
  have hlt := wv_lt ((b.drop p).take 4) (fun x hx => hby x (List.mem_of_mem_drop (List.mem_of_mem_take hx)))
  have hlen : ((b.drop p).take 4).length = 4 := by rw [List.length_take, List.length_drop]; omega
  rw [hlen] at hlt
  have hlt : wv ((b.drop p).take 4) < 4294967296 := hlt
  obtain ⟨l1, l2⟩ := word_loop k b p 4 (by omega) hl hb hby 4 k 0 0 (by omega) (by omega) (by simp)
  rw [show IntKind.wrap .i64 ((0 : Nat) : Int) = 0 by decide, show ((0 : Nat) : Int) = 0 from rfl, show ((4 : Nat) : Int) = 4 from rfl] at l1 l2
  simp only [Nat.zero_add, Nat.add_zero, Nat.mul_zero, Nat.pow_zero, Nat.mul_one] at l1 l2
  rw [w64 (by omega) (by omega)] at l1 l2
  refine ⟨_, hlt, ?_, ?_⟩
  · unfold spec_WordGet
    have e : IntKind.wrap .i64 ((b.length : Int) - (p : Int)) = (b.length : Int) - p := w64 (by omega) (by omega)
    simp only [l1In_eq, show (decide ((1 : Int) ≤ 4) && decide ((4 : Int) ≤ 8)) = true by decide, Bool.not_true, cond_false, Option.bind_some, decide_eq_false (show ¬ ((p : Int) < 0) by omega), decide_eq_false (show ¬ ((p : Int) > (b.length : Int)) by omega), e, decide_eq_false (show ¬ ((b.length : Int) - p < 4) by omega)]
    exact l1
  · unfold impl_WordGet
    have e : IntKind.wrap .i64 ((b.length : Int) - 4) = (b.length : Int) - 4 := w64 (by omega) (by omega)
    simp only [within_eq, show (decide ((1 : Int) ≤ 4) && decide ((4 : Int) ≤ 8)) = true by decide, Bool.not_true, cond_false, Option.bind_some, decide_eq_false (show ¬ ((p : Int) < 0) by omega), e, decide_eq_false (show ¬ ((p : Int) > (b.length : Int) - 4) by omega)]
    exact l2
end Go.Law
end

section
/- The foot of a file, by both. -/
set_option linter.unusedVariables false
set_option linter.unusedSimpArgs false
namespace Go.Law
open Go.Am Go.Fn

theorem fileMeta_eq (k : Nat) (hk : 2000000 ≤ k) (b : List Int) (hb : Byt b) (hl : b.length < 4611686018427387904) : ∃ r, spec_FileMeta k b = some r ∧ impl_FileMeta k b = some r ∧ FootFit r.2.1 r.2.2 := by
  unfold spec_FileMeta impl_FileMeta
  simp only [l1In_eq, within_eq, Option.bind_some]
  by_cases hin : 12 ≤ b.length ∧ b.length ≤ 60000
  · rw [show (decide ((12 : Int) ≤ (b.length : Int)) && decide ((b.length : Int) ≤ 60000)) = true by simp; omega]
    have e4 : IntKind.wrap .i64 ((b.length : Int) - 4) = ((b.length - 4 : Nat) : Int) := by rw [w64 (by omega) (by omega)]; omega
    have e8 : IntKind.wrap .i64 ((b.length : Int) - 8) = ((b.length - 8 : Nat) : Int) := by rw [w64 (by omega) (by omega)]; omega
    have e8' : IntKind.wrap .i64 (((b.length - 4 : Nat) : Int) - 4) = ((b.length - 8 : Nat) : Int) := by rw [w64 (by omega) (by omega)]; omega
    have e12 : IntKind.wrap .i64 ((b.length : Int) - 12) = ((b.length - 12 : Nat) : Int) := by rw [w64 (by omega) (by omega)]; omega
    simp only [Bool.not_true, cond_false, e4, e8, e8', e12]
    rw [inSl_ok (by omega) (by omega) (by omega), cond_true, inSl_ok (by omega) (by omega) (by omega), cond_true]
    simp only [cst, Option.bind_some]
    cases (!eqS (intsStr (cutL b 0 4)) (⟨#[80, 65, 82, 49]⟩ : ByteArray) || !eqS (intsStr (cutL b ((b.length - 4 : Nat) : Int) (b.length : Int))) (⟨#[80, 65, 82, 49]⟩ : ByteArray)) with
    | true =>
      simp only [cond_true]
      exact ⟨_, rfl, rfl, noFit⟩
    | false =>
      obtain ⟨v, hv, w1, w2⟩ := word4 k (by omega) b (b.length - 8) (by omega) hl hb
      simp only [cond_false, w1, w2, Option.bind_some]
      by_cases hs : (v : Int) > ((b.length - 12 : Nat) : Int)
      · rw [decide_eq_true hs, cond_true, cond_true]
        exact ⟨_, rfl, rfl, noFit⟩
      · have es : IntKind.wrap .i64 (((b.length - 8 : Nat) : Int) - (v : Int)) = ((b.length - 8 - v : Nat) : Int) := by rw [w64 (by omega) (by omega)]; omega
        rw [decide_eq_false hs, cond_false, cond_false, es, inSl_ok (by omega) (by omega) (by omega), cond_true, cond_true]
        have hcb : Byt (cutL b ((b.length - 8 - v : Nat) : Int) ((b.length - 8 : Nat) : Int)) := fun x hx => by
          unfold cutL at hx
          exact hb x (List.mem_of_mem_take (List.mem_of_mem_drop hx))
        have hcl : (cutL b ((b.length - 8 - v : Nat) : Int) ((b.length - 8 : Nat) : Int)).length < 4611686018427387904 := by
          unfold cutL
          rw [List.length_drop, List.length_take]
          omega
        obtain ⟨r, m1, m2, m3, _⟩ := metaRead_eq k hk _ hcl hcb 0
        simp only [m1, m2, Option.bind_some]
        cases (!r.1.2.2 || (r.1.2.1 != (v : Int))) with
        | true =>
          simp only [cond_true]
          exact ⟨_, rfl, rfl, noFit⟩
        | false =>
          simp only [cond_false]
          exact ⟨_, rfl, rfl, m3⟩
  · rw [show (decide ((12 : Int) ≤ (b.length : Int)) && decide ((b.length : Int) ≤ 60000)) = false by rw [Bool.eq_false_iff]; intro q; simp only [Bool.and_eq_true, decide_eq_true_eq] at q; omega]
    simp only [Bool.not_false, cond_true]
    exact ⟨_, rfl, rfl, noFit⟩
end Go.Law
end

section
/- What the exact laws do around a call: copies, marks, and looks. -/
set_option linter.unusedVariables false
set_option linter.unusedSimpArgs false
namespace Go.Law
open Go.Am Go.Fn
variable (k : Nat)


theorem w1 {x : Int} {c : Int} (h : I64 x) (hc : 0 ≤ c) (hb : x + c < 9223372036854775808) : IntKind.wrap .i64 (x + c) = x + c := w64 (by have := h.1; omega) hb

/-! ### the text of a mark -/
theorem markTextLoop : ∀ (f n : Nat) (t : Int) (acc : ByteArray), t < 10 ^ f → f < n → acc.size + f ≤ 1000 → t < 9223372036854775808 → ∃ s, laws_markText.l4 k n t acc = some s ∧ s.size ≤ 1001 := by
  intro f
  induction f with
  | zero =>
    intro n t acc ht hn ha h64
    obtain ⟨n, rfl⟩ : ∃ j, n = j + 1 := ⟨n - 1, by omega⟩
    have ht : t < 1 := by simpa using ht
    simp only [laws_markText.l4, decide_eq_false (show ¬ t > 0 by omega), cond_false]
    rw [lim_ok (by show 1 + acc.size ≤ _; omega), cond_true]
    exact ⟨_, rfl, by rw [ByteArray.size_append]; show 1 + acc.size ≤ _; omega⟩
  | succ f ih =>
    intro n t acc ht hn ha h64
    obtain ⟨n, rfl⟩ : ∃ j, n = j + 1 := ⟨n - 1, by omega⟩
    by_cases h : t > 0
    · simp only [laws_markText.l4, decide_eq_true h, cond_true]
      rw [lim_ok (by rw [intsStr_size]; simp; omega), cond_true, Int.tdiv_eq_ediv_of_nonneg (by omega), w64 (show -9223372036854775808 ≤ t / 10 by omega) (by omega)]
      refine ih n (t / 10) _ ?_ (by omega) (by rw [ByteArray.size_append, intsStr_size]; simp; omega) (by omega)
      have hp : (10 : Int) ^ (f + 1) = 10 ^ f * 10 := Int.pow_succ 10 f
      omega
    · simp only [laws_markText.l4, decide_eq_false h, cond_false]
      rw [lim_ok (by show 1 + acc.size ≤ _; omega), cond_true]
      exact ⟨_, rfl, by rw [ByteArray.size_append]; show 1 + acc.size ≤ _; omega⟩

theorem markText_ok (hk : 100 ≤ k) (t : Int) (h : t < 9223372036854775808) : ∃ s, laws_markText k t = some s := by
  unfold laws_markText
  by_cases h0 : t ≤ 0
  · simp only [decide_eq_true h0, cond_true]
    exact ⟨_, rfl⟩
  · simp only [decide_eq_false h0, cond_false]
    obtain ⟨s, hs, _⟩ := markTextLoop k 19 k t ⟨#[]⟩ (by omega) (by omega) (by decide) h
    exact ⟨s, hs⟩

def mtx (t : Int) : ByteArray := (laws_markText k t).getD ⟨#[]⟩
theorem mtx_eq (hk : 100 ≤ k) (t : Int) (h : t < 9223372036854775808) : laws_markText k t = some (mtx k t) := by
  obtain ⟨s, hs⟩ := markText_ok k hk t h
  unfold mtx
  rw [hs]; rfl
end Go.Law
end

section
/- What the exact laws do around a call: rows of anything. -/
set_option linter.unusedVariables false
set_option linter.unusedSimpArgs false
namespace Go.Law
open Go.Am Go.Fn

def xtot {α : Type} (f : α → Nat) : List α → Nat
  | [] => 0
  | x :: r => f x + xtot f r
theorem xtot_le {α : Type} {f : α → Nat} {C : Nat} : ∀ (l : List α), (∀ x, x ∈ l → f x ≤ C) → xtot f l ≤ C * l.length
  | [], _ => Nat.zero_le _
  | x :: r, h => by
    have h1 := h x (List.mem_cons_self ..)
    have h2 := xtot_le r (fun y hy => h y (List.mem_cons_of_mem _ hy))
    simp only [xtot, List.length_cons, Nat.mul_add, Nat.mul_one]
    omega
def okL {α : Type} (P : α → Prop) (l : List α) : Prop := l.length ≤ 1048576 ∧ ∀ x, x ∈ l → P x
theorem okL.tot {α : Type} {P : α → Prop} {l : List α} (h : okL P l) {f : α → Nat} {C : Nat} (hc : ∀ x, P x → f x ≤ C) : xtot f l ≤ C * 1048576 := by
  have := xtot_le l (f := f) (C := C) (fun x hx => hc x (h.2 x hx))
  exact Nat.le_trans this (Nat.mul_le_mul_left _ h.1)

def mkL {α : Type} (mk : α → Int → α) (cnt : α → Nat) : List α → Int → List α
  | [], _ => []
  | x :: r, m => mk x m :: mkL mk cnt r (m + cnt x)
theorem nat1 {α : Type} (pre : List α) (h : pre.length ≤ 1048576) : IntKind.wrap .i64 ((pre.length : Int) + 1) = ((pre.length + 1 : Nat) : Int) := by rw [w64 (by omega) (by omega)]; omega
theorem ltMid {α : Type} (pre post : List α) (x : α) : decide ((pre.length : Int) < ((pre ++ x :: post).length : Int)) = true := decide_eq_true (by simp; omega)
theorem ltEnd {α : Type} (l : List α) : decide ((l.length : Int) < (l.length : Int)) = false := decide_eq_false (by omega)

theorem xto_gen {α : Type} (F : Nat → List α → Int → List α → Option (Unit × List α)) (z : α) (P : α → Prop)
    (h0 : ∀ n l o, F (n + 1) l (l.length : Int) o = some ((), o))
    (h1 : ∀ n pre x post o, P x → pre.length ≤ 1048576 → F (n + 1) (pre ++ x :: post) (pre.length : Int) (pre ++ z :: o) = F n (pre ++ x :: post) ((pre.length + 1 : Nat) : Int) (pre ++ x :: o)) :
    ∀ (post pre : List α) (n : Nat), post.length < n → pre.length + post.length ≤ 1048576 → (∀ x, x ∈ post → P x) → F n (pre ++ post) (pre.length : Int) (pre ++ List.replicate post.length z) = some ((), pre ++ post) := by
  intro post
  induction post with
  | nil =>
    intro pre n hn hl hP
    obtain ⟨n, rfl⟩ : ∃ j, n = j + 1 := ⟨n - 1, by omega⟩
    simp only [List.append_nil, List.length_nil, List.replicate_zero]
    exact h0 n pre pre
  | cons x post ih =>
    intro pre n hn hl hP
    obtain ⟨n, rfl⟩ : ∃ j, n = j + 1 := ⟨n - 1, by omega⟩
    simp only [List.length_cons] at hn hl
    have := ih (pre ++ [x]) n (by omega) (by simp; omega) (fun y hy => hP y (List.mem_cons_of_mem _ hy))
    rw [List.length_cons, List.replicate_succ, h1 n pre x post _ (hP x (List.mem_cons_self ..)) (by omega)]
    rw [List.length_append, List.length_singleton, List.append_assoc, List.singleton_append, List.append_assoc, List.singleton_append] at this
    exact this

theorem xeq_gen {α : Type} (F : Nat → List α → List α → Int → Option Bool) (P : α → Prop)
    (h0 : ∀ n l, F (n + 1) l l (l.length : Int) = some true)
    (h1 : ∀ n pre x post, P x → pre.length ≤ 1048576 → F (n + 1) (pre ++ x :: post) (pre ++ x :: post) (pre.length : Int) = F n (pre ++ x :: post) (pre ++ x :: post) ((pre.length + 1 : Nat) : Int)) :
    ∀ (post pre : List α) (n : Nat), post.length < n → pre.length + post.length ≤ 1048576 → (∀ x, x ∈ post → P x) → F n (pre ++ post) (pre ++ post) (pre.length : Int) = some true := by
  intro post
  induction post with
  | nil =>
    intro pre n hn hl hP
    obtain ⟨n, rfl⟩ : ∃ j, n = j + 1 := ⟨n - 1, by omega⟩
    simp only [List.append_nil]
    exact h0 n pre
  | cons x post ih =>
    intro pre n hn hl hP
    obtain ⟨n, rfl⟩ : ∃ j, n = j + 1 := ⟨n - 1, by omega⟩
    simp only [List.length_cons] at hn hl
    have := ih (pre ++ [x]) n (by omega) (by simp; omega) (fun y hy => hP y (List.mem_cons_of_mem _ hy))
    rw [h1 n pre x post (hP x (List.mem_cons_self ..)) (by omega)]
    rw [List.length_append, List.length_singleton, List.append_assoc, List.singleton_append] at this
    exact this

theorem xmark_gen {α : Type} (F : Nat → Int → Int → List α → Option (Int × List α)) (mk : α → Int → α) (cnt : α → Nat) (C : Nat) (P : α → Prop) (B : Int) (hC : ∀ x, P x → cnt x ≤ C)
    (h0 : ∀ n m l, F (n + 1) m (l.length : Int) l = some (m, l))
    (h1 : ∀ n m pre x post, P x → 0 ≤ m → m + cnt x ≤ B → pre.length ≤ 1048576 → F (n + 1) m (pre.length : Int) (pre ++ x :: post) = F n (m + cnt x) ((pre.length + 1 : Nat) : Int) (pre ++ mk x m :: post)) :
    ∀ (post pre : List α) (n : Nat) (m : Int), post.length < n → pre.length + post.length ≤ 1048576 → (∀ x, x ∈ post → P x) → 0 ≤ m → m + xtot cnt post ≤ B → F n m (pre.length : Int) (pre ++ post) = some (m + xtot cnt post, pre ++ mkL mk cnt post m) := by
  intro post
  induction post with
  | nil =>
    intro pre n m hn hl hP hm hB
    obtain ⟨n, rfl⟩ : ∃ j, n = j + 1 := ⟨n - 1, by omega⟩
    simp only [List.append_nil, xtot, mkL]
    rw [h0 n m pre]
    simp
  | cons x post ih =>
    intro pre n m hn hl hP hm hB
    obtain ⟨n, rfl⟩ : ∃ j, n = j + 1 := ⟨n - 1, by omega⟩
    simp only [List.length_cons, xtot] at hn hl hB
    have := ih (pre ++ [mk x m]) n (m + cnt x) (by omega) (by simp; omega) (fun y hy => hP y (List.mem_cons_of_mem _ hy)) (by omega) (by omega)
    rw [h1 n m pre x post (hP x (List.mem_cons_self ..)) hm (by omega) (by omega)]
    rw [List.length_append, List.length_singleton, List.append_assoc, List.singleton_append, List.append_assoc, List.singleton_append] at this
    rw [this]
    simp only [xtot, mkL]
    congr 2
    omega

theorem xheld_gen {α : Type} (F : Nat → List α → Int → Int → Option Int) (mk : α → Int → α) (cnt : α → Nat) (P : α → Prop) (B : Int)
    (h0 : ∀ n m l, F (n + 1) l m (l.length : Int) = some m)
    (h1 : ∀ n m pre x post, P x → 0 ≤ m → m + cnt x ≤ B → pre.length ≤ 1048576 → F (n + 1) (pre ++ mk x m :: post) m (pre.length : Int) = F n (pre ++ mk x m :: post) (m + cnt x) ((pre.length + 1 : Nat) : Int)) :
    ∀ (post pre : List α) (n : Nat) (m : Int), post.length < n → pre.length + post.length ≤ 1048576 → (∀ x, x ∈ post → P x) → 0 ≤ m → m + xtot cnt post ≤ B → F n (pre ++ mkL mk cnt post m) m (pre.length : Int) = some (m + xtot cnt post) := by
  intro post
  induction post with
  | nil =>
    intro pre n m hn hl hP hm hB
    obtain ⟨n, rfl⟩ : ∃ j, n = j + 1 := ⟨n - 1, by omega⟩
    simp only [List.append_nil, xtot, mkL]
    rw [h0 n m pre]
    simp
  | cons x post ih =>
    intro pre n m hn hl hP hm hB
    obtain ⟨n, rfl⟩ : ∃ j, n = j + 1 := ⟨n - 1, by omega⟩
    simp only [List.length_cons, xtot] at hn hl hB
    have := ih (pre ++ [mk x m]) n (m + cnt x) (by omega) (by simp; omega) (fun y hy => hP y (List.mem_cons_of_mem _ hy)) (by omega) (by omega)
    simp only [mkL, xtot]
    rw [h1 n m pre x _ (hP x (List.mem_cons_self ..)) hm (by omega) (by omega)]
    rw [List.length_append, List.length_singleton, List.append_assoc, List.singleton_append] at this
    rw [this]
    congr 1
    omega

end Go.Law
end

section
/- Copies, marks and looks. Printed by program. -/
set_option linter.unusedVariables false
set_option linter.unusedSimpArgs false
set_option maxRecDepth 4000
namespace Go.Law
open Go.Am Go.Fn
variable (k : Nat)

def okByte (x : Int) : Prop := 0 ≤ x ∧ x < 256

def cntByte (x : Int) : Nat := 1
def mkByte (k : Nat) (x : Int) (m : Int) : Int := IntKind.wrap .u8 m
theorem cntByte_le (x : Int) (h : okByte x) : cntByte x ≤ 1 := Nat.le_refl _
theorem xtoByteS (hk : 2000000 ≤ k) (l : List Int) (hl : okL okByte l) : laws_toByteS k l = some ((), l) := by
  unfold laws_toByteS
  have h := hl.1
  rw [okLen_ok (by omega) (by omega), cond_true]
  refine xto_gen (laws_toByteS.l3 k) (0 : Int) okByte ?_ ?_ l [] k (by omega) (by simpa using h) hl.2
  · intro n l o
    simp only [laws_toByteS.l3, ltEnd, cond_false]
  · intro n pre x post o hx hp
    simp only [laws_toByteS.l3, ltMid, cond_true, getMid, Option.bind_some, setMid, nat1 pre hp]

theorem xeqByteS (hk : 2000000 ≤ k) (l : List Int) (hl : okL okByte l) : laws_eqByteS k l l = some true := by
  unfold laws_eqByteS
  have h := hl.1
  simp only [bneF rfl, cond_false]
  refine xeq_gen (laws_eqByteS.l4 k) okByte ?_ ?_ l [] k (by omega) (by simpa using h) hl.2
  · intro n l
    simp only [laws_eqByteS.l4, ltEnd, cond_false]
  · intro n pre x post hx hp
    simp only [laws_eqByteS.l4, ltMid, cond_true, getMid, Option.bind_some, bneF rfl, eqS_iff, decide_true, Bool.not_true, cond_false, nat1 pre hp]

theorem xmarkByteS (hk : 2000000 ≤ k) (l : List Int) (hl : okL okByte l) (m : Int) (h0 : 0 ≤ m) (hm : m + (xtot cntByte l : Nat) ≤ 4611686018427387904) : laws_markByteS k m l = some (m + (xtot cntByte l : Nat), mkL (mkByte k) cntByte l m) := by
  unfold laws_markByteS
  have h := hl.1
  refine xmark_gen (laws_markByteS.l2 k) (mkByte k) cntByte 1 okByte 4611686018427387904 cntByte_le ?_ ?_ l [] k m (by omega) (by simpa using h) hl.2 h0 hm
  · intro n m l
    simp only [laws_markByteS.l2, ltEnd, cond_false]
  · intro n m pre x post hx h0 hm hp
    simp only [cntByte] at hm
    have e0 : IntKind.wrap .i64 (m + 1) = m + 1 := w64 (by omega) (by omega)
    have eN : m + 1 = m + (cntByte x : Nat) := by simp only [cntByte] <;> omega
    simp only [laws_markByteS.l2, ltMid, cond_true, getMid, Option.bind_some, setMid, e0, laws_markMeta, nat1 pre hp]
    rw [eN]
    rfl

def okInt (x : Int) : Prop := True

def cntInt (x : Int) : Nat := 1
def mkInt (k : Nat) (x : Int) (m : Int) : Int := m
theorem cntInt_le (x : Int) (h : okInt x) : cntInt x ≤ 1 := Nat.le_refl _
theorem xeqIntS (hk : 2000000 ≤ k) (l : List Int) (hl : okL okInt l) : laws_eqIntS k l l = some true := by
  unfold laws_eqIntS
  have h := hl.1
  simp only [bneF rfl, cond_false]
  refine xeq_gen (laws_eqIntS.l4 k) okInt ?_ ?_ l [] k (by omega) (by simpa using h) hl.2
  · intro n l
    simp only [laws_eqIntS.l4, ltEnd, cond_false]
  · intro n pre x post hx hp
    simp only [laws_eqIntS.l4, ltMid, cond_true, getMid, Option.bind_some, bneF rfl, eqS_iff, decide_true, Bool.not_true, cond_false, nat1 pre hp]

theorem xmarkIntS (hk : 2000000 ≤ k) (l : List Int) (hl : okL okInt l) (m : Int) (h0 : 0 ≤ m) (hm : m + (xtot cntInt l : Nat) ≤ 4611686018427387904) : laws_markIntS k m l = some (m + (xtot cntInt l : Nat), mkL (mkInt k) cntInt l m) := by
  unfold laws_markIntS
  have h := hl.1
  refine xmark_gen (laws_markIntS.l2 k) (mkInt k) cntInt 1 okInt 4611686018427387904 cntInt_le ?_ ?_ l [] k m (by omega) (by simpa using h) hl.2 h0 hm
  · intro n m l
    simp only [laws_markIntS.l2, ltEnd, cond_false]
  · intro n m pre x post hx h0 hm hp
    simp only [cntInt] at hm
    have e0 : IntKind.wrap .i64 (m + 1) = m + 1 := w64 (by omega) (by omega)
    have eN : m + 1 = m + (cntInt x : Nat) := by simp only [cntInt] <;> omega
    simp only [laws_markIntS.l2, ltMid, cond_true, getMid, Option.bind_some, setMid, e0, laws_markMeta, nat1 pre hp]
    rw [eN]
    rfl

theorem xheldIntS (hk : 2000000 ≤ k) (l : List Int) (hl : okL okInt l) (m : Int) (h0 : 0 ≤ m) (hm : m + (xtot cntInt l : Nat) ≤ 4611686018427387904) : laws_heldIntS k (mkL (mkInt k) cntInt l m) m = some (m + (xtot cntInt l : Nat)) := by
  unfold laws_heldIntS
  have h := hl.1
  refine xheld_gen (laws_heldIntS.l2 k) (mkInt k) cntInt okInt 4611686018427387904 ?_ ?_ l [] k m (by omega) (by simpa using h) hl.2 h0 hm
  · intro n m l
    simp only [laws_heldIntS.l2, ltEnd, cond_false]
  · intro n m pre x post hx h0 hm hp
    simp only [cntInt] at hm
    have e0 : IntKind.wrap .i64 (m + 1) = m + 1 := w64 (by omega) (by omega)
    have eN : m + 1 = m + (cntInt x : Nat) := by simp only [cntInt] <;> omega
    simp only [laws_heldIntS.l2, ltMid, cond_true]
    simp only [mkInt, getMid, Option.bind_some, eqS_iff, decide_true, Bool.not_true, cond_false, bneF rfl, bne_self_eq_false, e0, laws_heldMeta, nat1 pre hp]
    rw [eN]

def okChunk (x : TChunk) : Prop := okL okInt x.2.2.2.2.2.1
def cntChunk (x : TChunk) : Nat := 1 + 1 + 1 + 1 + 1 + xtot cntInt x.2.2.2.2.2.1
def mkChunk (k : Nat) (x : TChunk) (m : Int) : TChunk := (m, m + 1, m + 1 + 1, m + 1 + 1 + 1, m + 1 + 1 + 1 + 1, mkL (mkInt k) cntInt x.2.2.2.2.2.1 (m + 1 + 1 + 1 + 1 + 1), ())
theorem cntChunk_le (x : TChunk) (h : okChunk x) : cntChunk x ≤ 1048581 := by
  have h0 : okL okInt x.2.2.2.2.2.1 := h
  have g5 := okL.tot h0 cntInt_le
  unfold cntChunk
  omega
theorem xeqChunk (hk : 2000000 ≤ k) (x : TChunk) (hx : okChunk x) : laws_eqChunk k x x = some true := by
  have o0 : okL okInt x.2.2.2.2.2.1 := hx
  have k_o0 : okL okInt x.2.2.2.2.2.1 := o0
  simp only [bneF rfl, eqS_iff, decide_true, Bool.not_true, cond_false, Option.bind_some, bne_self_eq_false, beq_self_eq_true, laws_eqChunk, laws_eqCol, laws_eqGroupMeta, laws_eqMeta, xeqIntS k hk _ k_o0]

theorem xeqChunkS (hk : 2000000 ≤ k) (l : List TChunk) (hl : okL okChunk l) : laws_eqChunkS k l l = some true := by
  unfold laws_eqChunkS
  have h := hl.1
  simp only [bneF rfl, cond_false]
  refine xeq_gen (laws_eqChunkS.l4 k) okChunk ?_ ?_ l [] k (by omega) (by simpa using h) hl.2
  · intro n l
    simp only [laws_eqChunkS.l4, ltEnd, cond_false]
  · intro n pre x post hx hp
    simp only [laws_eqChunkS.l4, ltMid, cond_true, getMid, Option.bind_some, xeqChunk k hk x hx, Bool.not_true, cond_false, nat1 pre hp]

theorem xmarkChunkS (hk : 2000000 ≤ k) (l : List TChunk) (hl : okL okChunk l) (m : Int) (h0 : 0 ≤ m) (hm : m + (xtot cntChunk l : Nat) ≤ 4611686018427387904) : laws_markChunkS k m l = some (m + (xtot cntChunk l : Nat), mkL (mkChunk k) cntChunk l m) := by
  unfold laws_markChunkS
  have h := hl.1
  refine xmark_gen (laws_markChunkS.l2 k) (mkChunk k) cntChunk 1048581 okChunk 4611686018427387904 cntChunk_le ?_ ?_ l [] k m (by omega) (by simpa using h) hl.2 h0 hm
  · intro n m l
    simp only [laws_markChunkS.l2, ltEnd, cond_false]
  · intro n m pre x post hx h0 hm hp
    simp only [cntChunk] at hm
    have o0 : okL okInt x.2.2.2.2.2.1 := hx
    have k_o0 : okL okInt x.2.2.2.2.2.1 := o0
    have p5 : (0 : Int) ≤ (xtot cntInt x.2.2.2.2.2.1 : Nat) := Int.natCast_nonneg _
    have e0 : IntKind.wrap .i64 (m + 1) = m + 1 := w64 (by omega) (by omega)
    have e1 : IntKind.wrap .i64 (m + 1 + 1) = m + 1 + 1 := w64 (by omega) (by omega)
    have e2 : IntKind.wrap .i64 (m + 1 + 1 + 1) = m + 1 + 1 + 1 := w64 (by omega) (by omega)
    have e3 : IntKind.wrap .i64 (m + 1 + 1 + 1 + 1) = m + 1 + 1 + 1 + 1 := w64 (by omega) (by omega)
    have e4 : IntKind.wrap .i64 (m + 1 + 1 + 1 + 1 + 1) = m + 1 + 1 + 1 + 1 + 1 := w64 (by omega) (by omega)
    have r5 := xmarkIntS k hk x.2.2.2.2.2.1 k_o0 (m + 1 + 1 + 1 + 1 + 1) (by omega) (by omega)
    have eN : m + 1 + 1 + 1 + 1 + 1 + (xtot cntInt x.2.2.2.2.2.1 : Nat) = m + (cntChunk x : Nat) := by simp only [cntChunk] <;> omega
    simp only [laws_markChunkS.l2, ltMid, cond_true, getMid, Option.bind_some, setMid, e0, e1, e2, e3, e4, r5, laws_markMeta, nat1 pre hp]
    rw [eN]
    rfl

theorem xheldChunkS (hk : 2000000 ≤ k) (l : List TChunk) (hl : okL okChunk l) (m : Int) (h0 : 0 ≤ m) (hm : m + (xtot cntChunk l : Nat) ≤ 4611686018427387904) : laws_heldChunkS k (mkL (mkChunk k) cntChunk l m) m = some (m + (xtot cntChunk l : Nat)) := by
  unfold laws_heldChunkS
  have h := hl.1
  refine xheld_gen (laws_heldChunkS.l2 k) (mkChunk k) cntChunk okChunk 4611686018427387904 ?_ ?_ l [] k m (by omega) (by simpa using h) hl.2 h0 hm
  · intro n m l
    simp only [laws_heldChunkS.l2, ltEnd, cond_false]
  · intro n m pre x post hx h0 hm hp
    simp only [cntChunk] at hm
    have o0 : okL okInt x.2.2.2.2.2.1 := hx
    have k_o0 : okL okInt x.2.2.2.2.2.1 := o0
    have p5 : (0 : Int) ≤ (xtot cntInt x.2.2.2.2.2.1 : Nat) := Int.natCast_nonneg _
    have e0 : IntKind.wrap .i64 (m + 1) = m + 1 := w64 (by omega) (by omega)
    have e1 : IntKind.wrap .i64 (m + 1 + 1) = m + 1 + 1 := w64 (by omega) (by omega)
    have e2 : IntKind.wrap .i64 (m + 1 + 1 + 1) = m + 1 + 1 + 1 := w64 (by omega) (by omega)
    have e3 : IntKind.wrap .i64 (m + 1 + 1 + 1 + 1) = m + 1 + 1 + 1 + 1 := w64 (by omega) (by omega)
    have e4 : IntKind.wrap .i64 (m + 1 + 1 + 1 + 1 + 1) = m + 1 + 1 + 1 + 1 + 1 := w64 (by omega) (by omega)
    have r5 := xheldIntS k hk x.2.2.2.2.2.1 k_o0 (m + 1 + 1 + 1 + 1 + 1) (by omega) (by omega)
    have eN : m + 1 + 1 + 1 + 1 + 1 + (xtot cntInt x.2.2.2.2.2.1 : Nat) = m + (cntChunk x : Nat) := by simp only [cntChunk] <;> omega
    simp only [laws_heldChunkS.l2, ltMid, cond_true]
    simp only [mkChunk, getMid, Option.bind_some, eqS_iff, decide_true, Bool.not_true, cond_false, bneF rfl, bne_self_eq_false, e0, e1, e2, e3, e4, r5, decide_eq_false (show ¬ (m + 1 + 1 + 1 + 1 + 1 + (xtot cntInt x.2.2.2.2.2.1 : Nat) < 0) by omega), laws_heldMeta, nat1 pre hp]
    rw [eN]

def okCol (x : TCol) : Prop := True
def cntCol (x : TCol) : Nat := 1 + 1 + 1 + 1
def mkCol (k : Nat) (x : TCol) (m : Int) : TCol := (mtx k (m), m + 1, m + 1 + 1, m + 1 + 1 + 1, ())
theorem cntCol_le (x : TCol) (h : okCol x) : cntCol x ≤ 4 := by
  unfold cntCol
  omega
theorem xeqCol (hk : 2000000 ≤ k) (x : TCol) (hx : okCol x) : laws_eqCol k x x = some true := by
  simp only [bneF rfl, eqS_iff, decide_true, Bool.not_true, cond_false, Option.bind_some, bne_self_eq_false, beq_self_eq_true, laws_eqChunk, laws_eqCol, laws_eqGroupMeta, laws_eqMeta]

theorem xeqColS (hk : 2000000 ≤ k) (l : List TCol) (hl : okL okCol l) : laws_eqColS k l l = some true := by
  unfold laws_eqColS
  have h := hl.1
  simp only [bneF rfl, cond_false]
  refine xeq_gen (laws_eqColS.l4 k) okCol ?_ ?_ l [] k (by omega) (by simpa using h) hl.2
  · intro n l
    simp only [laws_eqColS.l4, ltEnd, cond_false]
  · intro n pre x post hx hp
    simp only [laws_eqColS.l4, ltMid, cond_true, getMid, Option.bind_some, xeqCol k hk x hx, Bool.not_true, cond_false, nat1 pre hp]

theorem xmarkColS (hk : 2000000 ≤ k) (l : List TCol) (hl : okL okCol l) (m : Int) (h0 : 0 ≤ m) (hm : m + (xtot cntCol l : Nat) ≤ 4611686018427387904) : laws_markColS k m l = some (m + (xtot cntCol l : Nat), mkL (mkCol k) cntCol l m) := by
  unfold laws_markColS
  have h := hl.1
  refine xmark_gen (laws_markColS.l2 k) (mkCol k) cntCol 4 okCol 4611686018427387904 cntCol_le ?_ ?_ l [] k m (by omega) (by simpa using h) hl.2 h0 hm
  · intro n m l
    simp only [laws_markColS.l2, ltEnd, cond_false]
  · intro n m pre x post hx h0 hm hp
    simp only [cntCol] at hm
    have e0 : IntKind.wrap .i64 (m + 1) = m + 1 := w64 (by omega) (by omega)
    have e1 : IntKind.wrap .i64 (m + 1 + 1) = m + 1 + 1 := w64 (by omega) (by omega)
    have e2 : IntKind.wrap .i64 (m + 1 + 1 + 1) = m + 1 + 1 + 1 := w64 (by omega) (by omega)
    have e3 : IntKind.wrap .i64 (m + 1 + 1 + 1 + 1) = m + 1 + 1 + 1 + 1 := w64 (by omega) (by omega)
    have eN : m + 1 + 1 + 1 + 1 = m + (cntCol x : Nat) := by simp only [cntCol] <;> omega
    simp only [laws_markColS.l2, ltMid, cond_true, getMid, Option.bind_some, setMid, e0, mtx_eq k (by omega) (m) (by omega), e1, e2, e3, laws_markMeta, nat1 pre hp]
    rw [eN]
    rfl

theorem xheldColS (hk : 2000000 ≤ k) (l : List TCol) (hl : okL okCol l) (m : Int) (h0 : 0 ≤ m) (hm : m + (xtot cntCol l : Nat) ≤ 4611686018427387904) : laws_heldColS k (mkL (mkCol k) cntCol l m) m = some (m + (xtot cntCol l : Nat)) := by
  unfold laws_heldColS
  have h := hl.1
  refine xheld_gen (laws_heldColS.l2 k) (mkCol k) cntCol okCol 4611686018427387904 ?_ ?_ l [] k m (by omega) (by simpa using h) hl.2 h0 hm
  · intro n m l
    simp only [laws_heldColS.l2, ltEnd, cond_false]
  · intro n m pre x post hx h0 hm hp
    simp only [cntCol] at hm
    have e0 : IntKind.wrap .i64 (m + 1) = m + 1 := w64 (by omega) (by omega)
    have e1 : IntKind.wrap .i64 (m + 1 + 1) = m + 1 + 1 := w64 (by omega) (by omega)
    have e2 : IntKind.wrap .i64 (m + 1 + 1 + 1) = m + 1 + 1 + 1 := w64 (by omega) (by omega)
    have e3 : IntKind.wrap .i64 (m + 1 + 1 + 1 + 1) = m + 1 + 1 + 1 + 1 := w64 (by omega) (by omega)
    have eN : m + 1 + 1 + 1 + 1 = m + (cntCol x : Nat) := by simp only [cntCol] <;> omega
    simp only [laws_heldColS.l2, ltMid, cond_true]
    simp only [mkCol, laws_heldColS.d4, getMid, Option.bind_some, eqS_iff, decide_true, Bool.not_true, cond_false, bneF rfl, bne_self_eq_false, e0, mtx_eq k (by omega) (m) (by omega), e1, e2, e3, laws_heldMeta, nat1 pre hp]
    rw [eN]

def okGroupMeta (x : TGroupMeta) : Prop := okL okChunk x.2.1
def cntGroupMeta (x : TGroupMeta) : Nat := 1 + xtot cntChunk x.2.1
def mkGroupMeta (k : Nat) (x : TGroupMeta) (m : Int) : TGroupMeta := (m, mkL (mkChunk k) cntChunk x.2.1 (m + 1), ())
theorem cntGroupMeta_le (x : TGroupMeta) (h : okGroupMeta x) : cntGroupMeta x ≤ 1099516870657 := by
  have h0 : okL okChunk x.2.1 := h
  have g1 := okL.tot h0 cntChunk_le
  unfold cntGroupMeta
  omega
theorem xeqGroupMeta (hk : 2000000 ≤ k) (x : TGroupMeta) (hx : okGroupMeta x) : laws_eqGroupMeta k x x = some true := by
  have o0 : okL okChunk x.2.1 := hx
  have k_o0 : okL okChunk x.2.1 := o0
  simp only [bneF rfl, eqS_iff, decide_true, Bool.not_true, cond_false, Option.bind_some, bne_self_eq_false, beq_self_eq_true, laws_eqChunk, laws_eqCol, laws_eqGroupMeta, laws_eqMeta, xeqChunkS k hk _ k_o0]

theorem xeqGroupMetaS (hk : 2000000 ≤ k) (l : List TGroupMeta) (hl : okL okGroupMeta l) : laws_eqGroupMetaS k l l = some true := by
  unfold laws_eqGroupMetaS
  have h := hl.1
  simp only [bneF rfl, cond_false]
  refine xeq_gen (laws_eqGroupMetaS.l4 k) okGroupMeta ?_ ?_ l [] k (by omega) (by simpa using h) hl.2
  · intro n l
    simp only [laws_eqGroupMetaS.l4, ltEnd, cond_false]
  · intro n pre x post hx hp
    simp only [laws_eqGroupMetaS.l4, ltMid, cond_true, getMid, Option.bind_some, xeqGroupMeta k hk x hx, Bool.not_true, cond_false, nat1 pre hp]

theorem xmarkGroupMetaS (hk : 2000000 ≤ k) (l : List TGroupMeta) (hl : okL okGroupMeta l) (m : Int) (h0 : 0 ≤ m) (hm : m + (xtot cntGroupMeta l : Nat) ≤ 4611686018427387904) : laws_markGroupMetaS k m l = some (m + (xtot cntGroupMeta l : Nat), mkL (mkGroupMeta k) cntGroupMeta l m) := by
  unfold laws_markGroupMetaS
  have h := hl.1
  refine xmark_gen (laws_markGroupMetaS.l2 k) (mkGroupMeta k) cntGroupMeta 1099516870657 okGroupMeta 4611686018427387904 cntGroupMeta_le ?_ ?_ l [] k m (by omega) (by simpa using h) hl.2 h0 hm
  · intro n m l
    simp only [laws_markGroupMetaS.l2, ltEnd, cond_false]
  · intro n m pre x post hx h0 hm hp
    simp only [cntGroupMeta] at hm
    have o0 : okL okChunk x.2.1 := hx
    have k_o0 : okL okChunk x.2.1 := o0
    have p1 : (0 : Int) ≤ (xtot cntChunk x.2.1 : Nat) := Int.natCast_nonneg _
    have e0 : IntKind.wrap .i64 (m + 1) = m + 1 := w64 (by omega) (by omega)
    have r1 := xmarkChunkS k hk x.2.1 k_o0 (m + 1) (by omega) (by omega)
    have eN : m + 1 + (xtot cntChunk x.2.1 : Nat) = m + (cntGroupMeta x : Nat) := by simp only [cntGroupMeta] <;> omega
    simp only [laws_markGroupMetaS.l2, ltMid, cond_true, getMid, Option.bind_some, setMid, e0, r1, laws_markMeta, nat1 pre hp]
    rw [eN]
    rfl

theorem xheldGroupMetaS (hk : 2000000 ≤ k) (l : List TGroupMeta) (hl : okL okGroupMeta l) (m : Int) (h0 : 0 ≤ m) (hm : m + (xtot cntGroupMeta l : Nat) ≤ 4611686018427387904) : laws_heldGroupMetaS k (mkL (mkGroupMeta k) cntGroupMeta l m) m = some (m + (xtot cntGroupMeta l : Nat)) := by
  unfold laws_heldGroupMetaS
  have h := hl.1
  refine xheld_gen (laws_heldGroupMetaS.l2 k) (mkGroupMeta k) cntGroupMeta okGroupMeta 4611686018427387904 ?_ ?_ l [] k m (by omega) (by simpa using h) hl.2 h0 hm
  · intro n m l
    simp only [laws_heldGroupMetaS.l2, ltEnd, cond_false]
  · intro n m pre x post hx h0 hm hp
    simp only [cntGroupMeta] at hm
    have o0 : okL okChunk x.2.1 := hx
    have k_o0 : okL okChunk x.2.1 := o0
    have p1 : (0 : Int) ≤ (xtot cntChunk x.2.1 : Nat) := Int.natCast_nonneg _
    have e0 : IntKind.wrap .i64 (m + 1) = m + 1 := w64 (by omega) (by omega)
    have r1 := xheldChunkS k hk x.2.1 k_o0 (m + 1) (by omega) (by omega)
    have eN : m + 1 + (xtot cntChunk x.2.1 : Nat) = m + (cntGroupMeta x : Nat) := by simp only [cntGroupMeta] <;> omega
    simp only [laws_heldGroupMetaS.l2, ltMid, cond_true]
    simp only [mkGroupMeta, getMid, Option.bind_some, eqS_iff, decide_true, Bool.not_true, cond_false, bneF rfl, bne_self_eq_false, e0, r1, decide_eq_false (show ¬ (m + 1 + (xtot cntChunk x.2.1 : Nat) < 0) by omega), laws_heldMeta, nat1 pre hp]
    rw [eN]

def okMeta (x : TMeta) : Prop := okL okCol x.1 ∧ okL okGroupMeta x.2.2.1
theorem xeqMeta (hk : 2000000 ≤ k) (x : TMeta) (hx : okMeta x) : laws_eqMeta k x x = some true := by
  obtain ⟨o0, o1⟩ := hx
  have k_o0 : okL okCol x.1 := o0
  have k_o1 : okL okGroupMeta x.2.2.1 := o1
  simp only [bneF rfl, eqS_iff, decide_true, Bool.not_true, cond_false, Option.bind_some, bne_self_eq_false, beq_self_eq_true, laws_eqChunk, laws_eqCol, laws_eqGroupMeta, laws_eqMeta, xeqColS k hk _ k_o0, xeqGroupMetaS k hk _ k_o1]

end Go.Law
end

section
/- Small facts that the exact laws share. -/
set_option linter.unusedVariables false
set_option linter.unusedSimpArgs false
namespace Go.Law
open Go.Am Go.Fn

theorem goodL {t : Ty} {e : TypeId} {P : t.Den → Prop} (hP : ∀ x, GoodP t x → P x) {l : List t.Den} (h : GoodP (.list e t) l) : l.length ≤ 9223372036854775807 ∧ ∀ x, x ∈ l → P x :=
  ⟨Nat.le_trans h.1 (by decide), fun x hx => hP x (h.2 x hx)⟩

end Go.Law
end

section
/- Bytes that come in as an argument. -/
set_option linter.unusedVariables false
set_option linter.unusedSimpArgs false
namespace Go.Law
open Go.Am Go.Fn

theorem u8_lit {x : Int} (h : (Lit.int .u8 x).wf = true) : 0 ≤ x ∧ x < 256 := by
  simp only [Lit.wf, Bool.and_eq_true, decide_eq_true_eq] at h
  have h1 : IntKind.min .u8 = 0 := by decide
  have h2 : IntKind.max .u8 = 255 := by decide
  rw [h1, h2] at h
  exact ⟨by omega, by omega⟩

theorem goodB {b : List Int} (h : GoodP (.list 0 (.int .u8)) b) : ∀ x, x ∈ b → 0 ≤ x ∧ x < 256 :=
  (goodL (t := .int .u8) (P := fun x => 0 ≤ x ∧ x < 256) (fun x hx => u8_lit hx) h).2
end Go.Law
end

section
/- FnExactFileMeta -/
set_option linter.unusedVariables false
set_option linter.unusedSimpArgs false
namespace Go.Law
open Go.Am Go.Fn

theorem fnExactFileMeta (b : List Int) (h : GoodP (.list 0 (.int .u8)) b) : ∃ k, laws_FnExactFileMeta k b = some true := by
  have g := goodB h
  clear h
  refine ⟨3000000, ?_⟩
  generalize hk : 3000000 = k
  have hk' : 2000000 ≤ k := by omega
  clear hk
  unfold laws_FnExactFileMeta
  by_cases c1 : (b.length : Int) > 1048576
  · rw [decide_eq_true c1]; rfl
  · have ob : okL okByte b := ⟨by omega, g⟩
    obtain ⟨r, e1, e2, ⟨e4, e5, e6⟩⟩ := fileMeta_eq k hk' b g (by omega)
    have ob2 : okL okCol r.2.1 := ⟨by omega, fun _ _ => trivial⟩
    have og : okL okGroupMeta r.2.2 := ⟨by omega, fun g hg => by
      obtain ⟨g1, g2⟩ := e6 g hg
      refine ⟨by omega, fun c hc => ?_⟩
      have := g2 c hc
      exact ⟨by omega, fun _ _ => trivial⟩⟩
    have om : okMeta (r.2.1, r.1.1.2.1, r.2.2, ()) := ⟨ob2, og⟩
    have n1 := okL.tot ob cntByte_le
    have n2 := okL.tot ob2 cntCol_le
    have n3 : xtot cntGroupMeta r.2.2 ≤ 1000000000000 := by
      have : ∀ x, x ∈ r.2.2 → cntGroupMeta x ≤ 20000000 := fun x hx => by
        obtain ⟨q1, q2⟩ := e6 x hx
        unfold cntGroupMeta
        have : xtot cntChunk x.2.1 ≤ 1505 * x.2.1.length := xtot_le x.2.1 (fun c hc => by
          have := q2 c hc
          unfold cntChunk
          have : xtot cntInt c.2.2.2.2.2.1 ≤ 1 * c.2.2.2.2.2.1.length := xtot_le _ (fun y hy => cntInt_le y trivial)
          omega)
        omega
      have := xtot_le r.2.2 this
      omega
    rw [decide_eq_false c1]
    simp only [cond_false, xtoByteS k hk' b ob, Option.bind_some, e1, e2, xeqMeta k hk' _ om, xeqByteS k hk' b ob, xmarkByteS k hk' b ob 1 (by omega) (by omega), beq_self_eq_true, Bool.not_true, cst, Bool.or_self, bneF rfl,
      decide_eq_false (show ¬ ((1 : Int) + (xtot cntByte b : Nat) < 0) by omega), laws_markMeta, laws_heldMeta, xmarkColS k hk' r.2.1 ob2 1 (by omega) (by omega), xmarkGroupMetaS k hk' r.2.2 og (1 + (xtot cntCol r.2.1 : Nat)) (by omega) (by omega),
      xheldColS k hk' r.2.1 ob2 1 (by omega) (by omega), xheldGroupMetaS k hk' r.2.2 og (1 + (xtot cntCol r.2.1 : Nat)) (by omega) (by omega), decide_eq_false (show ¬ ((1 : Int) + (xtot cntCol r.2.1 : Nat) < 0) by omega), decide_eq_false (show ¬ ((1 : Int) + (xtot cntCol r.2.1 : Nat) + (xtot cntGroupMeta r.2.2 : Nat) < 0) by omega)]
end Go.Law
end
