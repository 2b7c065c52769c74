/- A region's operations. -/
import Derived.Test.YtmdmkakkodeniaaAmOp
set_option linter.unusedVariables false
set_option linter.unusedSimpArgs false
namespace Go.Am

/-- the slots that none of them writes are as they were -/
def Tch (l : List Oper) (a a' : Act) : Prop := ∀ s, (∀ o, o ∈ l → o.dst ≠ some s) → a'.tmps.getD s undef = a.tmps.getD s undef

theorem Tch.refl (l : List Oper) (a : Act) : Tch l a a := fun _ _ => rfl
theorem Tch.trans {l : List Oper} {a b c : Act} (h : Tch l a b) (k : Tch l b c) : Tch l a c := fun s hs => (k s hs).trans (h s hs)
theorem Tch.sub {l l' : List Oper} {a b : Act} (h : Tch l a b) (hs : ∀ o, o ∈ l → o ∈ l') : Tch l' a b := fun s k => h s fun o ho => k o (hs o ho)

theorem put_other {a : Act} {d : Option Nat} {v : Value} {s : Nat} (h : d ≠ some s) : (a.put d v).tmps.getD s undef = a.tmps.getD s undef := by
  cases d with
  | none => rfl
  | some d =>
    simp only [Act.put, Array.getD_eq_getD_getElem?]
    rw [Array.getElem?_setIfInBounds_ne (by intro e; exact h (by rw [e]))]

theorem Tch.one {o : Oper} {a : Act} {v : Value} : Tch [o] a (a.put o.dst v) := fun s hs => put_other (hs o (List.mem_cons_self ..))

def DecOk (dec : List (Nat × Bool)) (a : Act) : Prop := ∀ s b, lookB dec s = some b → a.tmps.getD s undef = .bool b

theorem rmB_none (l : List (Nat × Bool)) : rmB none l = l := by cases l <;> rfl

theorem lookB_rm {d s : Nat} {b : Bool} : ∀ {l : List (Nat × Bool)}, lookB (rmB (some d) l) s = some b → s ≠ d ∧ lookB l s = some b
  | [], h => by cases h
  | x :: r, h => by
    simp only [rmB] at h
    split at h
    · rename_i hx
      have := lookB_rm h
      refine ⟨this.1, ?_⟩
      have hne : Nat.beq x.1 s = false := by
        cases e : Nat.beq x.1 s with
        | false => rfl
        | true => exact absurd ((Nat.eq_of_beq_eq_true e).symm.trans (Nat.eq_of_beq_eq_true hx)) this.1
      simp only [lookB, hne]; exact this.2
    · rename_i hx
      simp only [lookB] at h ⊢
      split at h
      · rename_i hs
        exact ⟨fun e => by rw [Nat.eq_of_beq_eq_true hs, e] at hx; simp at hx, h⟩
      · exact lookB_rm h

theorem DecOk.rm {dec : List (Nat × Bool)} {a a' : Act} {o : Oper} (h : DecOk dec a) (ht : Tch [o] a a') : DecOk (rmB o.dst dec) a' := by
  intro s b hl
  cases hd : o.dst with
  | none =>
    rw [hd, rmB_none] at hl
    rw [ht s (fun o' ho' => by simp at ho'; subst ho'; rw [hd]; simp)]
    exact h s b hl
  | some d =>
    rw [hd] at hl
    obtain ⟨h1, h2⟩ := lookB_rm hl
    rw [ht s (fun o' ho' => by simp at ho'; subst ho'; rw [hd]; simp; exact fun e => h1 e.symm)]
    exact h s b h2

theorem lookB_rmL {s : Nat} {b : Bool} : ∀ {l : List Oper} {dec : List (Nat × Bool)}, lookB (rmL l dec) s = some b → (∀ o, o ∈ l → o.dst ≠ some s) ∧ lookB dec s = some b
  | [], _, h => ⟨fun o ho => (List.not_mem_nil ho).elim, h⟩
  | o :: r, dec, h => by
    simp only [rmL] at h
    cases hd : o.dst with
    | none =>
      rw [hd, rmB_none] at h
      obtain ⟨h1, h2⟩ := lookB_rmL (l := r) h
      exact ⟨fun o' ho' => by rcases List.mem_cons.1 ho' with rfl | ho'; (rw [hd]; simp); exact h1 o' ho', h2⟩
    | some d =>
      rw [hd] at h
      obtain ⟨h0, h⟩ := lookB_rm h
      obtain ⟨h1, h2⟩ := lookB_rmL (l := r) h
      exact ⟨fun o' ho' => by rcases List.mem_cons.1 ho' with rfl | ho'; (rw [hd]; intro e; exact h0 (by simpa using e.symm)); exact h1 o' ho', h2⟩

theorem DecOk.rmL {dec : List (Nat × Bool)} {a a' : Act} {l : List Oper} (h : DecOk dec a) (ht : Tch l a a') : DecOk (rmL l dec) a' := by
  intro s b hl
  obtain ⟨h1, h2⟩ := lookB_rmL hl
  rw [ht s h1]
  exact h s b h2

theorem yielded_some {all : Array Oper} {tm : Array Value} {j s : Nat} {b : Bool} (hd : dstOf all j = some s) (h : tm.getD s undef = .bool b) : yielded all tm j = some b := by
  unfold yielded
  have h1 : (all[j]?).bind (·.dst) = some s := by
    unfold dstOf at hd
    cases e : all[j]? with
    | none => rw [e] at hd; cases hd
    | some o => rw [e] at hd; exact hd
  rw [h1]
  simp only [Option.bind_some]
  rw [Array.getD_eq_getD_getElem?] at h
  cases e : tm[s]? with
  | none => rw [e] at h; simp [undef] at h
  | some v => rw [e] at h; simp only [Option.getD_some] at h; subst h; rfl

theorem yielded_undef {all : Array Oper} {tm : Array Value} {j s : Nat} (hd : dstOf all j = some s) (h : tm.getD s undef = undef) : yielded all tm j = none := by
  unfold yielded
  have h1 : (all[j]?).bind (·.dst) = some s := by
    unfold dstOf at hd
    cases e : all[j]? with
    | none => rw [e] at hd; cases hd
    | some o => rw [e] at hd; exact hd
  rw [h1]
  simp only [Option.bind_some]
  rw [Array.getD_eq_getD_getElem?] at h
  cases e : tm[s]? with
  | none => rfl
  | some v => rw [e] at h; simp only [Option.getD_some] at h; subst h; rfl

theorem splitPick_spec {s : Nat} : ∀ {l : List Oper} {g r : List Oper} {p : Oper}, splitPick s l = some (g, p, r) → l = g ++ p :: r ∧ ∃ x y, p.op = .pick (.tmp s) x y
  | [], _, _, _, h => by cases h
  | o :: l, g, r, p, h => by
    simp only [splitPick] at h
    split at h
    · rename_i hp
      cases h
      refine ⟨rfl, ?_⟩
      split at hp
      · rename_i t x y ho
        obtain rfl := Nat.eq_of_beq_eq_true hp
        exact ⟨x, y, ho⟩
      · cases hp
    · split at h
      · rename_i g' p' q' h'
        cases h
        obtain ⟨h1, h2⟩ := splitPick_spec h'
        exact ⟨by rw [h1]; rfl, h2⟩
      · cases h

theorem elemN_iff (n : Nat) : ∀ l, skipB.elemN n l = true → n ∈ l
  | [], h => by cases h
  | x :: r, h => by
    simp only [skipB.elemN] at h
    split at h
    · rename_i e; rw [Nat.eq_of_beq_eq_true e]; exact List.mem_cons_self ..
    · exact List.mem_cons_of_mem _ (elemN_iff n r h)

section
variable {P : Program} {C : Ctx} {E0 E : Env} {Q : Exit → Act → World → Prop} {all : Array Oper}

theorem Inv.dead {N : Nat} {st : St} {a : Act} {o : Oper} {v : Value} (h : Inv N E0 E st a) : Inv N E0 E (bdead o st) (a.put o.dst v) := by
  unfold bdead
  cases hd : o.dst with
  | none => exact h
  | some d => exact ⟨h.rep.dead v, h.fr, h.defers, by simp [Act.put, h.size], h.nx⟩

theorem Inv.udead {N : Nat} {st : St} {a : Act} {o : Oper} (h : Inv N E0 E st a) : Inv N E0 E (udead o st) (a.put o.dst undef) := by
  unfold Am.udead
  cases hd : o.dst with
  | none => exact h
  | some d =>
    refine ⟨⟨fun s => ?_, h.rep.ob, h.rep.lt, h.rep.dj, h.rep.nd, h.rep.bb, h.rep.zb⟩, h.fr, h.defers, by simp [Act.put, h.size], h.nx⟩
    show VRep E st.ob st.nx (upd st.sl d (.tup .nil) s) _
    by_cases e : s = d
    · subst e
      rw [upd_same]
      have : (a.put (some s) undef).tmps.getD s undef = undef := by
        simp only [Act.put, Array.getD_eq_getD_getElem?]
        by_cases hlt : s < a.tmps.size
        · rw [Array.getElem?_setIfInBounds_self_of_lt hlt]; rfl
        · rw [Array.getElem?_eq_none (by simpa using Nat.le_of_not_lt hlt)]; rfl
      rw [this]
      exact ⟨[undef], ⟨[], rfl, rfl⟩, rfl⟩
    · rw [upd_other _ _ _ _ e, put_other (by simpa using fun h => e h.symm)]
      exact h.rep.sl s

/-- a way in which a region's operations come up, one by one, in the order of a list -/
structure Stp (P : Program) (C : Ctx) (Q : Exit → Act → World → Prop) (all : Array Oper) (W : List Oper → Act → World → Prop) : Prop where
  take : ∀ o l a w v, Region.wanted o (yielded all a.tmps) = true → still C o = true → (∀ u, (isLd o = false ∨ u = w) → (execOp a.eval o).run P u = .ok (.value v) u) → W l (a.put o.dst v) w → W (o :: l) a w
  doo : ∀ o l a w, Region.wanted o (yielded all a.tmps) = true → still C o = false → o.wp P a w (W l) Q → W (o :: l) a w
  skip : ∀ o l a w, Region.wanted o (yielded all a.tmps) = false → W l (a.put o.dst undef) w → W (o :: l) a w

theorem wp_ex {o : Oper} {a : Act} {w : World} {F : Prop} (h : o.wp P a w (fun _ _ => F) (fun _ _ _ => False)) : F := by
  unfold Oper.wp at h
  generalize (execOp a.eval o).run P w = q at h
  cases q with
  | ok n w' =>
    cases n <;> simp only [Oper.upon] at h <;> first | exact h | exact h.elim | skip
    · obtain ⟨e, w'', fr, hR, _⟩ := h []
      cases e with
      | returned v => exact hR
      | panicked c => exact hR.elim
      | outgrown => obtain ⟨_, _, hf⟩ := hR; exact hf.elim
    · obtain ⟨v, w'', hR, _⟩ := h default []
      exact hR
  | halt x w' => cases x <;> simp only [Oper.upon] at h <;> exact h.elim

variable {W : List Oper → Act → World → Prop}

/-- those that are left out -/
theorem skip_sound (hW : Stp P C Q all W) {s : Nat} {want : Bool} : ∀ (grp : List Oper) (acc : List Nat) (a : Act) (w : World) (rest : List Oper), skipB all s want acc grp = true → a.tmps.getD s undef = .bool (!want) →
    (∀ q, q ∈ acc → q ≠ s → a.tmps.getD q undef = undef) →
    (∀ a', Tch grp a a' → a'.tmps.size = a.tmps.size → a'.defers = a.defers → W rest a' w) → W (grp ++ rest) a w
  | [], acc, a, w, rest, _, _, _, hK => hK a (Tch.refl _ _) rfl rfl
  | o :: grp, acc, a, w, rest, h, hs, hacc, hK => by
    simp only [skipB, Bool.and_eq_true, Bool.not_eq_true'] at h
    obtain ⟨h1, h2, h3⟩ := h
    have hds : o.dst ≠ some s := by
      intro e; rw [e] at h1; simp [isD] at h1
    have hnw : Region.wanted o (yielded all a.tmps) = false := by
      split at h2
      · rename_i j w' hg
        split at h2
        · rename_i s' hd
          simp only [Bool.or_eq_true, Bool.and_eq_true, Bool.not_eq_true', beq_iff_eq] at h2
          unfold Region.wanted
          rw [hg]
          simp only
          rcases h2 with ⟨e1, e2⟩ | ⟨e1, e2⟩
          · obtain rfl := Nat.eq_of_beq_eq_true e1
            subst e2
            rw [yielded_some hd hs]
            cases w' <;> rfl
          · rw [yielded_undef hd (hacc _ (elemN_iff _ _ e2) (fun e => by rw [e] at e1; simp at e1))]
            rfl
        · cases h2
      · cases h2
    refine hW.skip _ _ _ _ hnw ?_
    refine skip_sound hW grp (consO o.dst acc) (a.put o.dst undef) w rest h3 (by rw [put_other hds]; exact hs) ?_ ?_
    · intro q hq hqs
      by_cases hqd : o.dst = some q
      · rw [hqd]
        simp only [Act.put, Array.getD_eq_getD_getElem?]
        by_cases hlt : q < a.tmps.size
        · rw [Array.getElem?_setIfInBounds_self_of_lt hlt]; rfl
        · rw [Array.getElem?_eq_none (by simpa using Nat.le_of_not_lt hlt)]; rfl
      · rw [put_other hqd]
        refine hacc q ?_ hqs
        cases hd : o.dst with
        | none => rw [hd] at hq; exact hq
        | some d =>
          rw [hd] at hq
          rcases List.mem_cons.1 hq with rfl | hq
          · exact absurd hd hqd
          · exact hq
    · intro a' ht hsz hdf
      refine hK a' ?_ (by rw [hsz]; cases o.dst <;> simp [Act.put]) (by rw [hdf]; cases o.dst <;> rfl)
      exact Tch.trans (Tch.one.sub (fun q hq => by simp at hq; subst hq; exact List.mem_cons_self ..)) (ht.sub fun q hq => List.mem_cons_of_mem _ hq)

theorem deadAll_sl : ∀ (grp : List Oper) (st : St) (s : Nat), (deadAll grp st).sl s = .dead ∨ ((deadAll grp st).sl s = st.sl s ∧ ∀ o, o ∈ grp → o.dst ≠ some s)
  | [], st, s => .inr ⟨rfl, fun o ho => (List.not_mem_nil ho).elim⟩
  | o :: grp, st, s => by
    simp only [deadAll, bdead]
    cases hd : o.dst with
    | none =>
      simp only
      rcases deadAll_sl grp st s with h | ⟨h1, h2⟩
      · exact .inl h
      · exact .inr ⟨h1, fun q hq => by rcases List.mem_cons.1 hq with rfl | hq; (rw [hd]; simp); exact h2 q hq⟩
    | some d =>
      simp only
      by_cases e : s = d
      · subst e; exact .inl (upd_same _ _ _)
      · rw [upd_other _ _ _ _ e]
        rcases deadAll_sl grp st s with h | ⟨h1, h2⟩
        · exact .inl h
        · exact .inr ⟨h1, fun q hq => by rcases List.mem_cons.1 hq with rfl | hq; (rw [hd]; intro k; exact e (by simpa using k.symm)); exact h2 q hq⟩

theorem deadAll_ob : ∀ (grp : List Oper) (st : St), (deadAll grp st).ob = st.ob ∧ (deadAll grp st).nx = st.nx
  | [], st => ⟨rfl, rfl⟩
  | o :: grp, st => by
    simp only [deadAll, bdead]
    cases o.dst with
    | none => exact deadAll_ob grp st
    | some d => exact deadAll_ob grp st

theorem Inv.deadAll {N : Nat} {st : St} {a a' : Act} {grp : List Oper} (h : Inv N E0 E st a) (ht : Tch grp a a') (hsz : a'.tmps.size = a.tmps.size) (hdf : a'.defers = a.defers) : Inv N E0 E (deadAll grp st) a' := by
  obtain ⟨h1, h2⟩ := deadAll_ob grp st
  refine ⟨⟨fun s => ?_, ?_, ?_, h.rep.dj, h.rep.nd, h.rep.bb, h.rep.zb⟩, h.fr, by rw [hdf]; exact h.defers, by rw [hsz]; exact h.size, by rw [h2]; exact h.nx⟩
  · rw [h1, h2]
    rcases deadAll_sl grp st s with h3 | ⟨h3, h4⟩
    · rw [h3]; trivial
    · rw [h3, ht s h4]; exact h.rep.sl s
  · rw [h1, h2]; exact h.rep.ob
  · rw [h1, h2]; exact h.rep.lt

theorem Grew.trans {a b c : World} (h : Grew a b) (k : Grew b c) : Grew a c :=
  ⟨k.os.trans h.os, k.tape.trans h.tape, k.output.trans h.output, Nat.le_trans h.size k.size, fun i hi => (k.block i (Nat.lt_of_lt_of_le hi h.size)).trans (h.block i hi)⟩

/-- the pick, once its group is done or left out -/
theorem pick_sound (hW : Stp P C Q all W) {st : St} {a a1 : Act} {pk : Oper} {X Y : Operand} {s d : Nat} {b v : Bool} {w1 : World} {dec : List (Nat × Bool)} {grp rest : List Oper} (hi : Inv C.N E0 E st a) (hg : Grew E.w w1) (ht : Tch grp a a1)
    (hsz : a1.tmps.size = a.tmps.size) (hdf : a1.defers = a.defers) (hop : pk.op = .pick (.tmp s) X Y) (hd : pk.dst = some d) (hdN : d < C.N) (hpk : pkOk all (rmL grp dec) pk = true) (hdec : DecOk dec a)
    (hs : a1.tmps.getD s undef = .bool b) (hv : (if b then a1.eval X else a1.eval Y) = .bool v)
    (hK : ∀ a2, Tch (grp ++ [pk]) a a2 → Inv C.N E0 { E with w := w1 } { (deadAll grp st) with sl := upd (deadAll grp st).sl d (.ro none ⟨.bool, v⟩) } a2 → DecOk (rmB (some d) (rmL grp dec)) a2 → W rest a2 w1) :
    W (pk :: rest) a1 w1 := by
  have hdec1 := hdec.rmL ht
  have hw : Region.wanted pk (yielded all a1.tmps) = true := by
    unfold Region.wanted
    unfold pkOk at hpk
    split at hpk
    · rename_i hg; rw [hg]
    · rename_i j w hg
      rw [hg]
      simp only
      split at hpk
      · rename_i s' hds
        split at hpk
        · rename_i v' hl
          rw [yielded_some hds (hdec1 _ _ hl)]
          simp only [beq_iff_eq] at hpk
          subst hpk
          simp
        · cases hpk
      · cases hpk
  have hinv : Inv C.N E0 { E with w := w1 } (deadAll grp st) a1 := (hi.grew hg).deadAll ht hsz hdf
  refine hW.take _ _ _ _ (.bool v) hw (by simp [still, hop]) ?_ ?_
  · intro u _
    unfold execOp
    have hc : a1.eval (.tmp s) = .bool b := hs
    simp only [hop, hc]
    cases b <;> simpa [asBool] using hv
  · have hput := hinv.put (d := d) (c := .ro none ⟨.bool, v⟩) (v := .bool v) hdN (VRep_bool ..)
    have htp : Tch [pk] a1 (a1.put pk.dst (.bool v)) := Tch.one
    rw [hd] at htp ⊢
    refine hK _ (Tch.trans (ht.sub fun q hq => List.mem_append.2 (.inl hq)) (htp.sub fun q hq => List.mem_append.2 (.inr hq))) hput ?_
    have := hdec1.rm (o := pk) (a' := a1.put (some d) (.bool v)) htp
    rw [hd] at this
    exact this

theorem opD_sound (hc : CtxOk P C) {R : Type} {o : Oper} {st : St} {k : St → Option R} {r : R} {a : Act} {K : Act → World → Prop} {g pure : Bool} {dec : List (Nat × Bool)} (hdec : DecOk dec a) (hgp : g = true → pure = true)
    (hk : opD C pure dec o st k = some r) (h : Inv C.N E0 E st a)
    (hK : ∀ st' E' v, k st' = some r → Inv C.N E0 E' st' (a.put o.dst v) → Pur P C g o a v E.w E'.w → K (a.put o.dst v) E'.w) : o.wp P a E.w K Q := by
  unfold opD at hk
  split at hk
  · rename_i z hz
    split at hk
    · rename_i c hc'
      have hp : ∃ s x y v, o.op = .pick (.tmp s) x y ∧ lookB dec s = some v ∧ z = (if v then x else y) := by
        unfold pickD at hz
        split at hz
        · rename_i s x y ho
          split at hz
          · rename_i hl; obtain rfl := Option.some.inj hz; exact ⟨s, _, y, true, ho, hl, rfl⟩
          · rename_i hl; obtain rfl := Option.some.inj hz; exact ⟨s, x, _, false, ho, hl, rfl⟩
          · cases hz
        · cases hz
      obtain ⟨s, x, y, v, ho, hl, hzz⟩ := hp
      subst hzz
      have hs := hdec s v hl
      refine quiet_sound (v := a.eval (if v then x else y)) hk h (fun u _ => ?_) (ev_sound hc' h.rep) hK
      have he : a.eval (.tmp s) = .bool v := hs
      unfold execOp
      simp only [ho, he]
      cases v <;> simp [asBool]
    · cases hk
  · exact opK_sound hc hgp hk h hK

theorem regK_sound (hc : CtxOk P C) (hW : Stp P C Q all W) : ∀ (n : Nat) (R : Type) (pure : Bool) (dec : List (Nat × Bool)) (l : List Oper) (st : St) (k : St → Option R) (r : R) (E : Env) (a : Act) (rest : List Oper) (g : Bool),
    regK C all R n pure dec l st k = some r → (g = true → pure = true) → Inv C.N E0 E st a → DecOk dec a →
    (∀ st' E' a', k st' = some r → Inv C.N E0 E' st' a' → (g = true → Grew E.w E'.w) → Tch l a a' → W rest a' E'.w) → W (l ++ rest) a E.w := by
  intro n
  induction n with
  | zero => intro R pure dec l st k r E a rest g hk; cases l <;> cases hk
  | succ n ih =>
    intro R pure dec l st k r E a rest g hk hgp hi hdec hK
    cases l with
    | nil => exact hK st E a hk hi (fun _ => Grew.refl _) (Tch.refl _ _)
    | cons o l =>
      -- an operation that is done
      have doit : Region.wanted o (yielded all a.tmps) = true → opD C pure dec o st (fun s1 => regK C all R n pure (rmB o.dst dec) l s1 k) = some r → W (o :: (l ++ rest)) a E.w := by
        intro hw hk
        have go : ∀ st' E' v, regK C all R n pure (rmB o.dst dec) l st' k = some r → Inv C.N E0 E' st' (a.put o.dst v) → (g = true → Grew E.w E'.w) → W (l ++ rest) (a.put o.dst v) E'.w := by
          intro st' E' v hk' hi' hg'
          refine ih R pure _ l st' k r E' _ rest g hk' hgp hi' (hdec.rm Tch.one) fun st'' E'' a'' hk'' hi'' hg'' ht => ?_
          exact hK st'' E'' a'' hk'' hi'' (fun e => (hg' e).trans (hg'' e)) (Tch.trans (Tch.one.sub fun q hq => by simp at hq; subst hq; exact List.mem_cons_self ..) (ht.sub fun q hq => List.mem_cons_of_mem _ hq))
        cases hs : still C o with
        | true =>
          refine wp_ex (P := P) (o := o) (a := a) (w := E.w) ?_
          refine opD_sound (g := g) hc hdec hgp hk hi fun st' E' v hk' hi' hpur => ?_
          obtain ⟨e1, e2⟩ := hpur.run hs
          have := go st' E' v hk' hi' hpur.grew
          rw [e1] at this
          exact hW.take _ _ _ _ v hw hs e2 this
        | false =>
          refine hW.doo _ _ _ _ hw hs ?_
          exact opD_sound (g := g) hc hdec hgp hk hi fun st' E' v hk' hi' hpur => go st' E' v hk' hi' hpur.grew
      simp only [regK] at hk
      show W (o :: (l ++ rest)) a E.w
      split at hk
      · rename_i hg
        exact doit (by simp [Region.wanted, hg]) hk
      · rename_i j want hg
        split at hk
        · cases hk
        · rename_i s hds
          split at hk
          · rename_i v hl
            have hy := yielded_some hds (hdec s v hl)
            split at hk
            · rename_i hvw
              simp only [beq_iff_eq] at hvw
              subst hvw
              exact doit (by simp [Region.wanted, hg, hy]) hk
            · rename_i hvw
              refine hW.skip _ _ _ _ (by simp only [Region.wanted, hg, hy]; cases v <;> cases want <;> first | rfl | (exact absurd rfl hvw) | (simp at hvw)) ?_
              refine ih R pure _ l (udead o st) k r E _ rest g hk hgp hi.udead (hdec.rm Tch.one) fun st'' E'' a'' hk'' hi'' hg'' ht => ?_
              exact hK st'' E'' a'' hk'' hi'' hg'' (Tch.trans (Tch.one.sub fun q hq => by simp at hq; subst hq; exact List.mem_cons_self ..) (ht.sub fun q hq => List.mem_cons_of_mem _ hq))
          · split at hk
            · rename_i b hsl
              split at hk
              · have hsv : a.tmps.getD s undef = .bool b := by
                  have := hi.rep.sl s
                  rw [hsl] at this
                  exact VRep_bool_inv this
                have hdec' : DecOk ((s, b) :: dec) a := by
                  intro q b' hl
                  simp only [lookB] at hl
                  split at hl
                  · rename_i e; cases hl; rw [← Nat.eq_of_beq_eq_true e]; exact hsv
                  · exact hdec q b' hl
                cases b with
                | true => exact ih R pure _ (o :: l) st k r E a rest g hk hgp hi hdec' hK
                | false => exact ih R pure _ (o :: l) st k r E a rest g hk hgp hi hdec' hK
              split at hk
              · rename_i grp pk rest' hsp
                obtain ⟨hl1, X', Y', hop⟩ := splitPick_spec hsp
                split at hk
                · rename_i x y hop'
                  rw [hop] at hop'
                  cases hop'
                  split at hk
                  · rename_i d hd
                    split at hk
                    · rename_i hchk
                      simp only [Bool.and_eq_true] at hchk
                      obtain ⟨hdN, hskip, hpk⟩ := hchk
                      have hdN := Nat.le_of_ble_eq_true hdN
                      have hsv : a.tmps.getD s undef = .bool b := by
                        have := hi.rep.sl s
                        rw [hsl] at this
                        exact VRep_bool_inv this
                      have hnos : ∀ q, q ∈ grp → q.dst ≠ some s := by
                        have : ∀ (grp : List Oper) (acc : List Nat), skipB all s want acc grp = true → ∀ q, q ∈ grp → q.dst ≠ some s := by
                          intro grp
                          induction grp with
                          | nil => intro acc _ q hq; simp at hq
                          | cons o' grp ih' =>
                            intro acc h q hq
                            simp only [skipB, Bool.and_eq_true, Bool.not_eq_true'] at h
                            rcases List.mem_cons.1 hq with rfl | hq
                            · intro e; rw [e] at h; simp [isD] at h
                            · exact ih' _ h.2.2 q hq
                        exact this grp [] hskip
                      obtain ⟨v, hv, hk⟩ := Option.bind_eq_some_iff.1 hk
                      rw [show (o :: (l ++ rest)) = grp ++ (pk :: (rest' ++ rest)) by rw [← List.cons_append, hl1]; simp]
                      have hmem : ∀ q, q ∈ grp ++ [pk] → q ∈ o :: l := by rw [hl1]; intro q hq; simp only [List.mem_append, List.mem_singleton] at hq; rcases hq with hq | rfl <;> simp [*]
                      -- behind the pick
                      have fin : ∀ w1 a2, Grew E.w w1 → Tch (grp ++ [pk]) a a2 → Inv C.N E0 { E with w := w1 } { (deadAll grp st) with sl := upd (deadAll grp st).sl d (.ro none ⟨.bool, v⟩) } a2 →
                          DecOk (rmB (some d) (rmL grp dec)) a2 → W (rest' ++ rest) a2 w1 := by
                        intro w1 a2 hg1 ht2 hi2 hd2
                        refine ih R pure _ rest' _ k r { E with w := w1 } a2 rest g hk hgp hi2 hd2 fun st'' E'' a'' hk'' hi'' hg'' ht => ?_
                        exact hK st'' E'' a'' hk'' hi'' (fun e => hg1.trans (hg'' e)) (Tch.trans (ht2.sub hmem) (ht.sub fun q hq => by rw [hl1]; simp [hq]))
                      -- the group left out
                      have out : b = !want → (if b then evB C (deadAll grp st) X' else evB C (deadAll grp st) Y') = some v → W (grp ++ (pk :: (rest' ++ rest))) a E.w := by
                        intro hb hev
                        refine skip_sound hW grp [] a E.w _ hskip (by rw [hsv, hb]) (fun q hq => by simp at hq) fun a1 ht hsz hdf => ?_
                        have hi1 := hi.deadAll ht hsz hdf
                        refine pick_sound hW (b := b) (v := v) hi (Grew.refl _) ht hsz hdf hop hd hdN hpk hdec (by rw [ht s hnos]; exact hsv) ?_ fun a2 ht2 hi2 hd2 => fin E.w a2 (Grew.refl _) ht2 hi2 hd2
                        cases b with
                        | true => exact evB_sound hev hi1.rep
                        | false => exact evB_sound hev hi1.rep
                      -- the group done
                      have inn : ∀ z, z = (if b then X' else Y') → regK C all Bool n true ((s, b) :: dec) grp st (fun s1 => evB C s1 z) = some v → W (grp ++ (pk :: (rest' ++ rest))) a E.w := by
                        intro z hz hev
                        refine ih Bool true _ grp st _ v E a (pk :: (rest' ++ rest)) true hev (fun _ => rfl) hi ?_ ?_
                        · intro q b' hl
                          simp only [lookB] at hl
                          split at hl
                          · rename_i e; cases hl; rw [← Nat.eq_of_beq_eq_true e]; exact hsv
                          · exact hdec q b' hl
                        · intro st1 E1 a1 hev1 hi1 hg1 ht1
                          refine pick_sound hW (b := b) (v := v) hi (hg1 rfl) ht1 (by rw [hi1.size, hi.size]) (by rw [hi1.defers, hi.defers]) hop hd hdN hpk hdec (by rw [ht1 s hnos]; exact hsv) ?_ fun a2 ht2 hi2 hd2 => fin E1.w a2 (hg1 rfl) ht2 hi2 hd2
                          have := evB_sound hev1 hi1.rep
                          rw [hz] at this
                          cases b with
                          | true => exact this
                          | false => exact this
                      cases b with
                      | true =>
                        cases want with
                        | true => exact inn X' rfl hv
                        | false => exact out rfl hv
                      | false =>
                        cases want with
                        | true => exact out rfl hv
                        | false => exact inn Y' rfl hv
                    · cases hk
                  · cases hk
                · cases hk
              · cases hk
            · rename_i hsl
              have hsv : a.tmps.getD s undef = undef := by
                have := hi.rep.sl s
                rw [hsl] at this
                obtain ⟨cs, ⟨vs, h1, h2⟩, h3⟩ := this
                have h2 : vs = [] := h2
                have h3 : cs = [_] := h3
                rw [h3, h2] at h1
                simpa [undef] using h1
              refine hW.skip _ _ _ _ (by simp only [Region.wanted, hg, yielded_undef hds hsv]; rfl) ?_
              refine ih R pure _ l (udead o st) k r E _ rest g hk hgp hi.udead (hdec.rm Tch.one) fun st'' E'' a'' hk'' hi'' hg'' ht => ?_
              exact hK st'' E'' a'' hk'' hi'' hg'' (Tch.trans (Tch.one.sub fun q hq => by simp at hq; subst hq; exact List.mem_cons_self ..) (ht.sub fun q hq => List.mem_cons_of_mem _ hq))
            · cases hk

/-- a region that is not drawn -/
theorem stp_list : Stp P C Q all (wpList P all Q) where
  take := fun o l a w v hw hs hr h => by
    unfold wpList
    rw [if_pos hw]
    exact .inl (wp_value (hr w (.inr rfl)) h)
  doo := fun o l a w hw hs h => by
    unfold wpList
    rw [if_pos hw]
    exact .inl h
  skip := fun o l a w hw h => by
    unfold wpList
    rw [if_neg (by rw [hw]; simp)]
    exact h

end
end Go.Am
