/- Rows: literals, appending. -/
import Derived.Test.YtmdmkakkodeniaaAmOps6
import Derived.Maps.AppendAt
import Derived.Lib.AppendStr
set_option linter.unusedVariables false
set_option linter.unusedSimpArgs false
open Go.Lib
namespace Go.Am

/-! ### what is appended -/
inductive Src (P : Program) (w : World) (t2 : TypeId) (e : TypeId) (size : Nat) (t : TypeId) : Value → Nat → List Value → Prop
  | row (ad : Addr) (m c : Nat) (news : List Value) (ht : t2 = t) (hl : news.length = m * size) (hn : ∀ j u, news[j]? = some u → w.cell? (ad.add j) = some u) (h1 : ∀ u, u ∈ news → u.oneCell' = true) :
      Src P w t2 e size t (.slice (some ad) m c) m news
  | none (ht : t2 = t) : Src P w t2 e size t (.slice none 0 0) 0 []
  | str (s : ByteArray) (hu : P.underlying t2 = some .string) (h1 : size = 1) (hz : ∃ i, P.info? e = some i ∧ i.zero = some (.int .u8 0) ∧ i.bytes = 1) : Src P w t2 e size t (.string s) s.size (strCells s)

theorem run_app {P : Program} {w : World} {t t2 ty e : TypeId} {u : Ty} {v x : Value} {n m : Nat} {xs news : List Value} (ht : P.underlying t = some (.slice e)) (hi : InfoOk P e u)
    (hown : w.ownsRow 0 e u.size v n xs) (hs : Src P w t2 e u.size t x m news) (hlim : n + m ≤ 4294967296) :
    ∃ v' w', (Builtin.append_ #[t, t2] ty #[v, x]).run P w = .ok v' w' ∧ w'.ownsRow 0 e u.size v' (n + m) (xs ++ news) ∧ w.grownBy w' v.ownBlock ∧
      (v'.ownBlock = v.ownBlock ∨ v'.ownBlock = some w.heap.size) ∧ v'.oneCell' = true := by
  obtain ⟨i, z, k1, k2, k3, k4, k5, k6, _⟩ := hi
  have hzs : z.cells.size = u.size := by have := ZR_length _ _ k4; simpa using this
  have one : ∀ {w' : World} {v' : Value} {n' : Nat} {xs' : List Value}, w'.ownsRow 0 e u.size v' n' xs' → v'.oneCell' = true := by
    intro w' v' n' xs' h
    rcases h.2 with ⟨rfl, _⟩ | ⟨g, cap, cur, rfl, _⟩ <;> rfl
  cases hs with
  | row ad m c news htt hl hn h1 =>
    subst htt
    obtain ⟨v', w', r1, r2, r3, _, r5⟩ := run_append_own_at (P := P) w 0 t2 ty e i z u.size i.bytes ht k1 k3 k2 rfl hzs k5 v n xs hown ad m c news hl hn h1
      (by simp only [maxLen]; omega) (by have := Nat.mul_le_mul hlim k6; omega) (Nat.zero_le _)
    exact ⟨v', w', r1, r2, r3, r5, one r2⟩
  | none htt =>
    subst htt
    exact ⟨v, w, run_append_owned_none (P := P) (w := w) 0 t2 ty e i u.size ht k1 v n xs hown, by simpa using hown, ⟨rfl, rfl, rfl, Nat.le_refl _, fun _ _ _ => rfl⟩, .inl rfl, one hown⟩
  | str s hu h1 hz =>
    obtain ⟨i', q1, q2, q3⟩ := hz
    rw [k1] at q1
    obtain rfl := Option.some.inj q1
    rw [h1] at hown k2 ⊢
    obtain ⟨v', w', r1, r2, r3, r4⟩ := run_append_own_string (P := P) (w := w) (ty := ty) 0 t t2 e i ht hu k1 q2 k2 q3 v n xs hown s (by simp only [maxLen]; omega) (by omega) (Nat.zero_le _)
    refine ⟨v', w', r1, r2, r3, ?_, by rw [h1] at one; exact one r2⟩
    rcases hown.2 with ⟨rfl, rfl⟩ | ⟨g, cap, cur, rfl, hbg, hg, hnc, hcm, hcs, htake⟩
    · by_cases hm : s.size = 0
      · have := r4.2 ⟨rfl, hm⟩
        rw [this]; exact .inl rfl
      · right
        have hr := run_append_nil_string (P := P) w t t2 ty e i (.int .u8 0) ht hu k1 q2 s (by omega) (by omega) (by rw [q3]; omega)
        rw [hr] at r1
        simp only [Result.ok.injEq] at r1
        rw [← r1.1]; rfl
    · by_cases hroom : n + s.size ≤ cap
      · left
        have hcs' : cur.size = cap := by simpa using hcs
        have hr := run_append_room_string (P := P) w t t2 ty e i ht hu k1 k2 g n cap cur hg s hroom (by omega)
        rw [hr] at r1
        simp only [Result.ok.injEq] at r1
        rw [← r1.1]; rfl
      · right
        have holds : ∀ j u, xs[j]? = some u → w.cell? ((⟨g, 0, none⟩ : Addr).add j) = some u := hown.cells (g := g) rfl
        have hr := run_append_grow_string (P := P) w t t2 ty e i (.int .u8 0) ht hu k1 q2 ⟨g, 0, none⟩ n cap xs (by rw [k2]; simpa using hown.1) holds s (by omega) (by omega) (by rw [q3]; exact growslice_fits (by omega) (by omega))
        rw [hr] at r1
        simp only [Result.ok.injEq] at r1
        rw [← r1.1]; rfl

theorem OEls_append {α : Type} {R : α → List Value → List Nat → Prop} : ∀ (xs : List α) (f : List Value) (b : List Nat) (ys : List α) (g : List Value) (d : List Nat), OEls R xs f b → OEls R ys g d → OEls R (xs ++ ys) (f ++ g) (b ++ d)
  | [], f, b, ys, g, d, h, k => by obtain ⟨rfl, rfl⟩ := h; simpa using k
  | x :: xs, f, b, ys, g, d, ⟨c, f', b1, b2, h1, h2, h3, h4⟩, k => ⟨c, f' ++ g, b1, b2 ++ d, by rw [h1]; simp, by rw [h2]; simp, h3, OEls_append xs f' b2 ys g d h4 k⟩

theorem Els_OEls_flat {w w' : World} {S : Nat → Prop} {t : Ty} (hf : t.flat = true) : ∀ (xs : List t.Den) (f : List Value), Els (Rd w S t) xs f → OEls (Ow w' t) xs f []
  | [], f, h => ⟨h, rfl⟩
  | x :: xs, f, ⟨c, g, h1, h2, h3⟩ => ⟨c, g, [], [], h1, rfl, Rd_Ow_flat t hf x c h2, Els_OEls_flat hf xs g h3⟩

theorem OEls_nodup_sub {w w' : World} {t : Ty} {xs : List t.Den} {f : List Value} {nb : List Nat} (h : OEls (Ow w t) xs f nb) (hw : ∀ b, b ∈ nb → w'.heap[b]? = w.heap[b]?) : OEls (Ow w' t) xs f nb :=
  OEls_mono xs f nb (fun x c b hb k => Ow_frame t x c b (fun kk hk => hw kk (hb kk hk)) k) h

section
variable {P : Program} {R : Type} {C : Ctx} {o : Oper} {st : St} {k : St → Option R} {r : R} {E0 E : Env} {a : Act} {K : Act → World → Prop} {Q : Exit → Act → World → Prop} {g : Bool}

/-- append: 'old' the row that is used up (if any), 'gone' the row whose elements are taken over (if any) -/
theorem app_sound {t t2 e : TypeId} {u : Ty} {S X : Operand} {xs ys : List u.Den} {v x : Value} {f1 f2 : List Value} {nb1 nb2 : List Nat} {old gone : Option Nat}
    (ho : o.op = .call { callee := .builtin .append, args := #[S, X], argTypes := #[t, t2] }) (hgf : g = false) (hS : a.eval S = v) (hX : a.eval X = x)
    (ht : P.underlying t = some (.slice e)) (hi : InfoOk P e u) (h : Inv C.N E0 E st a)
    (hown : E.w.ownsRow 0 e u.size v xs.length f1) (h1 : OEls (Ow E.w u) xs f1 nb1) (hold : match old with | some i => E.B i = v.ownBlock.toList ++ nb1 | none => v.ownBlock = none ∧ nb1 = [])
    (hs : Src P E.w t2 e u.size t x ys.length f2) (h2 : OEls (Ow E.w u) ys f2 nb2) (hgone : match gone with | some j => (∃ l, E.B j = l ++ nb2) ∧ old ≠ some j | none => nb2 = [])
    (hlim : lim (xs.length + ys.length) = true) (ob' : Nat → Ob) (hob' : ∀ j, ob' j = if (old == some j || gone == some j) then .dead else st.ob j)
    (hk : putK C o (.h st.nx) ⟨st.sl, upd ob' st.nx (.sl false 0 e u (xs ++ ys)), st.nx + 1⟩ k = some r)
    (hK : ∀ st' E' v, k st' = some r → Inv C.N E0 E' st' (a.put o.dst v) → Pur P C g o a v E.w E'.w → K (a.put o.dst v) E'.w) : o.wp P a E.w K Q := by
  obtain ⟨v', w', r1, r2, r3, r4, r5⟩ := run_app (ty := o.type) ht hi hown hs (Nat.le_of_ble_eq_true hlim)
  have ob_lt := hown.lt
  -- the written block is the elder row's
  have hvB : ∀ b, v.ownBlock = some b → ∃ i, old = some i ∧ b ∈ E.B i := by
    intro b hb
    cases hO : old with
    | none => rw [hO] at hold; rw [hold.1] at hb; cases hb
    | some i => rw [hO] at hold; exact ⟨i, rfl, by rw [hold]; simp [hb]⟩
  have hsame : ∀ b, b < E.w.heap.size → v.ownBlock ≠ some b → w'.heap[b]? = E.w.heap[b]? := fun b hb hne => r3.block b hb (fun e => hne e.symm)
  have hn1 : ∀ b, b ∈ nb1 → v.ownBlock ≠ some b := by
    intro b hb e
    obtain ⟨i, hi', hbi⟩ := hvB b e
    rw [hi'] at hold
    have := h.rep.nd i
    rw [hold, e] at this
    simp at this
    exact this.1 hb
  have hb1 : ∀ b, b ∈ nb1 → ∃ i, old = some i ∧ b ∈ E.B i := by
    intro b hb
    cases hO : old with
    | none => rw [hO] at hold; rw [hold.2] at hb; simp at hb
    | some i => rw [hO] at hold; exact ⟨i, rfl, by rw [hold]; simp [hb]⟩
  have hb2 : ∀ b, b ∈ nb2 → ∃ j, gone = some j ∧ b ∈ E.B j ∧ old ≠ some j := by
    intro b hb
    cases hG : gone with
    | none => rw [hG] at hgone; rw [hgone] at hb; simp at hb
    | some j => rw [hG] at hgone; obtain ⟨⟨l, hl⟩, hne⟩ := hgone; exact ⟨j, rfl, by rw [hl]; simp [hb], hne⟩
  have hn2 : ∀ b, b ∈ nb2 → v.ownBlock ≠ some b := by
    intro b hb e
    obtain ⟨i, hi', hbi⟩ := hvB b e
    obtain ⟨j, hj, hbj, hne⟩ := hb2 b hb
    exact h.rep.dj i j b (fun ee => hne (by rw [← ee]; exact hi')) hbi hbj
  have hi' := h.swap (w := w') (fun j => old == some j || gone == some j)
    ⟨r3.os, r3.tape, r3.output, r3.size, fun b hb hno => hsame b hb (fun e => by obtain ⟨i, _, hbi⟩ := hvB b e; exact hno i hbi)⟩
    (fun j hj b hb => hsame b (h.rep.bb j b hb).1 (fun e => by
      obtain ⟨i, hi', hbi⟩ := hvB b e
      have hne : i ≠ j := fun ee => by subst ee; simp [hi'] at hj
      exact h.rep.dj i j b hne hbi hb))
    (.sl false 0 e u (xs ++ ys)) v' (v'.ownBlock.toList ++ (nb1 ++ nb2))
    (by
      intro b hb
      rcases List.mem_append.1 hb with hb | hb
      · have hb : v'.ownBlock = some b := by simpa using hb
        refine ⟨?_, (r2.lt b hb).2⟩
        rcases r4 with h4 | h4
        · rw [h4] at hb
          obtain ⟨i, hi', hbi⟩ := hvB b hb
          exact .inl ⟨i, by simp [hi'], hbi⟩
        · rw [h4] at hb
          obtain rfl := Option.some.inj hb
          exact .inr (Nat.le_refl _)
      · rcases List.mem_append.1 hb with hb | hb
        · obtain ⟨i, hi', hbi⟩ := hb1 b hb
          exact ⟨.inl ⟨i, by simp [hi'], hbi⟩, Nat.lt_of_lt_of_le (h.rep.bb i b hbi).1 r3.size⟩
        · obtain ⟨j, hj, hbj, _⟩ := hb2 b hb
          exact ⟨.inl ⟨j, by simp [hj], hbj⟩, Nat.lt_of_lt_of_le (h.rep.bb j b hbj).1 r3.size⟩)
    (by
      have d1 : nb1.Nodup := by
        cases hO : old with
        | none => rw [hO] at hold; rw [hold.2]; exact List.nodup_nil
        | some i => rw [hO] at hold; have := h.rep.nd i; rw [hold] at this; exact (List.nodup_append.1 this).2.1
      have d2 : nb2.Nodup := by
        cases hG : gone with
        | none => rw [hG] at hgone; rw [hgone]; exact List.nodup_nil
        | some j => rw [hG] at hgone; obtain ⟨⟨l, hl⟩, _⟩ := hgone; have := h.rep.nd j; rw [hl] at this; exact (List.nodup_append.1 this).2.1
      rw [List.nodup_append, List.nodup_append]
      refine ⟨by cases v'.ownBlock <;> simp, ⟨d1, d2, ?_⟩, ?_⟩
      · intro b hb c hc e
        subst e
        obtain ⟨i, hi', hbi⟩ := hb1 b hb
        obtain ⟨j, hj, hbj, hne⟩ := hb2 b hc
        exact h.rep.dj i j b (fun ee => hne (by rw [← ee]; exact hi')) hbi hbj
      · intro b hb c hc e
        subst e
        have hb : v'.ownBlock = some b := by simpa using hb
        rcases r4 with h4 | h4
        · rw [h4] at hb
          rcases List.mem_append.1 hc with hc | hc
          · exact hn1 b hc hb
          · exact hn2 b hc hb
        · rw [h4] at hb
          obtain rfl := Option.some.inj hb
          rcases List.mem_append.1 hc with hc | hc
          · obtain ⟨i, _, hbi⟩ := hb1 _ hc
            have := (h.rep.bb i _ hbi).1
            omega
          · obtain ⟨j, _, hbj, _⟩ := hb2 _ hc
            have := (h.rep.bb j _ hbj).1
            omega)
    ob' hob'
    (by
      intro ev
      refine ⟨v', f1 ++ f2, nb1 ++ nb2, by simp [upd_same], by simpa using r2, ?_, by simp [upd_same]⟩
      refine OEls_append _ _ _ _ _ _ (OEls_nodup_sub h1 fun b hb => ?_) (OEls_nodup_sub h2 fun b hb => ?_)
      · obtain ⟨i, _, hbi⟩ := hb1 b hb
        exact hsame b (h.rep.bb i b hbi).1 (hn1 b hb)
      · obtain ⟨j, _, hbj, _⟩ := hb2 b hb
        exact hsame b (h.rep.bb j b hbj).1 (hn2 b hb))
  refine wp_value (v := v') (w' := w') (by unfold execOp; simp [ho, resolve, invoke, builtin, hS, hX, r1]) (putK_sound (G := fun a' => K a' w') hk hi' ?_ fun st' hk' hi'' => hK st' _ _ hk' hi'' (.loud (by simp [still, ho]) (fun hgt => by rw [hgf] at hgt; cases hgt)))
  exact ⟨[v'], ⟨Nat.lt_succ_self _, by simpa only [upd_same] using r5, by simp only [upd_same]⟩, rfl⟩
end

end Go.Am
