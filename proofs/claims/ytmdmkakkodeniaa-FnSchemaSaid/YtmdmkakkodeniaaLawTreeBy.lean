/- Trees: the bytes of a right one, and that they read as it was. -/
import Derived.Test.YtmdmkakkodeniaaLawTreeRd
set_option linter.unusedVariables false
set_option linter.unusedSimpArgs false
namespace Go.Law
open Go.Am Go.Fn

def slice {α : Type} (l : List α) (a b : Nat) : List α := (l.drop a).take (b - a)

theorem slice_nil {α : Type} (l : List α) (a : Nat) : slice l a a = [] := by simp [slice]
theorem slice_one {α : Type} {l : List α} {a : Nat} {x : α} (h : l[a]? = some x) : slice l a (a + 1) = [x] := by
  obtain ⟨h1, h2⟩ := List.getElem?_eq_some_iff.1 h
  unfold slice
  rw [List.drop_eq_getElem_cons h1, h2, show a + 1 - a = 1 by omega]
  rfl
theorem slice_app {α : Type} (l : List α) {a b c : Nat} (h1 : a ≤ b) (h2 : b ≤ c) : slice l a b ++ slice l b c = slice l a c := by
  unfold slice
  rw [show c - a = (b - a) + (c - b) by omega, List.take_add, List.drop_drop, show a + (b - a) = b by omega]
theorem slice_len {α : Type} (l : List α) {a b : Nat} (h1 : a ≤ b) (h2 : b ≤ l.length) : (slice l a b).length = b - a := by
  unfold slice; simp; omega

variable (k : Nat)

def Packs (l : List TNode) (af : List Int) (d at_ : Nat) (B : List Int) : Prop :=
  ∀ D, d ≤ D → impl_tree_bytesOf.rec k D (at_ : Int) (true, (l, (), ())) af = some ((), ((l, (), ()), af, B))

def Reads (l : List TNode) (d deep at_ nx : Nat) (n : TNode) (B : List Int) : Prop :=
  ∀ (D : Nat) (b : List Int) (p : Nat) (r : List Int) (acc : List TNode), 2 * d ≤ D → b.length < 4611686018427387904 → b.drop p = B ++ r → acc.length + (nx - at_) ≤ 1500 →
    (impl_treeReader_node.rec k D).1 n.1 n.2.1 (deep : Int) (rdr b p) acc = some ((), (rdr b (p + B.length), acc ++ slice l at_ nx))

def Byt (B : List Int) : Prop := ∀ x, x ∈ B → 0 ≤ x ∧ x < 256

theorem Byt.app {A B : List Int} (h : Byt A) (h' : Byt B) : Byt (A ++ B) := fun x hx => (List.mem_append.1 hx).elim (h x) (h' x)
theorem Byt.cons {a : Int} {B : List Int} (h0 : 0 ≤ a) (h1 : a < 256) (h' : Byt B) : Byt (a :: B) := fun x hx => by
  rcases List.mem_cons.1 hx with rfl | hx
  · exact ⟨h0, h1⟩
  · exact h' x hx
theorem Byt.nil : Byt [] := fun x hx => (List.not_mem_nil hx).elim

/-- what stands ahead of a part of a struct -/
def headB (p : TNode) (last : Int) : List Int := if p.2.1 - last ≤ 15 then [16 * (p.2.1 - last) + p.1] else p.1 :: uv (zig p.2.1)

theorem nok_kind {n : TNode} (h : nok n = true) : n.1 = 1 ∨ n.1 = 2 ∨ n.1 = 5 ∨ n.1 = 6 ∨ n.1 = 8 ∨ n.1 = 9 ∨ n.1 = 12 := by
  unfold nok at h
  repeat' split at h
  all_goals simp only [Bool.and_eq_true, beq_iff_eq, decide_eq_true_eq, Bool.or_eq_true] at h
  all_goals omega

theorem head_len (p : TNode) (last : Int) : 0 < (headB p last).length ∧ (headB p last).length ≤ 11 := by
  unfold headB
  have := uv_len (zig p.2.1)
  split <;> simp <;> omega

theorem head_byt {p : TNode} {last : Int} (hk : nok p = true) (h : last + 1 ≤ p.2.1) : Byt (headB p last) := by
  have := nok_kind hk
  unfold headB
  split
  · exact Byt.cons (by omega) (by omega) Byt.nil
  · exact Byt.cons (by omega) (by omega) (uv_byte _)

theorem headOf_eq (hk : 2000 ≤ k) {p : TNode} {last : Int} (hp : nok p = true) (h1 : last + 1 ≤ p.2.1) (h2 : p.2.1 ≤ 1000) (h0 : 0 ≤ last) : impl_headOf k p last = some ((), headB p last) := by
  have := nok_kind hp
  unfold impl_headOf headB impl_headOf.d4
  rw [w64 (show -9223372036854775808 ≤ p.2.1 - last by omega) (by omega), w64 (show -9223372036854775808 ≤ 16 * (p.2.1 - last) by omega) (by omega)]
  by_cases hd : p.2.1 - last ≤ 15
  · simp only [decide_eq_true hd, cond_true, if_pos hd]
    rw [w64 (by omega) (by omega), w8 (by omega) (by omega)]
  · simp only [decide_eq_false hd, cond_false, if_neg hd]
    rw [zigPut k (by omega) _ (by omega) (by omega)]
    simp only [Option.bind_some]
    have := uv_len (zig p.2.1)
    rw [lim_ok (by (try simp); omega), cond_true, w8 (by omega) (by omega)]
    rfl

/-- the struct's node, as read so far -/
def sn (id j : Int) : TNode := (12, id, 0, ⟨#[]⟩, j, ())

theorem structLoop (hk : 2000 ≤ k) (l : List TNode) (hl : l.length ≤ 1500) (af : List Int) (d deep : Nat) (hdd : d + deep = 12) (n : TNode) (hn : n.1 = 12) (id : Int)
    (ih : ∀ at_ nx, Sub l af d at_ nx → nx ≤ l.length → ∃ m B, l[at_]? = some m ∧ nok m = true ∧ af[at_]? = some (nx : Int) ∧ Packs k l af d at_ B ∧ B.length + 11 ≤ 400 * (nx - at_) ∧ Byt B ∧ Reads k l d (deep + 1) at_ nx m B) :
    ∀ (c pos : Nat) (last : Int) (nx : Nat), PartsR (Sub l af d) l n c pos last nx → nx ≤ l.length → 0 ≤ last → last ≤ 1000 →
    ∃ T, (∀ (D f : Nat) (out : List Int) (M i : Int), d ≤ D → c < f → M - i = c → 0 ≤ i → M < 9223372036854775808 → out.length + 400 * (nx - pos) + 1 ≤ 4000000 →
        impl_tree_bytesOf.l16 k (impl_tree_bytesOf.rec k D) f (pos : Int) last M i (l, (), ()) af n out = some ((), ((l, (), ()), af, out ++ T))) ∧
      T.length ≤ 400 * (nx - pos) + 1 ∧ Byt T ∧
      (∀ (D f : Nat) (b : List Int) (p : Nat) (r : List Int) (pre mid : List TNode) (j : Int), 2 * d ≤ D → c < f → b.length < 4611686018427387904 → b.drop p = T ++ r → pre.length + 1 + mid.length + (nx - pos) ≤ 1500 → 0 ≤ j → j + c < 2000 →
        impl_treeReader_fields.l1 k (impl_treeReader_node.rec k D).1 f (pre.length : Int) (deep : Int) last (rdr b p) (pre ++ sn id j :: mid) = some ((), (rdr b (p + T.length), pre ++ sn id (j + c) :: (mid ++ slice l pos nx)))) := by
  intro c
  induction c with
  | zero =>
    intro pos last nx hP hnx h0 h1
    obtain rfl : pos = nx := hP
    refine ⟨[0], ?_, by simp, Byt.cons (by omega) (by omega) Byt.nil, ?_⟩
    · intro D f out M i hD hf hMi hi hM hout
      obtain ⟨f, rfl⟩ : ∃ m, f = m + 1 := ⟨f - 1, by omega⟩
      simp only [impl_tree_bytesOf.l16, show decide (i < M) = false from decide_eq_false (by omega), cond_false, hn, beqT rfl, cond_true, impl_tree_bytesOf.c26]
      rw [lim_ok (by (try simp); omega), cond_true]
    · intro D f b p r pre mid j hD hf hb hd hlen hj hjc
      obtain ⟨f, rfl⟩ : ∃ m, f = m + 1 := ⟨f - 1, by omega⟩
      simp only [impl_treeReader_fields.l1]
      have := one_ok k (acc := pre ++ sn id j :: mid) hb hd (by omega) (by omega)
      simp only [this, Option.bind_some, bneF rfl, beqT rfl, cst, Bool.or_true, cond_true, slice_nil, List.append_nil]
      simp
  | succ c ihc =>
    intro pos last nx ⟨p0, mid0, hp, _, h12, hS, hP⟩ hnx h0 h1
    obtain ⟨hl1, hl2⟩ := h12 hn
    have hlt := Sub_lt _ _ _ hS
    have hmn := (PartsR_mono (S' := fun _ _ => True) (Sub_lt d) _ _ _ _ (fun _ _ _ _ _ => trivial) hP).2
    obtain ⟨m, B, b1, b2, b3, b4, b5, b6, b7⟩ := ih pos mid0 hS (by omega)
    obtain rfl : p0 = m := by rw [hp] at b1; exact Option.some.inj b1
    obtain ⟨T, t1, t2, t3, t4⟩ := ihc mid0 p0.2.1 nx hP hnx (by omega) hl2
    have hkind := nok_kind b2
    obtain ⟨hh1, hh2⟩ := head_len p0 last
    refine ⟨headB p0 last ++ B ++ T, ?_, by simp; omega, (Byt.app (head_byt b2 hl1) b6).app t3, ?_⟩
    · intro D f out M i hD hf hMi hi hM hout
      obtain ⟨f, rfl⟩ : ∃ m, f = m + 1 := ⟨f - 1, by omega⟩
      simp only [impl_tree_bytesOf.l16, show decide (i < M) = true from decide_eq_true (by omega), cond_true, rdL_nat, hp, Option.bind_some, hn, beqT rfl, headOf_eq k hk b2 hl1 hl2 h0]
      rw [lim_ok (by (try simp); omega), cond_true]
      simp only [impl_tree_bytesOf.c20, b4 D hD, Option.bind_some, rdL_nat, b3]
      rw [lim_ok (by (try simp); omega), cond_true, w64 (by omega) (by omega)]
      rw [t1 D f _ M (i + 1) hD (by omega) (by omega) (by omega) hM (by simp; omega)]
      simp
    · intro D f b p r pre mid j hD hf hb hd hlen hj hjc
      obtain ⟨f, rfl⟩ : ∃ m, f = m + 1 := ⟨f - 1, by omega⟩
      -- the place's node
      have hget : ∀ x : TNode, rdL (pre ++ x :: mid) (pre.length : Int) = some x := fun x => by
        rw [rdL_nat, List.getElem?_append_right (Nat.le_refl _)]; simp
      have hset : ∀ x y : TNode, List.set (pre ++ x :: mid) (Int.toNat (pre.length : Int)) y = pre ++ y :: mid := fun x y => by
        rw [Int.toNat_natCast, List.set_append_right _ _ (Nat.le_refl _)]; simp
      have hjw : IntKind.wrap .i64 (j + 1) = j + 1 := w64 (by omega) (by omega)
      have hdw : IntKind.wrap .i64 ((deep : Int) + 1) = ((deep + 1 : Nat) : Int) := by rw [w64 (by omega) (by omega)]; omega
      have hty : (isItem p0.1 || ((p0.1 == 1 || p0.1 == 2) && !false)) = true := by
        unfold isItem
        rcases hkind with h | h | h | h | h | h | h <;> rw [h] <;> rfl
      -- behind the head
      have tail : ∀ q : Nat, b.drop q = B ++ (T ++ r) → q + (B.length + T.length) = p + (headB p0 last ++ B ++ T).length →
          impl_treeReader_fields.c8 k (impl_treeReader_node.rec k D).1 (impl_treeReader_fields.l1 k (impl_treeReader_node.rec k D).1 f) (pre.length : Int) (deep : Int) last p0.1 p0.2.1 (rdr b q) (pre ++ sn id j :: mid) =
            some ((), (rdr b (p + (headB p0 last ++ B ++ T).length), pre ++ sn id (j + (c + 1 : Nat)) :: (mid ++ slice l pos nx))) := by
        intro q hq hqe
        have c1 : (decide ((1 : Int) ≤ p0.2.1) && decide (p0.2.1 ≤ 1000)) = true := by simp; omega
        have c2 : decide (p0.2.1 ≤ last) = false := decide_eq_false (by omega)
        simp only [impl_treeReader_fields.c8, impl_treeReader_fields.c10, impl_treeReader_fields.c12, within_eq, beqT rfl, bneF rfl, cond_true, cond_false, c1, c2, Bool.not_true, Option.bind_some, hget, hset, hdw]
        have hsn : ((sn id j).1, (sn id j).2.1, (sn id j).2.2.1, (sn id j).2.2.2.1, IntKind.wrap .i64 ((sn id j).2.2.2.2.1 + 1), ()) = sn id (j + 1) := by
          show (_, _, _, _, IntKind.wrap .i64 (j + 1), ()) = _
          rw [hjw]; rfl
        simp only [hsn]
        rw [b7 D b q (T ++ r) _ hD hb hq (by simp; omega)]
        simp only [Option.bind_some]
        rw [show pre ++ sn id (j + 1) :: mid ++ slice l pos mid0 = pre ++ sn id (j + 1) :: (mid ++ slice l pos mid0) by simp]
        have hsl := slice_len l (show pos ≤ mid0 by omega) (by omega)
        rw [t4 D f b (q + B.length) r pre (mid ++ slice l pos mid0) (j + 1) hD (by omega) hb ((drop_app hq).1) (by simp [hsl]; omega) (by omega) (by omega)]
        rw [List.append_assoc, slice_app l (by omega) hmn, ← hqe, Nat.add_assoc, show j + 1 + (c : Int) = j + ((c + 1 : Nat) : Int) by omega]
      simp only [impl_treeReader_fields.l1]
      unfold headB at hd tail ⊢
      by_cases hd15 : p0.2.1 - last ≤ 15
      · simp only [if_pos hd15] at hd tail ⊢
        have hone := one_ok k (acc := pre ++ sn id j :: mid) (b := b) (p := p) (y := 16 * (p0.2.1 - last) + p0.1) (r := B ++ (T ++ r)) hb (by rw [hd]; simp) (by omega) (by omega)
        have hmod : Int.tmod (16 * (p0.2.1 - last) + p0.1) 16 = p0.1 := by rw [Int.tmod_eq_emod_of_nonneg (by omega)]; omega
        have hdiv : IntKind.wrap .i64 (last + IntKind.wrap .i64 (Int.tdiv (16 * (p0.2.1 - last) + p0.1) 16)) = p0.2.1 := by
          rw [Int.tdiv_eq_ediv_of_nonneg (by omega), w64 (show -9223372036854775808 ≤ (16 * (p0.2.1 - last) + p0.1) / 16 by omega) (by omega), w64 (by omega) (by omega)]
          omega
        have c0 : (16 * (p0.2.1 - last) + p0.1 == 0) = false := beqF (by omega)
        have c16 : decide (16 * (p0.2.1 - last) + p0.1 < 16) = false := decide_eq_false (by omega)
        simp only [hone, Option.bind_some, bneF rfl, c0, cst, Bool.or_self, cond_false, hmod, hdiv, isType_eq, hty, Bool.not_true, impl_treeReader_fields.c6, c16]
        exact tail (p + 1) (drop_get (show b.drop p = (16 * (p0.2.1 - last) + p0.1) :: (B ++ (T ++ r)) by rw [hd]; simp)).2.2 (by simp; omega)
      · simp only [if_neg hd15] at hd tail ⊢
        have hd' : b.drop p = p0.1 :: (uv (zig p0.2.1) ++ (B ++ (T ++ r))) := by rw [hd]; simp
        obtain ⟨g1, g2, g3⟩ := drop_get hd'
        have hone := one_ok k (acc := pre ++ sn id j :: mid) hb hd' (by omega) (by omega)
        have hmod : Int.tmod p0.1 16 = p0.1 := by rw [Int.tmod_eq_emod_of_nonneg (by omega)]; omega
        have c0 : (p0.1 == 0) = false := beqF (by omega)
        have c16 : decide (p0.1 < 16) = true := decide_eq_true (by omega)
        have hu := uvar_ok k hk (acc := pre ++ sn id j :: mid) hb g3 (zig_range p0.2.1)
        simp only [hone, Option.bind_some, bneF rfl, c0, cst, Bool.or_self, cond_false, hmod, isType_eq, hty, Bool.not_true, impl_treeReader_fields.c6, c16, cond_true, hu, zag_zig k p0.2.1 (by omega) (by omega)]
        exact tail (p + 1 + (uv (zig p0.2.1)).length) (drop_app g3).1 (by simp; omega)

theorem listLoop (hk : 2000 ≤ k) (l : List TNode) (hl : l.length ≤ 1500) (af : List Int) (d deep : Nat) (hdd : d + deep = 12) (n : TNode) (hn : n.1 = 9)
    (ih : ∀ at_ nx, Sub l af d at_ nx → nx ≤ l.length → ∃ m B, l[at_]? = some m ∧ nok m = true ∧ af[at_]? = some (nx : Int) ∧ Packs k l af d at_ B ∧ B.length + 11 ≤ 400 * (nx - at_) ∧ Byt B ∧ Reads k l d (deep + 1) at_ nx m B) :
    ∀ (c pos : Nat) (last : Int) (nx : Nat), PartsR (Sub l af d) l n c pos last nx → nx ≤ l.length →
    ∃ T, (∀ (D f : Nat) (out : List Int) (M i : Int), d ≤ D → c < f → M - i = c → 0 ≤ i → M < 9223372036854775808 → out.length + 400 * (nx - pos) + 1 ≤ 4000000 →
        impl_tree_bytesOf.l16 k (impl_tree_bytesOf.rec k D) f (pos : Int) last M i (l, (), ()) af n out = some ((), ((l, (), ()), af, out ++ T))) ∧
      T.length ≤ 400 * (nx - pos) ∧ Byt T ∧
      (∀ (D f : Nat) (b : List Int) (p : Nat) (r : List Int) (acc : List TNode) (M i : Int), 2 * d ≤ D → c < f → M - i = c → 0 ≤ i → M < 2000 → b.length < 4611686018427387904 → b.drop p = T ++ r → acc.length + (nx - pos) ≤ 1500 →
        impl_treeReader_parts.l11 k (impl_treeReader_node.rec k D).1 f (deep : Int) M n.2.2.1 i (rdr b p) acc = some ((), (rdr b (p + T.length), acc ++ slice l pos nx))) := by
  intro c
  induction c with
  | zero =>
    intro pos last nx hP hnx
    obtain rfl : pos = nx := hP
    refine ⟨[], ?_, by simp, Byt.nil, ?_⟩
    · intro D f out M i hD hf hMi hi hM hout
      obtain ⟨f, rfl⟩ : ∃ m, f = m + 1 := ⟨f - 1, by omega⟩
      simp only [impl_tree_bytesOf.l16, show decide (i < M) = false from decide_eq_false (by omega), cond_false, hn, show ((9 : Int) == 12) = false from rfl, impl_tree_bytesOf.c26]
      simp
    · intro D f b p r acc M i hD hf hMi hi hM hb hd hlen
      obtain ⟨f, rfl⟩ : ∃ m, f = m + 1 := ⟨f - 1, by omega⟩
      simp only [impl_treeReader_parts.l11, show decide (i < M) = false from decide_eq_false (by omega), cond_false, Option.bind_some, slice_nil, List.append_nil]
      simp
  | succ c ihc =>
    intro pos last nx ⟨p0, mid0, hp, h9, _, hS, hP⟩ hnx
    obtain ⟨hl1, hl2⟩ := h9 hn
    have hlt := Sub_lt _ _ _ hS
    have hmn := (PartsR_mono (S' := fun _ _ => True) (Sub_lt d) _ _ _ _ (fun _ _ _ _ _ => trivial) hP).2
    obtain ⟨m, B, b1, b2, b3, b4, b5, b6, b7⟩ := ih pos mid0 hS (by omega)
    obtain rfl : p0 = m := by rw [hp] at b1; exact Option.some.inj b1
    obtain ⟨T, t1, t2, t3, t4⟩ := ihc mid0 p0.2.1 nx hP hnx
    refine ⟨B ++ T, ?_, by simp; omega, b6.app t3, ?_⟩
    · intro D f out M i hD hf hMi hi hM hout
      obtain ⟨f, rfl⟩ : ∃ m, f = m + 1 := ⟨f - 1, by omega⟩
      simp only [impl_tree_bytesOf.l16, show decide (i < M) = true from decide_eq_true (by omega), cond_true, cond_false, rdL_nat, hp, Option.bind_some, hn, show ((9 : Int) == 12) = false from rfl]
      simp only [impl_tree_bytesOf.c20, b4 D hD, Option.bind_some, rdL_nat, b3]
      rw [lim_ok (by (try simp); omega), cond_true, w64 (by omega) (by omega)]
      rw [t1 D f _ M (i + 1) hD (by omega) (by omega) (by omega) hM (by simp; omega)]
      simp
    · intro D f b p r acc M i hD hf hMi hi hM hb hd hlen
      obtain ⟨f, rfl⟩ : ∃ m, f = m + 1 := ⟨f - 1, by omega⟩
      have hdw : IntKind.wrap .i64 ((deep : Int) + 1) = ((deep + 1 : Nat) : Int) := by rw [w64 (by omega) (by omega)]; omega
      have hiw : IntKind.wrap .i64 (i + 1) = i + 1 := w64 (by omega) (by omega)
      have hd' : b.drop p = B ++ (T ++ r) := by rw [hd]; simp
      have h7 := b7 D b p (T ++ r) acc hD hb hd' (by omega)
      rw [hl1, hl2] at h7
      simp only [impl_treeReader_parts.l11, show decide (i < M) = true from decide_eq_true (by omega), cond_true, Option.bind_some, beqT rfl, hdw, h7, hiw]
      have hsl := slice_len l (show pos ≤ mid0 by omega) (by omega)
      rw [t4 D f b (p + B.length) r _ M (i + 1) hD (by omega) (by omega) (by omega) hM hb (drop_app hd').1 (by simp [hsl]; omega)]
      rw [List.append_assoc, slice_app l (by omega) hmn, List.length_append, Nat.add_assoc]

theorem eqS_nil {s : ByteArray} (h : eqS s ⟨#[]⟩ = true) : s = ⟨#[]⟩ := by
  rw [eqS_iff] at h
  exact of_decide_eq_true h

theorem packRead (hk : 2000 ≤ k) (l : List TNode) (hl : l.length ≤ 1500) (hw : ∀ n, n ∈ l → WfN n) (af : List Int) : ∀ (d deep at_ nx : Nat), d + deep = 13 → Sub l af d at_ nx → nx ≤ l.length →
    ∃ m B, l[at_]? = some m ∧ nok m = true ∧ af[at_]? = some (nx : Int) ∧ Packs k l af d at_ B ∧ B.length + 11 ≤ 400 * (nx - at_) ∧ Byt B ∧ Reads k l d deep at_ nx m B := by
  intro d
  induction d with
  | zero => intro deep at_ nx _ h; exact h.elim
  | succ d ih =>
    intro deep at_ nx hdd hS hnx
    obtain ⟨n, hn, hok, hP, haf⟩ := hS
    have hwn := hw n (List.mem_of_getElem? hn)
    have hat : at_ < l.length := (List.getElem?_eq_some_iff.1 hn).1
    have hmn := (PartsR_mono (S' := fun _ _ => True) (Sub_lt d) _ _ _ _ (fun _ _ _ _ _ => trivial) hP).2
    have ha1 : IntKind.wrap .i64 ((at_ : Int) + 1) = ((at_ + 1 : Nat) : Int) := by rw [w64 (by omega) (by omega)]; omega
    have hset : ∀ (acc : List TNode) (x y : TNode), List.set (acc ++ [x]) (Int.toNat (acc.length : Int)) y = acc ++ [y] := fun acc x y => by
      rw [Int.toNat_natCast, List.set_append_right _ _ (Nat.le_refl _)]; simp
    have hget : ∀ (acc : List TNode) (x : TNode), rdL (acc ++ [x]) (acc.length : Int) = some x := fun acc x => by
      rw [rdL_nat, List.getElem?_append_right (Nat.le_refl _)]; simp
    have heta : n = (n.1, n.2.1, n.2.2.1, n.2.2.2.1, n.2.2.2.2.1, ()) := rfl
    have hM := hwn.2.2.2.1
    rcases nok_kind hok with h | h | h | h | h | h | h
    -- a type without anything
    iterate 2
      · have hok' := hok
        simp only [nok, h, if_neg (show ¬ ((1 : Int) = 5) by decide), if_neg (show ¬ ((1 : Int) = 6) by decide), if_neg (show ¬ ((1 : Int) = 8) by decide), if_neg (show ¬ ((1 : Int) = 9) by decide), if_neg (show ¬ ((1 : Int) = 12) by decide),
          if_neg (show ¬ ((2 : Int) = 5) by decide), if_neg (show ¬ ((2 : Int) = 6) by decide), if_neg (show ¬ ((2 : Int) = 8) by decide), if_neg (show ¬ ((2 : Int) = 9) by decide), if_neg (show ¬ ((2 : Int) = 12) by decide), Bool.and_eq_true, beq_iff_eq] at hok'
        obtain ⟨⟨⟨_, e1⟩, e2⟩, e3⟩ := hok'
        have e2 := eqS_nil e2
        rw [e3] at hP
        obtain rfl : at_ + 1 = nx := hP
        refine ⟨n, [], hn, hok, haf, ?_, by simp <;> omega, Byt.nil, ?_⟩
        · intro D hD
          obtain ⟨D, rfl⟩ : ∃ m, D = m + 1 := ⟨D - 1, by omega⟩
          obtain ⟨K, rfl⟩ : ∃ m, k = m + 1 := ⟨k - 1, by omega⟩
          simp only [impl_tree_bytesOf.rec, impl_tree_bytesOf.b, cond_true, rdL_nat, hn, Option.bind_some, h]
          simp only [impl_tree_bytesOf.c6, impl_tree_bytesOf.c13, impl_tree_bytesOf.l16, e3, h, impl_tree_bytesOf.c26]
          rfl
        · intro D b p r acc hD hb hd hlen
          obtain ⟨D, rfl⟩ : ∃ m, D = m + 1 := ⟨D - 1, by omega⟩
          simp only [impl_treeReader_node.rec, impl_treeReader_node.b]
          rw [begin_ok k rfl (by omega) (by omega)]
          simp only [Option.bind_some, bneF rfl, cond_false, h, impl_treeReader_node.c5]
          have hnode : n = (n.1, n.2.1, 0, ⟨#[]⟩, 0, ()) := by conv => lhs; rw [heta, e1, e2, e3]
          rw [h] at hnode
          rw [slice_one hn, ← hnode]
          rfl
    -- a number
    iterate 2
      · have hok' : (n.1 = 5 → -2147483648 ≤ n.2.2.1 ∧ n.2.2.1 ≤ 2147483647) ∧ eqS n.2.2.2.1 ⟨#[]⟩ = true ∧ n.2.2.2.2.1 = 0 := by
          unfold nok at hok
          rw [h] at hok ⊢
          simp only [reduceIte, if_neg (show ¬ ((6 : Int) = 5) by decide), Bool.and_eq_true, beq_iff_eq, decide_eq_true_eq] at hok
          first | exact ⟨fun _ => hok.1.1, hok.1.2, hok.2⟩ | exact ⟨fun h => by omega, hok.1, hok.2⟩
        obtain ⟨e1, e2, e3⟩ := hok'
        have e2 := eqS_nil e2
        rw [e3] at hP
        obtain rfl : at_ + 1 = nx := hP
        have hu := uv_len (zig n.2.2.1)
        refine ⟨n, uv (zig n.2.2.1), hn, hok, haf, ?_, by omega, uv_byte _, ?_⟩
        · intro D hD
          obtain ⟨D, rfl⟩ : ∃ m, D = m + 1 := ⟨D - 1, by omega⟩
          simp only [impl_tree_bytesOf.rec, impl_tree_bytesOf.b, cond_true, rdL_nat, hn, Option.bind_some, h, beqT rfl, show ((6 : Int) == 5) = false from rfl, cond_false, impl_tree_bytesOf.c6, zigPut k (by omega) _ hwn.2.2.1.1 hwn.2.2.1.2]
        · intro D b p r acc hD hb hd hlen
          obtain ⟨D, rfl⟩ : ∃ m, D = m + 1 := ⟨D - 1, by omega⟩
          simp only [impl_treeReader_node.rec, impl_treeReader_node.b]
          rw [begin_ok k rfl (by omega) (by omega)]
          have c5 : n.1 = 5 → (decide (-2147483648 ≤ n.2.2.1) && decide (n.2.2.1 ≤ 2147483647)) = true := fun h5 => by
            have := e1 h5
            rw [decide_eq_true this.1, decide_eq_true this.2]; rfl
          simp only [Option.bind_some, bneF rfl, cond_false, cond_true, h, beqT rfl, show ((6 : Int) == 5) = false from rfl, impl_treeReader_node.c5, uvar_ok k hk hb hd (zig_range _), zag_zig k _ hwn.2.2.1.1 hwn.2.2.1.2, impl_isInt32, within_eq]
          try simp only [c5 h, Bool.not_true, cond_false]
          simp only [impl_treeReader_node.c8, hget, hset, Option.bind_some]
          have hnode : n = (n.1, n.2.1, n.2.2.1, ⟨#[]⟩, 0, ()) := by conv => lhs; rw [heta, e2, e3]
          rw [h] at hnode
          rw [slice_one hn, ← hnode]
    -- a text
    · have hok' : n.2.2.1 = 0 ∧ n.2.2.2.1.size ≤ 300 ∧ n.2.2.2.2.1 = 0 := by
        unfold nok at hok
        rw [h] at hok
        simp only [reduceIte, if_neg (show ¬ ((8 : Int) = 5) by decide), if_neg (show ¬ ((8 : Int) = 6) by decide), Bool.and_eq_true, beq_iff_eq, decide_eq_true_eq] at hok
        exact ⟨hok.1.1, by omega, hok.2⟩
      obtain ⟨e1, e2, e3⟩ := hok'
      rw [e3] at hP
      obtain rfl : at_ + 1 = nx := hP
      have hu := uv_len (n.2.2.2.1.size : Int)
      refine ⟨n, uv (n.2.2.2.1.size : Int) ++ strInts n.2.2.2.1, hn, hok, haf, ?_, by rw [List.length_append, strInts_length]; omega, Byt.app (uv_byte _) (fun x hx => strInts_byte _ x hx), ?_⟩
      · intro D hD
        obtain ⟨D, rfl⟩ : ∃ m, D = m + 1 := ⟨D - 1, by omega⟩
        simp only [impl_tree_bytesOf.rec, impl_tree_bytesOf.b, cond_true, rdL_nat, hn, Option.bind_some, h, beqT rfl, show ((8 : Int) == 5) = false from rfl, show ((8 : Int) == 6) = false from rfl, cond_false, impl_tree_bytesOf.c6, impl_tree_bytesOf.d8, uvarPut k (by omega)]
        rw [lim_ok (by rw [strInts_length]; omega), cond_true]
      · intro D b p r acc hD hb hd hlen
        obtain ⟨D, rfl⟩ : ∃ m, D = m + 1 := ⟨D - 1, by omega⟩
        simp only [impl_treeReader_node.rec, impl_treeReader_node.b]
        rw [begin_ok k rfl (by omega) (by omega)]
        simp only [Option.bind_some, bneF rfl, cond_false, cond_true, h, beqT rfl, show ((8 : Int) == 5) = false from rfl, show ((8 : Int) == 6) = false from rfl, impl_treeReader_node.c5, impl_treeReader_node.d10]
        rw [text_ok k hk (r := r) hb (by rw [hd]; simp) e2]
        simp only [Option.bind_some, hget, hset]
        have hnode : n = (n.1, n.2.1, 0, n.2.2.2.1, 0, ()) := by conv => lhs; rw [heta, e1, e3]
        rw [h] at hnode
        rw [slice_one hn, ← hnode, List.length_append, strInts_length]
    -- a list
    · have hok' : n.2.2.2.1 = ⟨#[]⟩ ∧ 0 ≤ n.2.2.2.2.1 ∧ ((n.2.2.2.2.1 = 0 ∧ n.2.2.1 = 0) ∨ (0 < n.2.2.2.2.1 ∧ isItem n.2.2.1 = true)) := by
        unfold nok at hok
        rw [h] at hok
        simp only [reduceIte, if_neg (show ¬ ((9 : Int) = 5) by decide), if_neg (show ¬ ((9 : Int) = 6) by decide), if_neg (show ¬ ((9 : Int) = 8) by decide), Bool.and_eq_true, Bool.or_eq_true, beq_iff_eq, decide_eq_true_eq] at hok
        exact ⟨eqS_nil hok.1.1, hok.1.2, hok.2⟩
      obtain ⟨e1, e2, e3⟩ := hok'
      have hnum : 0 ≤ n.2.2.1 ∧ n.2.2.1 < 16 := by
        rcases e3 with e3 | e3
        · omega
        · have := e3.2
          unfold isItem at this
          simp only [Bool.or_eq_true, beq_iff_eq] at this
          omega
      obtain ⟨T, t1, t2, t3, t4⟩ := listLoop k hk l hl af d deep (by omega) n h (fun a x hS hx => ih (deep + 1) a x (by omega) hS hx) _ _ _ _ hP hnx
      have hcnt : ∀ (c pos : Nat) (last : Int) (nx : Nat), PartsR (Sub l af d) l n c pos last nx → pos + c ≤ nx := by
        intro c
        induction c with
        | zero => intro pos last nx hp; have hp : pos = nx := hp; omega
        | succ c ihc =>
          intro pos last nx ⟨_, mid, _, _, _, hS, hp⟩
          have := Sub_lt _ _ _ hS
          have := ihc _ _ _ hp
          omega
      have hc := hcnt _ _ _ _ hP
      have hMn : (n.2.2.2.2.1.toNat : Int) = n.2.2.2.2.1 := Int.toNat_of_nonneg e2
      have hu := uv_len n.2.2.2.2.1
      refine ⟨n, (if n.2.2.2.2.1 ≤ 14 then [16 * n.2.2.2.2.1 + n.2.2.1] else (240 + n.2.2.1) :: uv n.2.2.2.2.1) ++ T, hn, hok, haf, ?_, by split <;> simp <;> omega, ?_, ?_⟩
      · intro D hD
        obtain ⟨D, rfl⟩ : ∃ m, D = m + 1 := ⟨D - 1, by omega⟩
        simp only [impl_tree_bytesOf.rec, impl_tree_bytesOf.b, cond_true, rdL_nat, hn, Option.bind_some, h, beqT rfl, show ((9 : Int) == 5) = false from rfl, show ((9 : Int) == 6) = false from rfl, show ((9 : Int) == 8) = false from rfl, cond_false, impl_tree_bytesOf.c6]
        by_cases h14 : n.2.2.2.2.1 ≤ 14
        · simp only [decide_eq_true h14, cond_true, if_pos h14]
          rw [lim_ok (by (try simp)), cond_true, w64 (show -9223372036854775808 ≤ 16 * n.2.2.2.2.1 by omega) (by omega), w64 (by omega) (by omega), w8 (by omega) (by omega)]
          simp only [impl_tree_bytesOf.c13, ha1]
          rw [t1 D k _ _ 0 (by omega) (by omega) (by omega) (by omega) hM.2 (by simp <;> omega)]
          simp
        · simp only [decide_eq_false h14, cond_false, if_neg h14, impl_tree_bytesOf.d12, uvarPut k (by omega), Option.bind_some]
          rw [w64 (by omega) (by omega), w8 (by omega) (by omega), lim_ok (by simp <;> omega), cond_true]
          simp only [impl_tree_bytesOf.c13, ha1]
          rw [t1 D k _ _ 0 (by omega) (by omega) (by omega) (by omega) hM.2 (by simp <;> omega)]
          simp
      · refine Byt.app ?_ t3
        split
        · exact Byt.cons (by omega) (by omega) Byt.nil
        · exact Byt.cons (by omega) (by omega) (uv_byte _)
      · intro D b p r acc hD hb hd hlen
        obtain ⟨D, rfl⟩ : ∃ m, D = m + 2 := ⟨D - 2, by omega⟩
        simp only [impl_treeReader_node.rec, impl_treeReader_node.b]
        rw [begin_ok k rfl (by omega) (by omega)]
        simp only [Option.bind_some, bneF rfl, cond_false, cond_true, h, beqT rfl, show ((9 : Int) == 5) = false from rfl, show ((9 : Int) == 6) = false from rfl, show ((9 : Int) == 8) = false from rfl, impl_treeReader_node.c5, impl_treeReader_parts.b]
        -- behind the count
        have tail : ∀ q : Nat, b.drop q = T ++ r → q + T.length = p + ((if n.2.2.2.2.1 ≤ 14 then [16 * n.2.2.2.2.1 + n.2.2.1] else (240 + n.2.2.1) :: uv n.2.2.2.2.1) ++ T).length →
            impl_treeReader_parts.c4 k (impl_treeReader_node.rec k D).1 (acc.length : Int) (deep : Int) n.2.2.2.2.1 n.2.2.1 (rdr b q) (acc ++ [(9, n.2.1, 0, ⟨#[]⟩, 0, ())]) =
              some ((), (rdr b (p + ((if n.2.2.2.2.1 ≤ 14 then [16 * n.2.2.2.2.1 + n.2.2.1] else (240 + n.2.2.1) :: uv n.2.2.2.2.1) ++ T).length), acc ++ slice l at_ nx)) := by
          intro q hq hqe
          rw [← hqe]
          simp only [impl_treeReader_parts.c4, bneF rfl, cst, Bool.false_or, Option.bind_some]
          rcases e3 with ⟨e3, e4⟩ | ⟨e3, e4⟩
          · simp only [e3, beqT rfl, cond_true]
            rw [e3] at hP
            obtain rfl : at_ + 1 = nx := hP
            have hT : T = [] := by
              have := t1 d 1 [] 0 0 (Nat.le_refl _) (by omega) (by omega) (by omega) (by omega) (by simp <;> omega)
              simp only [impl_tree_bytesOf.l16, show decide ((0 : Int) < 0) = false from rfl, cond_false, h, show ((9 : Int) == 12) = false from rfl, impl_tree_bytesOf.c26] at this
              simpa using this
            have hnode : n = (n.1, n.2.1, 0, ⟨#[]⟩, 0, ()) := by conv => lhs; rw [heta, e1, e3, e4]
            rw [h] at hnode
            rw [slice_one hn, ← hnode, hT]
            simp
          · simp only [beqF (show ¬ n.2.2.2.2.1 = 0 by omega), cond_false, isType_eq, e4, Bool.true_or, Option.bind_some, Bool.not_true, impl_treeReader_parts.c7, within_eq]
            rw [decide_eq_true (show (0 : Int) ≤ n.2.2.2.2.1 from e2), decide_eq_true (show n.2.2.2.2.1 ≤ 1500 by omega)]
            simp only [Bool.and_self, Option.bind_some, Bool.not_true, cond_false, impl_treeReader_parts.c9, hget, hset]
            rw [t4 D k b q r _ _ 0 (by omega) (by omega) (by omega) (by omega) (by omega) hb hq (by simp <;> omega)]
            rw [List.append_assoc, ← slice_app l (show at_ ≤ at_ + 1 by omega) (show at_ + 1 ≤ nx by omega), slice_one hn]
            have hnode : n = (n.1, n.2.1, n.2.2.1, ⟨#[]⟩, n.2.2.2.2.1, ()) := by conv => lhs; rw [heta, e1]
            rw [h] at hnode
            rw [← hnode]
        by_cases h14 : n.2.2.2.2.1 ≤ 14
        · simp only [if_pos h14] at hd tail ⊢
          have hd' : b.drop p = (16 * n.2.2.2.2.1 + n.2.2.1) :: (T ++ r) := by rw [hd]; simp
          rw [one_ok k hb hd' (by omega) (by omega)]
          have e16 : IntKind.wrap .i64 (Int.tdiv (16 * n.2.2.2.2.1 + n.2.2.1) 16) = n.2.2.2.2.1 := by
            rw [Int.tdiv_eq_ediv_of_nonneg (by omega), w64 (by omega) (by omega)]; omega
          have em : Int.tmod (16 * n.2.2.2.2.1 + n.2.2.1) 16 = n.2.2.1 := by rw [Int.tmod_eq_emod_of_nonneg (by omega)]; omega
          simp only [Option.bind_some, e16, em, beqF (show ¬ n.2.2.2.2.1 = 15 by omega), cond_false]
          rw [tail (p + 1) (drop_get hd').2.2 (by simp <;> omega)]
          rfl
        · simp only [if_neg h14] at hd tail ⊢
          have hd' : b.drop p = (240 + n.2.2.1) :: (uv n.2.2.2.2.1 ++ (T ++ r)) := by rw [hd]; simp
          obtain ⟨g1, g2, g3⟩ := drop_get hd'
          rw [one_ok k hb hd' (by omega) (by omega)]
          have e16 : IntKind.wrap .i64 (Int.tdiv (240 + n.2.2.1) 16) = 15 := by
            rw [Int.tdiv_eq_ediv_of_nonneg (by omega), w64 (by omega) (by omega)]; omega
          have em : Int.tmod (240 + n.2.2.1) 16 = n.2.2.1 := by rw [Int.tmod_eq_emod_of_nonneg (by omega)]; omega
          simp only [Option.bind_some, e16, em, beqT rfl, cond_true]
          rw [uvar_ok k hk hb g3 hM]
          simp only [Option.bind_some]
          rw [tail (p + 1 + (uv n.2.2.2.2.1).length) (drop_app g3).1 (by simp <;> omega)]
          rfl
    -- a struct
    · have hok' : n.2.2.1 = 0 ∧ n.2.2.2.1 = ⟨#[]⟩ ∧ 0 ≤ n.2.2.2.2.1 := by
        unfold nok at hok
        rw [h] at hok
        simp only [reduceIte, if_neg (show ¬ ((12 : Int) = 5) by decide), if_neg (show ¬ ((12 : Int) = 6) by decide), if_neg (show ¬ ((12 : Int) = 8) by decide), if_neg (show ¬ ((12 : Int) = 9) by decide), Bool.and_eq_true, beq_iff_eq, decide_eq_true_eq] at hok
        exact ⟨hok.1.1, eqS_nil hok.1.2, hok.2⟩
      obtain ⟨e1, e2, e3⟩ := hok'
      obtain ⟨T, t1, t2, t3, t4⟩ := structLoop k hk l hl af d deep (by omega) n h n.2.1 (fun a x hS hx => ih (deep + 1) a x (by omega) hS hx) _ _ _ _ hP hnx (by omega) (by omega)
      have hcnt : ∀ (c pos : Nat) (last : Int) (nx : Nat), PartsR (Sub l af d) l n c pos last nx → pos + c ≤ nx := by
        intro c
        induction c with
        | zero => intro pos last nx hp; have hp : pos = nx := hp; omega
        | succ c ihc =>
          intro pos last nx ⟨_, mid, _, _, _, hS, hp⟩
          have := Sub_lt _ _ _ hS
          have := ihc _ _ _ hp
          omega
      have hc := hcnt _ _ _ _ hP
      have hMn : (n.2.2.2.2.1.toNat : Int) = n.2.2.2.2.1 := Int.toNat_of_nonneg e3
      refine ⟨n, T, hn, hok, haf, ?_, by omega, t3, ?_⟩
      · intro D hD
        obtain ⟨D, rfl⟩ : ∃ m, D = m + 1 := ⟨D - 1, by omega⟩
        simp only [impl_tree_bytesOf.rec, impl_tree_bytesOf.b, cond_true, rdL_nat, hn, Option.bind_some, h, show ((12 : Int) == 5) = false from rfl, show ((12 : Int) == 6) = false from rfl, show ((12 : Int) == 8) = false from rfl, show ((12 : Int) == 9) = false from rfl, cond_false, impl_tree_bytesOf.c6, impl_tree_bytesOf.c13, ha1]
        rw [t1 D k [] _ 0 (by omega) (by omega) (by omega) (by omega) hM.2 (by simp <;> omega)]
        simp
      · intro D b p r acc hD hb hd hlen
        obtain ⟨D, rfl⟩ : ∃ m, D = m + 2 := ⟨D - 2, by omega⟩
        simp only [impl_treeReader_node.rec, impl_treeReader_node.b]
        rw [begin_ok k rfl (by omega) (by omega)]
        simp only [Option.bind_some, bneF rfl, cond_false, cond_true, h, beqT rfl, show ((12 : Int) == 5) = false from rfl, show ((12 : Int) == 6) = false from rfl, show ((12 : Int) == 8) = false from rfl, show ((12 : Int) == 9) = false from rfl, impl_treeReader_node.c5, impl_treeReader_fields.b]
        have := t4 D k b p r acc [] 0 (by omega) (by omega) hb hd (by simp <;> omega) (by omega) (by omega)
        rw [show (acc ++ [((12 : Int), n.2.1, (0 : Int), (⟨#[]⟩ : ByteArray), (0 : Int), ())] : List TNode) = acc ++ sn n.2.1 0 :: [] from rfl, this]
        simp only [Option.bind_some, List.nil_append]
        rw [← slice_app l (show at_ ≤ at_ + 1 by omega) (show at_ + 1 ≤ nx by omega), slice_one hn, Int.zero_add, hMn]
        have hnode : n = (n.1, n.2.1, 0, ⟨#[]⟩, n.2.2.2.2.1, ()) := by conv => lhs; rw [heta, e1, e2]
        rw [h] at hnode
        rw [show sn n.2.1 n.2.2.2.2.1 = n from hnode.symm]
        rfl
end Go.Law
