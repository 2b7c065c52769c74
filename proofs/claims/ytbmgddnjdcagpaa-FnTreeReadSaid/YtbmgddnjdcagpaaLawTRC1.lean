import Derived.Test.YtbmgddnjdcagpaaLawTRC0
import Derived.Test.YtbmgddnjdcagpaaTRCF0
set_option linter.unnecessarySimpa false
set_option linter.unusedSimpArgs false
set_option linter.unusedVariables false
set_option linter.unusedSectionVars false
section
/- Trees: the bytes that are packed, and what is read of them. -/
set_option linter.unusedVariables false
set_option linter.unusedSimpArgs false
namespace Go.Law
open Go.Am Go.Fn

variable (k : Nat)

def Packs (l : List TNode) (af : List Int) (d at_ : Nat) (B : List Int) : Prop :=
  ∀ D, d ≤ D → impl_tree_bytesOf.rec k D (at_ : Int) (true, (l, (), ())) af = some ((), ((l, (), ()), af, B))

def Reads (l : List TNode) (d deep at_ nx : Nat) (n : TNode) (B : List Int) : Prop :=
  ∀ (D : Nat) (b : List Int) (p : Nat) (r : List Int) (acc : List TNode), 2 * d ≤ D → b.length < 4611686018427387904 → b.drop p = B ++ r → acc.length + (nx - at_) ≤ 1500 →
    (impl_treeReader_node.rec k D).1 n.1 n.2.1 (deep : Int) (rdr b p) acc = some ((), (rdr b (p + B.length), acc ++ slice l at_ nx))

theorem headOf_eq (hk : 2000 ≤ k) {p : TNode} {last : Int} (hp : nok p = true) (h1 : last + 1 ≤ p.2.1) (h2 : p.2.1 ≤ 1000) (h0 : 0 ≤ last) : impl_headOf k p last = some ((), headB p last) := by
  have := nok_kind hp
  unfold impl_headOf headB impl_headOf.d4
  rw [w64 (show -9223372036854775808 ≤ p.2.1 - last by omega) (by omega), w64 (show -9223372036854775808 ≤ 16 * (p.2.1 - last) by omega) (by omega)]
  by_cases hd : p.2.1 - last ≤ 15
  · simp only [decide_eq_true hd, cond_true, if_pos hd]
    rw [w64 (by omega) (by omega), w8 (by omega) (by omega)]
  · simp only [decide_eq_false hd, cond_false, if_neg hd]
    rw [zigPut k (by omega) _ (by omega) (by omega)]
    simp only [Option.bind_some]
    have := uv_len (zig p.2.1)
    rw [lim_ok (by (try simp); omega), cond_true, w8 (by omega) (by omega)]
    rfl

theorem structLoop (hk : 2000 ≤ k) (l : List TNode) (hl : l.length ≤ 1500) (af : List Int) (d deep : Nat) (hdd : d + deep = 12) (n : TNode) (hn : n.1 = 12) (id : Int)
    (ih : ∀ at_ nx, Sub l af d at_ nx → nx ≤ l.length → ∃ m B, l[at_]? = some m ∧ nok m = true ∧ af[at_]? = some (nx : Int) ∧ Packs k l af d at_ B ∧ B.length + 11 ≤ 400 * (nx - at_) ∧ Byt B ∧ Reads k l d (deep + 1) at_ nx m B ∧ CostOf d l at_ nx B.length) :
    ∀ (c pos : Nat) (last : Int) (nx : Nat), PartsR (Sub l af d) l n c pos last nx → nx ≤ l.length → 0 ≤ last → last ≤ 1000 →
    ∃ T, (∀ (D f : Nat) (out : List Int) (M i : Int), d ≤ D → c < f → M - i = c → 0 ≤ i → M < 9223372036854775808 → out.length + 400 * (nx - pos) + 1 ≤ 4000000 →
        impl_tree_bytesOf.l16 k (impl_tree_bytesOf.rec k D) f (pos : Int) last M i (l, (), ()) af n out = some ((), ((l, (), ()), af, out ++ T))) ∧
      T.length ≤ 400 * (nx - pos) + 1 ∧ Byt T ∧
      (∀ (D f : Nat) (b : List Int) (p : Nat) (r : List Int) (pre mid : List TNode) (j : Int), 2 * d ≤ D → c < f → b.length < 4611686018427387904 → b.drop p = T ++ r → pre.length + 1 + mid.length + (nx - pos) ≤ 1500 → 0 ≤ j → j + c < 2000 →
        impl_treeReader_fields.l1 k (impl_treeReader_node.rec k D).1 f (pre.length : Int) (deep : Int) last (rdr b p) (pre ++ sn id j :: mid) = some ((), (rdr b (p + T.length), pre ++ sn id (j + c) :: (mid ++ slice l pos nx)))) ∧ (CostPOf d true c last l pos nx (T.length - 1) ∧ 1 ≤ T.length) := by
  intro c
  induction c with
  | zero =>
    intro pos last nx hP hnx h0 h1
    obtain rfl : pos = nx := hP
    refine ⟨[0], ?_, by simp, Byt.cons (by omega) (by omega) Byt.nil, ?_, CostPOf_nil, by simp⟩
    · intro D f out M i hD hf hMi hi hM hout
      obtain ⟨f, rfl⟩ : ∃ m, f = m + 1 := ⟨f - 1, by omega⟩
      simp only [impl_tree_bytesOf.l16, show decide (i < M) = false from decide_eq_false (by omega), cond_false, hn, beqT rfl, cond_true, impl_tree_bytesOf.c26]
      rw [lim_ok (by (try simp); omega), cond_true]
    · intro D f b p r pre mid j hD hf hb hd hlen hj hjc
      obtain ⟨f, rfl⟩ : ∃ m, f = m + 1 := ⟨f - 1, by omega⟩
      simp only [impl_treeReader_fields.l1]
      have := one_ok k (acc := pre ++ sn id j :: mid) hb hd (by omega) (by omega)
      simp only [this, Option.bind_some, bneF rfl, beqT rfl, cst, Bool.or_true, cond_true, slice_nil, List.append_nil]
      simp
  | succ c ihc =>
    intro pos last nx ⟨p0, mid0, hp, _, h12, hS, hP⟩ hnx h0 h1
    obtain ⟨hl1, hl2⟩ := h12 hn
    have hlt := Sub_lt _ _ _ hS
    have hmn := (PartsR_mono (S' := fun _ _ => True) (Sub_lt d) _ _ _ _ (fun _ _ _ _ _ => trivial) hP).2
    obtain ⟨m, B, b1, b2, b3, b4, b5, b6, b7, b8⟩ := ih pos mid0 hS (by omega)
    obtain rfl : p0 = m := by rw [hp] at b1; exact Option.some.inj b1
    obtain ⟨T, t1, t2, t3, t4, t5, t6⟩ := ihc mid0 p0.2.1 nx hP hnx (by omega) hl2
    have hkind := nok_kind b2
    obtain ⟨hh1, hh2⟩ := head_len p0 last
    refine ⟨headB p0 last ++ B ++ T, ?_, by simp; omega, (Byt.app (head_byt b2 hl1) b6).app t3, ?_, CostPOf_cons hp hlt hmn b8 t5 (by simp; omega), by simp; omega⟩
    · intro D f out M i hD hf hMi hi hM hout
      obtain ⟨f, rfl⟩ : ∃ m, f = m + 1 := ⟨f - 1, by omega⟩
      simp only [impl_tree_bytesOf.l16, show decide (i < M) = true from decide_eq_true (by omega), cond_true, rdL_nat, hp, Option.bind_some, hn, beqT rfl, headOf_eq k hk b2 hl1 hl2 h0]
      rw [lim_ok (by (try simp); omega), cond_true]
      simp only [impl_tree_bytesOf.c20, b4 D hD, Option.bind_some, rdL_nat, b3]
      rw [lim_ok (by (try simp); omega), cond_true, w64 (by omega) (by omega)]
      rw [t1 D f _ M (i + 1) hD (by omega) (by omega) (by omega) hM (by simp; omega)]
      simp
    · intro D f b p r pre mid j hD hf hb hd hlen hj hjc
      obtain ⟨f, rfl⟩ : ∃ m, f = m + 1 := ⟨f - 1, by omega⟩
      -- the place's node
      have hget : ∀ x : TNode, rdL (pre ++ x :: mid) (pre.length : Int) = some x := fun x => by
        rw [rdL_nat, List.getElem?_append_right (Nat.le_refl _)]; simp
      have hset : ∀ x y : TNode, List.set (pre ++ x :: mid) (Int.toNat (pre.length : Int)) y = pre ++ y :: mid := fun x y => by
        rw [Int.toNat_natCast, List.set_append_right _ _ (Nat.le_refl _)]; simp
      have hjw : IntKind.wrap .i64 (j + 1) = j + 1 := w64 (by omega) (by omega)
      have hdw : IntKind.wrap .i64 ((deep : Int) + 1) = ((deep + 1 : Nat) : Int) := by rw [w64 (by omega) (by omega)]; omega
      have hty : (isItem p0.1 || ((p0.1 == 1 || p0.1 == 2) && !false)) = true := by
        unfold isItem
        rcases hkind with h | h | h | h | h | h | h <;> rw [h] <;> rfl
      -- behind the head
      have tail : ∀ q : Nat, b.drop q = B ++ (T ++ r) → q + (B.length + T.length) = p + (headB p0 last ++ B ++ T).length →
          impl_treeReader_fields.c8 k (impl_treeReader_node.rec k D).1 (impl_treeReader_fields.l1 k (impl_treeReader_node.rec k D).1 f) (pre.length : Int) (deep : Int) last p0.1 p0.2.1 (rdr b q) (pre ++ sn id j :: mid) =
            some ((), (rdr b (p + (headB p0 last ++ B ++ T).length), pre ++ sn id (j + (c + 1 : Nat)) :: (mid ++ slice l pos nx))) := by
        intro q hq hqe
        have c1 : (decide ((1 : Int) ≤ p0.2.1) && decide (p0.2.1 ≤ 1000)) = true := by simp; omega
        have c2 : decide (p0.2.1 ≤ last) = false := decide_eq_false (by omega)
        simp only [impl_treeReader_fields.c8, impl_treeReader_fields.c10, impl_treeReader_fields.c12, within_eq, beqT rfl, bneF rfl, cond_true, cond_false, c1, c2, Bool.not_true, Option.bind_some, hget, hset, hdw]
        have hsn : ((sn id j).1, (sn id j).2.1, (sn id j).2.2.1, (sn id j).2.2.2.1, IntKind.wrap .i64 ((sn id j).2.2.2.2.1 + 1), ()) = sn id (j + 1) := by
          show (_, _, _, _, IntKind.wrap .i64 (j + 1), ()) = _
          rw [hjw]; rfl
        simp only [hsn]
        rw [b7 D b q (T ++ r) _ hD hb hq (by simp; omega)]
        simp only [Option.bind_some]
        rw [show pre ++ sn id (j + 1) :: mid ++ slice l pos mid0 = pre ++ sn id (j + 1) :: (mid ++ slice l pos mid0) by simp]
        have hsl := slice_len l (show pos ≤ mid0 by omega) (by omega)
        rw [t4 D f b (q + B.length) r pre (mid ++ slice l pos mid0) (j + 1) hD (by omega) hb ((drop_app hq).1) (by simp [hsl]; omega) (by omega) (by omega)]
        rw [List.append_assoc, slice_app l (by omega) hmn, ← hqe, Nat.add_assoc, show j + 1 + (c : Int) = j + ((c + 1 : Nat) : Int) by omega]
      simp only [impl_treeReader_fields.l1]
      unfold headB at hd tail ⊢
      by_cases hd15 : p0.2.1 - last ≤ 15
      · simp only [if_pos hd15] at hd tail ⊢
        have hone := one_ok k (acc := pre ++ sn id j :: mid) (b := b) (p := p) (y := 16 * (p0.2.1 - last) + p0.1) (r := B ++ (T ++ r)) hb (by rw [hd]; simp) (by omega) (by omega)
        have hmod : Int.tmod (16 * (p0.2.1 - last) + p0.1) 16 = p0.1 := by rw [Int.tmod_eq_emod_of_nonneg (by omega)]; omega
        have hdiv : IntKind.wrap .i64 (last + IntKind.wrap .i64 (Int.tdiv (16 * (p0.2.1 - last) + p0.1) 16)) = p0.2.1 := by
          rw [Int.tdiv_eq_ediv_of_nonneg (by omega), w64 (show -9223372036854775808 ≤ (16 * (p0.2.1 - last) + p0.1) / 16 by omega) (by omega), w64 (by omega) (by omega)]
          omega
        have c0 : (16 * (p0.2.1 - last) + p0.1 == 0) = false := beqF (by omega)
        have c16 : decide (16 * (p0.2.1 - last) + p0.1 < 16) = false := decide_eq_false (by omega)
        simp only [hone, Option.bind_some, bneF rfl, c0, cst, Bool.or_self, cond_false, hmod, hdiv, isType_eq, hty, Bool.not_true, impl_treeReader_fields.c6, c16]
        exact tail (p + 1) (drop_get (show b.drop p = (16 * (p0.2.1 - last) + p0.1) :: (B ++ (T ++ r)) by rw [hd]; simp)).2.2 (by simp; omega)
      · simp only [if_neg hd15] at hd tail ⊢
        have hd' : b.drop p = p0.1 :: (uv (zig p0.2.1) ++ (B ++ (T ++ r))) := by rw [hd]; simp
        obtain ⟨g1, g2, g3⟩ := drop_get hd'
        have hone := one_ok k (acc := pre ++ sn id j :: mid) hb hd' (by omega) (by omega)
        have hmod : Int.tmod p0.1 16 = p0.1 := by rw [Int.tmod_eq_emod_of_nonneg (by omega)]; omega
        have c0 : (p0.1 == 0) = false := beqF (by omega)
        have c16 : decide (p0.1 < 16) = true := decide_eq_true (by omega)
        have hu := uvar_ok k hk (acc := pre ++ sn id j :: mid) hb g3 (zig_range p0.2.1)
        simp only [hone, Option.bind_some, bneF rfl, c0, cst, Bool.or_self, cond_false, hmod, isType_eq, hty, Bool.not_true, impl_treeReader_fields.c6, c16, cond_true, hu, zag_zig k p0.2.1 (by omega) (by omega)]
        exact tail (p + 1 + (uv (zig p0.2.1)).length) (drop_app g3).1 (by simp; omega)

theorem listLoop (hk : 2000 ≤ k) (l : List TNode) (hl : l.length ≤ 1500) (af : List Int) (d deep : Nat) (hdd : d + deep = 12) (n : TNode) (hn : n.1 = 9)
    (ih : ∀ at_ nx, Sub l af d at_ nx → nx ≤ l.length → ∃ m B, l[at_]? = some m ∧ nok m = true ∧ af[at_]? = some (nx : Int) ∧ Packs k l af d at_ B ∧ B.length + 11 ≤ 400 * (nx - at_) ∧ Byt B ∧ Reads k l d (deep + 1) at_ nx m B ∧ CostOf d l at_ nx B.length) :
    ∀ (c pos : Nat) (last : Int) (nx : Nat), PartsR (Sub l af d) l n c pos last nx → nx ≤ l.length →
    ∃ T, (∀ (D f : Nat) (out : List Int) (M i : Int), d ≤ D → c < f → M - i = c → 0 ≤ i → M < 9223372036854775808 → out.length + 400 * (nx - pos) + 1 ≤ 4000000 →
        impl_tree_bytesOf.l16 k (impl_tree_bytesOf.rec k D) f (pos : Int) last M i (l, (), ()) af n out = some ((), ((l, (), ()), af, out ++ T))) ∧
      T.length ≤ 400 * (nx - pos) ∧ Byt T ∧
      (∀ (D f : Nat) (b : List Int) (p : Nat) (r : List Int) (acc : List TNode) (M i : Int), 2 * d ≤ D → c < f → M - i = c → 0 ≤ i → M < 2000 → b.length < 4611686018427387904 → b.drop p = T ++ r → acc.length + (nx - pos) ≤ 1500 →
        impl_treeReader_parts.l11 k (impl_treeReader_node.rec k D).1 f (deep : Int) M n.2.2.1 i (rdr b p) acc = some ((), (rdr b (p + T.length), acc ++ slice l pos nx))) ∧ CostPOf d false c last l pos nx T.length := by
  intro c
  induction c with
  | zero =>
    intro pos last nx hP hnx
    obtain rfl : pos = nx := hP
    refine ⟨[], ?_, by simp, Byt.nil, ?_, CostPOf_nil⟩
    · intro D f out M i hD hf hMi hi hM hout
      obtain ⟨f, rfl⟩ : ∃ m, f = m + 1 := ⟨f - 1, by omega⟩
      simp only [impl_tree_bytesOf.l16, show decide (i < M) = false from decide_eq_false (by omega), cond_false, hn, show ((9 : Int) == 12) = false from rfl, impl_tree_bytesOf.c26]
      simp
    · intro D f b p r acc M i hD hf hMi hi hM hb hd hlen
      obtain ⟨f, rfl⟩ : ∃ m, f = m + 1 := ⟨f - 1, by omega⟩
      simp only [impl_treeReader_parts.l11, show decide (i < M) = false from decide_eq_false (by omega), cond_false, Option.bind_some, slice_nil, List.append_nil]
      simp
  | succ c ihc =>
    intro pos last nx ⟨p0, mid0, hp, h9, _, hS, hP⟩ hnx
    obtain ⟨hl1, hl2⟩ := h9 hn
    have hlt := Sub_lt _ _ _ hS
    have hmn := (PartsR_mono (S' := fun _ _ => True) (Sub_lt d) _ _ _ _ (fun _ _ _ _ _ => trivial) hP).2
    obtain ⟨m, B, b1, b2, b3, b4, b5, b6, b7, b8⟩ := ih pos mid0 hS (by omega)
    obtain rfl : p0 = m := by rw [hp] at b1; exact Option.some.inj b1
    obtain ⟨T, t1, t2, t3, t4, t5⟩ := ihc mid0 p0.2.1 nx hP hnx
    refine ⟨B ++ T, ?_, by simp; omega, b6.app t3, ?_, CostPOf_cons hp hlt hmn b8 t5 (by simp)⟩
    · intro D f out M i hD hf hMi hi hM hout
      obtain ⟨f, rfl⟩ : ∃ m, f = m + 1 := ⟨f - 1, by omega⟩
      simp only [impl_tree_bytesOf.l16, show decide (i < M) = true from decide_eq_true (by omega), cond_true, cond_false, rdL_nat, hp, Option.bind_some, hn, show ((9 : Int) == 12) = false from rfl]
      simp only [impl_tree_bytesOf.c20, b4 D hD, Option.bind_some, rdL_nat, b3]
      rw [lim_ok (by (try simp); omega), cond_true, w64 (by omega) (by omega)]
      rw [t1 D f _ M (i + 1) hD (by omega) (by omega) (by omega) hM (by simp; omega)]
      simp
    · intro D f b p r acc M i hD hf hMi hi hM hb hd hlen
      obtain ⟨f, rfl⟩ : ∃ m, f = m + 1 := ⟨f - 1, by omega⟩
      have hdw : IntKind.wrap .i64 ((deep : Int) + 1) = ((deep + 1 : Nat) : Int) := by rw [w64 (by omega) (by omega)]; omega
      have hiw : IntKind.wrap .i64 (i + 1) = i + 1 := w64 (by omega) (by omega)
      have hd' : b.drop p = B ++ (T ++ r) := by rw [hd]; simp
      have h7 := b7 D b p (T ++ r) acc hD hb hd' (by omega)
      rw [hl1, hl2] at h7
      simp only [impl_treeReader_parts.l11, show decide (i < M) = true from decide_eq_true (by omega), cond_true, Option.bind_some, beqT rfl, hdw, h7, hiw]
      have hsl := slice_len l (show pos ≤ mid0 by omega) (by omega)
      rw [t4 D f b (p + B.length) r _ M (i + 1) hD (by omega) (by omega) (by omega) hM hb (drop_app hd').1 (by simp [hsl]; omega)]
      rw [List.append_assoc, slice_app l (by omega) hmn, List.length_append, Nat.add_assoc]

theorem packRead (hk : 2000 ≤ k) (l : List TNode) (hl : l.length ≤ 1500) (hw : ∀ n, n ∈ l → WfN n) (af : List Int) : ∀ (d deep at_ nx : Nat), d + deep = 13 → Sub l af d at_ nx → nx ≤ l.length →
    ∃ m B, l[at_]? = some m ∧ nok m = true ∧ af[at_]? = some (nx : Int) ∧ Packs k l af d at_ B ∧ B.length + 11 ≤ 400 * (nx - at_) ∧ Byt B ∧ Reads k l d deep at_ nx m B ∧ CostOf d l at_ nx B.length := by
  intro d
  induction d with
  | zero => intro deep at_ nx _ h; exact h.elim
  | succ d ih =>
    intro deep at_ nx hdd hS hnx
    obtain ⟨n, hn, hok, hP, haf⟩ := hS
    have hwn := hw n (List.mem_of_getElem? hn)
    have hat : at_ < l.length := (List.getElem?_eq_some_iff.1 hn).1
    have hmn := (PartsR_mono (S' := fun _ _ => True) (Sub_lt d) _ _ _ _ (fun _ _ _ _ _ => trivial) hP).2
    have ha1 : IntKind.wrap .i64 ((at_ : Int) + 1) = ((at_ + 1 : Nat) : Int) := by rw [w64 (by omega) (by omega)]; omega
    have hset : ∀ (acc : List TNode) (x y : TNode), List.set (acc ++ [x]) (Int.toNat (acc.length : Int)) y = acc ++ [y] := fun acc x y => by
      rw [Int.toNat_natCast, List.set_append_right _ _ (Nat.le_refl _)]; simp
    have hget : ∀ (acc : List TNode) (x : TNode), rdL (acc ++ [x]) (acc.length : Int) = some x := fun acc x => by
      rw [rdL_nat, List.getElem?_append_right (Nat.le_refl _)]; simp
    have heta : n = (n.1, n.2.1, n.2.2.1, n.2.2.2.1, n.2.2.2.2.1, ()) := rfl
    have hM := hwn.2.2.2.1
    rcases nok_kind hok with h | h | h | h | h | h | h
    -- a type without anything
    iterate 2
      · have hok' := hok
        simp only [nok, h, if_neg (show ¬ ((1 : Int) = 5) by decide), if_neg (show ¬ ((1 : Int) = 6) by decide), if_neg (show ¬ ((1 : Int) = 8) by decide), if_neg (show ¬ ((1 : Int) = 9) by decide), if_neg (show ¬ ((1 : Int) = 12) by decide),
          if_neg (show ¬ ((2 : Int) = 5) by decide), if_neg (show ¬ ((2 : Int) = 6) by decide), if_neg (show ¬ ((2 : Int) = 8) by decide), if_neg (show ¬ ((2 : Int) = 9) by decide), if_neg (show ¬ ((2 : Int) = 12) by decide), Bool.and_eq_true, beq_iff_eq] at hok'
        obtain ⟨⟨⟨_, e1⟩, e2⟩, e3⟩ := hok'
        have e2 := eqS_nil e2
        rw [e3] at hP
        obtain rfl : at_ + 1 = nx := hP
        refine ⟨n, [], hn, hok, haf, ?_, by simp <;> omega, Byt.nil, ?_, fun rest => by rw [slice_one hn]; simp [cost, h]⟩
        · intro D hD
          obtain ⟨D, rfl⟩ : ∃ m, D = m + 1 := ⟨D - 1, by omega⟩
          obtain ⟨K, rfl⟩ : ∃ m, k = m + 1 := ⟨k - 1, by omega⟩
          simp only [impl_tree_bytesOf.rec, impl_tree_bytesOf.b, cond_true, rdL_nat, hn, Option.bind_some, h]
          simp only [impl_tree_bytesOf.c6, impl_tree_bytesOf.c13, impl_tree_bytesOf.l16, e3, h, impl_tree_bytesOf.c26]
          rfl
        · intro D b p r acc hD hb hd hlen
          obtain ⟨D, rfl⟩ : ∃ m, D = m + 1 := ⟨D - 1, by omega⟩
          simp only [impl_treeReader_node.rec, impl_treeReader_node.b]
          rw [begin_ok k rfl (by omega) (by omega)]
          simp only [Option.bind_some, bneF rfl, cond_false, h, impl_treeReader_node.c5]
          have hnode : n = (n.1, n.2.1, 0, ⟨#[]⟩, 0, ()) := by conv => lhs; rw [heta, e1, e2, e3]
          rw [h] at hnode
          rw [slice_one hn, ← hnode]
          rfl
    -- a number
    iterate 2
      · have hok' : (n.1 = 5 → -2147483648 ≤ n.2.2.1 ∧ n.2.2.1 ≤ 2147483647) ∧ eqS n.2.2.2.1 ⟨#[]⟩ = true ∧ n.2.2.2.2.1 = 0 := by
          unfold nok at hok
          rw [h] at hok ⊢
          simp only [reduceIte, if_neg (show ¬ ((6 : Int) = 5) by decide), Bool.and_eq_true, beq_iff_eq, decide_eq_true_eq] at hok
          first | exact ⟨fun _ => hok.1.1, hok.1.2, hok.2⟩ | exact ⟨fun h => by omega, hok.1, hok.2⟩
        obtain ⟨e1, e2, e3⟩ := hok'
        have e2 := eqS_nil e2
        rw [e3] at hP
        obtain rfl : at_ + 1 = nx := hP
        have hu := uv_len (zig n.2.2.1)
        refine ⟨n, uv (zig n.2.2.1), hn, hok, haf, ?_, by omega, uv_byte _, ?_, fun rest => by rw [slice_one hn]; simp [cost, h]⟩
        · intro D hD
          obtain ⟨D, rfl⟩ : ∃ m, D = m + 1 := ⟨D - 1, by omega⟩
          simp only [impl_tree_bytesOf.rec, impl_tree_bytesOf.b, cond_true, rdL_nat, hn, Option.bind_some, h, beqT rfl, show ((6 : Int) == 5) = false from rfl, cond_false, impl_tree_bytesOf.c6, zigPut k (by omega) _ hwn.2.2.1.1 hwn.2.2.1.2]
        · intro D b p r acc hD hb hd hlen
          obtain ⟨D, rfl⟩ : ∃ m, D = m + 1 := ⟨D - 1, by omega⟩
          simp only [impl_treeReader_node.rec, impl_treeReader_node.b]
          rw [begin_ok k rfl (by omega) (by omega)]
          have c5 : n.1 = 5 → (decide (-2147483648 ≤ n.2.2.1) && decide (n.2.2.1 ≤ 2147483647)) = true := fun h5 => by
            have := e1 h5
            rw [decide_eq_true this.1, decide_eq_true this.2]; rfl
          simp only [Option.bind_some, bneF rfl, cond_false, cond_true, h, beqT rfl, show ((6 : Int) == 5) = false from rfl, impl_treeReader_node.c5, uvar_ok k hk hb hd (zig_range _), zag_zig k _ hwn.2.2.1.1 hwn.2.2.1.2, impl_isInt32, within_eq]
          try simp only [c5 h, Bool.not_true, cond_false]
          simp only [impl_treeReader_node.c8, hget, hset, Option.bind_some]
          have hnode : n = (n.1, n.2.1, n.2.2.1, ⟨#[]⟩, 0, ()) := by conv => lhs; rw [heta, e2, e3]
          rw [h] at hnode
          rw [slice_one hn, ← hnode]
    -- a text
    · have hok' : n.2.2.1 = 0 ∧ n.2.2.2.1.size ≤ 300 ∧ n.2.2.2.2.1 = 0 := by
        unfold nok at hok
        rw [h] at hok
        simp only [reduceIte, if_neg (show ¬ ((8 : Int) = 5) by decide), if_neg (show ¬ ((8 : Int) = 6) by decide), Bool.and_eq_true, beq_iff_eq, decide_eq_true_eq] at hok
        exact ⟨hok.1.1, by omega, hok.2⟩
      obtain ⟨e1, e2, e3⟩ := hok'
      rw [e3] at hP
      obtain rfl : at_ + 1 = nx := hP
      have hu := uv_len (n.2.2.2.1.size : Int)
      refine ⟨n, uv (n.2.2.2.1.size : Int) ++ strInts n.2.2.2.1, hn, hok, haf, ?_, by rw [List.length_append, strInts_length]; omega, Byt.app (uv_byte _) (fun x hx => strInts_byte _ x hx), ?_, fun rest => by rw [slice_one hn]; simp [cost, h, strInts_length]⟩
      · intro D hD
        obtain ⟨D, rfl⟩ : ∃ m, D = m + 1 := ⟨D - 1, by omega⟩
        simp only [impl_tree_bytesOf.rec, impl_tree_bytesOf.b, cond_true, rdL_nat, hn, Option.bind_some, h, beqT rfl, show ((8 : Int) == 5) = false from rfl, show ((8 : Int) == 6) = false from rfl, cond_false, impl_tree_bytesOf.c6, impl_tree_bytesOf.d8, uvarPut k (by omega)]
        rw [lim_ok (by rw [strInts_length]; omega), cond_true]
      · intro D b p r acc hD hb hd hlen
        obtain ⟨D, rfl⟩ : ∃ m, D = m + 1 := ⟨D - 1, by omega⟩
        simp only [impl_treeReader_node.rec, impl_treeReader_node.b]
        rw [begin_ok k rfl (by omega) (by omega)]
        simp only [Option.bind_some, bneF rfl, cond_false, cond_true, h, beqT rfl, show ((8 : Int) == 5) = false from rfl, show ((8 : Int) == 6) = false from rfl, impl_treeReader_node.c5, impl_treeReader_node.d10]
        rw [text_ok k hk (r := r) hb (by rw [hd]; simp) e2]
        simp only [Option.bind_some, hget, hset]
        have hnode : n = (n.1, n.2.1, 0, n.2.2.2.1, 0, ()) := by conv => lhs; rw [heta, e1, e3]
        rw [h] at hnode
        rw [slice_one hn, ← hnode, List.length_append, strInts_length]
    -- a list
    · have hok' : n.2.2.2.1 = ⟨#[]⟩ ∧ 0 ≤ n.2.2.2.2.1 ∧ ((n.2.2.2.2.1 = 0 ∧ n.2.2.1 = 0) ∨ (0 < n.2.2.2.2.1 ∧ isItem n.2.2.1 = true)) := by
        unfold nok at hok
        rw [h] at hok
        simp only [reduceIte, if_neg (show ¬ ((9 : Int) = 5) by decide), if_neg (show ¬ ((9 : Int) = 6) by decide), if_neg (show ¬ ((9 : Int) = 8) by decide), Bool.and_eq_true, Bool.or_eq_true, beq_iff_eq, decide_eq_true_eq] at hok
        exact ⟨eqS_nil hok.1.1, hok.1.2, hok.2⟩
      obtain ⟨e1, e2, e3⟩ := hok'
      have hnum : 0 ≤ n.2.2.1 ∧ n.2.2.1 < 16 := by
        rcases e3 with e3 | e3
        · omega
        · have := e3.2
          unfold isItem at this
          simp only [Bool.or_eq_true, beq_iff_eq] at this
          omega
      obtain ⟨T, t1, t2, t3, t4, t5⟩ := listLoop k hk l hl af d deep (by omega) n h (fun a x hS hx => ih (deep + 1) a x (by omega) hS hx) _ _ _ _ hP hnx
      have hcnt : ∀ (c pos : Nat) (last : Int) (nx : Nat), PartsR (Sub l af d) l n c pos last nx → pos + c ≤ nx := by
        intro c
        induction c with
        | zero => intro pos last nx hp; have hp : pos = nx := hp; omega
        | succ c ihc =>
          intro pos last nx ⟨_, mid, _, _, _, hS, hp⟩
          have := Sub_lt _ _ _ hS
          have := ihc _ _ _ hp
          omega
      have hc := hcnt _ _ _ _ hP
      have hMn : (n.2.2.2.2.1.toNat : Int) = n.2.2.2.2.1 := Int.toNat_of_nonneg e2
      have hu := uv_len n.2.2.2.2.1
      refine ⟨n, (if n.2.2.2.2.1 ≤ 14 then [16 * n.2.2.2.2.1 + n.2.2.1] else (240 + n.2.2.1) :: uv n.2.2.2.2.1) ++ T, hn, hok, haf, ?_, by split <;> simp <;> omega, ?_, ?_, fun rest => by
        obtain ⟨c1, c2⟩ := t5 rest
        rw [slice_cons hn (by omega), List.cons_append, List.length_append]
        simp only [cost, h, if_neg (show ¬ ((9 : Int) = 5 ∨ (9 : Int) = 6) by omega), if_neg (show ¬ ((9 : Int) = 8) by omega), if_true, c1, c2]
        refine ⟨trivial, ?_⟩
        split
        · simp
        · simp only [List.length_cons]; omega⟩
      · intro D hD
        obtain ⟨D, rfl⟩ : ∃ m, D = m + 1 := ⟨D - 1, by omega⟩
        simp only [impl_tree_bytesOf.rec, impl_tree_bytesOf.b, cond_true, rdL_nat, hn, Option.bind_some, h, beqT rfl, show ((9 : Int) == 5) = false from rfl, show ((9 : Int) == 6) = false from rfl, show ((9 : Int) == 8) = false from rfl, cond_false, impl_tree_bytesOf.c6]
        by_cases h14 : n.2.2.2.2.1 ≤ 14
        · simp only [decide_eq_true h14, cond_true, if_pos h14]
          rw [lim_ok (by (try simp)), cond_true, w64 (show -9223372036854775808 ≤ 16 * n.2.2.2.2.1 by omega) (by omega), w64 (by omega) (by omega), w8 (by omega) (by omega)]
          simp only [impl_tree_bytesOf.c13, ha1]
          rw [t1 D k _ _ 0 (by omega) (by omega) (by omega) (by omega) hM.2 (by simp <;> omega)]
          simp
        · simp only [decide_eq_false h14, cond_false, if_neg h14, impl_tree_bytesOf.d12, uvarPut k (by omega), Option.bind_some]
          rw [w64 (by omega) (by omega), w8 (by omega) (by omega), lim_ok (by simp <;> omega), cond_true]
          simp only [impl_tree_bytesOf.c13, ha1]
          rw [t1 D k _ _ 0 (by omega) (by omega) (by omega) (by omega) hM.2 (by simp <;> omega)]
          simp
      · refine Byt.app ?_ t3
        split
        · exact Byt.cons (by omega) (by omega) Byt.nil
        · exact Byt.cons (by omega) (by omega) (uv_byte _)
      · intro D b p r acc hD hb hd hlen
        obtain ⟨D, rfl⟩ : ∃ m, D = m + 2 := ⟨D - 2, by omega⟩
        simp only [impl_treeReader_node.rec, impl_treeReader_node.b]
        rw [begin_ok k rfl (by omega) (by omega)]
        simp only [Option.bind_some, bneF rfl, cond_false, cond_true, h, beqT rfl, show ((9 : Int) == 5) = false from rfl, show ((9 : Int) == 6) = false from rfl, show ((9 : Int) == 8) = false from rfl, impl_treeReader_node.c5, impl_treeReader_parts.b]
        -- behind the count
        have tail : ∀ q : Nat, b.drop q = T ++ r → q + T.length = p + ((if n.2.2.2.2.1 ≤ 14 then [16 * n.2.2.2.2.1 + n.2.2.1] else (240 + n.2.2.1) :: uv n.2.2.2.2.1) ++ T).length →
            impl_treeReader_parts.c4 k (impl_treeReader_node.rec k D).1 (acc.length : Int) (deep : Int) n.2.2.2.2.1 n.2.2.1 (rdr b q) (acc ++ [(9, n.2.1, 0, ⟨#[]⟩, 0, ())]) =
              some ((), (rdr b (p + ((if n.2.2.2.2.1 ≤ 14 then [16 * n.2.2.2.2.1 + n.2.2.1] else (240 + n.2.2.1) :: uv n.2.2.2.2.1) ++ T).length), acc ++ slice l at_ nx)) := by
          intro q hq hqe
          rw [← hqe]
          simp only [impl_treeReader_parts.c4, bneF rfl, cst, Bool.false_or, Option.bind_some]
          rcases e3 with ⟨e3, e4⟩ | ⟨e3, e4⟩
          · simp only [e3, beqT rfl, cond_true]
            rw [e3] at hP
            obtain rfl : at_ + 1 = nx := hP
            have hT : T = [] := by
              have := t1 d 1 [] 0 0 (Nat.le_refl _) (by omega) (by omega) (by omega) (by omega) (by simp <;> omega)
              simp only [impl_tree_bytesOf.l16, show decide ((0 : Int) < 0) = false from rfl, cond_false, h, show ((9 : Int) == 12) = false from rfl, impl_tree_bytesOf.c26] at this
              simpa using this
            have hnode : n = (n.1, n.2.1, 0, ⟨#[]⟩, 0, ()) := by conv => lhs; rw [heta, e1, e3, e4]
            rw [h] at hnode
            rw [slice_one hn, ← hnode, hT]
            simp
          · simp only [beqF (show ¬ n.2.2.2.2.1 = 0 by omega), cond_false, isType_eq, e4, Bool.true_or, Option.bind_some, Bool.not_true, impl_treeReader_parts.c7, within_eq]
            rw [decide_eq_true (show (0 : Int) ≤ n.2.2.2.2.1 from e2), decide_eq_true (show n.2.2.2.2.1 ≤ 1500 by omega)]
            simp only [Bool.and_self, Option.bind_some, Bool.not_true, cond_false, impl_treeReader_parts.c9, hget, hset]
            rw [t4 D k b q r _ _ 0 (by omega) (by omega) (by omega) (by omega) (by omega) hb hq (by simp <;> omega)]
            rw [List.append_assoc, ← slice_app l (show at_ ≤ at_ + 1 by omega) (show at_ + 1 ≤ nx by omega), slice_one hn]
            have hnode : n = (n.1, n.2.1, n.2.2.1, ⟨#[]⟩, n.2.2.2.2.1, ()) := by conv => lhs; rw [heta, e1]
            rw [h] at hnode
            rw [← hnode]
        by_cases h14 : n.2.2.2.2.1 ≤ 14
        · simp only [if_pos h14] at hd tail ⊢
          have hd' : b.drop p = (16 * n.2.2.2.2.1 + n.2.2.1) :: (T ++ r) := by rw [hd]; simp
          rw [one_ok k hb hd' (by omega) (by omega)]
          have e16 : IntKind.wrap .i64 (Int.tdiv (16 * n.2.2.2.2.1 + n.2.2.1) 16) = n.2.2.2.2.1 := by
            rw [Int.tdiv_eq_ediv_of_nonneg (by omega), w64 (by omega) (by omega)]; omega
          have em : Int.tmod (16 * n.2.2.2.2.1 + n.2.2.1) 16 = n.2.2.1 := by rw [Int.tmod_eq_emod_of_nonneg (by omega)]; omega
          simp only [Option.bind_some, e16, em, beqF (show ¬ n.2.2.2.2.1 = 15 by omega), cond_false]
          rw [tail (p + 1) (drop_get hd').2.2 (by simp <;> omega)]
          rfl
        · simp only [if_neg h14] at hd tail ⊢
          have hd' : b.drop p = (240 + n.2.2.1) :: (uv n.2.2.2.2.1 ++ (T ++ r)) := by rw [hd]; simp
          obtain ⟨g1, g2, g3⟩ := drop_get hd'
          rw [one_ok k hb hd' (by omega) (by omega)]
          have e16 : IntKind.wrap .i64 (Int.tdiv (240 + n.2.2.1) 16) = 15 := by
            rw [Int.tdiv_eq_ediv_of_nonneg (by omega), w64 (by omega) (by omega)]; omega
          have em : Int.tmod (240 + n.2.2.1) 16 = n.2.2.1 := by rw [Int.tmod_eq_emod_of_nonneg (by omega)]; omega
          simp only [Option.bind_some, e16, em, beqT rfl, cond_true]
          rw [uvar_ok k hk hb g3 hM]
          simp only [Option.bind_some]
          rw [tail (p + 1 + (uv n.2.2.2.2.1).length) (drop_app g3).1 (by simp <;> omega)]
          rfl
    -- a struct
    · have hok' : n.2.2.1 = 0 ∧ n.2.2.2.1 = ⟨#[]⟩ ∧ 0 ≤ n.2.2.2.2.1 := by
        unfold nok at hok
        rw [h] at hok
        simp only [reduceIte, if_neg (show ¬ ((12 : Int) = 5) by decide), if_neg (show ¬ ((12 : Int) = 6) by decide), if_neg (show ¬ ((12 : Int) = 8) by decide), if_neg (show ¬ ((12 : Int) = 9) by decide), Bool.and_eq_true, beq_iff_eq, decide_eq_true_eq] at hok
        exact ⟨hok.1.1, eqS_nil hok.1.2, hok.2⟩
      obtain ⟨e1, e2, e3⟩ := hok'
      obtain ⟨T, t1, t2, t3, t4, t5, t6⟩ := structLoop k hk l hl af d deep (by omega) n h n.2.1 (fun a x hS hx => ih (deep + 1) a x (by omega) hS hx) _ _ _ _ hP hnx (by omega) (by omega)
      have hcnt : ∀ (c pos : Nat) (last : Int) (nx : Nat), PartsR (Sub l af d) l n c pos last nx → pos + c ≤ nx := by
        intro c
        induction c with
        | zero => intro pos last nx hp; have hp : pos = nx := hp; omega
        | succ c ihc =>
          intro pos last nx ⟨_, mid, _, _, _, hS, hp⟩
          have := Sub_lt _ _ _ hS
          have := ihc _ _ _ hp
          omega
      have hc := hcnt _ _ _ _ hP
      have hMn : (n.2.2.2.2.1.toNat : Int) = n.2.2.2.2.1 := Int.toNat_of_nonneg e3
      refine ⟨n, T, hn, hok, haf, ?_, by omega, t3, ?_, fun rest => by
        obtain ⟨c1, c2⟩ := t5 rest
        rw [slice_cons hn (by omega), List.cons_append]
        simp only [cost, h, if_neg (show ¬ ((12 : Int) = 5 ∨ (12 : Int) = 6) by omega), if_neg (show ¬ ((12 : Int) = 8) by omega), if_neg (show ¬ ((12 : Int) = 9) by omega), if_true, c1, c2]
        exact ⟨trivial, by omega⟩⟩
      · intro D hD
        obtain ⟨D, rfl⟩ : ∃ m, D = m + 1 := ⟨D - 1, by omega⟩
        simp only [impl_tree_bytesOf.rec, impl_tree_bytesOf.b, cond_true, rdL_nat, hn, Option.bind_some, h, show ((12 : Int) == 5) = false from rfl, show ((12 : Int) == 6) = false from rfl, show ((12 : Int) == 8) = false from rfl, show ((12 : Int) == 9) = false from rfl, cond_false, impl_tree_bytesOf.c6, impl_tree_bytesOf.c13, ha1]
        rw [t1 D k [] _ 0 (by omega) (by omega) (by omega) (by omega) hM.2 (by simp <;> omega)]
        simp
      · intro D b p r acc hD hb hd hlen
        obtain ⟨D, rfl⟩ : ∃ m, D = m + 2 := ⟨D - 2, by omega⟩
        simp only [impl_treeReader_node.rec, impl_treeReader_node.b]
        rw [begin_ok k rfl (by omega) (by omega)]
        simp only [Option.bind_some, bneF rfl, cond_false, cond_true, h, beqT rfl, show ((12 : Int) == 5) = false from rfl, show ((12 : Int) == 6) = false from rfl, show ((12 : Int) == 8) = false from rfl, show ((12 : Int) == 9) = false from rfl, impl_treeReader_node.c5, impl_treeReader_fields.b]
        have := t4 D k b p r acc [] 0 (by omega) (by omega) hb hd (by simp <;> omega) (by omega) (by omega)
        rw [show (acc ++ [((12 : Int), n.2.1, (0 : Int), (⟨#[]⟩ : ByteArray), (0 : Int), ())] : List TNode) = acc ++ sn n.2.1 0 :: [] from rfl, this]
        simp only [Option.bind_some, List.nil_append]
        rw [← slice_app l (show at_ ≤ at_ + 1 by omega) (show at_ + 1 ≤ nx by omega), slice_one hn, Int.zero_add, hMn]
        have hnode : n = (n.1, n.2.1, 0, ⟨#[]⟩, n.2.2.2.2.1, ()) := by conv => lhs; rw [heta, e1, e2]
        rw [h] at hnode
        rw [show sn n.2.1 n.2.2.2.2.1 = n from hnode.symm]
        rfl
end Go.Law
end

section
/- Trees: packed and read, as the program's own functions do. -/
set_option linter.unusedVariables false
set_option linter.unusedSimpArgs false
namespace Go.Law
open Go.Am Go.Fn
variable (k : Nat)

theorem treeRoundC (hk : 2000 ≤ k) (l : List TNode) (hw : ∀ n, n ∈ l → WfN n) (hlen : l.length < 4294967296) :
    ∃ b : Bool, spec_TreeOk k l = some b ∧ ((b = false ∧ impl_TreePack k l = some (((), false), [])) ∨
      (b = true ∧ ∃ B, impl_TreePack k l = some (((), true), B) ∧ B.length ≤ 1000000 ∧ Byt B ∧ (cost 12 l).1 = B.length ∧
        ∀ (pre r : List Int), pre.length + r.length < 4000000000000000000 → impl_TreeRead k (pre ++ (B ++ r)) (pre.length : Int) = some (((), ((pre.length + B.length : Nat) : Int), 0), l))) := by
  obtain ⟨b, h1, h2⟩ := treeOf_eq k hk l hw hlen
  refine ⟨b, h1, ?_⟩
  unfold impl_TreePack
  rcases h2 with ⟨rfl, x, hx⟩ | ⟨rfl, hl, hl1, af, hx, hS, n, hn, h12, hid⟩
  · exact .inl ⟨rfl, by rw [hx]; rfl⟩
  · rw [hx]
    simp only [Option.bind_some, Bool.not_true, cond_false]
    obtain ⟨m, B, b1, b2, b3, b4, b5, b6, b7, b8⟩ := packRead k hk l hl hw af 12 1 0 l.length rfl hS (Nat.le_refl _)
    obtain rfl : n = m := by rw [hn] at b1; exact Option.some.inj b1
    have hp : impl_tree_bytesOf k 0 (true, (l, (), ())) af = some ((), ((l, (), ()), af, B)) := b4 k (by omega)
    refine .inr ⟨trivial, B, by rw [hp]; rfl, by omega, b6, ?_, fun pre r hpr => ?_⟩
    · have := (b8 []).2
      rw [List.append_nil, show slice l 0 l.length = l by simp [slice]] at this
      exact this
    have hB0 : 0 < B.length ∨ B.length = 0 := by omega
    have hrd := b7 k (pre ++ (B ++ r)) pre.length r [] (by omega) (by simp; omega) (by simp) (by simp; omega)
    have hrd : impl_treeReader_node k 12 0 1 (rdr (pre ++ (B ++ r)) pre.length) [] = some ((), (rdr (pre ++ (B ++ r)) (pre.length + B.length), [] ++ slice l 0 l.length)) := by
      rw [h12, hid] at hrd; exact hrd
    unfold impl_TreeRead
    -- a struct's bytes are not none
    have hpos : 0 < B.length := by
      rcases hB0 with h | h
      · exact h
      · exfalso
        have hB : B = [] := List.eq_nil_of_length_eq_zero h
        have hrd2 := b7 k [] 0 [] [] (by omega) (by simp) (by simp [hB]) (by simp; omega)
        rw [h12, hid] at hrd2
        obtain ⟨K, rfl⟩ : ∃ m, k = m + 2 := ⟨k - 2, by omega⟩
        simp only [impl_treeReader_node.rec, impl_treeReader_node.b] at hrd2
        rw [begin_ok (K + 2) rfl (by omega) (by simp)] at hrd2
        simp only [Option.bind_some, bneF rfl, cond_false, show ((12 : Int) == 5) = false from rfl, show ((12 : Int) == 6) = false from rfl, show ((12 : Int) == 8) = false from rfl, show ((12 : Int) == 9) = false from rfl, impl_treeReader_node.c5, beqT rfl, cond_true, impl_treeReader_fields.b] at hrd2
        simp only [impl_treeReader_fields.l1, impl_treeReader_one, rdr, List.length_nil, bneF rfl, cst, Option.bind_some, show decide (((0 : Nat) : Int) ≥ ((0 : Nat) : Int)) = true from rfl, Bool.or_true, cond_true, impl_treeReader_fail, beqT rfl] at hrd2
        simp [hB] at hrd2
    have c1 : (decide ((0 : Int) ≤ (pre.length : Int)) && decide ((pre.length : Int) ≤ IntKind.wrap .i64 (((pre ++ (B ++ r)).length : Int) - 1))) = true := by
      rw [w64 (by simp; omega) (by simp; omega)]
      simp
      omega
    simp only [within_eq, c1, Option.bind_some, Bool.not_true, cond_false]
    rw [show ((pre ++ (B ++ r), (pre.length : Int), (), (0 : Int), ()) : TTreeReaderB) = rdr (pre ++ (B ++ r)) pre.length from rfl, hrd]
    simp only [Option.bind_some, bneF rfl, cond_false, List.nil_append]
    rw [show slice l 0 l.length = l by simp [slice]]

theorem treeRound (hk : 2000 ≤ k) (l : List TNode) (hw : ∀ n, n ∈ l → WfN n) (hlen : l.length < 4294967296) :
    ∃ b : Bool, spec_TreeOk k l = some b ∧ ((b = false ∧ impl_TreePack k l = some (((), false), [])) ∨
      (b = true ∧ ∃ B, impl_TreePack k l = some (((), true), B) ∧ B.length ≤ 1000000 ∧ Byt B ∧
        ∀ (pre r : List Int), pre.length + r.length < 4000000000000000000 → impl_TreeRead k (pre ++ (B ++ r)) (pre.length : Int) = some (((), ((pre.length + B.length : Nat) : Int), 0), l))) := by
  obtain ⟨b, h1, h3⟩ := treeRoundC k hk l hw hlen
  refine ⟨b, h1, ?_⟩
  rcases h3 with h3 | ⟨h3, B, q1, q2, q3, _, q4⟩
  · exact .inl h3
  · exact .inr ⟨h3, B, q1, q2, q3, q4⟩

end Go.Law
end

section
/- Trees: the reference packs them. -/
set_option linter.unusedVariables false
set_option linter.unusedSimpArgs false
namespace Go.Law
open Go.Am Go.Fn
variable (k : Nat)

theorem l2Down7 (t : Int) (h0 : -9223372036854775808 ≤ t) (h1 : t < 18446744073709551616) : spec_l2Down k t 7 = some ((t % 18446744073709551616) / 128) := by
  have hm : IntKind.wrap .i64 (shlI .i64 1 (IntKind.wrap .i64 (64 - 7)) - 1) = 2 ^ 57 - 1 := by decide
  unfold spec_l2Down
  rw [beqF (by decide), cond_false, decide_eq_true (show (0 : Int) ≤ 7 by decide), cond_true, decide_eq_true (show (0 : Int) ≤ IntKind.wrap .i64 (64 - 7) by decide), cond_true, hm, and_mask_i64 _ 57 (by decide)]
  have := shrI_eq .i64 t 7 (by decide)
  rw [show ((7 : Nat) : Int) = 7 from rfl] at this
  rw [this, show (2 : Int) ^ 57 = 144115188075855872 by decide, show (2 : Int) ^ 7 = 128 by decide]
  congr 1
  omega

theorem sputLoop : ∀ (f n : Nat) (t : Int) (acc : List Int), I64 t → (t % 18446744073709551616).toNat < 128 ^ (f + 1) → f < n → acc.length + f ≤ 1000 →
    spec_UvarPut.l2 k n t acc = some ((), acc ++ uvB f (t % 18446744073709551616).toNat) := by
  intro f
  induction f with
  | zero =>
    intro n t acc ht h hn hl
    obtain ⟨h0, h1⟩ := ht
    obtain ⟨n, rfl⟩ : ∃ m, n = m + 1 := ⟨n - 1, by omega⟩
    have h : (t % 18446744073709551616).toNat < 128 := by simpa using h
    simp only [spec_UvarPut.l2, l2Down7 k t h0 (by omega), Option.bind_some]
    rw [bneF (by omega), cond_false, lim_ok (by simp; omega), cond_true, w8 (by omega) (by omega)]
    simp only [uvB]
    rw [show (((t % 18446744073709551616).toNat : Nat) : Int) = t by omega]
  | succ f ih =>
    intro n t acc ht h hn hl
    obtain ⟨h0, h1⟩ := ht
    obtain ⟨n, rfl⟩ : ∃ m, n = m + 1 := ⟨n - 1, by omega⟩
    simp only [spec_UvarPut.l2, l2Down7 k t h0 (by omega), Option.bind_some]
    by_cases hb : (t % 18446744073709551616) / 128 = 0
    · rw [bneF hb, cond_false, lim_ok (by simp; omega), cond_true, w8 (by omega) (by omega)]
      simp only [uvB]
      rw [if_neg (by omega), show (((t % 18446744073709551616).toNat : Nat) : Int) = t by omega]
    · have e127 : bits .and .i64 t 127 = t % 128 := by
        have := and_mask_i64 t 7 (by decide)
        rw [show ((2 : Int) ^ 7 - 1) = 127 by decide, show ((2 : Int) ^ 7) = 128 by decide] at this
        exact this
      rw [bneT hb, cond_true, lim_ok (by simp; omega), cond_true, e127, w64 (by omega) (by omega), w8 (by omega) (by omega)]
      have hmod : ((t % 18446744073709551616) / 128) % 18446744073709551616 = (t % 18446744073709551616) / 128 := by omega
      have := ih n ((t % 18446744073709551616) / 128) (acc ++ [t % 128 + 128]) ⟨by omega, by omega⟩ (by
        rw [hmod]
        rw [Nat.pow_succ] at h
        have : ((t % 18446744073709551616) / 128).toNat = (t % 18446744073709551616).toNat / 128 := by omega
        rw [this]
        exact Nat.div_lt_of_lt_mul (by rw [Nat.mul_comm]; exact h)) (by omega) (by simp; omega)
      rw [this, hmod]
      simp only [uvB]
      rw [if_pos (show 127 < (t % 18446744073709551616).toNat by omega), show ((t % 18446744073709551616) / 128).toNat = (t % 18446744073709551616).toNat / 128 by omega, show (((t % 18446744073709551616).toNat % 128 + 128 : Nat) : Int) = t % 128 + 128 by omega]
      simp

theorem suvarPut (hk : 100 ≤ k) (x : Int) (h : I64 x) : spec_UvarPut k x = some ((), uv x) := by
  unfold spec_UvarPut
  have := sputLoop k 9 k x [] h (by omega) (by omega) (by simp)
  rw [this]
  rfl

theorem szigPut (hk : 100 ≤ k) (x : Int) (h : I64 x) : spec_ZigPut k x = some ((), uv (zig x)) := by
  obtain ⟨h0, h1⟩ := h
  have e : shlI .i64 x 1 = IntKind.wrap .i64 (x * 2) := by
    unfold shlI
    simp [IntKind.bits]
  have hz : spec_Zig k x = some (zig x) := by
    have := w64_lo (x * 2)
    have := w64_hi (x * 2)
    unfold spec_Zig zig
    rw [e]
    by_cases hx : x < 0
    · rw [decide_eq_true hx, cond_true, if_neg (by omega), bits_xor_comm, xor_ones _ (by assumption) (by assumption)]
    · rw [decide_eq_false hx, cond_false, if_pos (by omega)]
  unfold spec_ZigPut
  rw [hz]
  simp only [Option.bind_some, suvarPut k hk _ (zig_range x)]

theorem byt1 (x : Int) : Byt [IntKind.wrap .u8 x] := by
  intro y hy
  rw [List.mem_singleton] at hy
  subst hy
  rw [wu8_eq]
  omega

/-- the reference packs a node with its parts -/
def SPk (l : List TNode) (d at_ nx : Nat) : Prop := ∀ D, d ≤ D → ∃ B, spec_l4Pack.rec k D l (at_ : Int) = some (((), (nx : Int)), B) ∧ Byt B ∧ B.length + 11 ≤ 400 * (nx - at_)

theorem slistLoop (l : List TNode) (hl : l.length ≤ 1500) (af : List Int) (d : Nat) (n : TNode) (hM : n.2.2.2.2.1 < 1000000) (D : Nat)
    (ih : ∀ at_ nx, Sub l af d at_ nx → nx ≤ l.length → ∃ B, spec_l4Pack.rec k D l (at_ : Int) = some (((), (nx : Int)), B) ∧ Byt B ∧ B.length + 11 ≤ 400 * (nx - at_)) :
    ∀ (c pos : Nat) (last : Int) (nx : Nat) (f : Nat) (i : Int) (out : List Int), PartsR (Sub l af d) l n c pos last nx → nx ≤ l.length → c < f → n.2.2.2.2.1 - i = c → 0 ≤ i → out.length + 400 * (nx - pos) ≤ 4000000 → Byt out →
    ∃ B, spec_l4Pack.l16 k (spec_l4Pack.rec k D) f l (pos : Int) i n out = some (((), (nx : Int)), B) ∧ Byt B ∧ B.length ≤ out.length + 400 * (nx - pos) := by
  intro c
  induction c with
  | zero =>
    intro pos last nx f i out hP hnx hf hi h0 ho hb
    obtain ⟨f, rfl⟩ : ∃ m, f = m + 1 := ⟨f - 1, by omega⟩
    obtain rfl : pos = nx := hP
    simp only [spec_l4Pack.l16, decide_eq_false (show ¬ i < n.2.2.2.2.1 by omega), cond_false, spec_l4Pack.c36]
    exact ⟨_, rfl, hb, by omega⟩
  | succ c ihc =>
    intro pos last nx f i out hP hnx hf hi h0 ho hb
    obtain ⟨p0, mid, hp, _, _, hS, hP⟩ := hP
    obtain ⟨f, rfl⟩ : ∃ m, f = m + 1 := ⟨f - 1, by omega⟩
    have hlt := Sub_lt _ _ _ hS
    have hmn := (PartsR_mono (S' := fun _ _ => True) (Sub_lt d) _ _ _ _ (fun _ _ _ _ _ => trivial) hP).2
    obtain ⟨B, b1, b2, b3⟩ := ih pos mid hS (by omega)
    simp only [spec_l4Pack.l16, decide_eq_true (show i < n.2.2.2.2.1 by omega), cond_true, b1, Option.bind_some]
    rw [lim_ok (by omega), cond_true, w64 (by omega) (by omega)]
    obtain ⟨T, t1, t2, t3⟩ := ihc mid p0.2.1 nx f (i + 1) (out ++ B) hP hnx (by omega) (by omega) (by omega) (by simp; omega) (hb.app b2)
    exact ⟨T, t1, t2, by simp at t3; omega⟩

theorem sstructLoop (hk : 2000 ≤ k) (l : List TNode) (hl : l.length ≤ 1500) (af : List Int) (d : Nat) (n : TNode) (hn : n.1 = 12) (hM : n.2.2.2.2.1 < 1000000) (D : Nat)
    (ih : ∀ at_ nx, Sub l af d at_ nx → nx ≤ l.length → ∃ B, spec_l4Pack.rec k D l (at_ : Int) = some (((), (nx : Int)), B) ∧ Byt B ∧ B.length + 11 ≤ 400 * (nx - at_)) :
    ∀ (c pos : Nat) (last : Int) (nx : Nat) (f : Nat) (i : Int) (out : List Int), PartsR (Sub l af d) l n c pos last nx → nx ≤ l.length → 0 ≤ last → last ≤ 1000 → c < f → n.2.2.2.2.1 - i = c → 0 ≤ i → out.length + 400 * (nx - pos) + 1 ≤ 4000000 → Byt out →
    ∃ B, spec_l4Pack.l24 k (spec_l4Pack.rec k D) f l (pos : Int) last i n out = some (((), (nx : Int)), B) ∧ Byt B ∧ B.length ≤ out.length + 400 * (nx - pos) + 1 ∧ out.length + 1 ≤ B.length := by
  intro c
  induction c with
  | zero =>
    intro pos last nx f i out hP hnx _ _ hf hi h0 ho hb
    obtain ⟨f, rfl⟩ : ∃ m, f = m + 1 := ⟨f - 1, by omega⟩
    obtain rfl : pos = nx := hP
    simp only [spec_l4Pack.l24, decide_eq_false (show ¬ i < n.2.2.2.2.1 by omega), cond_false, spec_l4Pack.c36]
    rw [lim_ok (by simp; omega), cond_true]
    exact ⟨_, rfl, hb.app (Byt.cons (by omega) (by omega) Byt.nil), by simp, by simp⟩
  | succ c ihc =>
    intro pos last nx f i out hP hnx hl0 hl1 hf hi h0 ho hb
    obtain ⟨p0, mid, hp, _, h12, hS, hP⟩ := hP
    obtain ⟨q1, q2⟩ := h12 hn
    obtain ⟨f, rfl⟩ : ∃ m, f = m + 1 := ⟨f - 1, by omega⟩
    have hlt := Sub_lt _ _ _ hS
    have hmn := (PartsR_mono (S' := fun _ _ => True) (Sub_lt d) _ _ _ _ (fun _ _ _ _ _ => trivial) hP).2
    obtain ⟨B, b1, b2, b3⟩ := ih pos mid hS (by omega)
    have tail : ∀ o : List Int, Byt o → o.length ≤ out.length + 11 → out.length ≤ o.length → ∃ B, spec_l4Pack.c31 k (spec_l4Pack.rec k D) (spec_l4Pack.l24 k (spec_l4Pack.rec k D) f) l (pos : Int) i n o p0 = some (((), (nx : Int)), B) ∧ Byt B ∧ B.length ≤ out.length + 400 * (nx - pos) + 1 ∧ out.length + 1 ≤ B.length := by
      intro o hbo hol hol2
      unfold spec_l4Pack.c31
      simp only [b1, Option.bind_some]
      rw [lim_ok (by omega), cond_true, w64 (by omega) (by omega)]
      obtain ⟨T, t1, t2, t3, t4⟩ := ihc mid p0.2.1 nx f (i + 1) (o ++ B) hP hnx (by omega) q2 (by omega) (by omega) (by omega) (by simp; omega) (hbo.app b2)
      exact ⟨T, t1, t2, by simp at t3; omega, by simp at t4; omega⟩
    have hu := uv_len (zig p0.2.1)
    simp only [spec_l4Pack.l24, decide_eq_true (show i < n.2.2.2.2.1 by omega), cond_true, rdL_nat, hp, Option.bind_some]
    cases decide (IntKind.wrap .i64 (p0.2.1 - last) ≤ 15) with
    | true =>
      rw [cond_true, lim_ok (by simp; omega), cond_true]
      exact tail _ (hb.app (byt1 _)) (by simp) (by simp)
    | false =>
      rw [cond_false, lim_ok (by simp; omega), cond_true, szigPut k (by omega) _ ⟨by omega, by omega⟩]
      simp only [Option.bind_some]
      rw [lim_ok (by simp; omega), cond_true]
      exact tail _ ((hb.app (byt1 _)).app (uv_byte _)) (by simp <;> omega) (by simp <;> omega)

theorem spack (hk : 2000 ≤ k) (l : List TNode) (hl : l.length ≤ 1500) (hw : ∀ n, n ∈ l → WfN n) (af : List Int) : ∀ (d D at_ nx : Nat), d ≤ D → Sub l af d at_ nx → nx ≤ l.length →
    ∃ B, spec_l4Pack.rec k D l (at_ : Int) = some (((), (nx : Int)), B) ∧ (Byt B ∧ B.length + 11 ≤ 400 * (nx - at_)) ∧ (∀ n : TNode, l[at_]? = some n → n.1 = 12 → 1 ≤ B.length) := by
  intro d
  induction d with
  | zero => intro D at_ nx _ h; exact h.elim
  | succ d ih =>
    intro D at_ nx hD hS hnx
    obtain ⟨D, rfl⟩ : ∃ m, D = m + 1 := ⟨D - 1, by omega⟩
    obtain ⟨n, hn, hok, hP, haf⟩ := hS
    obtain ⟨w1, w2, w3, w4, w5⟩ := hw n (List.mem_of_getElem? hn)
    have hat : at_ < l.length := (List.getElem?_eq_some_iff.1 hn).1
    have hmn := (PartsR_mono (S' := fun _ _ => True) (Sub_lt d) _ _ _ _ (fun _ _ _ _ _ => trivial) hP).2
    have ha1 : IntKind.wrap .i64 ((at_ : Int) + 1) = ((at_ + 1 : Nat) : Int) := by rw [w64 (by omega) (by omega)]; omega
    have hcnt : ∀ (c pos : Nat) (last : Int) (nx : Nat), PartsR (Sub l af d) l n c pos last nx → pos + c ≤ nx := by
      intro c
      induction c with
      | zero => intro pos last nx hp; have hp : pos = nx := hp; omega
      | succ c ihc =>
        intro pos last nx ⟨_, mid, _, _, _, hS, hp⟩
        have := Sub_lt _ _ _ hS
        have := ihc _ _ _ hp
        omega
    have hc := hcnt _ _ _ _ hP
    have leaf : n.2.2.2.2.1 = 0 → at_ + 1 = nx := fun h0 => by rw [h0] at hP; exact hP
    have not12 : n.1 ≠ 12 → ∀ (B : List Int) (m : TNode), some n = some m → m.1 = 12 → 1 ≤ B.length := fun h B m hm h12 => by cases hm; exact (h h12).elim
    simp only [spec_l4Pack.rec, spec_l4Pack.b, rdL_nat, hn, Option.bind_some, ha1]
    have hk' := nok_kind hok
    by_cases h56 : n.1 = 5 ∨ n.1 = 6
    · have h0 : n.2.2.2.2.1 = 0 := by
        unfold nok at hok
        rcases h56 with h | h
        · rw [if_pos h] at hok
          simp only [Bool.and_eq_true, beq_iff_eq] at hok
          exact hok.2
        · rw [if_neg (by omega), if_pos h] at hok
          simp only [Bool.and_eq_true, beq_iff_eq] at hok
          exact hok.2
      obtain rfl := leaf h0
      have hu := uv_len (zig n.2.2.1)
      have e : ∀ t, spec_l4Pack.c7 k (spec_l4Pack.rec k D) l ((at_ + 1 : Nat) : Int) t true n [] = some (((), ((at_ + 1 : Nat) : Int)), uv (zig n.2.2.1)) := fun t => by
        simp only [spec_l4Pack.c7, cond_true, szigPut k (by omega) _ w3, Option.bind_some]
      rcases h56 with h | h
      · rw [beqT h, cond_true, e]
        exact ⟨_, rfl, ⟨uv_byte _, by omega⟩, not12 (by omega) _⟩
      · rw [beqF (show ¬ n.1 = 5 by omega), beqT h, cond_false, e]
        exact ⟨_, rfl, ⟨uv_byte _, by omega⟩, not12 (by omega) _⟩
    · rw [beqF (show ¬ n.1 = 5 by omega), beqF (show ¬ n.1 = 6 by omega), cond_false]
      simp only [spec_l4Pack.c7, cond_false]
      by_cases h8 : n.1 = 8
      · have h0 : n.2.2.2.1.size ≤ 300 ∧ n.2.2.2.2.1 = 0 := by
          unfold nok at hok
          rw [if_neg (by omega), if_neg (by omega), if_pos h8] at hok
          simp only [Bool.and_eq_true, beq_iff_eq, decide_eq_true_eq] at hok
          exact ⟨by omega, hok.2⟩
        obtain rfl := leaf h0.2
        have hu := uv_len (n.2.2.2.1.size : Int)
        rw [beqT h8, cond_true]
        unfold spec_l4Pack.d9
        simp only [suvarPut k (by omega) (n.2.2.2.1.size : Int) ⟨by omega, by omega⟩, Option.bind_some]
        rw [lim_ok (by rw [strInts_length]; omega), cond_true]
        exact ⟨_, rfl, ⟨Byt.app (uv_byte _) (fun x hx => strInts_byte _ x hx), by rw [List.length_append, strInts_length]; omega⟩, not12 (by omega) _⟩
      · rw [beqF h8, cond_false]
        by_cases h9 : n.1 = 9
        · have h0 : 0 ≤ n.2.2.2.2.1 := by
            unfold nok at hok
            rw [if_neg (by omega), if_neg (by omega), if_neg h8, if_pos h9] at hok
            simp only [Bool.and_eq_true, decide_eq_true_eq] at hok
            omega
          rw [beqT h9, cond_true]
          have lp : ∀ out : List Int, Byt out → out.length ≤ 11 → ∃ B, spec_l4Pack.c15 k (spec_l4Pack.rec k D) l ((at_ + 1 : Nat) : Int) n out = some (((), (nx : Int)), B) ∧ (Byt B ∧ B.length + 11 ≤ 400 * (nx - at_)) ∧ (∀ m : TNode, some n = some m → m.1 = 12 → 1 ≤ B.length) := fun out hb ho => by
            unfold spec_l4Pack.c15
            obtain ⟨B, b1, b2, b3⟩ := slistLoop k l hl af d n (by omega) D (fun a x hS hx => by obtain ⟨B, q1, q2, _⟩ := ih D a x (by omega) hS hx; exact ⟨B, q1, q2⟩) n.2.2.2.2.1.toNat (at_ + 1) 0 nx k 0 out hP hnx (by omega) (by omega) (by omega) (by omega) hb
            exact ⟨B, b1, ⟨b2, by omega⟩, not12 (by omega) _⟩
          have hu := uv_len n.2.2.2.2.1
          cases decide (n.2.2.2.2.1 ≤ 14) with
          | true =>
            rw [cond_true, lim_ok (by simp), cond_true]
            exact lp _ (Byt.nil.app (byt1 _)) (by simp)
          | false =>
            rw [cond_false, lim_ok (by simp), cond_true, suvarPut k (by omega) _ w4]
            simp only [Option.bind_some]
            rw [lim_ok (by simp; omega), cond_true]
            exact lp _ ((Byt.nil.app (byt1 _)).app (uv_byte _)) (by simp; omega)
        · rw [beqF h9, cond_false]
          by_cases h12 : n.1 = 12
          · have h0 : 0 ≤ n.2.2.2.2.1 := by
              unfold nok at hok
              rw [if_neg (by omega), if_neg (by omega), if_neg h8, if_neg h9, if_pos h12] at hok
              simp only [Bool.and_eq_true, decide_eq_true_eq] at hok
              omega
            rw [beqT h12, cond_true]
            obtain ⟨B, b1, b2, b3, b4⟩ := sstructLoop k hk l hl af d n h12 (by omega) D (fun a x hS hx => by obtain ⟨B, q1, q2, _⟩ := ih D a x (by omega) hS hx; exact ⟨B, q1, q2⟩) n.2.2.2.2.1.toNat (at_ + 1) 0 nx k 0 [] hP hnx (by omega) (by omega) (by omega) (by omega) (by omega) (by simp; omega) Byt.nil
            exact ⟨B, b1, ⟨b2, by simp at b3; omega⟩, fun _ _ _ => by simp at b4; omega⟩
          · rw [beqF h12, cond_false]
            have h0 : n.2.2.2.2.1 = 0 := by
              unfold nok at hok
              rw [if_neg (by omega), if_neg (by omega), if_neg h8, if_neg h9, if_neg h12] at hok
              simp only [Bool.and_eq_true, beq_iff_eq] at hok
              exact hok.2
            obtain rfl := leaf h0
            exact ⟨_, rfl, ⟨Byt.nil, by simp⟩, not12 h12 _⟩
end Go.Law
end

section
/- Draws: they come to an end, whatever the bytes, and what is drawn is within its bounds. -/
set_option linter.unusedVariables false
set_option linter.unusedSimpArgs false
namespace Go.Law
open Go.Am Go.Fn

def CurOk (c : TL1Cur) : Prop := 0 ≤ c.2.1 ∧ c.2.1 ≤ (c.1.length : Int) ∧ c.1.length ≤ 1048576

variable (k : Nat)

theorem byte_ok (c : TL1Cur) (hc : CurOk c) : ∃ v c', spec_l1Byte k c = some (v, c') ∧ 0 ≤ v ∧ v < 256 ∧ CurOk c' := by
  obtain ⟨h0, h1, h2⟩ := hc
  unfold spec_l1Byte spec_l1Byte.c6
  by_cases h : c.2.1 < (c.1.length : Int)
  · obtain ⟨x, hx, _⟩ := rdL_some h0 h
    simp only [decide_eq_true h, cond_true, hx, Option.bind_some]
    refine ⟨_, _, rfl, ?_, ?_, ?_, ?_, ?_⟩
    · simp only [and255]; omega
    · simp only [and255]; omega
    · show 0 ≤ IntKind.wrap .i64 (c.2.1 + 1)
      rw [w64 (by omega) (by omega)]; omega
    · show IntKind.wrap .i64 (c.2.1 + 1) ≤ (c.1.length : Int)
      rw [w64 (by omega) (by omega)]; omega
    · exact h2
  · simp only [decide_eq_false h, cond_false]
    refine ⟨_, _, rfl, ?_, ?_, h0, h1, h2⟩
    · simp only [and255]; omega
    · simp only [and255]; omega

theorem below_ok (n : Int) (hn : n < 9223372036854775808) (c : TL1Cur) (hc : CurOk c) : ∃ v c', spec_l1Below k n c = some (v, c') ∧ (n ≤ 0 → v = 0) ∧ (0 < n → 0 ≤ v ∧ v < n) ∧ CurOk c' := by
  unfold spec_l1Below
  by_cases h0 : n ≤ 0
  · simp only [decide_eq_true h0, cond_true]
    exact ⟨_, _, rfl, fun _ => rfl, fun h => by omega, hc⟩
  · have hne : decide (n ≠ 0) = true := decide_eq_true (by omega)
    simp only [decide_eq_false h0, cond_false, hne, cond_true]
    have fin : ∀ v : Int, 0 ≤ v → 0 ≤ Int.tmod v n ∧ Int.tmod v n < n := fun v hv => by
      rw [Int.tmod_eq_emod_of_nonneg hv]
      exact ⟨Int.emod_nonneg _ (by omega), Int.emod_lt_of_pos _ (by omega)⟩
    by_cases h256 : n ≤ 256
    · simp only [decide_eq_true h256, cond_true]
      obtain ⟨v, c', hv, v0, v1, hc'⟩ := byte_ok k c hc
      simp only [hv, Option.bind_some]
      exact ⟨_, _, rfl, fun h => by omega, fun _ => fin v v0, hc'⟩
    · simp only [decide_eq_false h256, cond_false]
      obtain ⟨v1, c1, hv1, a1, b1, hc1⟩ := byte_ok k c hc
      simp only [hv1, Option.bind_some]
      obtain ⟨v2, c2, hv2, a2, b2, hc2⟩ := byte_ok k c1 hc1
      simp only [hv2, Option.bind_some]
      obtain ⟨v3, c3, hv3, a3, b3, hc3⟩ := byte_ok k c2 hc2
      simp only [hv3, Option.bind_some]
      obtain ⟨v4, c4, hv4, a4, b4, hc4⟩ := byte_ok k c3 hc3
      simp only [hv4, Option.bind_some]
      rw [w64 (show -9223372036854775808 ≤ v1 * 16777216 by omega) (by omega), w64 (show -9223372036854775808 ≤ v2 * 65536 by omega) (by omega), w64 (show -9223372036854775808 ≤ v1 * 16777216 + v2 * 65536 by omega) (by omega),
        w64 (show -9223372036854775808 ≤ v3 * 256 by omega) (by omega), w64 (show -9223372036854775808 ≤ v1 * 16777216 + v2 * 65536 + v3 * 256 by omega) (by omega), w64 (show -9223372036854775808 ≤ v1 * 16777216 + v2 * 65536 + v3 * 256 + v4 by omega) (by omega)]
      exact ⟨_, _, rfl, fun h => by omega, fun _ => fin _ (by omega), hc4⟩

theorem pick_ok (l : List Int) (hl : 0 < l.length) (hl2 : l.length < 1000000) (c : TL1Cur) (hc : CurOk c) : ∃ v c', spec_l1PickInt k l c = some (v, c') ∧ v ∈ l ∧ CurOk c' := by
  unfold spec_l1PickInt
  obtain ⟨v, c', hv, _, h1, hc'⟩ := below_ok k (l.length : Int) (by omega) c hc
  obtain ⟨h1, h2⟩ := h1 (by omega)
  simp only [hv, Option.bind_some]
  obtain ⟨x, hx, hx2⟩ := rdL_some h1 h2
  simp only [hx, Option.bind_some]
  exact ⟨_, _, rfl, List.mem_of_getElem? hx2, hc'⟩

theorem once_ok (n : Int) (hn : n < 9223372036854775808) (c : TL1Cur) (hc : CurOk c) : ∃ v c', spec_l1Once k n c = some (v, c') ∧ CurOk c' := by
  unfold spec_l1Once
  obtain ⟨v, c', hv, _, _, hc'⟩ := below_ok k n hn c hc
  simp only [hv, Option.bind_some]
  exact ⟨_, _, rfl, hc'⟩

theorem bytesLoop_ok (t6 : Int) (h6 : t6 ≤ 1000000) : ∀ (m n : Nat) (i : Int) (c : TL1Cur) (acc : List Int), CurOk c → 0 ≤ i → t6 - i ≤ m → m < n → acc.length + m ≤ 4000000 → (∀ x, x ∈ acc → 0 ≤ x ∧ x < 256) →
    ∃ c' out, spec_l1DrawBytes.l4 k n t6 i c acc = some ((), (c', out)) ∧ CurOk c' ∧ out.length ≤ acc.length + m ∧ ∀ x, x ∈ out → 0 ≤ x ∧ x < 256 := by
  intro m
  induction m with
  | zero =>
    intro n i c acc hc hi hm hn ha hb
    obtain ⟨n, rfl⟩ : ∃ j, n = j + 1 := ⟨n - 1, by omega⟩
    simp only [spec_l1DrawBytes.l4, decide_eq_false (show ¬ i < t6 by omega), cond_false]
    exact ⟨_, _, rfl, hc, by omega, hb⟩
  | succ m ih =>
    intro n i c acc hc hi hm hn ha hb
    obtain ⟨n, rfl⟩ : ∃ j, n = j + 1 := ⟨n - 1, by omega⟩
    by_cases h : i < t6
    · obtain ⟨v, c1, hv, v0, v1, hc1⟩ := byte_ok k c hc
      simp only [spec_l1DrawBytes.l4, decide_eq_true h, cond_true, hv, Option.bind_some]
      rw [lim_ok (by simp; omega), cond_true, w8 v0 v1, w64 (by omega) (by omega)]
      obtain ⟨c', out, h1, h2, h3, h4⟩ := ih n (i + 1) c1 (acc ++ [v]) hc1 (by omega) (by omega) (by omega) (by simp; omega) (fun x hx => by
        rcases List.mem_append.1 hx with hx | hx
        · exact hb x hx
        · simp at hx; subst hx; exact ⟨v0, v1⟩)
      exact ⟨c', out, h1, h2, by simp at h3; omega, h4⟩
    · simp only [spec_l1DrawBytes.l4, decide_eq_false h, cond_false]
      exact ⟨_, _, rfl, hc, by omega, hb⟩

theorem drawBytes_ok (most : Nat) (hm : most < 900000) (hk : 1000000 ≤ k) (c : TL1Cur) (hc : CurOk c) : ∃ c' out, spec_l1DrawBytes k (most : Int) c = some ((), (c', out)) ∧ CurOk c' ∧ out.length ≤ most ∧ ∀ x, x ∈ out → 0 ≤ x ∧ x < 256 := by
  unfold spec_l1DrawBytes
  rw [w64 (by omega) (by omega)]
  obtain ⟨v, c1, hv, _, h1, hc1⟩ := below_ok k ((most : Int) + 1) (by omega) c hc
  obtain ⟨h1, h2⟩ := h1 (by omega)
  simp only [hv, Option.bind_some]
  obtain ⟨c', out, g1, g2, g3, g4⟩ := bytesLoop_ok k v (by omega) most k 0 c1 [] hc1 (by omega) (by omega) (by omega) (by simp; omega) (by simp)
  exact ⟨c', out, g1, g2, by simpa using g3, g4⟩

theorem drawText_ok (most : Nat) (hm : most < 900000) (hk : 1000000 ≤ k) (c : TL1Cur) (hc : CurOk c) : ∃ v c', spec_l4DrawText k (most : Int) c = some (v, c') ∧ CurOk c' ∧ v.size ≤ most := by
  unfold spec_l4DrawText
  obtain ⟨c', out, g1, g2, g3, g4⟩ := drawBytes_ok k most hm hk c hc
  simp only [g1, Option.bind_some]
  exact ⟨_, _, rfl, g2, by rw [intsStr_size]; exact g3⟩

theorem drawNum_ok (c : TL1Cur) (hc : CurOk c) : ∃ v c', spec_l2DrawNum k c = some (v, c') ∧ CurOk c' ∧ I64 v := by
  unfold spec_l2DrawNum
  obtain ⟨v1, c1, hv1, _, a1, hc1⟩ := below_ok k 1000000 (by omega) c hc
  have a1 := a1 (by omega)
  simp only [hv1, Option.bind_some]
  obtain ⟨v2, c2, hv2, _, a2, hc2⟩ := below_ok k 1000000 (by omega) c1 hc1
  have a2 := a2 (by omega)
  simp only [hv2, Option.bind_some]
  obtain ⟨v3, c3, hv3, _, a3, hc3⟩ := below_ok k 300 (by omega) c2 hc2
  have a3 := a3 (by omega)
  simp only [hv3, Option.bind_some]
  rw [w64 (show -9223372036854775808 ≤ 0 - v2 by omega) (by omega)]
  obtain ⟨v, c4, hv, hm, hc4⟩ := pick_ok k [0, 1, (-1), 63, 64, (-64), (-65), 127, 128, 16383, 16384, 2147483647, (-2147483648), 9223372036854775807, (-9223372036854775808), 4611686018427387904, v1, 0 - v2, v3] (by simp) (by simp) c3 hc3
  simp only [hv, Option.bind_some]
  refine ⟨_, _, rfl, hc4, ?_⟩
  simp only [List.mem_cons, List.not_mem_nil, or_false] at hm
  unfold I64
  omega

theorem newLoop_ok (t : List Int) (ht : t.length ≤ 1048576) : ∀ (m n : Nat) (h i : Int), 0 ≤ i → 4000 - i ≤ m → m < n →
    ∃ c, spec_l1New.l3 k n t h i = some ((), c) ∧ CurOk c := by
  intro m
  induction m with
  | zero =>
    intro n h i hi hm hn
    obtain ⟨n, rfl⟩ : ∃ j, n = j + 1 := ⟨n - 1, by omega⟩
    simp only [spec_l1New.l3, csf, decide_eq_false (show ¬ i < 4000 by omega), Bool.and_false, Option.bind_some, cond_false]
    exact ⟨_, rfl, Int.le_refl _, by simp, ht⟩
  | succ m ih =>
    intro n h i hi hm hn
    obtain ⟨n, rfl⟩ : ∃ j, n = j + 1 := ⟨n - 1, by omega⟩
    by_cases hb : i < (t.length : Int) ∧ i < 4000
    · obtain ⟨x, hx, _⟩ := rdL_some hi hb.1
      simp only [spec_l1New.l3, csf, decide_eq_true hb.1, decide_eq_true hb.2, Bool.and_self, Option.bind_some, cond_true, hx]
      rw [w64 (show -9223372036854775808 ≤ i + 1 by omega) (by omega)]
      exact ih n _ (i + 1) (by omega) (by omega) (by omega)
    · have : (decide (i < (t.length : Int)) && decide (i < 4000)) = false := by
        rw [Bool.eq_false_iff]; intro hh
        simp only [Bool.and_eq_true, decide_eq_true_eq] at hh
        exact hb hh
      simp only [spec_l1New.l3, csf, this, Option.bind_some, cond_false]
      exact ⟨_, rfl, Int.le_refl _, by simp, ht⟩

theorem new_ok (hk : 1000000 ≤ k) (t : List Int) (ht : t.length ≤ 1048576) : ∃ c, spec_l1New k t = some ((), c) ∧ CurOk c := by
  unfold spec_l1New
  exact newLoop_ok k t ht 4000 k _ 0 (by omega) (by omega) (by omega)
end Go.Law
end

section
/- A tree is drawn, whatever the bytes. -/
set_option linter.unusedVariables false
set_option linter.unusedSimpArgs false
namespace Go.Law
open Go.Am Go.Fn
variable (k : Nat)

def WfL (l : List TNode) : Prop := ∀ n, n ∈ l → WfN n

theorem WfL.app {a b : List TNode} (h : WfL a) (h' : WfL b) : WfL (a ++ b) := fun n hn => (List.mem_append.1 hn).elim (h n) (h' n)
theorem WfL.one {n : TNode} (h : WfN n) : WfL [n] := fun m hm => by simp at hm; subst hm; exact h
theorem WfL.set {l : List TNode} {i : Nat} {n : TNode} (h : WfL l) (hn : WfN n) : WfL (l.set i n) := fun m hm => by
  rcases List.mem_or_eq_of_mem_set hm with hm | rfl
  · exact h m hm
  · exact hn
theorem WfL.nil : WfL [] := fun m hm => (List.not_mem_nil hm).elim

theorem wfN_mk {t i n m : Int} {s : ByteArray} (h1 : I64 t) (h2 : I64 i) (h3 : I64 n) (h4 : I64 m) (h5 : s.size ≤ 1073741824) : WfN (t, i, n, s, m, ()) := ⟨h1, h2, h3, h4, h5⟩

/-- how many nodes a draw of that depth takes at most -/
def sz : Nat → Nat
  | 0 => 1
  | d + 1 => 1 + 18 * sz d

abbrev NodeOkS (S : Int → Int → Int → TL1Cur → List TNode → Option (Unit × TL1Cur × List TNode)) (deep : Nat) : Prop :=
  ∀ (kind id : Int) (c : TL1Cur) (acc : List TNode), I64 kind → I64 id → CurOk c → WfL acc → acc.length + sz deep ≤ 1000000 →
    ∃ c' l', S kind id (deep : Int) c acc = some ((), (c', l')) ∧ CurOk c' ∧ WfL l' ∧ acc.length < l'.length ∧ l'.length ≤ acc.length + sz deep

theorem i64_small {x : Int} (h0 : -1000000000 ≤ x) (h1 : x ≤ 1000000000) : I64 x := ⟨by omega, by omega⟩

theorem drawLoop (S : Int → Int → Int → TL1Cur → List TNode → Option (Unit × TL1Cur × List TNode)) (deep : Nat) (hdeep : deep ≤ 3) (many : Int) (hmany : many ≤ 18) (hS : deep = 0 → many ≤ 0)
    (ih : ∀ d, d + 1 = deep → NodeOkS S d) (t1 item : Int) (hitem : I64 item) : ∀ (m n : Nat) (next i : Int) (c : TL1Cur) (acc : List TNode), 0 ≤ i → many - i ≤ m → m ≤ 18 → m < n → 0 ≤ next → next ≤ 23 * i → CurOk c → WfL acc → acc.length + m * sz (deep - 1) ≤ 1000000 →
    ∃ c' l', spec_l4DrawNode.l24 k S n t1 (deep : Int) many item next i c acc = some ((), (c', l')) ∧ CurOk c' ∧ WfL l' ∧ acc.length ≤ l'.length ∧ l'.length ≤ acc.length + m * sz (deep - 1) := by
  intro m
  induction m with
  | zero =>
    intro n next i c acc hi hm _ hn hx0 hx1 hc ha hl
    obtain ⟨n, rfl⟩ : ∃ j, n = j + 1 := ⟨n - 1, by omega⟩
    simp only [spec_l4DrawNode.l24, decide_eq_false (show ¬ i < many by omega), cond_false]
    exact ⟨_, _, rfl, hc, ha, Nat.le_refl _, by omega⟩
  | succ m ihm =>
    intro n next i c acc hi hm h18 hn hx0 hx1 hc ha hl
    obtain ⟨n, rfl⟩ : ∃ j, n = j + 1 := ⟨n - 1, by omega⟩
    by_cases h : i < many
    · obtain ⟨d, hd⟩ : ∃ d, d + 1 = deep := by
        rcases Nat.eq_zero_or_pos deep with h0 | h0
        · have := hS h0; omega
        · exact ⟨deep - 1, by omega⟩
      have hS' := ih d hd
      have hdw : IntKind.wrap .i64 ((deep : Int) - 1) = (d : Int) := by rw [w64 (by omega) (by omega)]; omega
      have hdd : deep - 1 = d := by omega
      rw [hdd] at hl ihm ⊢
      have hsz : (m + 1) * sz d = m * sz d + sz d := by rw [Nat.add_mul]; simp
      simp only [spec_l4DrawNode.l24, decide_eq_true h, cond_true, hdw]
      have hiw : IntKind.wrap .i64 (i + 1) = i + 1 := w64 (by omega) (by omega)
      by_cases h12 : t1 = 12
      · simp only [beqT h12, cond_true]
        obtain ⟨v1, c1, e1, m1, hc1⟩ := pick_ok k [1, 2, 5, 6, 8, 9, 12] (by simp) (by simp) c hc
        simp only [e1, Option.bind_some]
        obtain ⟨v2, c2, e2, _, b2, hc2⟩ := below_ok k 3 (by omega) c1 hc1
        have b2 := b2 (by omega)
        simp only [e2, Option.bind_some]
        obtain ⟨v3, c3, e3, _, b3, hc3⟩ := below_ok k 6 (by omega) c2 hc2
        have b3 := b3 (by omega)
        simp only [e3, Option.bind_some]
        have ht : Int.tdiv v3 5 = v3 / 5 := Int.tdiv_eq_ediv_of_nonneg b3.1
        rw [ht, w64 (show -9223372036854775808 ≤ next + 1 by omega) (by omega), w64 (show -9223372036854775808 ≤ next + 1 + v2 by omega) (by omega), w64 (show -9223372036854775808 ≤ v3 / 5 by omega) (by omega),
          w64 (show -9223372036854775808 ≤ v3 / 5 * 20 by omega) (by omega), w64 (show -9223372036854775808 ≤ next + 1 + v2 + v3 / 5 * 20 by omega) (by omega)]
        have hv1 : I64 v1 := by simp only [List.mem_cons, List.not_mem_nil, or_false] at m1; exact i64_small (by omega) (by omega)
        obtain ⟨c4, l4, e4, hc4, hw4, hl4, hl4'⟩ := hS' v1 (next + 1 + v2 + v3 / 5 * 20) c3 acc hv1 (i64_small (by omega) (by omega)) hc3 ha (by omega)
        simp only [e4, Option.bind_some, spec_l4DrawNode.c25, hiw]
        obtain ⟨c', l', g1, g2, g3, g4, g5⟩ := ihm n (next + 1 + v2 + v3 / 5 * 20) (i + 1) c4 l4 (by omega) (by omega) (by omega) (by omega) (by omega) (by omega) hc4 hw4 (by omega)
        exact ⟨c', l', g1, g2, g3, by omega, by omega⟩
      · simp only [beqF h12, cond_false]
        obtain ⟨c4, l4, e4, hc4, hw4, hl4, hl4'⟩ := hS' item 0 c acc hitem (i64_small (by omega) (by omega)) hc ha (by omega)
        simp only [e4, Option.bind_some, spec_l4DrawNode.c25, hiw]
        obtain ⟨c', l', g1, g2, g3, g4, g5⟩ := ihm n next (i + 1) c4 l4 (by omega) (by omega) (by omega) (by omega) (by omega) (by omega) hc4 hw4 (by omega)
        exact ⟨c', l', g1, g2, g3, by omega, by omega⟩
    · simp only [spec_l4DrawNode.l24, decide_eq_false h, cond_false]
      exact ⟨_, _, rfl, hc, ha, Nat.le_refl _, by omega⟩

theorem sz_pos (d : Nat) : 0 < sz d := by cases d <;> simp [sz] <;> omega
theorem sz_le {d : Nat} (h : d ≤ 3) : sz d ≤ 6175 := by
  match d, h with
  | 0, _ => decide
  | 1, _ => decide
  | 2, _ => decide
  | 3, _ => decide

theorem drawNode_step (hk : 1000000 ≤ k) (deep : Nat) (hdeep : deep ≤ 3) (S : Int → Int → Int → TL1Cur → List TNode → Option (Unit × TL1Cur × List TNode)) (ih : ∀ d, d + 1 = deep → NodeOkS S d) :
    NodeOkS (spec_l4DrawNode.b k S) deep := by
  intro kind id c acc hkind hid hc ha hl
  have hs0 : 1 + 18 * sz (deep - 1) ≤ 200000 := by have := sz_le (show deep - 1 ≤ 3 by omega); omega
  -- behind the node's own
  have c9 : ∀ (c : TL1Cur) (n : TNode), CurOk c → WfN n → ∃ c' l', spec_l4DrawNode.c9 k S kind (deep : Int) c acc n = some ((), (c', l')) ∧ CurOk c' ∧ WfL l' ∧ acc.length < l'.length ∧ l'.length ≤ acc.length + sz deep := by
    intro c n hc hn
    have hp := sz_pos deep
    unfold spec_l4DrawNode.c9
    rw [lim_ok (by simp; omega), cond_true]
    simp only [csf, Option.bind_some]
    have hset : ∀ (x y : TNode), List.set (acc ++ [x]) (Int.toNat (acc.length : Int)) y = acc ++ [y] := fun x y => by
      rw [Int.toNat_natCast, List.set_append_right _ _ (Nat.le_refl _)]; simp
    have hget : ∀ (x : TNode), rdL (acc ++ [x]) (acc.length : Int) = some x := fun x => by
      rw [rdL_nat, List.getElem?_append_right (Nat.le_refl _)]; simp
    by_cases hleaf : (kind != 9 && kind != 12) = true
    · simp only [hleaf, cond_true]
      exact ⟨_, _, rfl, hc, ha.app (WfL.one hn), by simp, by simp; omega⟩
    · simp only [Bool.eq_false_iff.2 hleaf, cond_false]
      obtain ⟨v0, c0, e0, _, b0, hc0⟩ := below_ok k 4 (by omega) c hc
      have b0 := b0 (by omega)
      simp only [e0, Option.bind_some]
      -- so many parts
      have c18 : ∀ (c : TL1Cur) (many : Int), CurOk c → 0 ≤ many → many ≤ 18 → (deep = 0 → many ≤ 0) → ∃ c' l', spec_l4DrawNode.c18 k S kind (deep : Int) (acc.length : Int) many c (acc ++ [n]) = some ((), (c', l')) ∧ CurOk c' ∧ WfL l' ∧ acc.length < l'.length ∧ l'.length ≤ acc.length + sz deep := by
        intro c many hc hm0 hm1 hz
        unfold spec_l4DrawNode.c18 spec_l4DrawNode.c22
        obtain ⟨v, c1, e1, m1, hc1⟩ := pick_ok k [5, 8, 6, 12, 9] (by simp) (by simp) c hc
        have hv : I64 v := by simp only [List.mem_cons, List.not_mem_nil, or_false] at m1; exact i64_small (by omega) (by omega)
        simp only [e1, Option.bind_some, csf, hget, hset]
        have hdeepsz : many.toNat * sz (deep - 1) ≤ sz deep - 1 := by
          rcases Nat.eq_zero_or_pos deep with h0 | h0
          · have := hz h0
            rw [show many.toNat = 0 by omega]; simp
          · obtain ⟨d, rfl⟩ : ∃ d, deep = d + 1 := ⟨deep - 1, by omega⟩
            show many.toNat * sz d ≤ 1 + 18 * sz d - 1
            have := Nat.mul_le_mul_right (sz d) (show many.toNat ≤ 18 by omega)
            omega
        have hszl := sz_le hdeep
        have loop : ∀ y : TNode, WfN y → ∃ c' l', spec_l4DrawNode.l24 k S k kind (deep : Int) many v 0 0 c1 (acc ++ [y]) = some ((), (c', l')) ∧ CurOk c' ∧ WfL l' ∧ acc.length < l'.length ∧ l'.length ≤ acc.length + sz deep := by
          intro y hy
          obtain ⟨c', l', g1, g2, g3, g4, g5⟩ := drawLoop k S deep hdeep many hm1 hz ih kind v hv many.toNat k 0 0 c1 (acc ++ [y]) (by omega) (by omega) (by omega) (by omega) (by omega) (by omega) hc1 (ha.app (WfL.one hy)) (by simp; omega)
          simp at g4 g5
          exact ⟨c', l', g1, g2, g3, by omega, by omega⟩
        have hw1 : WfN (n.1, n.2.1, n.2.2.1, n.2.2.2.1, many, ()) := wfN_mk hn.1 hn.2.1 hn.2.2.1 (i64_small (by omega) (by omega)) hn.2.2.2.2
        by_cases hb : (kind == 9 && decide (many > 0)) = true
        · simp only [hb, cond_true]
          exact loop _ (wfN_mk hn.1 hn.2.1 hv (i64_small (by omega) (by omega)) hn.2.2.2.2)
        · simp only [Bool.eq_false_iff.2 hb, cond_false]
          exact loop _ hw1
      have c16 : ∀ (c : TL1Cur) (many : Int), CurOk c → 0 ≤ many → many ≤ 3 → (deep = 0 → many ≤ 0) → ∃ c' l', spec_l4DrawNode.c16 k S kind (deep : Int) (acc.length : Int) many c (acc ++ [n]) = some ((), (c', l')) ∧ CurOk c' ∧ WfL l' ∧ acc.length < l'.length ∧ l'.length ≤ acc.length + sz deep := by
        intro c many hc hm0 hm1 hz
        unfold spec_l4DrawNode.c16
        obtain ⟨v, c1, e1, hc1⟩ := once_ok k 20 (by omega) c hc
        simp only [e1, Option.bind_some]
        cases v with
        | true =>
          simp only [cond_true]
          rw [w64 (by omega) (by omega)]
          exact c18 c1 (many * 6) hc1 (by omega) (by omega) (fun h => by have := hz h; omega)
        | false =>
          simp only [cond_false]
          exact c18 c1 many hc1 hm0 (by omega) hz
      by_cases hd0 : (deep : Int) = 0
      · simp only [beqT hd0, cond_true]
        exact c16 c0 0 hc0 (by omega) (by omega) (fun _ => by omega)
      · simp only [beqF hd0, cond_false]
        exact c16 c0 v0 hc0 (by omega) (by omega) (fun h => by omega)
  have z0 : I64 0 := i64_small (by omega) (by omega)
  have es : (⟨#[]⟩ : ByteArray).size ≤ 1073741824 := by decide
  unfold spec_l4DrawNode.b
  by_cases h5 : kind = 5
  · simp only [beqT h5, cond_true]
    obtain ⟨v, c1, e1, _, b1, hc1⟩ := below_ok k 1000 (by omega) c hc
    have b1 := b1 (by omega)
    simp only [e1, Option.bind_some]
    rw [w64 (by omega) (by omega)]
    exact c9 c1 _ hc1 (wfN_mk hkind hid (i64_small (by omega) (by omega)) z0 es)
  simp only [beqF h5, cond_false]
  by_cases h6 : kind = 6
  · simp only [beqT h6, cond_true]
    obtain ⟨v, c1, e1, hc1, b1⟩ := drawNum_ok k c hc
    simp only [e1, Option.bind_some]
    exact c9 c1 _ hc1 (wfN_mk hkind hid b1 z0 es)
  simp only [beqF h6, cond_false]
  by_cases h8 : kind = 8
  · simp only [beqT h8, cond_true]
    obtain ⟨v, c1, e1, hc1, b1⟩ := drawText_ok k 5 (by omega) hk c hc
    have e1 : spec_l4DrawText k 5 c = some (v, c1) := e1
    simp only [e1, Option.bind_some]
    exact c9 c1 _ hc1 (wfN_mk hkind hid z0 z0 (by omega))
  simp only [beqF h8, cond_false]
  exact c9 c _ hc (wfN_mk hkind hid z0 z0 es)

theorem drawNode_ok (hk : 1000000 ≤ k) : ∀ (deep D : Nat), deep ≤ 3 → deep < D → NodeOkS (spec_l4DrawNode.rec k D) deep := by
  intro deep
  induction deep with
  | zero =>
    intro D hdeep hD
    obtain ⟨D, rfl⟩ : ∃ j, D = j + 1 := ⟨D - 1, by omega⟩
    exact drawNode_step k hk 0 (by omega) _ (fun d h => by omega)
  | succ deep ihd =>
    intro D hdeep hD
    obtain ⟨D, rfl⟩ : ∃ j, D = j + 1 := ⟨D - 1, by omega⟩
    exact drawNode_step k hk (deep + 1) hdeep _ (fun d h => by
      obtain rfl : d = deep := by omega
      exact ihd D (by omega) (by omega))

theorem drawRight_ok (hk : 1000000 ≤ k) (c : TL1Cur) (hc : CurOk c) : ∃ c' l, spec_l4DrawRight k c = some ((), (c', l)) ∧ CurOk c' ∧ WfL l ∧ 0 < l.length ∧ l.length ≤ 300 := by
  unfold spec_l4DrawRight
  obtain ⟨v, c1, e1, _, b1, hc1⟩ := below_ok k 3 (by omega) c hc
  have b1 := b1 (by omega)
  simp only [e1, Option.bind_some]
  rw [w64 (by omega) (by omega)]
  obtain ⟨d, hd⟩ : ∃ d : Nat, (d : Int) = 1 + v := ⟨(1 + v).toNat, by omega⟩
  rw [← hd]
  have hs := sz_le (show d ≤ 3 by omega)
  obtain ⟨c2, l, e2, hc2, hw, h1, h2⟩ := drawNode_ok k hk d k (by omega) (by omega) 12 0 c1 [] (i64_small (by omega) (by omega)) (i64_small (by omega) (by omega)) hc1 WfL.nil (by simp; omega)
  have e2 : spec_l4DrawNode k 12 0 (d : Int) c1 [] = some ((), (c2, l)) := e2
  simp only [e2, Option.bind_some]
  have z0 : I64 0 := i64_small (by omega) (by omega)
  by_cases h : (l.length : Int) > 300
  · simp only [decide_eq_true h, cond_true]
    exact ⟨_, _, rfl, hc2, WfL.one (wfN_mk (i64_small (by omega) (by omega)) z0 z0 z0 (by decide)), by simp, by simp⟩
  · simp only [decide_eq_false h, cond_false]
    exact ⟨_, _, rfl, hc2, hw, by simpa using h1, by omega⟩

end Go.Law
end

section
/- FnTreeRead -/
set_option linter.unusedVariables false
set_option linter.unusedSimpArgs false
namespace Go.Law
open Go.Am Go.Fn

theorem sameNodes_loop (k : Nat) (l : List TNode) (hl : l.length < 4611686018427387904) : ∀ (m n i : Nat), l.length - i < n → l.length = i + m → laws_sameNodes.l4 k n l l (i : Int) = some true := by
  intro m
  induction m with
  | zero =>
    intro n i h1 h2
    obtain ⟨n, rfl⟩ : ∃ j, n = j + 1 := ⟨n - 1, by omega⟩
    simp only [laws_sameNodes.l4, decide_eq_false (show ¬ ((i : Int) < (l.length : Int)) by omega), cond_false]
  | succ m ih =>
    intro n i h1 h2
    obtain ⟨n, rfl⟩ : ∃ j, n = j + 1 := ⟨n - 1, by omega⟩
    obtain ⟨x, hx, _⟩ := rdL_some (xs := l) (i := (i : Int)) (by omega) (by omega)
    have hi1 : IntKind.wrap .i64 ((i : Int) + 1) = ((i + 1 : Nat) : Int) := by rw [w64 (by omega) (by omega)]; omega
    have e : eqS x.2.2.2.1 x.2.2.2.1 = true := by rw [eqS_iff]; simp
    simp only [laws_sameNodes.l4, decide_eq_true (show (i : Int) < (l.length : Int) by omega), cond_true, hx, Option.bind_some, beq_self_eq_true, e, Bool.and_self, Bool.not_true, cond_false, hi1]
    exact ih n (i + 1) (by omega) (by omega)

theorem byt_of_take {b : List Int} (hb : Byt b) (n : Nat) : Byt (b.take n) := fun x hx => hb x (List.mem_of_mem_take hx)

theorem drawTreeRead_ok (k : Nat) (hk : 2000000 ≤ k) (code : List Int) (hc : code.length ≤ 1048576) : ∃ b at_, spec_DrawTreeRead k code = some (b, at_) ∧ Byt b ∧ b.length ≤ 1000000 ∧ I64 at_ := by
  unfold spec_DrawTreeRead
  obtain ⟨c, e, hc⟩ := new_ok k (by omega) code hc
  obtain ⟨c1, l, e1, hc1, hw, hl0, hl⟩ := drawRight_ok k (by omega) c hc
  simp only [e, e1, Option.bind_some]
  have tail : ∀ o : List Int, Byt o → 0 < o.length → o.length ≤ 900000 → ∃ b at_, spec_DrawTreeRead.c5 k c1 o = some (b, at_) ∧ Byt b ∧ b.length ≤ 1000000 ∧ I64 at_ := by
    intro o ho h0 h1
    unfold spec_DrawTreeRead.c5 spec_DrawTreeRead.c20
    obtain ⟨v, c2, e2, _, _, hc2⟩ := below_ok k 8 (by omega) c1 hc1
    simp only [e2, Option.bind_some]
    have hb : ∀ x, Byt [IntKind.wrap .u8 x] := byt1
    have z0 : I64 0 := ⟨by decide, by decide⟩
    have z1 : I64 1 := ⟨by decide, by decide⟩
    by_cases h : v = 0
    · rw [beqT h, cond_true]
      obtain ⟨v3, c3, e3, _, b3, hc3⟩ := below_ok k (o.length : Int) (by omega) c2 hc2
      have b3 := b3 (by omega)
      obtain ⟨v4, c4, e4, _, _, hc4⟩ := byte_ok k c3 hc3
      obtain ⟨x, hx, _⟩ := rdL_some (xs := o) b3.1 b3.2
      simp only [e3, e4, Option.bind_some, hx]
      refine ⟨_, _, rfl, fun y hy => ?_, by simp; omega, z0⟩
      rcases List.mem_or_eq_of_mem_set hy with hy | rfl
      · exact ho y hy
      · exact hb v4 _ (by simp)
    rw [beqF h, cond_false]
    by_cases h : v = 1
    · rw [beqT h, cond_true, w64 (by omega) (by omega)]
      obtain ⟨v3, c3, e3, _, b3, hc3⟩ := below_ok k ((o.length : Int) + 1) (by omega) c2 hc2
      have b3 := b3 (by omega)
      simp only [e3, Option.bind_some]
      rw [inSl_ok (by omega) (by omega) (by omega), cond_true]
      refine ⟨_, _, rfl, fun y hy => ?_, ?_, z0⟩
      · unfold cutL at hy
        exact ho y (List.mem_of_mem_take (List.mem_of_mem_drop hy))
      · unfold cutL
        rw [List.length_drop, List.length_take]
        omega
    rw [beqF h, cond_false]
    by_cases h : v = 2
    · rw [beqT h, cond_true]
      obtain ⟨v4, c4, e4, _, _, hc4⟩ := byte_ok k c2 hc2
      simp only [e4, Option.bind_some]
      rw [lim_ok (by simp; omega), cond_true]
      exact ⟨_, _, rfl, (hb v4).app ho, by simp; omega, z1⟩
    rw [beqF h, cond_false]
    by_cases h : v = 3
    · rw [beqT h, cond_true]
      obtain ⟨v4, c4, e4, _, _, hc4⟩ := byte_ok k c2 hc2
      simp only [e4, Option.bind_some]
      rw [lim_ok (by simp; omega), cond_true]
      exact ⟨_, _, rfl, ho.app (hb v4), by simp; omega, z0⟩
    rw [beqF h, cond_false]
    by_cases h : v = 4
    · rw [beqT h, cond_true]
      refine ⟨_, _, rfl, fun y hy => ?_, by simp, z0⟩
      simp only [List.mem_cons, List.not_mem_nil, or_false] at hy
      omega
    rw [beqF h, cond_false]
    by_cases h : v = 5
    · rw [beqT h, cond_true]
      obtain ⟨v4, c4, e4, m4, hc4⟩ := pick_ok k [(-1), (o.length : Int), 1] (by simp) (by simp) c2 hc2
      simp only [e4, Option.bind_some]
      refine ⟨_, _, rfl, ho, by omega, ?_⟩
      simp only [List.mem_cons, List.not_mem_nil, or_false] at m4
      exact ⟨by omega, by omega⟩
    · rw [beqF h, cond_false]
      exact ⟨_, _, rfl, ho, by omega, z0⟩
  obtain ⟨b, t1, t2⟩ := treeOf_eq k (by omega) l hw (by omega)
  unfold spec_TreePack
  simp only [t1, Option.bind_some]
  rcases t2 with ⟨rfl, _⟩ | ⟨rfl, _, _, af, _, hS, n, hn, h12, _⟩
  · simp only [Bool.not_false, cond_true, Option.bind_some]
    exact tail [0] (Byt.cons (by omega) (by omega) Byt.nil) (by simp) (by simp)
  · obtain ⟨B, b1, ⟨b2, b3⟩, b4⟩ := spack k (by omega) l (by omega) hw af 12 k 0 l.length (by omega) hS (Nat.le_refl _)
    have b1 : spec_l4Pack k l 0 = some (((), (l.length : Int)), B) := b1
    simp only [Bool.not_true, cond_false, b1, Option.bind_some]
    have := b4 n hn h12
    exact tail B b2 (by omega) (by omega)

theorem fnTreeRead (code : List Int) : ∃ k, laws_FnTreeRead k code = some true := by
  refine ⟨3000000, ?_⟩
  generalize hk : 3000000 = k
  have hk' : 2000000 ≤ k := by omega
  clear hk
  unfold laws_FnTreeRead laws_big
  simp only [Option.bind_some]
  by_cases hbig : (code.length : Int) > 1048576
  · simp only [decide_eq_true hbig, cond_true]
  simp only [decide_eq_false hbig, cond_false]
  obtain ⟨b, at_, e, hb, hl, hat⟩ := drawTreeRead_ok k hk' code (by omega)
  have hr := treeRead_eq k (by omega) b (by omega) hb at_
  simp only [e, Option.bind_some]
  cases h : trd b at_ with
  | bad c =>
    rw [h] at hr
    obtain ⟨hc, e1, e2⟩ := hr
    simp only [e1, e2, Option.bind_some, bneF rfl, bneT hc, cond_false, cond_true]
    rfl
  | ok q Y =>
    rw [h] at hr
    obtain ⟨e1, e2⟩ := hr
    have g := trd_ok (by omega) hb h
    obtain ⟨g1, g2, g3⟩ := g.rng
    obtain ⟨t, t1, t2⟩ := treeRoundC k (by omega) Y g.wf (by have := g.len; omega)
    have hT : t = true := by rw [read_tree k (by omega) g] at t1; exact (Option.some.inj t1).symm
    rcases t2 with ⟨t2, _⟩ | ⟨_, B, p1, p2, p3, p4, p5⟩
    · rw [hT] at t2; cases t2
    have again := p5 [] [] (by simp)
    simp only [List.nil_append, List.append_nil, List.length_nil, Nat.zero_add] at again
    have again : impl_TreeRead k B 0 = some (((), (B.length : Int), 0), Y) := again
    have hq1 : IntKind.wrap .i64 ((q : Int) - 1) = ((q - 1 : Nat) : Int) := by rw [w64 (by omega) (by omega)]; omega
    have hcost : (B.length : Int) ≤ IntKind.wrap .i64 ((q : Int) - at_) := by
      rw [w64 (by omega) (by omega)]
      unfold trd at h
      rw [if_pos ⟨g1, by omega⟩] at h
      have := (prN_cost 12 b hb 12 0 at_.toNat 0 q Y (by decide) (by omega) (by omega) h).2 []
      rw [List.append_nil, p4] at this
      omega
    have hcut : cutL b 0 ((q - 1 : Nat) : Int) = b.take (q - 1) := by
      unfold cutL
      rw [Int.toNat_natCast]
      simp
    have hr2 := treeRead_eq k (by omega) (b.take (q - 1)) (by rw [List.length_take]; omega) (byt_of_take hb _) at_
    have hbad : trd (b.take (q - 1)) at_ = .bad 1 := by
      unfold trd at h ⊢
      rw [if_pos ⟨g1, by omega⟩] at h
      split
      · rename_i hr
        rw [List.length_take] at hr
        rw [prN_cut 12 b 12 0 at_.toNat 0 q (q - 1) Y (by omega) h, if_neg (by omega)]
      · rfl
    rw [hbad] at hr2
    obtain ⟨_, _, e4⟩ := hr2
    simp only [e1, e2, Option.bind_some, bneF rfl, cond_false, p1, again, hq1]
    rw [inSl_ok (by omega) (by omega) (by omega), cond_true, hcut]
    simp only [e4, Option.bind_some, beq_self_eq_true, cond_true, csf, Bool.true_and]
    unfold laws_sameNodes
    rw [bneF rfl, cond_false]
    have hsl := g.len
    have hsm := sameNodes_loop k Y (by omega) Y.length k 0 (by omega) (by omega)
    have hsm : laws_sameNodes.l4 k k Y Y 0 = some true := hsm
    rw [hsm]
    simp only [Option.bind_some, decide_eq_true hcost, Bool.and_self]
end Go.Law
end
