/- The payload types of the abstract machine, how a payload reads in memory, and how it is owned there. -/
import Derived.Laws.AppendOwn
import Derived.Laws.MakeOwn
namespace Go.Am

inductive Ty where
  | int (k : IntKind) | bool | str
  | list (e : TypeId) (t : Ty)
  | nil | cons (a b : Ty) | st (a : Ty)
  | ptr
  deriving DecidableEq, Inhabited

@[reducible] def Ty.Den : Ty → Type
  | .int _ => Int
  | .bool => Bool
  | .str => ByteArray
  | .list _ t => List t.Den
  | .nil => Unit
  | .cons a b => a.Den × b.Den
  | .st a => a.Den
  | .ptr => Unit

def Ty.dflt : (t : Ty) → t.Den
  | .int _ => (0 : Int)
  | .bool => false
  | .str => (⟨#[]⟩ : ByteArray)
  | .list _ _ => []
  | .nil => ()
  | .cons a b => (a.dflt, b.dflt)
  | .st a => a.dflt
  | .ptr => ()

def Ty.size : Ty → Nat
  | .int _ | .bool | .str | .list _ _ | .ptr => 1
  | .nil => 0
  | .cons a b => a.size + b.size
  | .st a => a.size

/-- no memory behind it -/
def Ty.flat : Ty → Bool
  | .int _ | .bool | .str | .nil => true
  | .list _ _ | .ptr => false
  | .cons a b => a.flat && b.flat
  | .st a => a.flat

/-- no pointer in it -/
def Ty.noPtr : Ty → Bool
  | .ptr => false
  | .cons a b => a.noPtr && b.noPtr
  | .st a => a.noPtr
  | _ => true

/-- the value of one cell, or a row of cells as a struct -/
def Ty.isAgg : Ty → Bool
  | .st _ => true
  | _ => false

def mkV (agg : Bool) (cs : List Value) (v : Value) : Prop := if agg then v = .agg cs.toArray else cs = [v]

/-- a payload with its type -/
structure DV where
  ty : Ty
  v : ty.Den

/-! ### reading -/
def Els {α : Type} (R : α → List Value → Prop) : List α → List Value → Prop
  | [], f => f = []
  | x :: xs, f => ∃ c g, f = c ++ g ∧ R x c ∧ Els R xs g

def RowAt (w : World) (A : Option Addr) (f : List Value) : Prop :=
  ∀ j u, f[j]? = some u → ∃ ad, A = some ad ∧ w.cell? ⟨ad.block, ad.off + j, none⟩ = some u

def Rd (w : World) (S : Nat → Prop) : (t : Ty) → t.Den → List Value → Prop
  | .int k, x, cs => cs = [.int k x]
  | .bool, x, cs => cs = [.bool x]
  | .str, x, cs => cs = [.string x]
  | .list _ t, xs, cs => ∃ A n c f, cs = [.slice A n c] ∧ n = xs.length ∧ n ≤ c ∧ Els (Rd w S t) xs f ∧
      (∀ ad, A = some ad → 0 < n → ad.spot = none ∧ S ad.block) ∧ RowAt w A f ∧ (0 < n → A ≠ none) ∧ (A = none → c = 0)
  | .nil, _, cs => cs = []
  | .cons a b, x, cs => ∃ c d, cs = c ++ d ∧ Rd w S a x.1 c ∧ Rd w S b x.2 d
  | .st a, x, cs => Rd w S a x cs
  | .ptr, _, _ => False

/-! ### owning -/
def OEls {α : Type} (R : α → List Value → List Nat → Prop) : List α → List Value → List Nat → Prop
  | [], f, bs => f = [] ∧ bs = []
  | x :: xs, f, bs => ∃ c g b d, f = c ++ g ∧ bs = b ++ d ∧ R x c b ∧ OEls R xs g d

def Ow (w : World) : (t : Ty) → t.Den → List Value → List Nat → Prop
  | .int k, x, cs, bs => cs = [.int k x] ∧ bs = []
  | .bool, x, cs, bs => cs = [.bool x] ∧ bs = []
  | .str, x, cs, bs => cs = [.string x] ∧ bs = []
  | .list e t, xs, cs, bs => ∃ v f nb, cs = [v] ∧ w.ownsRow 0 e t.size v xs.length f ∧ OEls (Ow w t) xs f nb ∧ bs = v.ownBlock.toList ++ nb
  | .nil, _, cs, bs => cs = [] ∧ bs = []
  | .cons a b, x, cs, bs => ∃ c d e g, cs = c ++ d ∧ bs = e ++ g ∧ Ow w a x.1 c e ∧ Ow w b x.2 d g
  | .st a, x, cs, bs => Ow w a x cs bs
  | .ptr, _, _, _ => False

theorem Els_length {α : Type} {R : α → List Value → Prop} {s : Nat} (h : ∀ x c, R x c → c.length = s) : ∀ (xs : List α) (f : List Value), Els R xs f → f.length = xs.length * s
  | [], f, e => by simp [show f = [] from e]
  | x :: xs, f, ⟨c, g, e, hr, hg⟩ => by
    subst e
    simp [h x c hr, Els_length h xs g hg, Nat.add_mul, Nat.add_comm]

theorem Rd_length {w : World} {S : Nat → Prop} : ∀ (t : Ty) (x : t.Den) (cs : List Value), Rd w S t x cs → cs.length = t.size
  | .int _, _, _, h | .bool, _, _, h | .str, _, _, h => by simp [show _ = _ from h, Ty.size]
  | .list _ _, _, _, ⟨_, _, _, _, h, _⟩ => by simp [h, Ty.size]
  | .nil, _, _, h => by simp [show _ = _ from h, Ty.size]
  | .cons a b, x, _, ⟨c, d, h, h1, h2⟩ => by simp [h, Ty.size, Rd_length a _ c h1, Rd_length b _ d h2]
  | .st a, x, cs, h => Rd_length a x cs h
  | .ptr, _, _, h => (show False from h).elim

theorem OEls_length {α : Type} {R : α → List Value → List Nat → Prop} {s : Nat} (h : ∀ x c b, R x c b → c.length = s) : ∀ (xs : List α) (f : List Value) (bs : List Nat), OEls R xs f bs → f.length = xs.length * s
  | [], f, _, e => by simp [show f = [] from e.1]
  | x :: xs, f, _, ⟨c, g, _, _, e, _, hr, hg⟩ => by
    subst e
    simp [h x c _ hr, OEls_length h xs g _ hg, Nat.add_mul, Nat.add_comm]

theorem Ow_length {w : World} : ∀ (t : Ty) (x : t.Den) (cs : List Value) (bs : List Nat), Ow w t x cs bs → cs.length = t.size
  | .int _, _, _, _, h | .bool, _, _, _, h | .str, _, _, _, h => by simp [h.1, Ty.size]
  | .list _ _, _, _, _, ⟨_, _, _, h, _⟩ => by simp [h, Ty.size]
  | .nil, _, _, _, h => by simp [h.1, Ty.size]
  | .cons a b, x, _, _, ⟨c, d, _, _, h, _, h1, h2⟩ => by simp [h, Ty.size, Ow_length a _ c _ h1, Ow_length b _ d _ h2]
  | .st a, x, cs, bs, h => Ow_length a x cs bs h
  | .ptr, _, _, _, h => (show False from h).elim

theorem Els_mono {α : Type} {R R' : α → List Value → Prop} (h : ∀ x c, R x c → R' x c) : ∀ (xs : List α) (f : List Value), Els R xs f → Els R' xs f
  | [], _, e => e
  | _ :: xs, _, ⟨c, g, e, hr, hg⟩ => ⟨c, g, e, h _ _ hr, Els_mono h xs g hg⟩

theorem RowAt.mono {w w' : World} {A : Option Addr} {f : List Value} {S : Nat → Prop} (hA : ∀ ad, A = some ad → (f = [] ∨ S ad.block))
    (hw : ∀ b, S b → w'.heap[b]? = w.heap[b]?) (h : RowAt w A f) : RowAt w' A f := by
  intro j u hu
  obtain ⟨ad, e, hc⟩ := h j u hu
  refine ⟨ad, e, ?_⟩
  rcases hA ad e with rfl | hS
  · simp at hu
  · rw [← hc]; exact World.cell?_of_block (w := w) (hw _ hS)

theorem Rd_mono {w w' : World} {S S' : Nat → Prop} (hS : ∀ b, S b → S' b) (hw : ∀ b, S b → w'.heap[b]? = w.heap[b]?) :
    ∀ (t : Ty) (x : t.Den) (cs : List Value), Rd w S t x cs → Rd w' S' t x cs
  | .int _, _, _, h | .bool, _, _, h | .str, _, _, h | .nil, _, _, h => h
  | .list e t, xs, cs, ⟨A, n, c, f, h1, h2, h3, h4, h5, h6, h7⟩ => by
    refine ⟨A, n, c, f, h1, h2, h3, Els_mono (Rd_mono hS hw t) xs f h4, fun ad e hn => ⟨(h5 ad e hn).1, hS _ (h5 ad e hn).2⟩, ?_, h7⟩
    refine h6.mono (S := S) (fun ad e => ?_) hw
    rcases Nat.eq_zero_or_pos n with h0 | h0
    · left
      have := Els_length (Rd_length t) xs f h4
      rw [← h2, h0] at this
      exact List.eq_nil_of_length_eq_zero (by simpa using this)
    · exact .inr (h5 ad e h0).2
  | .cons a b, x, _, ⟨c, d, h, h1, h2⟩ => ⟨c, d, h, Rd_mono hS hw a _ c h1, Rd_mono hS hw b _ d h2⟩
  | .st a, x, cs, h => Rd_mono hS hw a x cs h
  | .ptr, _, _, h => (show False from h).elim

/-- a flat payload reads alike everywhere -/
theorem Rd_flat {w w' : World} {S S' : Nat → Prop} : ∀ (t : Ty), t.flat = true → ∀ (x : t.Den) (cs : List Value), Rd w S t x cs → Rd w' S' t x cs
  | .int _, _, _, _, h | .bool, _, _, _, h | .str, _, _, _, h | .nil, _, _, _, h => h
  | .list _ _, hf, _, _, _ => by simp [Ty.flat] at hf
  | .cons a b, hf, x, _, ⟨c, d, h, h1, h2⟩ => by
    simp [Ty.flat] at hf
    exact ⟨c, d, h, Rd_flat a hf.1 _ c h1, Rd_flat b hf.2 _ d h2⟩
  | .st a, hf, x, cs, h => Rd_flat a hf x cs h
  | .ptr, _, _, _, h => (show False from h).elim

theorem OEls_mono {α : Type} {R R' : α → List Value → List Nat → Prop} : ∀ (xs : List α) (f : List Value) (bs : List Nat),
    (∀ x c b, (∀ k, k ∈ b → k ∈ bs) → R x c b → R' x c b) → OEls R xs f bs → OEls R' xs f bs
  | [], _, _, _, e => e
  | _ :: xs, _, _, h, ⟨c, g, b, d, e, e', hr, hg⟩ => by
    subst e'
    exact ⟨c, g, b, d, e, rfl, h _ _ _ (fun k hk => List.mem_append.2 (.inl hk)) hr, OEls_mono xs g d (fun x c b' hb => h x c b' fun k hk => List.mem_append.2 (.inr (hb k hk))) hg⟩

theorem ownsRow_blocks {w w' : World} {e : TypeId} {size n : Nat} {v : Value} {xs : List Value} (h : w.ownsRow 0 e size v n xs)
    (hw : ∀ k, v.ownBlock = some k → w'.heap[k]? = w.heap[k]?) : w'.ownsRow 0 e size v n xs := by
  refine ⟨h.1, ?_⟩
  rcases h.2 with hn | ⟨g, cap, cur, rfl, hb, hgg, rest⟩
  · exact .inl hn
  · exact .inr ⟨g, cap, cur, rfl, hb, by rw [hw g (by simp [Value.ownBlock])]; exact hgg, rest⟩

theorem Ow_frame {w w' : World} : ∀ (t : Ty) (x : t.Den) (cs : List Value) (bs : List Nat), (∀ b, b ∈ bs → w'.heap[b]? = w.heap[b]?) → Ow w t x cs bs → Ow w' t x cs bs
  | .int _, _, _, _, _, h | .bool, _, _, _, _, h | .str, _, _, _, _, h | .nil, _, _, _, _, h => h
  | .list e t, xs, cs, bs, hw, ⟨v, f, nb, h1, h2, h3, h4⟩ => by
    subst h4
    refine ⟨v, f, nb, h1, ownsRow_blocks h2 (fun k hk => hw k (by simp [hk])), ?_, rfl⟩
    exact OEls_mono xs f nb (fun x c b hb => Ow_frame t x c b fun k hk => hw k (List.mem_append.2 (.inr (hb k hk)))) h3
  | .cons a b, x, _, _, hw, ⟨c, d, e, g, h, h', h1, h2⟩ => by
    subst h'
    exact ⟨c, d, e, g, h, rfl, Ow_frame a _ c e (fun k hk => hw k (List.mem_append.2 (.inl hk))) h1, Ow_frame b _ d g (fun k hk => hw k (List.mem_append.2 (.inr hk))) h2⟩
  | .st a, x, cs, bs, hw, h => Ow_frame a x cs bs hw h
  | .ptr, _, _, _, _, h => (show False from h).elim

theorem OEls_Els {α : Type} {R : α → List Value → List Nat → Prop} {R' : α → List Value → Prop} : ∀ (xs : List α) (f : List Value) (bs : List Nat),
    (∀ x c b, (∀ k, k ∈ b → k ∈ bs) → R x c b → R' x c) → OEls R xs f bs → Els R' xs f
  | [], _, _, _, e => e.1
  | _ :: xs, _, _, h, ⟨c, g, b, d, e, e', hr, hg⟩ => by
    subst e'
    exact ⟨c, g, e, h _ _ _ (fun k hk => List.mem_append.2 (.inl hk)) hr, OEls_Els xs g d (fun x c b' hb => h x c b' fun k hk => List.mem_append.2 (.inr (hb k hk))) hg⟩

/-- what is owned reads -/
theorem Ow_Rd {w : World} : ∀ (t : Ty) (x : t.Den) (cs : List Value) (bs : List Nat), Ow w t x cs bs → Rd w (· ∈ bs) t x cs
  | .int _, _, _, _, h | .bool, _, _, _, h | .str, _, _, _, h | .nil, _, _, _, h => h.1
  | .list e t, xs, cs, bs, ⟨v, f, nb, h1, h2, h3, h4⟩ => by
    subst h4
    have hE : Els (Rd w (· ∈ v.ownBlock.toList ++ nb) t) xs f := OEls_Els xs f nb (fun x c b hb h =>
      Rd_mono (fun k hk => List.mem_append.2 (.inr (hb k hk))) (fun _ _ => rfl) t x c (Ow_Rd t x c b h)) h3
    have hlen := OEls_length (Ow_length t) xs f nb h3
    rcases h2.2 with ⟨rfl, h0⟩ | ⟨g, cap, cur, rfl, _, hg, hnc, hcm, hcs, ht⟩
    · refine ⟨none, xs.length, 0, f, by simp [h1, h0], rfl, by omega, hE, by simp, ?_, by omega, fun _ => rfl⟩
      intro j u hu
      rw [h0] at hlen
      simp [List.eq_nil_of_length_eq_zero (show f.length = 0 by simpa using hlen)] at hu
    · refine ⟨some ⟨g, 0, none⟩, xs.length, cap, f, h1, rfl, hnc, hE, ?_, ?_, by simp, by simp⟩
      · intro ad e
        obtain rfl := Option.some.inj e
        exact fun _ => ⟨rfl, by simp [Value.ownBlock]⟩
      · intro j u hu
        have := h2.cells (g := g) rfl j u hu
        refine ⟨_, rfl, ?_⟩
        have hadd : (⟨g, 0, none⟩ : Addr).add j = ⟨g, 0 + j, none⟩ := by unfold Addr.add; split <;> simp_all
        rwa [hadd] at this
  | .cons a b, x, _, _, ⟨c, d, e, g, h, h', h1, h2⟩ => by
    subst h'
    exact ⟨c, d, h, Rd_mono (fun k hk => List.mem_append.2 (.inl hk)) (fun _ _ => rfl) a _ c (Ow_Rd a _ c e h1),
      Rd_mono (fun k hk => List.mem_append.2 (.inr hk)) (fun _ _ => rfl) b _ d (Ow_Rd b _ d g h2)⟩
  | .st a, x, cs, bs, h => Ow_Rd a x cs bs h
  | .ptr, _, _, _, h => (show False from h).elim

theorem Ow_flat {w : World} : ∀ (t : Ty), t.flat = true → ∀ (x : t.Den) (cs : List Value) (bs : List Nat), Ow w t x cs bs → bs = []
  | .int _, _, _, _, _, h | .bool, _, _, _, _, h | .str, _, _, _, _, h | .nil, _, _, _, _, h => h.2
  | .list _ _, hf, _, _, _, _ => by simp [Ty.flat] at hf
  | .cons a b, hf, x, _, _, ⟨c, d, e, g, _, h', h1, h2⟩ => by
    simp [Ty.flat] at hf
    simp [h', Ow_flat a hf.1 _ c e h1, Ow_flat b hf.2 _ d g h2]
  | .st a, hf, x, cs, bs, h => Ow_flat a hf x cs bs h
  | .ptr, _, _, _, _, h => (show False from h).elim

theorem Rd_Ow_flat {w w' : World} {S : Nat → Prop} : ∀ (t : Ty), t.flat = true → ∀ (x : t.Den) (cs : List Value), Rd w S t x cs → Ow w' t x cs []
  | .int _, _, _, _, h | .bool, _, _, _, h | .str, _, _, _, h | .nil, _, _, _, h => ⟨h, rfl⟩
  | .list _ _, hf, _, _, _ => by simp [Ty.flat] at hf
  | .cons a b, hf, x, _, ⟨c, d, h, h1, h2⟩ => by
    simp [Ty.flat] at hf
    exact ⟨c, d, [], [], h, rfl, Rd_Ow_flat a hf.1 _ c h1, Rd_Ow_flat b hf.2 _ d h2⟩
  | .st a, hf, x, cs, h => Rd_Ow_flat a hf x cs h
  | .ptr, _, _, _, h => (show False from h).elim

theorem Els_get {α : Type} {R : α → List Value → Prop} {s : Nat} (hs : ∀ x c, R x c → c.length = s) : ∀ (xs : List α) (f : List Value), Els R xs f →
    ∀ (k : Nat) (x : α), xs[k]? = some x → ∃ c, R x c ∧ ∀ j, j < s → f[k * s + j]? = c[j]?
  | [], _, _, _, _, h => by simp at h
  | y :: ys, f, ⟨c, g, e, hr, hg⟩, 0, x, h => by
    simp at h
    subst h e
    exact ⟨c, hr, fun j hj => by rw [Nat.zero_mul, Nat.zero_add, List.getElem?_append_left (by rw [hs _ _ hr]; exact hj)]⟩
  | y :: ys, f, ⟨c, g, e, hr, hg⟩, k + 1, x, h => by
    subst e
    obtain ⟨c', hr', hc'⟩ := Els_get hs ys g hg k x (by simpa using h)
    refine ⟨c', hr', fun j hj => ?_⟩
    rw [← hc' j hj, Nat.add_mul, Nat.one_mul, List.getElem?_append_right (by rw [hs _ _ hr]; omega), hs _ _ hr]
    congr 1
    omega

end Go.Am
