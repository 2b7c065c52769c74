/- Pieces of code put together. -/
import Derived.Test.YtmdmkakkodeniaaAmTok
set_option linter.unusedVariables false
set_option linter.unusedSimpArgs false
namespace Go.Am

def Code.l : Code → Code
  | .seq a _ => a
  | .block _ a => a
  | .loop a => a
  | .cond _ a _ => a
  | c => c

def Code.r : Code → Code
  | .seq _ a => a
  | .cond _ _ a => a
  | c => c

def bodyOf (f : Func) : Code := f.body.getD .skip

/-- a block's ways out -/
def kxB {R : Type} (id : Nat) (kn : St → Option R) (kx : Nat → St → Option R) : Nat → St → Option R := fun i => match Nat.beq i id with
  | true => kn
  | false => kx i

def kCond {R : Type} (C : Ctx) (x : Operand) (F G : St → Option R) : St → Option R := fun st => match condB C st x with
  | some t => cond t (F st) (G st)
  | none => none

section
variable {P : Program} {C : Ctx} {R : Type}

theorem Obl_none : ∀ (c : Code) (kn : St → Option R) (kx : Nat → St → Option R) (kr : St → Option R), Obl P C (fun _ => none) c kn kx kr := by
  intro c
  induction c with
  | seq a b iha ihb => intro kn kx kr; exact ⟨iha _ _ _, ihb _ _ _⟩
  | cond x a b iha ihb => intro kn kx kr; exact ⟨iha _ _ _, ihb _ _ _⟩
  | block id a iha => intro kn kx kr; exact iha _ _ _
  | region id ops draw => intro kn kx kr; cases draw <;> exact trivial
  | _ => intros; exact trivial

theorem Snd.exec (hc : CtxOk P C) (c : Code) (kn : St → Option R) (kx : Nat → St → Option R) (kr : St → Option R) : Snd P C c kn kx kr (exec C (fun _ => none) c kn kx kr) :=
  exec_sound hc c kn kx kr (Obl_none c kn kx kr)

theorem Snd.seq {c : Code} {kn : St → Option R} {kx : Nat → St → Option R} {kr : St → Option R} {F G : St → Option R} (e : c = .seq (Code.l c) (Code.r c)) (hb : Snd P C (Code.r c) kn kx kr G) (ha : Snd P C (Code.l c) G kx kr F) :
    Snd P C c kn kx kr F := by
  intro r Q E0 E st act h hi hn hx hr
  rw [e]
  exact wp_seq (ha r _ E0 E st act h hi (fun st' E' a' hk hi' => hb r Q E0 E' st' a' hk hi' hn hx hr) (fun i st E a hk hi' => hx i st E a hk hi') (fun st E a hk hi' => hr st E a hk hi'))

theorem Snd.block {c : Code} {id : Nat} {kn : St → Option R} {kx : Nat → St → Option R} {kr : St → Option R} {F : St → Option R} (e : c = .block id (Code.l c)) (ha : Snd P C (Code.l c) kn (kxB id kn kx) kr F) : Snd P C c kn kx kr F := by
  intro r Q E0 E st act h hi hn hx hr
  rw [e]
  refine wp_block (ha r _ E0 E st act h hi (fun st' E' a' hk hi' => hn st' E' a' hk hi') (fun i st' E' a' hk hi' => ?_) (fun st' E' a' hk hi' => hr st' E' a' hk hi'))
  show Exit.inBlock id Q (.exit i) a' E'.w
  simp only [Exit.inBlock]
  unfold kxB at hk
  cases e : Nat.beq i id with
  | true =>
    simp only [e] at hk
    rw [if_pos (Nat.eq_of_beq_eq_true e)]
    exact hn st' E' a' hk hi'
  | false =>
    simp only [e] at hk
    rw [if_neg (fun e' => by rw [e'] at e; simp at e)]
    exact hx i st' E' a' hk hi'

theorem Snd.cond {c : Code} {x : Operand} {kn : St → Option R} {kx : Nat → St → Option R} {kr : St → Option R} {F G : St → Option R} (e : c = .cond x (Code.l c) (Code.r c)) (ha : Snd P C (Code.l c) kn kx kr F) (hb : Snd P C (Code.r c) kn kx kr G) :
    Snd P C c kn kx kr (kCond C x F G) := by
  intro r Q E0 E st act h hi hn hx hr
  rw [e]
  unfold kCond condB at h
  split at h
  · rename_i t ht
    refine wp_cond (evB_sound ht hi.rep) ?_
    cases t with
    | true => exact ha r Q E0 E st act h hi hn hx hr
    | false => exact hb r Q E0 E st act h hi hn hx hr
  · cases h

theorem Snd.loop' {c : Code} {kn : St → Option R} {kx : Nat → St → Option R} {kr : St → Option R} (e : c = .loop (Code.l c)) (s : SS) (J : Nat → s.Den → Option R) (F : Nat → St → Option R)
    (h0 : ∀ x, J 0 x = none) (h : ∀ n, Snd P C (Code.l c) (Cut.go ⟨s, J n⟩) kx kr (F n)) (hF : ∀ n x, F n (s.st x) = J (n + 1) x) (n : Nat) : Snd P C c kn kx kr (Cut.go ⟨s, J n⟩) := by
  rw [e]
  exact Snd.loop s J F h0 h hF n

theorem Snd.draw' (hc : CtxOk P C) {c : Code} {id : Nat} {ops : Array Oper} {kn : St → Option R} {kx : Nat → St → Option R} {kr : St → Option R} (e : c = .region id ops true) (k : Cut R) (orders : List (List Nat))
    (hok : (Region.noSelect ops && forkOk C ops ops.size (Array.replicate ops.size false) orders) = true) (h : ∀ ord, ord ∈ orders → ∀ x, runK C ops ord (k.s.st x) kn = k.J x) : Snd P C c kn kx kr k.go := by
  rw [e]
  exact Snd.draw hc k orders hok h
end

/-- the contracts of a seat, by the numbers of functions -/
def conAt : List (Nat × List Con) → Nat → List Con
  | [], _ => []
  | x :: r, n => match Nat.beq x.1 n with
    | true => x.2
    | false => conAt r n

theorem conAt_mem {n : Nat} {c : Con} : ∀ {l : List (Nat × List Con)}, c ∈ conAt l n → ∃ cs, (n, cs) ∈ l ∧ c ∈ cs
  | [], h => by cases h
  | x :: r, h => by
    simp only [conAt] at h
    split at h
    · rename_i e
      obtain ⟨a, b⟩ := x
      have := Nat.eq_of_beq_eq_true e
      simp only at this
      subst this
      exact ⟨b, List.mem_cons_self .., h⟩
    · obtain ⟨cs, h1, h2⟩ := conAt_mem h
      exact ⟨cs, List.mem_cons_of_mem _ h1, h2⟩

theorem ctxOk {P : Program} {tys : List (Nat × Ty)} {cons : List (Nat × List Con)} {N : Nat} {br : Nat → Bool} (ht : tableB P tys = true) (hm : P.follows .mixedOrders = true) (h : ∀ x, x ∈ cons → ∀ c, c ∈ x.2 → FnOk P x.1 c) :
    CtxOk P ⟨tyAt tys, conAt cons, N, br⟩ where
  tt := table_tt ht
  phi := fun g c hc => by
    obtain ⟨cs, h1, h2⟩ := conAt_mem hc
    exact h _ h1 c h2
  mixed := hm
  eq := table_eq ht

end Go.Am
