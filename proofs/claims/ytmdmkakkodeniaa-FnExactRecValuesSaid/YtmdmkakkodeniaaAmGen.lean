/- What printed walks are put together with. -/
import Derived.Test.YtmdmkakkodeniaaAmComb
import Derived.KernelRfl
set_option linter.unusedVariables false
namespace Go.Am

theorem consOk_nil {P : Program} : ∀ x, x ∈ ([] : List (Nat × List Con)) → ∀ c, c ∈ x.2 → FnOk P x.1 c := fun _ h => (List.not_mem_nil h).elim

theorem consOk_cons {P : Program} {f : Nat} {c : Con} {l : List (Nat × List Con)} (h : FnOk P f c) (k : ∀ x, x ∈ l → ∀ c, c ∈ x.2 → FnOk P x.1 c) :
    ∀ x, x ∈ (f, [c]) :: l → ∀ c, c ∈ x.2 → FnOk P x.1 c := by
  intro x hx
  rcases List.mem_cons.1 hx with rfl | hx
  · intro d hd
    simp only [List.mem_singleton] at hd
    subst hd
    exact h
  · exact k x hx

theorem FnOk_none {P : Program} {f : FuncId} {c : Con} (h : ∀ x, c.F x = none) : FnOk P f c := by
  intro E args x y hsz hF hr
  rw [h x] at hF
  cases hF

def Code.ops : Code → Array Oper
  | .region _ ops _ => ops
  | _ => #[]

theorem Snd.fork {P : Program} {C : Ctx} {R : Type} (hc : CtxOk P C) {c : Code} {id : Nat} {kn : St → Option R} {kx : Nat → St → Option R} {kr : St → Option R} (e : c = .region id (Code.ops c) true) (k : Cut R) (orders : List (List Nat))
    (hok : (Region.noSelect (Code.ops c) && forkOk C (Code.ops c) (Code.ops c).size (Array.replicate (Code.ops c).size false) orders) = true)
    (h : ∀ ord, ord ∈ orders → ∀ x, runK C (Code.ops c) ord (k.s.st x) kn = k.J x) : Snd P C c kn kx kr k.go :=
  Snd.draw' hc e k orders hok h

theorem ords_nil {P : List Nat → Prop} : ∀ ord, ord ∈ ([] : List (List Nat)) → P ord := fun _ h => (List.not_mem_nil h).elim
theorem ords_cons {P : List Nat → Prop} {o : List Nat} {l : List (List Nat)} (h : P o) (t : ∀ ord, ord ∈ l → P ord) : ∀ ord, ord ∈ o :: l → P ord := by
  intro ord ho
  rcases List.mem_cons.1 ho with rfl | ho
  · exact h
  · exact t ord ho
end Go.Am
