/-
  No cell of these rows narrows 'for every input' (looked for: loops, veiled, ifaces, maps, wideKeys, modest, calm, conditions, laid).
  DERIVED. THE GIVEN ROWS OF THIS SEAT. 9 by the template 'for every input the law returns true; each argument reads behind the call as it read before'; 0 by the template 'total and deterministic' (their statements: YtifcflanpjkgkaaTotals.lean).
  GIVEN WITH THE SEED: the statements are not yours to turn. If you find one false, say at which input.
  Laid BY PROGRAM, IN A SANDBOX (cutbox-rows.mjs): the forced cells as the released guide's own fill.sh prints them over the translation c8d36c24c0755abc… (all of the seat's roots in one cut). By AI agents, Wed Nov 11 2026. No macro, syntax, notation, axiom, sorry.
-/
import Derived.Test.YtifcflanpjkgkaaChecked
import GoSem.Claim
import GoSem.ClaimJoined
import GoSem.ClaimMapViews
import Derived.JoinedTies
import Derived.KernelRfl
namespace Go.Proofs.Ytifcflanpjkgkaa
/- THE CELL 'sum', in the pinned program and in every row, IS THE sha256 OF THE DUMP (.gsa) THAT YtifcflanpjkgkaaProg.lean LOADS. Nothing in Lean hashes anything: it is a label: what it is worth is what the hold of that sum in a sandbox is worth. -/
noncomputable def Try.pinned : Pinned := { name := "ytifcflanpjkgkaa", sum := "c8d36c24c0755abc35512468aa47423d0d2871d377964e46139a48ab6d3bb96e", checked := Try.checked }
namespace Rows
def none {H : Type} : Left H := { results := [], args := [] }

/-- 'laws.FnValues': WHATEVER THE INPUT: true; the input reads as it did. -/
def fnValuesSpec : ChangeSpec := { name := "fnValues", fn := fun _ => fun
  | [d] => { results := [.lit (.bool true)], args := [d] }
  | _ => none }
def fnValuesRow : OpenClaim := { program := "ytifcflanpjkgkaa", sum := "c8d36c24c0755abc35512468aa47423d0d2871d377964e46139a48ab6d3bb96e", func := "loop.example/g00114/laws.FnValues", spec := "fnValues", unfollowed := true, recurses := true, apart := false }
def FnValuesSaid : Prop := fnValuesRow.holds Try.pinned (OpenSpec.ofChange fnValuesSpec)

/-- ITS FALSE NEIGHBOUR: 'it returns false'. Refute it at one input. -/
def fnValuesWrong : ChangeSpec := { name := "fnValues", fn := fun _ => fun
  | [d] => { results := [.lit (.bool false)], args := [d] }
  | _ => none }
def FnValuesWrongFalsely : Prop := fnValuesRow.holds Try.pinned (OpenSpec.ofChange fnValuesWrong)

/-- 'laws.FnShredValues': WHATEVER THE INPUT: true; the input reads as it did. -/
def fnShredValuesSpec : ChangeSpec := { name := "fnShredValues", fn := fun _ => fun
  | [d] => { results := [.lit (.bool true)], args := [d] }
  | _ => none }
def fnShredValuesRow : OpenClaim := { program := "ytifcflanpjkgkaa", sum := "c8d36c24c0755abc35512468aa47423d0d2871d377964e46139a48ab6d3bb96e", func := "loop.example/g00114/laws.FnShredValues", spec := "fnShredValues", unfollowed := true, recurses := true, apart := false }
def FnShredValuesSaid : Prop := fnShredValuesRow.holds Try.pinned (OpenSpec.ofChange fnShredValuesSpec)

/-- ITS FALSE NEIGHBOUR: 'it returns false'. Refute it at one input. -/
def fnShredValuesWrong : ChangeSpec := { name := "fnShredValues", fn := fun _ => fun
  | [d] => { results := [.lit (.bool false)], args := [d] }
  | _ => none }
def FnShredValuesWrongFalsely : Prop := fnShredValuesRow.holds Try.pinned (OpenSpec.ofChange fnShredValuesWrong)

/-- 'laws.FnExactShred': WHATEVER THE INPUT: true; the input reads as it did. -/
def fnExactShredSpec : ChangeSpec := { name := "fnExactShred", fn := fun _ => fun
  | [d1, d2] => { results := [.lit (.bool true)], args := [d1, d2] }
  | _ => none }
def fnExactShredRow : OpenClaim := { program := "ytifcflanpjkgkaa", sum := "c8d36c24c0755abc35512468aa47423d0d2871d377964e46139a48ab6d3bb96e", func := "loop.example/g00114/laws.FnExactShred", spec := "fnExactShred", unfollowed := true, recurses := true, apart := false }
def FnExactShredSaid : Prop := fnExactShredRow.holds Try.pinned (OpenSpec.ofChange fnExactShredSpec)

/-- ITS FALSE NEIGHBOUR: 'it returns false'. Refute it at one input. -/
def fnExactShredWrong : ChangeSpec := { name := "fnExactShred", fn := fun _ => fun
  | [d1, d2] => { results := [.lit (.bool false)], args := [d1, d2] }
  | _ => none }
def FnExactShredWrongFalsely : Prop := fnExactShredRow.holds Try.pinned (OpenSpec.ofChange fnExactShredWrong)

/-- 'laws.FnTreeRead': WHATEVER THE INPUT: true; the input reads as it did. -/
def fnTreeReadSpec : ChangeSpec := { name := "fnTreeRead", fn := fun _ => fun
  | [d] => { results := [.lit (.bool true)], args := [d] }
  | _ => none }
def fnTreeReadRow : OpenClaim := { program := "ytifcflanpjkgkaa", sum := "c8d36c24c0755abc35512468aa47423d0d2871d377964e46139a48ab6d3bb96e", func := "loop.example/g00114/laws.FnTreeRead", spec := "fnTreeRead", recurses := true, apart := false }
def FnTreeReadSaid : Prop := fnTreeReadRow.holds Try.pinned (OpenSpec.ofChange fnTreeReadSpec)

/-- ITS FALSE NEIGHBOUR: 'it returns false'. Refute it at one input. -/
def fnTreeReadWrong : ChangeSpec := { name := "fnTreeRead", fn := fun _ => fun
  | [d] => { results := [.lit (.bool false)], args := [d] }
  | _ => none }
def FnTreeReadWrongFalsely : Prop := fnTreeReadRow.holds Try.pinned (OpenSpec.ofChange fnTreeReadWrong)

/-- 'laws.FnShred': WHATEVER THE INPUT: true; the input reads as it did. -/
def fnShredSpec : ChangeSpec := { name := "fnShred", fn := fun _ => fun
  | [d] => { results := [.lit (.bool true)], args := [d] }
  | _ => none }
def fnShredRow : OpenClaim := { program := "ytifcflanpjkgkaa", sum := "c8d36c24c0755abc35512468aa47423d0d2871d377964e46139a48ab6d3bb96e", func := "loop.example/g00114/laws.FnShred", spec := "fnShred", unfollowed := true, recurses := true, apart := false }
def FnShredSaid : Prop := fnShredRow.holds Try.pinned (OpenSpec.ofChange fnShredSpec)

/-- ITS FALSE NEIGHBOUR: 'it returns false'. Refute it at one input. -/
def fnShredWrong : ChangeSpec := { name := "fnShred", fn := fun _ => fun
  | [d] => { results := [.lit (.bool false)], args := [d] }
  | _ => none }
def FnShredWrongFalsely : Prop := fnShredRow.holds Try.pinned (OpenSpec.ofChange fnShredWrong)

/-- 'laws.FnExactPredHolds': WHATEVER THE INPUT: true; the input reads as it did. -/
def fnExactPredHoldsSpec : ChangeSpec := { name := "fnExactPredHolds", fn := fun _ => fun
  | [d1, d2, d3] => { results := [.lit (.bool true)], args := [d1, d2, d3] }
  | _ => none }
def fnExactPredHoldsRow : OpenClaim := { program := "ytifcflanpjkgkaa", sum := "c8d36c24c0755abc35512468aa47423d0d2871d377964e46139a48ab6d3bb96e", func := "loop.example/g00114/laws.FnExactPredHolds", spec := "fnExactPredHolds", unfollowed := true, recurses := true, apart := false }
def FnExactPredHoldsSaid : Prop := fnExactPredHoldsRow.holds Try.pinned (OpenSpec.ofChange fnExactPredHoldsSpec)

/-- ITS FALSE NEIGHBOUR: 'it returns false'. Refute it at one input. -/
def fnExactPredHoldsWrong : ChangeSpec := { name := "fnExactPredHolds", fn := fun _ => fun
  | [d1, d2, d3] => { results := [.lit (.bool false)], args := [d1, d2, d3] }
  | _ => none }
def FnExactPredHoldsWrongFalsely : Prop := fnExactPredHoldsRow.holds Try.pinned (OpenSpec.ofChange fnExactPredHoldsWrong)

/-- 'laws.FnPreds': WHATEVER THE INPUT: true; the input reads as it did. -/
def fnPredsSpec : ChangeSpec := { name := "fnPreds", fn := fun _ => fun
  | [d] => { results := [.lit (.bool true)], args := [d] }
  | _ => none }
def fnPredsRow : OpenClaim := { program := "ytifcflanpjkgkaa", sum := "c8d36c24c0755abc35512468aa47423d0d2871d377964e46139a48ab6d3bb96e", func := "loop.example/g00114/laws.FnPreds", spec := "fnPreds", unfollowed := true, recurses := true, apart := false }
def FnPredsSaid : Prop := fnPredsRow.holds Try.pinned (OpenSpec.ofChange fnPredsSpec)

/-- ITS FALSE NEIGHBOUR: 'it returns false'. Refute it at one input. -/
def fnPredsWrong : ChangeSpec := { name := "fnPreds", fn := fun _ => fun
  | [d] => { results := [.lit (.bool false)], args := [d] }
  | _ => none }
def FnPredsWrongFalsely : Prop := fnPredsRow.holds Try.pinned (OpenSpec.ofChange fnPredsWrong)

/-- 'laws.FnExactAssemble': WHATEVER THE INPUT: true; the input reads as it did. -/
def fnExactAssembleSpec : ChangeSpec := { name := "fnExactAssemble", fn := fun _ => fun
  | [d1, d2] => { results := [.lit (.bool true)], args := [d1, d2] }
  | _ => none }
def fnExactAssembleRow : OpenClaim := { program := "ytifcflanpjkgkaa", sum := "c8d36c24c0755abc35512468aa47423d0d2871d377964e46139a48ab6d3bb96e", func := "loop.example/g00114/laws.FnExactAssemble", spec := "fnExactAssemble", recurses := true, apart := false }
def FnExactAssembleSaid : Prop := fnExactAssembleRow.holds Try.pinned (OpenSpec.ofChange fnExactAssembleSpec)

/-- ITS FALSE NEIGHBOUR: 'it returns false'. Refute it at one input. -/
def fnExactAssembleWrong : ChangeSpec := { name := "fnExactAssemble", fn := fun _ => fun
  | [d1, d2] => { results := [.lit (.bool false)], args := [d1, d2] }
  | _ => none }
def FnExactAssembleWrongFalsely : Prop := fnExactAssembleRow.holds Try.pinned (OpenSpec.ofChange fnExactAssembleWrong)

/-- 'laws.FnAssemble': WHATEVER THE INPUT: true; the input reads as it did. -/
def fnAssembleSpec : ChangeSpec := { name := "fnAssemble", fn := fun _ => fun
  | [d] => { results := [.lit (.bool true)], args := [d] }
  | _ => none }
def fnAssembleRow : OpenClaim := { program := "ytifcflanpjkgkaa", sum := "c8d36c24c0755abc35512468aa47423d0d2871d377964e46139a48ab6d3bb96e", func := "loop.example/g00114/laws.FnAssemble", spec := "fnAssemble", unfollowed := true, recurses := true, apart := false }
def FnAssembleSaid : Prop := fnAssembleRow.holds Try.pinned (OpenSpec.ofChange fnAssembleSpec)

/-- ITS FALSE NEIGHBOUR: 'it returns false'. Refute it at one input. -/
def fnAssembleWrong : ChangeSpec := { name := "fnAssemble", fn := fun _ => fun
  | [d] => { results := [.lit (.bool false)], args := [d] }
  | _ => none }
def FnAssembleWrongFalsely : Prop := fnAssembleRow.holds Try.pinned (OpenSpec.ofChange fnAssembleWrong)

/- THE SECOND FORM. 'bulk': how many values and letters a reading holds, each counted each time it is reached (what is shared counts as often as it is met; a slice's spare places count too). A statement '..UptoSaid' is the law's where the arguments, and the package variables that the reading takes, are together of bulk at most 1048576: NARROWER than '..Said'. Prove '..Said' where nothing that the law and all that it calls make is longer than what came in: it says more and counts as full. Else prove '..UptoSaid'. A law counts once. -/
mutual
def uptoBulk {H : Type} : DataW H → Nat
  | .lit (.string bytes) => bytes.length + 1
  | .lit _ => 1
  | .nil => 1
  | .ptr d => uptoBulk d + 1
  | .slice elems spare => uptoBulkAll elems + uptoBulkAll spare + 1
  | .agg parts => uptoBulkAll parts + 1
  | .iface _ d => uptoBulk d + 1
  | .map entries => uptoBulkEntries entries + 1
  | .held _ => 1
def uptoBulkAll {H : Type} : List (DataW H) → Nat
  | [] => 0
  | d :: r => uptoBulk d + uptoBulkAll r
def uptoBulkEntries {H : Type} : List (Lit × DataW H) → Nat
  | [] => 0
  | x :: r => uptoBulkEntry x + uptoBulkEntries r
def uptoBulkEntry {H : Type} : Lit × DataW H → Nat
  | (.string bytes, d) => bytes.length + uptoBulk d + 1
  | (_, d) => uptoBulk d + 1
 end
def uptoSmall : (H : Type) → List (DataW H) → Bool := fun _ ds => decide (uptoBulkAll ds ≤ 1048576)
def OpenSpec.upto (s : _root_.Go.ChangeSpec) : _root_.Go.OpenSpec := { _root_.Go.OpenSpec.ofChange s with cond := some uptoSmall }

/-- 'laws.FnValues', WHERE WHAT IT READS IS OF BULK AT MOST 1048576: true; the input reads as it did. -/
def fnValuesUptoRow : OpenClaim := { program := "ytifcflanpjkgkaa", sum := "c8d36c24c0755abc35512468aa47423d0d2871d377964e46139a48ab6d3bb96e", func := "loop.example/g00114/laws.FnValues", spec := "fnValues", unfollowed := true, recurses := true, apart := false, narrowed := true }
def FnValuesUptoSaid : Prop := fnValuesUptoRow.holds Try.pinned (OpenSpec.upto fnValuesSpec)

/-- 'laws.FnShredValues', WHERE WHAT IT READS IS OF BULK AT MOST 1048576: true; the input reads as it did. -/
def fnShredValuesUptoRow : OpenClaim := { program := "ytifcflanpjkgkaa", sum := "c8d36c24c0755abc35512468aa47423d0d2871d377964e46139a48ab6d3bb96e", func := "loop.example/g00114/laws.FnShredValues", spec := "fnShredValues", unfollowed := true, recurses := true, apart := false, narrowed := true }
def FnShredValuesUptoSaid : Prop := fnShredValuesUptoRow.holds Try.pinned (OpenSpec.upto fnShredValuesSpec)

/-- 'laws.FnExactShred', WHERE WHAT IT READS IS OF BULK AT MOST 1048576: true; the input reads as it did. -/
def fnExactShredUptoRow : OpenClaim := { program := "ytifcflanpjkgkaa", sum := "c8d36c24c0755abc35512468aa47423d0d2871d377964e46139a48ab6d3bb96e", func := "loop.example/g00114/laws.FnExactShred", spec := "fnExactShred", unfollowed := true, recurses := true, apart := false, narrowed := true }
def FnExactShredUptoSaid : Prop := fnExactShredUptoRow.holds Try.pinned (OpenSpec.upto fnExactShredSpec)

/-- 'laws.FnTreeRead', WHERE WHAT IT READS IS OF BULK AT MOST 1048576: true; the input reads as it did. -/
def fnTreeReadUptoRow : OpenClaim := { program := "ytifcflanpjkgkaa", sum := "c8d36c24c0755abc35512468aa47423d0d2871d377964e46139a48ab6d3bb96e", func := "loop.example/g00114/laws.FnTreeRead", spec := "fnTreeRead", recurses := true, apart := false, narrowed := true }
def FnTreeReadUptoSaid : Prop := fnTreeReadUptoRow.holds Try.pinned (OpenSpec.upto fnTreeReadSpec)

/-- 'laws.FnShred', WHERE WHAT IT READS IS OF BULK AT MOST 1048576: true; the input reads as it did. -/
def fnShredUptoRow : OpenClaim := { program := "ytifcflanpjkgkaa", sum := "c8d36c24c0755abc35512468aa47423d0d2871d377964e46139a48ab6d3bb96e", func := "loop.example/g00114/laws.FnShred", spec := "fnShred", unfollowed := true, recurses := true, apart := false, narrowed := true }
def FnShredUptoSaid : Prop := fnShredUptoRow.holds Try.pinned (OpenSpec.upto fnShredSpec)

/-- 'laws.FnExactPredHolds', WHERE WHAT IT READS IS OF BULK AT MOST 1048576: true; the input reads as it did. -/
def fnExactPredHoldsUptoRow : OpenClaim := { program := "ytifcflanpjkgkaa", sum := "c8d36c24c0755abc35512468aa47423d0d2871d377964e46139a48ab6d3bb96e", func := "loop.example/g00114/laws.FnExactPredHolds", spec := "fnExactPredHolds", unfollowed := true, recurses := true, apart := false, narrowed := true }
def FnExactPredHoldsUptoSaid : Prop := fnExactPredHoldsUptoRow.holds Try.pinned (OpenSpec.upto fnExactPredHoldsSpec)

/-- 'laws.FnPreds', WHERE WHAT IT READS IS OF BULK AT MOST 1048576: true; the input reads as it did. -/
def fnPredsUptoRow : OpenClaim := { program := "ytifcflanpjkgkaa", sum := "c8d36c24c0755abc35512468aa47423d0d2871d377964e46139a48ab6d3bb96e", func := "loop.example/g00114/laws.FnPreds", spec := "fnPreds", unfollowed := true, recurses := true, apart := false, narrowed := true }
def FnPredsUptoSaid : Prop := fnPredsUptoRow.holds Try.pinned (OpenSpec.upto fnPredsSpec)

/-- 'laws.FnExactAssemble', WHERE WHAT IT READS IS OF BULK AT MOST 1048576: true; the input reads as it did. -/
def fnExactAssembleUptoRow : OpenClaim := { program := "ytifcflanpjkgkaa", sum := "c8d36c24c0755abc35512468aa47423d0d2871d377964e46139a48ab6d3bb96e", func := "loop.example/g00114/laws.FnExactAssemble", spec := "fnExactAssemble", recurses := true, apart := false, narrowed := true }
def FnExactAssembleUptoSaid : Prop := fnExactAssembleUptoRow.holds Try.pinned (OpenSpec.upto fnExactAssembleSpec)

/-- 'laws.FnAssemble', WHERE WHAT IT READS IS OF BULK AT MOST 1048576: true; the input reads as it did. -/
def fnAssembleUptoRow : OpenClaim := { program := "ytifcflanpjkgkaa", sum := "c8d36c24c0755abc35512468aa47423d0d2871d377964e46139a48ab6d3bb96e", func := "loop.example/g00114/laws.FnAssemble", spec := "fnAssemble", unfollowed := true, recurses := true, apart := false, narrowed := true }
def FnAssembleUptoSaid : Prop := fnAssembleUptoRow.holds Try.pinned (OpenSpec.upto fnAssembleSpec)

end Rows
end Go.Proofs.Ytifcflanpjkgkaa
