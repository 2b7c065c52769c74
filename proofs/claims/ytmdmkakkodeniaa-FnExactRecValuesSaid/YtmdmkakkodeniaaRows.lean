/-
  No cell of these rows narrows 'for every input' (looked for: loops, veiled, ifaces, maps, wideKeys, modest, calm, conditions, laid).
  DERIVED. THE GIVEN ROWS OF THIS SEAT. 5 by the template 'for every input the law returns true; each argument reads behind the call as it read before'; 0 by the template 'total and deterministic' (their statements: YtmdmkakkodeniaaTotals.lean).
  GIVEN WITH THE SEED: the statements are not yours to turn. If you find one false, say at which input.
  Laid BY PROGRAM, IN A SANDBOX (cutbox-rows.mjs): the forced cells as the released guide's own fill.sh prints them over the translation 3d438ef77e00081a… (all of the seat's roots in one cut). By AI agents, Wed Nov 11 2026. No macro, syntax, notation, axiom, sorry.
-/
import Derived.Test.YtmdmkakkodeniaaChecked
import GoSem.Claim
import GoSem.ClaimJoined
import GoSem.ClaimMapViews
import Derived.JoinedTies
import Derived.KernelRfl
namespace Go.Proofs.Ytmdmkakkodeniaa
/- THE CELL 'sum', in the pinned program and in every row, IS THE sha256 OF THE DUMP (.gsa) THAT YtmdmkakkodeniaaProg.lean LOADS. Nothing in Lean hashes anything: it is a label: what it is worth is what the hold of that sum in a sandbox is worth. -/
noncomputable def Try.pinned : Pinned := { name := "ytmdmkakkodeniaa", sum := "3d438ef77e00081a84995894ec298a39570f7f932659ed43ac79067052f4a61c", checked := Try.checked }
namespace Rows
def none {H : Type} : Left H := { results := [], args := [] }

/-- 'laws.FnTree': WHATEVER THE INPUT: true; the input reads as it did. -/
def fnTreeSpec : ChangeSpec := { name := "fnTree", fn := fun _ => fun
  | [d] => { results := [.lit (.bool true)], args := [d] }
  | _ => none }
def fnTreeRow : OpenClaim := { program := "ytmdmkakkodeniaa", sum := "3d438ef77e00081a84995894ec298a39570f7f932659ed43ac79067052f4a61c", func := "loop.example/g00114/laws.FnTree", spec := "fnTree", recurses := true, apart := false }
def FnTreeSaid : Prop := fnTreeRow.holds Try.pinned (OpenSpec.ofChange fnTreeSpec)

/-- ITS FALSE NEIGHBOUR: 'it returns false'. Refute it at one input. -/
def fnTreeWrong : ChangeSpec := { name := "fnTree", fn := fun _ => fun
  | [d] => { results := [.lit (.bool false)], args := [d] }
  | _ => none }
def FnTreeWrongFalsely : Prop := fnTreeRow.holds Try.pinned (OpenSpec.ofChange fnTreeWrong)

/-- 'laws.FnExactRecValues': WHATEVER THE INPUT: true; the input reads as it did. -/
def fnExactRecValuesSpec : ChangeSpec := { name := "fnExactRecValues", fn := fun _ => fun
  | [d1, d2, d3] => { results := [.lit (.bool true)], args := [d1, d2, d3] }
  | _ => none }
def fnExactRecValuesRow : OpenClaim := { program := "ytmdmkakkodeniaa", sum := "3d438ef77e00081a84995894ec298a39570f7f932659ed43ac79067052f4a61c", func := "loop.example/g00114/laws.FnExactRecValues", spec := "fnExactRecValues", unfollowed := true, recurses := true, apart := false }
def FnExactRecValuesSaid : Prop := fnExactRecValuesRow.holds Try.pinned (OpenSpec.ofChange fnExactRecValuesSpec)

/-- ITS FALSE NEIGHBOUR: 'it returns false'. Refute it at one input. -/
def fnExactRecValuesWrong : ChangeSpec := { name := "fnExactRecValues", fn := fun _ => fun
  | [d1, d2, d3] => { results := [.lit (.bool false)], args := [d1, d2, d3] }
  | _ => none }
def FnExactRecValuesWrongFalsely : Prop := fnExactRecValuesRow.holds Try.pinned (OpenSpec.ofChange fnExactRecValuesWrong)

/-- 'laws.FnExactSchemaOf': WHATEVER THE INPUT: true; the input reads as it did. -/
def fnExactSchemaOfSpec : ChangeSpec := { name := "fnExactSchemaOf", fn := fun _ => fun
  | [d1, d2] => { results := [.lit (.bool true)], args := [d1, d2] }
  | _ => none }
def fnExactSchemaOfRow : OpenClaim := { program := "ytmdmkakkodeniaa", sum := "3d438ef77e00081a84995894ec298a39570f7f932659ed43ac79067052f4a61c", func := "loop.example/g00114/laws.FnExactSchemaOf", spec := "fnExactSchemaOf", recurses := true, apart := false }
def FnExactSchemaOfSaid : Prop := fnExactSchemaOfRow.holds Try.pinned (OpenSpec.ofChange fnExactSchemaOfSpec)

/-- ITS FALSE NEIGHBOUR: 'it returns false'. Refute it at one input. -/
def fnExactSchemaOfWrong : ChangeSpec := { name := "fnExactSchemaOf", fn := fun _ => fun
  | [d1, d2] => { results := [.lit (.bool false)], args := [d1, d2] }
  | _ => none }
def FnExactSchemaOfWrongFalsely : Prop := fnExactSchemaOfRow.holds Try.pinned (OpenSpec.ofChange fnExactSchemaOfWrong)

/-- 'laws.FnTexts': WHATEVER THE INPUT: true; the input reads as it did. -/
def fnTextsSpec : ChangeSpec := { name := "fnTexts", fn := fun _ => fun
  | [d] => { results := [.lit (.bool true)], args := [d] }
  | _ => none }
def fnTextsRow : OpenClaim := { program := "ytmdmkakkodeniaa", sum := "3d438ef77e00081a84995894ec298a39570f7f932659ed43ac79067052f4a61c", func := "loop.example/g00114/laws.FnTexts", spec := "fnTexts", apart := false }
def FnTextsSaid : Prop := fnTextsRow.holds Try.pinned (OpenSpec.ofChange fnTextsSpec)

/-- ITS FALSE NEIGHBOUR: 'it returns false'. Refute it at one input. -/
def fnTextsWrong : ChangeSpec := { name := "fnTexts", fn := fun _ => fun
  | [d] => { results := [.lit (.bool false)], args := [d] }
  | _ => none }
def FnTextsWrongFalsely : Prop := fnTextsRow.holds Try.pinned (OpenSpec.ofChange fnTextsWrong)

/-- 'laws.FnSchema': WHATEVER THE INPUT: true; the input reads as it did. -/
def fnSchemaSpec : ChangeSpec := { name := "fnSchema", fn := fun _ => fun
  | [d] => { results := [.lit (.bool true)], args := [d] }
  | _ => none }
def fnSchemaRow : OpenClaim := { program := "ytmdmkakkodeniaa", sum := "3d438ef77e00081a84995894ec298a39570f7f932659ed43ac79067052f4a61c", func := "loop.example/g00114/laws.FnSchema", spec := "fnSchema", recurses := true, apart := false }
def FnSchemaSaid : Prop := fnSchemaRow.holds Try.pinned (OpenSpec.ofChange fnSchemaSpec)

/-- ITS FALSE NEIGHBOUR: 'it returns false'. Refute it at one input. -/
def fnSchemaWrong : ChangeSpec := { name := "fnSchema", fn := fun _ => fun
  | [d] => { results := [.lit (.bool false)], args := [d] }
  | _ => none }
def FnSchemaWrongFalsely : Prop := fnSchemaRow.holds Try.pinned (OpenSpec.ofChange fnSchemaWrong)

/- THE SECOND FORM. 'bulk': how many values and letters a reading holds, each counted each time it is reached (what is shared counts as often as it is met; a slice's spare places count too). A statement '..UptoSaid' is the law's where the arguments, and the package variables that the reading takes, are together of bulk at most 1048576: NARROWER than '..Said'. Prove '..Said' where nothing that the law and all that it calls make is longer than what came in: it says more and counts as full. Else prove '..UptoSaid'. A law counts once. -/
mutual
def uptoBulk {H : Type} : DataW H → Nat
  | .lit (.string bytes) => bytes.length + 1
  | .lit _ => 1
  | .nil => 1
  | .ptr d => uptoBulk d + 1
  | .slice elems spare => uptoBulkAll elems + uptoBulkAll spare + 1
  | .agg parts => uptoBulkAll parts + 1
  | .iface _ d => uptoBulk d + 1
  | .map entries => uptoBulkEntries entries + 1
  | .held _ => 1
def uptoBulkAll {H : Type} : List (DataW H) → Nat
  | [] => 0
  | d :: r => uptoBulk d + uptoBulkAll r
def uptoBulkEntries {H : Type} : List (Lit × DataW H) → Nat
  | [] => 0
  | x :: r => uptoBulkEntry x + uptoBulkEntries r
def uptoBulkEntry {H : Type} : Lit × DataW H → Nat
  | (.string bytes, d) => bytes.length + uptoBulk d + 1
  | (_, d) => uptoBulk d + 1
 end
def uptoSmall : (H : Type) → List (DataW H) → Bool := fun _ ds => decide (uptoBulkAll ds ≤ 1048576)
def OpenSpec.upto (s : _root_.Go.ChangeSpec) : _root_.Go.OpenSpec := { _root_.Go.OpenSpec.ofChange s with cond := some uptoSmall }

/-- 'laws.FnTree', WHERE WHAT IT READS IS OF BULK AT MOST 1048576: true; the input reads as it did. -/
def fnTreeUptoRow : OpenClaim := { program := "ytmdmkakkodeniaa", sum := "3d438ef77e00081a84995894ec298a39570f7f932659ed43ac79067052f4a61c", func := "loop.example/g00114/laws.FnTree", spec := "fnTree", recurses := true, apart := false, narrowed := true }
def FnTreeUptoSaid : Prop := fnTreeUptoRow.holds Try.pinned (OpenSpec.upto fnTreeSpec)

/-- 'laws.FnExactRecValues', WHERE WHAT IT READS IS OF BULK AT MOST 1048576: true; the input reads as it did. -/
def fnExactRecValuesUptoRow : OpenClaim := { program := "ytmdmkakkodeniaa", sum := "3d438ef77e00081a84995894ec298a39570f7f932659ed43ac79067052f4a61c", func := "loop.example/g00114/laws.FnExactRecValues", spec := "fnExactRecValues", unfollowed := true, recurses := true, apart := false, narrowed := true }
def FnExactRecValuesUptoSaid : Prop := fnExactRecValuesUptoRow.holds Try.pinned (OpenSpec.upto fnExactRecValuesSpec)

/-- 'laws.FnExactSchemaOf', WHERE WHAT IT READS IS OF BULK AT MOST 1048576: true; the input reads as it did. -/
def fnExactSchemaOfUptoRow : OpenClaim := { program := "ytmdmkakkodeniaa", sum := "3d438ef77e00081a84995894ec298a39570f7f932659ed43ac79067052f4a61c", func := "loop.example/g00114/laws.FnExactSchemaOf", spec := "fnExactSchemaOf", recurses := true, apart := false, narrowed := true }
def FnExactSchemaOfUptoSaid : Prop := fnExactSchemaOfUptoRow.holds Try.pinned (OpenSpec.upto fnExactSchemaOfSpec)

/-- 'laws.FnTexts', WHERE WHAT IT READS IS OF BULK AT MOST 1048576: true; the input reads as it did. -/
def fnTextsUptoRow : OpenClaim := { program := "ytmdmkakkodeniaa", sum := "3d438ef77e00081a84995894ec298a39570f7f932659ed43ac79067052f4a61c", func := "loop.example/g00114/laws.FnTexts", spec := "fnTexts", apart := false, narrowed := true }
def FnTextsUptoSaid : Prop := fnTextsUptoRow.holds Try.pinned (OpenSpec.upto fnTextsSpec)

/-- 'laws.FnSchema', WHERE WHAT IT READS IS OF BULK AT MOST 1048576: true; the input reads as it did. -/
def fnSchemaUptoRow : OpenClaim := { program := "ytmdmkakkodeniaa", sum := "3d438ef77e00081a84995894ec298a39570f7f932659ed43ac79067052f4a61c", func := "loop.example/g00114/laws.FnSchema", spec := "fnSchema", recurses := true, apart := false, narrowed := true }
def FnSchemaUptoSaid : Prop := fnSchemaUptoRow.holds Try.pinned (OpenSpec.upto fnSchemaSpec)

end Rows
end Go.Proofs.Ytmdmkakkodeniaa
