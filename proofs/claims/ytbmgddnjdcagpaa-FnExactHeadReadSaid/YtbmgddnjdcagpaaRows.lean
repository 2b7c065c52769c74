/-
  No cell of these rows narrows 'for every input' (looked for: loops, veiled, ifaces, maps, wideKeys, modest, calm, conditions, laid).
  DERIVED. THE GIVEN ROWS OF THIS SEAT. 10 by the template 'for every input the law returns true; each argument reads behind the call as it read before'; 0 by the template 'total and deterministic' (their statements: YtbmgddnjdcagpaaTotals.lean).
  GIVEN WITH THE SEED: the statements are not yours to turn. If you find one false, say at which input.
  Laid BY PROGRAM, IN A SANDBOX (cutbox-rows.mjs): the forced cells as the released guide's own fill.sh prints them over the translation cb02b7f6b87ebcb6… (all of the seat's roots in one cut). By AI agents, Wed Nov 11 2026. No macro, syntax, notation, axiom, sorry.
-/
import Derived.Test.YtbmgddnjdcagpaaChecked
import GoSem.Claim
import GoSem.ClaimJoined
import GoSem.ClaimMapViews
import Derived.JoinedTies
import Derived.KernelRfl
namespace Go.Proofs.Ytbmgddnjdcagpaa
/- THE CELL 'sum', in the pinned program and in every row, IS THE sha256 OF THE DUMP (.gsa) THAT YtbmgddnjdcagpaaProg.lean LOADS. Nothing in Lean hashes anything: it is a label: what it is worth is what the hold of that sum in a sandbox is worth. -/
noncomputable def Try.pinned : Pinned := { name := "ytbmgddnjdcagpaa", sum := "cb02b7f6b87ebcb6e1d18209658bc9bd3f72361be4d618b836ca32160a6ae1f6", checked := Try.checked }
namespace Rows
def none {H : Type} : Left H := { results := [], args := [] }

/-- 'laws.FnShred': WHATEVER THE INPUT: true; the input reads as it did. -/
def fnShredSpec : ChangeSpec := { name := "fnShred", fn := fun _ => fun
  | [d] => { results := [.lit (.bool true)], args := [d] }
  | _ => none }
def fnShredRow : OpenClaim := { program := "ytbmgddnjdcagpaa", sum := "cb02b7f6b87ebcb6e1d18209658bc9bd3f72361be4d618b836ca32160a6ae1f6", func := "loop.example/g00114/laws.FnShred", spec := "fnShred", unfollowed := true, recurses := true, apart := false }
def FnShredSaid : Prop := fnShredRow.holds Try.pinned (OpenSpec.ofChange fnShredSpec)

/-- ITS FALSE NEIGHBOUR: 'it returns false'. Refute it at one input. -/
def fnShredWrong : ChangeSpec := { name := "fnShred", fn := fun _ => fun
  | [d] => { results := [.lit (.bool false)], args := [d] }
  | _ => none }
def FnShredWrongFalsely : Prop := fnShredRow.holds Try.pinned (OpenSpec.ofChange fnShredWrong)

/-- 'laws.FnPreds': WHATEVER THE INPUT: true; the input reads as it did. -/
def fnPredsSpec : ChangeSpec := { name := "fnPreds", fn := fun _ => fun
  | [d] => { results := [.lit (.bool true)], args := [d] }
  | _ => none }
def fnPredsRow : OpenClaim := { program := "ytbmgddnjdcagpaa", sum := "cb02b7f6b87ebcb6e1d18209658bc9bd3f72361be4d618b836ca32160a6ae1f6", func := "loop.example/g00114/laws.FnPreds", spec := "fnPreds", unfollowed := true, recurses := true, apart := false }
def FnPredsSaid : Prop := fnPredsRow.holds Try.pinned (OpenSpec.ofChange fnPredsSpec)

/-- ITS FALSE NEIGHBOUR: 'it returns false'. Refute it at one input. -/
def fnPredsWrong : ChangeSpec := { name := "fnPreds", fn := fun _ => fun
  | [d] => { results := [.lit (.bool false)], args := [d] }
  | _ => none }
def FnPredsWrongFalsely : Prop := fnPredsRow.holds Try.pinned (OpenSpec.ofChange fnPredsWrong)

/-- 'laws.FnTreeRead': WHATEVER THE INPUT: true; the input reads as it did. -/
def fnTreeReadSpec : ChangeSpec := { name := "fnTreeRead", fn := fun _ => fun
  | [d] => { results := [.lit (.bool true)], args := [d] }
  | _ => none }
def fnTreeReadRow : OpenClaim := { program := "ytbmgddnjdcagpaa", sum := "cb02b7f6b87ebcb6e1d18209658bc9bd3f72361be4d618b836ca32160a6ae1f6", func := "loop.example/g00114/laws.FnTreeRead", spec := "fnTreeRead", recurses := true, apart := false }
def FnTreeReadSaid : Prop := fnTreeReadRow.holds Try.pinned (OpenSpec.ofChange fnTreeReadSpec)

/-- ITS FALSE NEIGHBOUR: 'it returns false'. Refute it at one input. -/
def fnTreeReadWrong : ChangeSpec := { name := "fnTreeRead", fn := fun _ => fun
  | [d] => { results := [.lit (.bool false)], args := [d] }
  | _ => none }
def FnTreeReadWrongFalsely : Prop := fnTreeReadRow.holds Try.pinned (OpenSpec.ofChange fnTreeReadWrong)

/-- 'laws.FnAssemble': WHATEVER THE INPUT: true; the input reads as it did. -/
def fnAssembleSpec : ChangeSpec := { name := "fnAssemble", fn := fun _ => fun
  | [d] => { results := [.lit (.bool true)], args := [d] }
  | _ => none }
def fnAssembleRow : OpenClaim := { program := "ytbmgddnjdcagpaa", sum := "cb02b7f6b87ebcb6e1d18209658bc9bd3f72361be4d618b836ca32160a6ae1f6", func := "loop.example/g00114/laws.FnAssemble", spec := "fnAssemble", unfollowed := true, recurses := true, apart := false }
def FnAssembleSaid : Prop := fnAssembleRow.holds Try.pinned (OpenSpec.ofChange fnAssembleSpec)

/-- ITS FALSE NEIGHBOUR: 'it returns false'. Refute it at one input. -/
def fnAssembleWrong : ChangeSpec := { name := "fnAssemble", fn := fun _ => fun
  | [d] => { results := [.lit (.bool false)], args := [d] }
  | _ => none }
def FnAssembleWrongFalsely : Prop := fnAssembleRow.holds Try.pinned (OpenSpec.ofChange fnAssembleWrong)

/-- 'laws.FnMay': WHATEVER THE INPUT: true; the input reads as it did. -/
def fnMaySpec : ChangeSpec := { name := "fnMay", fn := fun _ => fun
  | [d] => { results := [.lit (.bool true)], args := [d] }
  | _ => none }
def fnMayRow : OpenClaim := { program := "ytbmgddnjdcagpaa", sum := "cb02b7f6b87ebcb6e1d18209658bc9bd3f72361be4d618b836ca32160a6ae1f6", func := "loop.example/g00114/laws.FnMay", spec := "fnMay", unfollowed := true, recurses := true, apart := false }
def FnMaySaid : Prop := fnMayRow.holds Try.pinned (OpenSpec.ofChange fnMaySpec)

/-- ITS FALSE NEIGHBOUR: 'it returns false'. Refute it at one input. -/
def fnMayWrong : ChangeSpec := { name := "fnMay", fn := fun _ => fun
  | [d] => { results := [.lit (.bool false)], args := [d] }
  | _ => none }
def FnMayWrongFalsely : Prop := fnMayRow.holds Try.pinned (OpenSpec.ofChange fnMayWrong)

/-- 'laws.FnExactEncRead': WHATEVER THE INPUT: true; the input reads as it did. -/
def fnExactEncReadSpec : ChangeSpec := { name := "fnExactEncRead", fn := fun _ => fun
  | [d1, d2, d3, d4, d5] => { results := [.lit (.bool true)], args := [d1, d2, d3, d4, d5] }
  | _ => none }
def fnExactEncReadRow : OpenClaim := { program := "ytbmgddnjdcagpaa", sum := "cb02b7f6b87ebcb6e1d18209658bc9bd3f72361be4d618b836ca32160a6ae1f6", func := "loop.example/g00114/laws.FnExactEncRead", spec := "fnExactEncRead", apart := false }
def FnExactEncReadSaid : Prop := fnExactEncReadRow.holds Try.pinned (OpenSpec.ofChange fnExactEncReadSpec)

/-- ITS FALSE NEIGHBOUR: 'it returns false'. Refute it at one input. -/
def fnExactEncReadWrong : ChangeSpec := { name := "fnExactEncRead", fn := fun _ => fun
  | [d1, d2, d3, d4, d5] => { results := [.lit (.bool false)], args := [d1, d2, d3, d4, d5] }
  | _ => none }
def FnExactEncReadWrongFalsely : Prop := fnExactEncReadRow.holds Try.pinned (OpenSpec.ofChange fnExactEncReadWrong)

/-- 'laws.FnExactMetaFrom': WHATEVER THE INPUT: true; the input reads as it did. -/
def fnExactMetaFromSpec : ChangeSpec := { name := "fnExactMetaFrom", fn := fun _ => fun
  | [d] => { results := [.lit (.bool true)], args := [d] }
  | _ => none }
def fnExactMetaFromRow : OpenClaim := { program := "ytbmgddnjdcagpaa", sum := "cb02b7f6b87ebcb6e1d18209658bc9bd3f72361be4d618b836ca32160a6ae1f6", func := "loop.example/g00114/laws.FnExactMetaFrom", spec := "fnExactMetaFrom", recurses := true, apart := false }
def FnExactMetaFromSaid : Prop := fnExactMetaFromRow.holds Try.pinned (OpenSpec.ofChange fnExactMetaFromSpec)

/-- ITS FALSE NEIGHBOUR: 'it returns false'. Refute it at one input. -/
def fnExactMetaFromWrong : ChangeSpec := { name := "fnExactMetaFrom", fn := fun _ => fun
  | [d] => { results := [.lit (.bool false)], args := [d] }
  | _ => none }
def FnExactMetaFromWrongFalsely : Prop := fnExactMetaFromRow.holds Try.pinned (OpenSpec.ofChange fnExactMetaFromWrong)

/-- 'laws.FnMetaFrom': WHATEVER THE INPUT: true; the input reads as it did. -/
def fnMetaFromSpec : ChangeSpec := { name := "fnMetaFrom", fn := fun _ => fun
  | [d] => { results := [.lit (.bool true)], args := [d] }
  | _ => none }
def fnMetaFromRow : OpenClaim := { program := "ytbmgddnjdcagpaa", sum := "cb02b7f6b87ebcb6e1d18209658bc9bd3f72361be4d618b836ca32160a6ae1f6", func := "loop.example/g00114/laws.FnMetaFrom", spec := "fnMetaFrom", recurses := true, apart := false }
def FnMetaFromSaid : Prop := fnMetaFromRow.holds Try.pinned (OpenSpec.ofChange fnMetaFromSpec)

/-- ITS FALSE NEIGHBOUR: 'it returns false'. Refute it at one input. -/
def fnMetaFromWrong : ChangeSpec := { name := "fnMetaFrom", fn := fun _ => fun
  | [d] => { results := [.lit (.bool false)], args := [d] }
  | _ => none }
def FnMetaFromWrongFalsely : Prop := fnMetaFromRow.holds Try.pinned (OpenSpec.ofChange fnMetaFromWrong)

/-- 'laws.FnExactFileLook': WHATEVER THE INPUT: true; the input reads as it did. -/
def fnExactFileLookSpec : ChangeSpec := { name := "fnExactFileLook", fn := fun _ => fun
  | [d] => { results := [.lit (.bool true)], args := [d] }
  | _ => none }
def fnExactFileLookRow : OpenClaim := { program := "ytbmgddnjdcagpaa", sum := "cb02b7f6b87ebcb6e1d18209658bc9bd3f72361be4d618b836ca32160a6ae1f6", func := "loop.example/g00114/laws.FnExactFileLook", spec := "fnExactFileLook", recurses := true, apart := false }
def FnExactFileLookSaid : Prop := fnExactFileLookRow.holds Try.pinned (OpenSpec.ofChange fnExactFileLookSpec)

/-- ITS FALSE NEIGHBOUR: 'it returns false'. Refute it at one input. -/
def fnExactFileLookWrong : ChangeSpec := { name := "fnExactFileLook", fn := fun _ => fun
  | [d] => { results := [.lit (.bool false)], args := [d] }
  | _ => none }
def FnExactFileLookWrongFalsely : Prop := fnExactFileLookRow.holds Try.pinned (OpenSpec.ofChange fnExactFileLookWrong)

/-- 'laws.FnExactHeadRead': WHATEVER THE INPUT: true; the input reads as it did. -/
def fnExactHeadReadSpec : ChangeSpec := { name := "fnExactHeadRead", fn := fun _ => fun
  | [d1, d2, d3] => { results := [.lit (.bool true)], args := [d1, d2, d3] }
  | _ => none }
def fnExactHeadReadRow : OpenClaim := { program := "ytbmgddnjdcagpaa", sum := "cb02b7f6b87ebcb6e1d18209658bc9bd3f72361be4d618b836ca32160a6ae1f6", func := "loop.example/g00114/laws.FnExactHeadRead", spec := "fnExactHeadRead", recurses := true, apart := false }
def FnExactHeadReadSaid : Prop := fnExactHeadReadRow.holds Try.pinned (OpenSpec.ofChange fnExactHeadReadSpec)

/-- ITS FALSE NEIGHBOUR: 'it returns false'. Refute it at one input. -/
def fnExactHeadReadWrong : ChangeSpec := { name := "fnExactHeadRead", fn := fun _ => fun
  | [d1, d2, d3] => { results := [.lit (.bool false)], args := [d1, d2, d3] }
  | _ => none }
def FnExactHeadReadWrongFalsely : Prop := fnExactHeadReadRow.holds Try.pinned (OpenSpec.ofChange fnExactHeadReadWrong)

/- THE SECOND FORM. 'bulk': how many values and letters a reading holds, each counted each time it is reached (what is shared counts as often as it is met; a slice's spare places count too). A statement '..UptoSaid' is the law's where the arguments, and the package variables that the reading takes, are together of bulk at most 1048576: NARROWER than '..Said'. Prove '..Said' where nothing that the law and all that it calls make is longer than what came in: it says more and counts as full. Else prove '..UptoSaid'. A law counts once. -/
mutual
def uptoBulk {H : Type} : DataW H → Nat
  | .lit (.string bytes) => bytes.length + 1
  | .lit _ => 1
  | .nil => 1
  | .ptr d => uptoBulk d + 1
  | .slice elems spare => uptoBulkAll elems + uptoBulkAll spare + 1
  | .agg parts => uptoBulkAll parts + 1
  | .iface _ d => uptoBulk d + 1
  | .map entries => uptoBulkEntries entries + 1
  | .held _ => 1
def uptoBulkAll {H : Type} : List (DataW H) → Nat
  | [] => 0
  | d :: r => uptoBulk d + uptoBulkAll r
def uptoBulkEntries {H : Type} : List (Lit × DataW H) → Nat
  | [] => 0
  | x :: r => uptoBulkEntry x + uptoBulkEntries r
def uptoBulkEntry {H : Type} : Lit × DataW H → Nat
  | (.string bytes, d) => bytes.length + uptoBulk d + 1
  | (_, d) => uptoBulk d + 1
 end
def uptoSmall : (H : Type) → List (DataW H) → Bool := fun _ ds => decide (uptoBulkAll ds ≤ 1048576)
def OpenSpec.upto (s : _root_.Go.ChangeSpec) : _root_.Go.OpenSpec := { _root_.Go.OpenSpec.ofChange s with cond := some uptoSmall }

/-- 'laws.FnShred', WHERE WHAT IT READS IS OF BULK AT MOST 1048576: true; the input reads as it did. -/
def fnShredUptoRow : OpenClaim := { program := "ytbmgddnjdcagpaa", sum := "cb02b7f6b87ebcb6e1d18209658bc9bd3f72361be4d618b836ca32160a6ae1f6", func := "loop.example/g00114/laws.FnShred", spec := "fnShred", unfollowed := true, recurses := true, apart := false, narrowed := true }
def FnShredUptoSaid : Prop := fnShredUptoRow.holds Try.pinned (OpenSpec.upto fnShredSpec)

/-- 'laws.FnPreds', WHERE WHAT IT READS IS OF BULK AT MOST 1048576: true; the input reads as it did. -/
def fnPredsUptoRow : OpenClaim := { program := "ytbmgddnjdcagpaa", sum := "cb02b7f6b87ebcb6e1d18209658bc9bd3f72361be4d618b836ca32160a6ae1f6", func := "loop.example/g00114/laws.FnPreds", spec := "fnPreds", unfollowed := true, recurses := true, apart := false, narrowed := true }
def FnPredsUptoSaid : Prop := fnPredsUptoRow.holds Try.pinned (OpenSpec.upto fnPredsSpec)

/-- 'laws.FnTreeRead', WHERE WHAT IT READS IS OF BULK AT MOST 1048576: true; the input reads as it did. -/
def fnTreeReadUptoRow : OpenClaim := { program := "ytbmgddnjdcagpaa", sum := "cb02b7f6b87ebcb6e1d18209658bc9bd3f72361be4d618b836ca32160a6ae1f6", func := "loop.example/g00114/laws.FnTreeRead", spec := "fnTreeRead", recurses := true, apart := false, narrowed := true }
def FnTreeReadUptoSaid : Prop := fnTreeReadUptoRow.holds Try.pinned (OpenSpec.upto fnTreeReadSpec)

/-- 'laws.FnAssemble', WHERE WHAT IT READS IS OF BULK AT MOST 1048576: true; the input reads as it did. -/
def fnAssembleUptoRow : OpenClaim := { program := "ytbmgddnjdcagpaa", sum := "cb02b7f6b87ebcb6e1d18209658bc9bd3f72361be4d618b836ca32160a6ae1f6", func := "loop.example/g00114/laws.FnAssemble", spec := "fnAssemble", unfollowed := true, recurses := true, apart := false, narrowed := true }
def FnAssembleUptoSaid : Prop := fnAssembleUptoRow.holds Try.pinned (OpenSpec.upto fnAssembleSpec)

/-- 'laws.FnMay', WHERE WHAT IT READS IS OF BULK AT MOST 1048576: true; the input reads as it did. -/
def fnMayUptoRow : OpenClaim := { program := "ytbmgddnjdcagpaa", sum := "cb02b7f6b87ebcb6e1d18209658bc9bd3f72361be4d618b836ca32160a6ae1f6", func := "loop.example/g00114/laws.FnMay", spec := "fnMay", unfollowed := true, recurses := true, apart := false, narrowed := true }
def FnMayUptoSaid : Prop := fnMayUptoRow.holds Try.pinned (OpenSpec.upto fnMaySpec)

/-- 'laws.FnExactEncRead', WHERE WHAT IT READS IS OF BULK AT MOST 1048576: true; the input reads as it did. -/
def fnExactEncReadUptoRow : OpenClaim := { program := "ytbmgddnjdcagpaa", sum := "cb02b7f6b87ebcb6e1d18209658bc9bd3f72361be4d618b836ca32160a6ae1f6", func := "loop.example/g00114/laws.FnExactEncRead", spec := "fnExactEncRead", apart := false, narrowed := true }
def FnExactEncReadUptoSaid : Prop := fnExactEncReadUptoRow.holds Try.pinned (OpenSpec.upto fnExactEncReadSpec)

/-- 'laws.FnExactMetaFrom', WHERE WHAT IT READS IS OF BULK AT MOST 1048576: true; the input reads as it did. -/
def fnExactMetaFromUptoRow : OpenClaim := { program := "ytbmgddnjdcagpaa", sum := "cb02b7f6b87ebcb6e1d18209658bc9bd3f72361be4d618b836ca32160a6ae1f6", func := "loop.example/g00114/laws.FnExactMetaFrom", spec := "fnExactMetaFrom", recurses := true, apart := false, narrowed := true }
def FnExactMetaFromUptoSaid : Prop := fnExactMetaFromUptoRow.holds Try.pinned (OpenSpec.upto fnExactMetaFromSpec)

/-- 'laws.FnMetaFrom', WHERE WHAT IT READS IS OF BULK AT MOST 1048576: true; the input reads as it did. -/
def fnMetaFromUptoRow : OpenClaim := { program := "ytbmgddnjdcagpaa", sum := "cb02b7f6b87ebcb6e1d18209658bc9bd3f72361be4d618b836ca32160a6ae1f6", func := "loop.example/g00114/laws.FnMetaFrom", spec := "fnMetaFrom", recurses := true, apart := false, narrowed := true }
def FnMetaFromUptoSaid : Prop := fnMetaFromUptoRow.holds Try.pinned (OpenSpec.upto fnMetaFromSpec)

/-- 'laws.FnExactFileLook', WHERE WHAT IT READS IS OF BULK AT MOST 1048576: true; the input reads as it did. -/
def fnExactFileLookUptoRow : OpenClaim := { program := "ytbmgddnjdcagpaa", sum := "cb02b7f6b87ebcb6e1d18209658bc9bd3f72361be4d618b836ca32160a6ae1f6", func := "loop.example/g00114/laws.FnExactFileLook", spec := "fnExactFileLook", recurses := true, apart := false, narrowed := true }
def FnExactFileLookUptoSaid : Prop := fnExactFileLookUptoRow.holds Try.pinned (OpenSpec.upto fnExactFileLookSpec)

/-- 'laws.FnExactHeadRead', WHERE WHAT IT READS IS OF BULK AT MOST 1048576: true; the input reads as it did. -/
def fnExactHeadReadUptoRow : OpenClaim := { program := "ytbmgddnjdcagpaa", sum := "cb02b7f6b87ebcb6e1d18209658bc9bd3f72361be4d618b836ca32160a6ae1f6", func := "loop.example/g00114/laws.FnExactHeadRead", spec := "fnExactHeadRead", recurses := true, apart := false, narrowed := true }
def FnExactHeadReadUptoSaid : Prop := fnExactHeadReadUptoRow.holds Try.pinned (OpenSpec.upto fnExactHeadReadSpec)

end Rows
end Go.Proofs.Ytbmgddnjdcagpaa
