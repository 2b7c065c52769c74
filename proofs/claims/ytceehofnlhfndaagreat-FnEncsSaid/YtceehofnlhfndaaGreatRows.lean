/-
  No cell of these rows narrows 'for every input' (looked for: loops, veiled, ifaces, maps, wideKeys, modest, calm, conditions, laid).
  DERIVED. THE GIVEN ROWS OF THIS SEAT. 3 by the template 'for every input the law returns true; each argument reads behind the call as it read before'; 0 by the template 'total and deterministic' (their statements: YtceehofnlhfndaaGreatTotals.lean).
  GIVEN WITH THE SEED: the statements are not yours to turn. If you find one false, say at which input.
  Laid BY PROGRAM, IN A SANDBOX (cutbox-rows.mjs): the forced cells as the released guide's own fill.sh prints them over the translation a71388c79e9763f4… (all of the seat's roots in one cut). By AI agents, Wed Nov 11 2026. No macro, syntax, notation, axiom, sorry.
-/
import Derived.Test.YtceehofnlhfndaaGreatChecked
import GoSem.Claim
import GoSem.ClaimJoined
import GoSem.ClaimMapViews
import Derived.JoinedTies
import Derived.KernelRfl
namespace Go.Proofs.YtceehofnlhfndaaGreat
/- THE CELL 'sum', in the pinned program and in every row, IS THE sha256 OF THE DUMP (.gsa) THAT YtceehofnlhfndaaGreatProg.lean LOADS. Nothing in Lean hashes anything: it is a label: what it is worth is what the hold of that sum in a sandbox is worth. -/
noncomputable def Tryz.pinned : Pinned := { name := "ytceehofnlhfndaagreat", sum := "a71388c79e9763f45b33ed81ecc9119a6549740a941dbcd5c7ab050281bc2a8d", checked := Tryz.checked }
namespace Rows
def none {H : Type} : Left H := { results := [], args := [] }

/-- 'laws.FnMeta': WHATEVER THE INPUT: true; the input reads as it did. -/
def fnMetaSpec : ChangeSpec := { name := "fnMeta", fn := fun _ => fun
  | [d] => { results := [.lit (.bool true)], args := [d] }
  | _ => none }
def fnMetaRow : OpenClaim := { program := "ytceehofnlhfndaagreat", sum := "a71388c79e9763f45b33ed81ecc9119a6549740a941dbcd5c7ab050281bc2a8d", func := "loop.example/g00114/laws.FnMeta", spec := "fnMeta", recurses := true, plainKeys := false, apart := false }
def FnMetaSaid : Prop := fnMetaRow.holds Tryz.pinned (OpenSpec.ofChange fnMetaSpec)

/-- ITS FALSE NEIGHBOUR: 'it returns false'. Refute it at one input. -/
def fnMetaWrong : ChangeSpec := { name := "fnMeta", fn := fun _ => fun
  | [d] => { results := [.lit (.bool false)], args := [d] }
  | _ => none }
def FnMetaWrongFalsely : Prop := fnMetaRow.holds Tryz.pinned (OpenSpec.ofChange fnMetaWrong)

/-- 'laws.FnEncs': WHATEVER THE INPUT: true; the input reads as it did. -/
def fnEncsSpec : ChangeSpec := { name := "fnEncs", fn := fun _ => fun
  | [d] => { results := [.lit (.bool true)], args := [d] }
  | _ => none }
def fnEncsRow : OpenClaim := { program := "ytceehofnlhfndaagreat", sum := "a71388c79e9763f45b33ed81ecc9119a6549740a941dbcd5c7ab050281bc2a8d", func := "loop.example/g00114/laws.FnEncs", spec := "fnEncs", plainKeys := false, apart := false }
def FnEncsSaid : Prop := fnEncsRow.holds Tryz.pinned (OpenSpec.ofChange fnEncsSpec)

/-- ITS FALSE NEIGHBOUR: 'it returns false'. Refute it at one input. -/
def fnEncsWrong : ChangeSpec := { name := "fnEncs", fn := fun _ => fun
  | [d] => { results := [.lit (.bool false)], args := [d] }
  | _ => none }
def FnEncsWrongFalsely : Prop := fnEncsRow.holds Tryz.pinned (OpenSpec.ofChange fnEncsWrong)

/-- 'laws.FnDictPage': WHATEVER THE INPUT: true; the input reads as it did. -/
def fnDictPageSpec : ChangeSpec := { name := "fnDictPage", fn := fun _ => fun
  | [d] => { results := [.lit (.bool true)], args := [d] }
  | _ => none }
def fnDictPageRow : OpenClaim := { program := "ytceehofnlhfndaagreat", sum := "a71388c79e9763f45b33ed81ecc9119a6549740a941dbcd5c7ab050281bc2a8d", func := "loop.example/g00114/laws.FnDictPage", spec := "fnDictPage", recurses := true, plainKeys := false, apart := false }
def FnDictPageSaid : Prop := fnDictPageRow.holds Tryz.pinned (OpenSpec.ofChange fnDictPageSpec)

/-- ITS FALSE NEIGHBOUR: 'it returns false'. Refute it at one input. -/
def fnDictPageWrong : ChangeSpec := { name := "fnDictPage", fn := fun _ => fun
  | [d] => { results := [.lit (.bool false)], args := [d] }
  | _ => none }
def FnDictPageWrongFalsely : Prop := fnDictPageRow.holds Tryz.pinned (OpenSpec.ofChange fnDictPageWrong)

/- THE SECOND FORM. 'bulk': how many values and letters a reading holds, each counted each time it is reached (what is shared counts as often as it is met; a slice's spare places count too). A statement '..UptoSaid' is the law's where the arguments, and the package variables that the reading takes, are together of bulk at most 1048576: NARROWER than '..Said'. Prove '..Said' where nothing that the law and all that it calls make is longer than what came in: it says more and counts as full. Else prove '..UptoSaid'. A law counts once. -/
mutual
def uptoBulk {H : Type} : DataW H → Nat
  | .lit (.string bytes) => bytes.length + 1
  | .lit _ => 1
  | .nil => 1
  | .ptr d => uptoBulk d + 1
  | .slice elems spare => uptoBulkAll elems + uptoBulkAll spare + 1
  | .agg parts => uptoBulkAll parts + 1
  | .iface _ d => uptoBulk d + 1
  | .map entries => uptoBulkEntries entries + 1
  | .held _ => 1
def uptoBulkAll {H : Type} : List (DataW H) → Nat
  | [] => 0
  | d :: r => uptoBulk d + uptoBulkAll r
def uptoBulkEntries {H : Type} : List (Lit × DataW H) → Nat
  | [] => 0
  | x :: r => uptoBulkEntry x + uptoBulkEntries r
def uptoBulkEntry {H : Type} : Lit × DataW H → Nat
  | (.string bytes, d) => bytes.length + uptoBulk d + 1
  | (_, d) => uptoBulk d + 1
 end
def uptoSmall : (H : Type) → List (DataW H) → Bool := fun _ ds => decide (uptoBulkAll ds ≤ 1048576)
def OpenSpec.upto (s : _root_.Go.ChangeSpec) : _root_.Go.OpenSpec := { _root_.Go.OpenSpec.ofChange s with cond := some uptoSmall }

/-- 'laws.FnMeta', WHERE WHAT IT READS IS OF BULK AT MOST 1048576: true; the input reads as it did. -/
def fnMetaUptoRow : OpenClaim := { program := "ytceehofnlhfndaagreat", sum := "a71388c79e9763f45b33ed81ecc9119a6549740a941dbcd5c7ab050281bc2a8d", func := "loop.example/g00114/laws.FnMeta", spec := "fnMeta", recurses := true, plainKeys := false, apart := false, narrowed := true }
def FnMetaUptoSaid : Prop := fnMetaUptoRow.holds Tryz.pinned (OpenSpec.upto fnMetaSpec)

/-- 'laws.FnEncs', WHERE WHAT IT READS IS OF BULK AT MOST 1048576: true; the input reads as it did. -/
def fnEncsUptoRow : OpenClaim := { program := "ytceehofnlhfndaagreat", sum := "a71388c79e9763f45b33ed81ecc9119a6549740a941dbcd5c7ab050281bc2a8d", func := "loop.example/g00114/laws.FnEncs", spec := "fnEncs", plainKeys := false, apart := false, narrowed := true }
def FnEncsUptoSaid : Prop := fnEncsUptoRow.holds Tryz.pinned (OpenSpec.upto fnEncsSpec)

/-- 'laws.FnDictPage', WHERE WHAT IT READS IS OF BULK AT MOST 1048576: true; the input reads as it did. -/
def fnDictPageUptoRow : OpenClaim := { program := "ytceehofnlhfndaagreat", sum := "a71388c79e9763f45b33ed81ecc9119a6549740a941dbcd5c7ab050281bc2a8d", func := "loop.example/g00114/laws.FnDictPage", spec := "fnDictPage", recurses := true, plainKeys := false, apart := false, narrowed := true }
def FnDictPageUptoSaid : Prop := fnDictPageUptoRow.holds Tryz.pinned (OpenSpec.upto fnDictPageSpec)

end Rows
end Go.Proofs.YtceehofnlhfndaaGreat
