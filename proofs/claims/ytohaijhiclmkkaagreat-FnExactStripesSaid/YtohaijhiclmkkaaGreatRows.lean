/-
  No cell of these rows narrows 'for every input' (looked for: loops, veiled, ifaces, maps, wideKeys, modest, calm, conditions, laid).
  DERIVED. THE GIVEN ROWS OF THIS SEAT. 6 by the template 'for every input the law returns true; each argument reads behind the call as it read before'; 0 by the template 'total and deterministic' (their statements: YtohaijhiclmkkaaGreatTotals.lean).
  GIVEN WITH THE SEED: the statements are not yours to turn. If you find one false, say at which input.
  Laid BY PROGRAM, IN A SANDBOX (cutbox-rows.mjs): the forced cells as the released guide's own fill.sh prints them over the translation 251ddee9a1e5637a… (all of the seat's roots in one cut). By AI agents, Wed Nov 11 2026. No macro, syntax, notation, axiom, sorry.
-/
import Derived.Test.YtohaijhiclmkkaaGreatChecked
import GoSem.Claim
import GoSem.ClaimJoined
import GoSem.ClaimMapViews
import Derived.JoinedTies
import Derived.KernelRfl
namespace Go.Proofs.YtohaijhiclmkkaaGreat
/- THE CELL 'sum', in the pinned program and in every row, IS THE sha256 OF THE DUMP (.gsa) THAT YtohaijhiclmkkaaGreatProg.lean LOADS. Nothing in Lean hashes anything: it is a label: what it is worth is what the hold of that sum in a sandbox is worth. -/
noncomputable def Tryz.pinned : Pinned := { name := "ytohaijhiclmkkaagreat", sum := "251ddee9a1e5637adcb5b2c08e5878d87bcd48c7ad5ac88eb6163d08456eb85c", checked := Tryz.checked }
namespace Rows
def none {H : Type} : Left H := { results := [], args := [] }

/-- 'laws.FnExactPageRead': WHATEVER THE INPUT: true; the input reads as it did. -/
def fnExactPageReadSpec : ChangeSpec := { name := "fnExactPageRead", fn := fun _ => fun
  | [d1, d2, d3, d4] => { results := [.lit (.bool true)], args := [d1, d2, d3, d4] }
  | _ => none }
def fnExactPageReadRow : OpenClaim := { program := "ytohaijhiclmkkaagreat", sum := "251ddee9a1e5637adcb5b2c08e5878d87bcd48c7ad5ac88eb6163d08456eb85c", func := "loop.example/g00114/laws.FnExactPageRead", spec := "fnExactPageRead", recurses := true, apart := false }
def FnExactPageReadSaid : Prop := fnExactPageReadRow.holds Tryz.pinned (OpenSpec.ofChange fnExactPageReadSpec)

/-- ITS FALSE NEIGHBOUR: 'it returns false'. Refute it at one input. -/
def fnExactPageReadWrong : ChangeSpec := { name := "fnExactPageRead", fn := fun _ => fun
  | [d1, d2, d3, d4] => { results := [.lit (.bool false)], args := [d1, d2, d3, d4] }
  | _ => none }
def FnExactPageReadWrongFalsely : Prop := fnExactPageReadRow.holds Tryz.pinned (OpenSpec.ofChange fnExactPageReadWrong)

/-- 'laws.FnExactPagesOf': WHATEVER THE INPUT: true; the input reads as it did. -/
def fnExactPagesOfSpec : ChangeSpec := { name := "fnExactPagesOf", fn := fun _ => fun
  | [d] => { results := [.lit (.bool true)], args := [d] }
  | _ => none }
def fnExactPagesOfRow : OpenClaim := { program := "ytohaijhiclmkkaagreat", sum := "251ddee9a1e5637adcb5b2c08e5878d87bcd48c7ad5ac88eb6163d08456eb85c", func := "loop.example/g00114/laws.FnExactPagesOf", spec := "fnExactPagesOf", recurses := true, apart := false }
def FnExactPagesOfSaid : Prop := fnExactPagesOfRow.holds Tryz.pinned (OpenSpec.ofChange fnExactPagesOfSpec)

/-- ITS FALSE NEIGHBOUR: 'it returns false'. Refute it at one input. -/
def fnExactPagesOfWrong : ChangeSpec := { name := "fnExactPagesOf", fn := fun _ => fun
  | [d] => { results := [.lit (.bool false)], args := [d] }
  | _ => none }
def FnExactPagesOfWrongFalsely : Prop := fnExactPagesOfRow.holds Tryz.pinned (OpenSpec.ofChange fnExactPagesOfWrong)

/-- 'laws.FnExactChunkRead': WHATEVER THE INPUT: true; the input reads as it did. -/
def fnExactChunkReadSpec : ChangeSpec := { name := "fnExactChunkRead", fn := fun _ => fun
  | [d1, d2, d3] => { results := [.lit (.bool true)], args := [d1, d2, d3] }
  | _ => none }
def fnExactChunkReadRow : OpenClaim := { program := "ytohaijhiclmkkaagreat", sum := "251ddee9a1e5637adcb5b2c08e5878d87bcd48c7ad5ac88eb6163d08456eb85c", func := "loop.example/g00114/laws.FnExactChunkRead", spec := "fnExactChunkRead", recurses := true, apart := false }
def FnExactChunkReadSaid : Prop := fnExactChunkReadRow.holds Tryz.pinned (OpenSpec.ofChange fnExactChunkReadSpec)

/-- ITS FALSE NEIGHBOUR: 'it returns false'. Refute it at one input. -/
def fnExactChunkReadWrong : ChangeSpec := { name := "fnExactChunkRead", fn := fun _ => fun
  | [d1, d2, d3] => { results := [.lit (.bool false)], args := [d1, d2, d3] }
  | _ => none }
def FnExactChunkReadWrongFalsely : Prop := fnExactChunkReadRow.holds Tryz.pinned (OpenSpec.ofChange fnExactChunkReadWrong)

/-- 'laws.FnExactStripes': WHATEVER THE INPUT: true; the input reads as it did. -/
def fnExactStripesSpec : ChangeSpec := { name := "fnExactStripes", fn := fun _ => fun
  | [d1, d2, d3] => { results := [.lit (.bool true)], args := [d1, d2, d3] }
  | _ => none }
def fnExactStripesRow : OpenClaim := { program := "ytohaijhiclmkkaagreat", sum := "251ddee9a1e5637adcb5b2c08e5878d87bcd48c7ad5ac88eb6163d08456eb85c", func := "loop.example/g00114/laws.FnExactStripes", spec := "fnExactStripes", recurses := true, apart := false }
def FnExactStripesSaid : Prop := fnExactStripesRow.holds Tryz.pinned (OpenSpec.ofChange fnExactStripesSpec)

/-- ITS FALSE NEIGHBOUR: 'it returns false'. Refute it at one input. -/
def fnExactStripesWrong : ChangeSpec := { name := "fnExactStripes", fn := fun _ => fun
  | [d1, d2, d3] => { results := [.lit (.bool false)], args := [d1, d2, d3] }
  | _ => none }
def FnExactStripesWrongFalsely : Prop := fnExactStripesRow.holds Tryz.pinned (OpenSpec.ofChange fnExactStripesWrong)

/-- 'laws.FnExactFileRead': WHATEVER THE INPUT: true; the input reads as it did. -/
def fnExactFileReadSpec : ChangeSpec := { name := "fnExactFileRead", fn := fun _ => fun
  | [d] => { results := [.lit (.bool true)], args := [d] }
  | _ => none }
def fnExactFileReadRow : OpenClaim := { program := "ytohaijhiclmkkaagreat", sum := "251ddee9a1e5637adcb5b2c08e5878d87bcd48c7ad5ac88eb6163d08456eb85c", func := "loop.example/g00114/laws.FnExactFileRead", spec := "fnExactFileRead", recurses := true, apart := false }
def FnExactFileReadSaid : Prop := fnExactFileReadRow.holds Tryz.pinned (OpenSpec.ofChange fnExactFileReadSpec)

/-- ITS FALSE NEIGHBOUR: 'it returns false'. Refute it at one input. -/
def fnExactFileReadWrong : ChangeSpec := { name := "fnExactFileRead", fn := fun _ => fun
  | [d] => { results := [.lit (.bool false)], args := [d] }
  | _ => none }
def FnExactFileReadWrongFalsely : Prop := fnExactFileReadRow.holds Tryz.pinned (OpenSpec.ofChange fnExactFileReadWrong)

/-- 'laws.FnExactReadWhere': WHATEVER THE INPUT: true; the input reads as it did. -/
def fnExactReadWhereSpec : ChangeSpec := { name := "fnExactReadWhere", fn := fun _ => fun
  | [d1, d2] => { results := [.lit (.bool true)], args := [d1, d2] }
  | _ => none }
def fnExactReadWhereRow : OpenClaim := { program := "ytohaijhiclmkkaagreat", sum := "251ddee9a1e5637adcb5b2c08e5878d87bcd48c7ad5ac88eb6163d08456eb85c", func := "loop.example/g00114/laws.FnExactReadWhere", spec := "fnExactReadWhere", unfollowed := true, recurses := true, apart := false }
def FnExactReadWhereSaid : Prop := fnExactReadWhereRow.holds Tryz.pinned (OpenSpec.ofChange fnExactReadWhereSpec)

/-- ITS FALSE NEIGHBOUR: 'it returns false'. Refute it at one input. -/
def fnExactReadWhereWrong : ChangeSpec := { name := "fnExactReadWhere", fn := fun _ => fun
  | [d1, d2] => { results := [.lit (.bool false)], args := [d1, d2] }
  | _ => none }
def FnExactReadWhereWrongFalsely : Prop := fnExactReadWhereRow.holds Tryz.pinned (OpenSpec.ofChange fnExactReadWhereWrong)

/- THE SECOND FORM. 'bulk': how many values and letters a reading holds, each counted each time it is reached (what is shared counts as often as it is met; a slice's spare places count too). A statement '..UptoSaid' is the law's where the arguments, and the package variables that the reading takes, are together of bulk at most 1048576: NARROWER than '..Said'. Prove '..Said' where nothing that the law and all that it calls make is longer than what came in: it says more and counts as full. Else prove '..UptoSaid'. A law counts once. -/
mutual
def uptoBulk {H : Type} : DataW H → Nat
  | .lit (.string bytes) => bytes.length + 1
  | .lit _ => 1
  | .nil => 1
  | .ptr d => uptoBulk d + 1
  | .slice elems spare => uptoBulkAll elems + uptoBulkAll spare + 1
  | .agg parts => uptoBulkAll parts + 1
  | .iface _ d => uptoBulk d + 1
  | .map entries => uptoBulkEntries entries + 1
  | .held _ => 1
def uptoBulkAll {H : Type} : List (DataW H) → Nat
  | [] => 0
  | d :: r => uptoBulk d + uptoBulkAll r
def uptoBulkEntries {H : Type} : List (Lit × DataW H) → Nat
  | [] => 0
  | x :: r => uptoBulkEntry x + uptoBulkEntries r
def uptoBulkEntry {H : Type} : Lit × DataW H → Nat
  | (.string bytes, d) => bytes.length + uptoBulk d + 1
  | (_, d) => uptoBulk d + 1
 end
def uptoSmall : (H : Type) → List (DataW H) → Bool := fun _ ds => decide (uptoBulkAll ds ≤ 1048576)
def OpenSpec.upto (s : _root_.Go.ChangeSpec) : _root_.Go.OpenSpec := { _root_.Go.OpenSpec.ofChange s with cond := some uptoSmall }

/-- 'laws.FnExactPageRead', WHERE WHAT IT READS IS OF BULK AT MOST 1048576: true; the input reads as it did. -/
def fnExactPageReadUptoRow : OpenClaim := { program := "ytohaijhiclmkkaagreat", sum := "251ddee9a1e5637adcb5b2c08e5878d87bcd48c7ad5ac88eb6163d08456eb85c", func := "loop.example/g00114/laws.FnExactPageRead", spec := "fnExactPageRead", recurses := true, apart := false, narrowed := true }
def FnExactPageReadUptoSaid : Prop := fnExactPageReadUptoRow.holds Tryz.pinned (OpenSpec.upto fnExactPageReadSpec)

/-- 'laws.FnExactPagesOf', WHERE WHAT IT READS IS OF BULK AT MOST 1048576: true; the input reads as it did. -/
def fnExactPagesOfUptoRow : OpenClaim := { program := "ytohaijhiclmkkaagreat", sum := "251ddee9a1e5637adcb5b2c08e5878d87bcd48c7ad5ac88eb6163d08456eb85c", func := "loop.example/g00114/laws.FnExactPagesOf", spec := "fnExactPagesOf", recurses := true, apart := false, narrowed := true }
def FnExactPagesOfUptoSaid : Prop := fnExactPagesOfUptoRow.holds Tryz.pinned (OpenSpec.upto fnExactPagesOfSpec)

/-- 'laws.FnExactChunkRead', WHERE WHAT IT READS IS OF BULK AT MOST 1048576: true; the input reads as it did. -/
def fnExactChunkReadUptoRow : OpenClaim := { program := "ytohaijhiclmkkaagreat", sum := "251ddee9a1e5637adcb5b2c08e5878d87bcd48c7ad5ac88eb6163d08456eb85c", func := "loop.example/g00114/laws.FnExactChunkRead", spec := "fnExactChunkRead", recurses := true, apart := false, narrowed := true }
def FnExactChunkReadUptoSaid : Prop := fnExactChunkReadUptoRow.holds Tryz.pinned (OpenSpec.upto fnExactChunkReadSpec)

/-- 'laws.FnExactStripes', WHERE WHAT IT READS IS OF BULK AT MOST 1048576: true; the input reads as it did. -/
def fnExactStripesUptoRow : OpenClaim := { program := "ytohaijhiclmkkaagreat", sum := "251ddee9a1e5637adcb5b2c08e5878d87bcd48c7ad5ac88eb6163d08456eb85c", func := "loop.example/g00114/laws.FnExactStripes", spec := "fnExactStripes", recurses := true, apart := false, narrowed := true }
def FnExactStripesUptoSaid : Prop := fnExactStripesUptoRow.holds Tryz.pinned (OpenSpec.upto fnExactStripesSpec)

/-- 'laws.FnExactFileRead', WHERE WHAT IT READS IS OF BULK AT MOST 1048576: true; the input reads as it did. -/
def fnExactFileReadUptoRow : OpenClaim := { program := "ytohaijhiclmkkaagreat", sum := "251ddee9a1e5637adcb5b2c08e5878d87bcd48c7ad5ac88eb6163d08456eb85c", func := "loop.example/g00114/laws.FnExactFileRead", spec := "fnExactFileRead", recurses := true, apart := false, narrowed := true }
def FnExactFileReadUptoSaid : Prop := fnExactFileReadUptoRow.holds Tryz.pinned (OpenSpec.upto fnExactFileReadSpec)

/-- 'laws.FnExactReadWhere', WHERE WHAT IT READS IS OF BULK AT MOST 1048576: true; the input reads as it did. -/
def fnExactReadWhereUptoRow : OpenClaim := { program := "ytohaijhiclmkkaagreat", sum := "251ddee9a1e5637adcb5b2c08e5878d87bcd48c7ad5ac88eb6163d08456eb85c", func := "loop.example/g00114/laws.FnExactReadWhere", spec := "fnExactReadWhere", unfollowed := true, recurses := true, apart := false, narrowed := true }
def FnExactReadWhereUptoSaid : Prop := fnExactReadWhereUptoRow.holds Tryz.pinned (OpenSpec.upto fnExactReadWhereSpec)

end Rows
end Go.Proofs.YtohaijhiclmkkaaGreat
