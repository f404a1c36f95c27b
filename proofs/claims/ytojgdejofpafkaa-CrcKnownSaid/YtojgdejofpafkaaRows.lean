/-
  No cell of these rows narrows 'for every input' (looked for: loops, veiled, ifaces, maps, wideKeys, modest, calm, conditions, laid).
  DERIVED. THE GIVEN ROWS OF THIS SEAT. 12 by the template 'for every input the law returns true; each argument reads behind the call as it read before'; 0 by the template 'total and deterministic' (their statements: YtojgdejofpafkaaTotals.lean).
  GIVEN WITH THE SEED: the statements are not yours to turn. If you find one false, say at which input.
  Laid BY PROGRAM, IN A SANDBOX (cutbox-rows.mjs): the forced cells as the released guide's own fill.sh prints them over the translation 9e97adbe9238e167… (all of the seat's roots in one cut). By AI agents, Wed Nov 11 2026. No macro, syntax, notation, axiom, sorry.
-/
import Derived.Test.YtojgdejofpafkaaChecked
import GoSem.Claim
import GoSem.ClaimJoined
import GoSem.ClaimMapViews
import Derived.JoinedTies
import Derived.KernelRfl
namespace Go.Proofs.Ytojgdejofpafkaa
/- THE CELL 'sum', in the pinned program and in every row, IS THE sha256 OF THE DUMP (.gsa) THAT YtojgdejofpafkaaProg.lean LOADS. Nothing in Lean hashes anything: it is a label: what it is worth is what the hold of that sum in a sandbox is worth. -/
noncomputable def Try.pinned : Pinned := { name := "ytojgdejofpafkaa", sum := "9e97adbe9238e167795ddcc710553f27929e4c0feb835840439a55a0ac533b78", checked := Try.checked }
namespace Rows
def none {H : Type} : Left H := { results := [], args := [] }

/-- 'tithebarnlaw01.CrcRests': WHATEVER THE INPUT: true; the input reads as it did. -/
def crcRestsSpec : ChangeSpec := { name := "crcRests", fn := fun _ => fun
  | [d] => { results := [.lit (.bool true)], args := [d] }
  | _ => none }
def crcRestsRow : OpenClaim := { program := "ytojgdejofpafkaa", sum := "9e97adbe9238e167795ddcc710553f27929e4c0feb835840439a55a0ac533b78", func := "tithebarn/tithebarnlaw01.CrcRests", spec := "crcRests", unfollowed := true, recurses := true, apart := false }
def CrcRestsSaid : Prop := crcRestsRow.holds Try.pinned (OpenSpec.ofChange crcRestsSpec)

/-- ITS FALSE NEIGHBOUR: 'it returns false'. Refute it at one input. -/
def crcRestsWrong : ChangeSpec := { name := "crcRests", fn := fun _ => fun
  | [d] => { results := [.lit (.bool false)], args := [d] }
  | _ => none }
def CrcRestsWrongFalsely : Prop := crcRestsRow.holds Try.pinned (OpenSpec.ofChange crcRestsWrong)

/-- 'tithebarnlaw01.CrcFixes': WHATEVER THE INPUT: true; the input reads as it did. -/
def crcFixesSpec : ChangeSpec := { name := "crcFixes", fn := fun _ => fun
  | [d1, d2, d3] => { results := [.lit (.bool true)], args := [d1, d2, d3] }
  | _ => none }
def crcFixesRow : OpenClaim := { program := "ytojgdejofpafkaa", sum := "9e97adbe9238e167795ddcc710553f27929e4c0feb835840439a55a0ac533b78", func := "tithebarn/tithebarnlaw01.CrcFixes", spec := "crcFixes", unfollowed := true, recurses := true, apart := false }
def CrcFixesSaid : Prop := crcFixesRow.holds Try.pinned (OpenSpec.ofChange crcFixesSpec)

/-- ITS FALSE NEIGHBOUR: 'it returns false'. Refute it at one input. -/
def crcFixesWrong : ChangeSpec := { name := "crcFixes", fn := fun _ => fun
  | [d1, d2, d3] => { results := [.lit (.bool false)], args := [d1, d2, d3] }
  | _ => none }
def CrcFixesWrongFalsely : Prop := crcFixesRow.holds Try.pinned (OpenSpec.ofChange crcFixesWrong)

/-- 'tithebarnlaw01.CrcForced': WHATEVER THE INPUT: true; the input reads as it did. -/
def crcForcedSpec : ChangeSpec := { name := "crcForced", fn := fun _ => fun
  | [d1, d2, d3, d4] => { results := [.lit (.bool true)], args := [d1, d2, d3, d4] }
  | _ => none }
def crcForcedRow : OpenClaim := { program := "ytojgdejofpafkaa", sum := "9e97adbe9238e167795ddcc710553f27929e4c0feb835840439a55a0ac533b78", func := "tithebarn/tithebarnlaw01.CrcForced", spec := "crcForced", unfollowed := true, recurses := true, apart := false }
def CrcForcedSaid : Prop := crcForcedRow.holds Try.pinned (OpenSpec.ofChange crcForcedSpec)

/-- ITS FALSE NEIGHBOUR: 'it returns false'. Refute it at one input. -/
def crcForcedWrong : ChangeSpec := { name := "crcForced", fn := fun _ => fun
  | [d1, d2, d3, d4] => { results := [.lit (.bool false)], args := [d1, d2, d3, d4] }
  | _ => none }
def CrcForcedWrongFalsely : Prop := crcForcedRow.holds Try.pinned (OpenSpec.ofChange crcForcedWrong)

/-- 'tithebarnlaw01.CrcTriples': WHATEVER THE INPUT: true; the input reads as it did. -/
def crcTriplesSpec : ChangeSpec := { name := "crcTriples", fn := fun _ => fun
  | [d1, d2, d3] => { results := [.lit (.bool true)], args := [d1, d2, d3] }
  | _ => none }
def crcTriplesRow : OpenClaim := { program := "ytojgdejofpafkaa", sum := "9e97adbe9238e167795ddcc710553f27929e4c0feb835840439a55a0ac533b78", func := "tithebarn/tithebarnlaw01.CrcTriples", spec := "crcTriples", unfollowed := true, recurses := true, apart := false }
def CrcTriplesSaid : Prop := crcTriplesRow.holds Try.pinned (OpenSpec.ofChange crcTriplesSpec)

/-- ITS FALSE NEIGHBOUR: 'it returns false'. Refute it at one input. -/
def crcTriplesWrong : ChangeSpec := { name := "crcTriples", fn := fun _ => fun
  | [d1, d2, d3] => { results := [.lit (.bool false)], args := [d1, d2, d3] }
  | _ => none }
def CrcTriplesWrongFalsely : Prop := crcTriplesRow.holds Try.pinned (OpenSpec.ofChange crcTriplesWrong)

/-- 'tithebarnlaw01.CrcNoughts': WHATEVER THE INPUT: true; the input reads as it did. -/
def crcNoughtsSpec : ChangeSpec := { name := "crcNoughts", fn := fun _ => fun
  | [d1, d2, d3] => { results := [.lit (.bool true)], args := [d1, d2, d3] }
  | _ => none }
def crcNoughtsRow : OpenClaim := { program := "ytojgdejofpafkaa", sum := "9e97adbe9238e167795ddcc710553f27929e4c0feb835840439a55a0ac533b78", func := "tithebarn/tithebarnlaw01.CrcNoughts", spec := "crcNoughts", unfollowed := true, recurses := true, apart := false }
def CrcNoughtsSaid : Prop := crcNoughtsRow.holds Try.pinned (OpenSpec.ofChange crcNoughtsSpec)

/-- ITS FALSE NEIGHBOUR: 'it returns false'. Refute it at one input. -/
def crcNoughtsWrong : ChangeSpec := { name := "crcNoughts", fn := fun _ => fun
  | [d1, d2, d3] => { results := [.lit (.bool false)], args := [d1, d2, d3] }
  | _ => none }
def CrcNoughtsWrongFalsely : Prop := crcNoughtsRow.holds Try.pinned (OpenSpec.ofChange crcNoughtsWrong)

/-- 'tithebarnlaw01.CrcKnown': WHATEVER THE INPUT: true; the input reads as it did. -/
def crcKnownSpec : ChangeSpec := { name := "crcKnown", fn := fun _ => fun
  | [] => { results := [.lit (.bool true)], args := [] }
  | _ => none }
def crcKnownRow : OpenClaim := { program := "ytojgdejofpafkaa", sum := "9e97adbe9238e167795ddcc710553f27929e4c0feb835840439a55a0ac533b78", func := "tithebarn/tithebarnlaw01.CrcKnown", spec := "crcKnown", unfollowed := true, recurses := true, apart := false }
def CrcKnownSaid : Prop := crcKnownRow.holds Try.pinned (OpenSpec.ofChange crcKnownSpec)

/-- ITS FALSE NEIGHBOUR: 'it returns false'. Refute it at one input. -/
def crcKnownWrong : ChangeSpec := { name := "crcKnown", fn := fun _ => fun
  | [] => { results := [.lit (.bool false)], args := [] }
  | _ => none }
def CrcKnownWrongFalsely : Prop := crcKnownRow.holds Try.pinned (OpenSpec.ofChange crcKnownWrong)

/-- 'tithebarnlaw03.FieldsWriter': WHATEVER THE INPUT: true; the input reads as it did. -/
def fieldsWriterSpec : ChangeSpec := { name := "fieldsWriter", fn := fun _ => fun
  | [d] => { results := [.lit (.bool true)], args := [d] }
  | _ => none }
def fieldsWriterRow : OpenClaim := { program := "ytojgdejofpafkaa", sum := "9e97adbe9238e167795ddcc710553f27929e4c0feb835840439a55a0ac533b78", func := "tithebarn/tithebarnlaw03.FieldsWriter", spec := "fieldsWriter", recurses := true, apart := false }
def FieldsWriterSaid : Prop := fieldsWriterRow.holds Try.pinned (OpenSpec.ofChange fieldsWriterSpec)

/-- ITS FALSE NEIGHBOUR: 'it returns false'. Refute it at one input. -/
def fieldsWriterWrong : ChangeSpec := { name := "fieldsWriter", fn := fun _ => fun
  | [d] => { results := [.lit (.bool false)], args := [d] }
  | _ => none }
def FieldsWriterWrongFalsely : Prop := fieldsWriterRow.holds Try.pinned (OpenSpec.ofChange fieldsWriterWrong)

/-- 'tithebarnlaw03.FieldsOrder': WHATEVER THE INPUT: true; the input reads as it did. -/
def fieldsOrderSpec : ChangeSpec := { name := "fieldsOrder", fn := fun _ => fun
  | [d1, d2, d3] => { results := [.lit (.bool true)], args := [d1, d2, d3] }
  | _ => none }
def fieldsOrderRow : OpenClaim := { program := "ytojgdejofpafkaa", sum := "9e97adbe9238e167795ddcc710553f27929e4c0feb835840439a55a0ac533b78", func := "tithebarn/tithebarnlaw03.FieldsOrder", spec := "fieldsOrder", recurses := true, apart := false }
def FieldsOrderSaid : Prop := fieldsOrderRow.holds Try.pinned (OpenSpec.ofChange fieldsOrderSpec)

/-- ITS FALSE NEIGHBOUR: 'it returns false'. Refute it at one input. -/
def fieldsOrderWrong : ChangeSpec := { name := "fieldsOrder", fn := fun _ => fun
  | [d1, d2, d3] => { results := [.lit (.bool false)], args := [d1, d2, d3] }
  | _ => none }
def FieldsOrderWrongFalsely : Prop := fieldsOrderRow.holds Try.pinned (OpenSpec.ofChange fieldsOrderWrong)

/-- 'tithebarnlaw03.FieldsReader': WHATEVER THE INPUT: true; the input reads as it did. -/
def fieldsReaderSpec : ChangeSpec := { name := "fieldsReader", fn := fun _ => fun
  | [d1, d2] => { results := [.lit (.bool true)], args := [d1, d2] }
  | _ => none }
def fieldsReaderRow : OpenClaim := { program := "ytojgdejofpafkaa", sum := "9e97adbe9238e167795ddcc710553f27929e4c0feb835840439a55a0ac533b78", func := "tithebarn/tithebarnlaw03.FieldsReader", spec := "fieldsReader", recurses := true, apart := false }
def FieldsReaderSaid : Prop := fieldsReaderRow.holds Try.pinned (OpenSpec.ofChange fieldsReaderSpec)

/-- ITS FALSE NEIGHBOUR: 'it returns false'. Refute it at one input. -/
def fieldsReaderWrong : ChangeSpec := { name := "fieldsReader", fn := fun _ => fun
  | [d1, d2] => { results := [.lit (.bool false)], args := [d1, d2] }
  | _ => none }
def FieldsReaderWrongFalsely : Prop := fieldsReaderRow.holds Try.pinned (OpenSpec.ofChange fieldsReaderWrong)

/-- 'tithebarnlaw03.FieldsThere': WHATEVER THE INPUT: true; the input reads as it did. -/
def fieldsThereSpec : ChangeSpec := { name := "fieldsThere", fn := fun _ => fun
  | [d1, d2] => { results := [.lit (.bool true)], args := [d1, d2] }
  | _ => none }
def fieldsThereRow : OpenClaim := { program := "ytojgdejofpafkaa", sum := "9e97adbe9238e167795ddcc710553f27929e4c0feb835840439a55a0ac533b78", func := "tithebarn/tithebarnlaw03.FieldsThere", spec := "fieldsThere", recurses := true, apart := false }
def FieldsThereSaid : Prop := fieldsThereRow.holds Try.pinned (OpenSpec.ofChange fieldsThereSpec)

/-- ITS FALSE NEIGHBOUR: 'it returns false'. Refute it at one input. -/
def fieldsThereWrong : ChangeSpec := { name := "fieldsThere", fn := fun _ => fun
  | [d1, d2] => { results := [.lit (.bool false)], args := [d1, d2] }
  | _ => none }
def FieldsThereWrongFalsely : Prop := fieldsThereRow.holds Try.pinned (OpenSpec.ofChange fieldsThereWrong)

/-- 'tithebarnlaw03.FieldsAgain': WHATEVER THE INPUT: true; the input reads as it did. -/
def fieldsAgainSpec : ChangeSpec := { name := "fieldsAgain", fn := fun _ => fun
  | [d1, d2] => { results := [.lit (.bool true)], args := [d1, d2] }
  | _ => none }
def fieldsAgainRow : OpenClaim := { program := "ytojgdejofpafkaa", sum := "9e97adbe9238e167795ddcc710553f27929e4c0feb835840439a55a0ac533b78", func := "tithebarn/tithebarnlaw03.FieldsAgain", spec := "fieldsAgain", apart := false }
def FieldsAgainSaid : Prop := fieldsAgainRow.holds Try.pinned (OpenSpec.ofChange fieldsAgainSpec)

/-- ITS FALSE NEIGHBOUR: 'it returns false'. Refute it at one input. -/
def fieldsAgainWrong : ChangeSpec := { name := "fieldsAgain", fn := fun _ => fun
  | [d1, d2] => { results := [.lit (.bool false)], args := [d1, d2] }
  | _ => none }
def FieldsAgainWrongFalsely : Prop := fieldsAgainRow.holds Try.pinned (OpenSpec.ofChange fieldsAgainWrong)

/-- 'tithebarnlaw03.FieldsKnown': WHATEVER THE INPUT: true; the input reads as it did. -/
def fieldsKnownSpec : ChangeSpec := { name := "fieldsKnown", fn := fun _ => fun
  | [] => { results := [.lit (.bool true)], args := [] }
  | _ => none }
def fieldsKnownRow : OpenClaim := { program := "ytojgdejofpafkaa", sum := "9e97adbe9238e167795ddcc710553f27929e4c0feb835840439a55a0ac533b78", func := "tithebarn/tithebarnlaw03.FieldsKnown", spec := "fieldsKnown", recurses := true, apart := false }
def FieldsKnownSaid : Prop := fieldsKnownRow.holds Try.pinned (OpenSpec.ofChange fieldsKnownSpec)

/-- ITS FALSE NEIGHBOUR: 'it returns false'. Refute it at one input. -/
def fieldsKnownWrong : ChangeSpec := { name := "fieldsKnown", fn := fun _ => fun
  | [] => { results := [.lit (.bool false)], args := [] }
  | _ => none }
def FieldsKnownWrongFalsely : Prop := fieldsKnownRow.holds Try.pinned (OpenSpec.ofChange fieldsKnownWrong)

/- THE SECOND FORM. 'bulk': how many values and letters a reading holds, each counted each time it is reached (what is shared counts as often as it is met; a slice's spare places count too). A statement '..UptoSaid' is the law's where the arguments, and the package variables that the reading takes, are together of bulk at most 1048576: NARROWER than '..Said'. Prove '..Said' where nothing that the law and all that it calls make is longer than what came in: it says more and counts as full. Else prove '..UptoSaid'. A law counts once. -/
mutual
def uptoBulk {H : Type} : DataW H → Nat
  | .lit (.string bytes) => bytes.length + 1
  | .lit _ => 1
  | .nil => 1
  | .ptr d => uptoBulk d + 1
  | .slice elems spare => uptoBulkAll elems + uptoBulkAll spare + 1
  | .agg parts => uptoBulkAll parts + 1
  | .iface _ d => uptoBulk d + 1
  | .map entries => uptoBulkEntries entries + 1
  | .held _ => 1
def uptoBulkAll {H : Type} : List (DataW H) → Nat
  | [] => 0
  | d :: r => uptoBulk d + uptoBulkAll r
def uptoBulkEntries {H : Type} : List (Lit × DataW H) → Nat
  | [] => 0
  | x :: r => uptoBulkEntry x + uptoBulkEntries r
def uptoBulkEntry {H : Type} : Lit × DataW H → Nat
  | (.string bytes, d) => bytes.length + uptoBulk d + 1
  | (_, d) => uptoBulk d + 1
 end
def uptoSmall : (H : Type) → List (DataW H) → Bool := fun _ ds => decide (uptoBulkAll ds ≤ 1048576)
def OpenSpec.upto (s : _root_.Go.ChangeSpec) : _root_.Go.OpenSpec := { _root_.Go.OpenSpec.ofChange s with cond := some uptoSmall }

/-- 'tithebarnlaw01.CrcRests', WHERE WHAT IT READS IS OF BULK AT MOST 1048576: true; the input reads as it did. -/
def crcRestsUptoRow : OpenClaim := { program := "ytojgdejofpafkaa", sum := "9e97adbe9238e167795ddcc710553f27929e4c0feb835840439a55a0ac533b78", func := "tithebarn/tithebarnlaw01.CrcRests", spec := "crcRests", unfollowed := true, recurses := true, apart := false, narrowed := true }
def CrcRestsUptoSaid : Prop := crcRestsUptoRow.holds Try.pinned (OpenSpec.upto crcRestsSpec)

/-- 'tithebarnlaw01.CrcFixes', WHERE WHAT IT READS IS OF BULK AT MOST 1048576: true; the input reads as it did. -/
def crcFixesUptoRow : OpenClaim := { program := "ytojgdejofpafkaa", sum := "9e97adbe9238e167795ddcc710553f27929e4c0feb835840439a55a0ac533b78", func := "tithebarn/tithebarnlaw01.CrcFixes", spec := "crcFixes", unfollowed := true, recurses := true, apart := false, narrowed := true }
def CrcFixesUptoSaid : Prop := crcFixesUptoRow.holds Try.pinned (OpenSpec.upto crcFixesSpec)

/-- 'tithebarnlaw01.CrcForced', WHERE WHAT IT READS IS OF BULK AT MOST 1048576: true; the input reads as it did. -/
def crcForcedUptoRow : OpenClaim := { program := "ytojgdejofpafkaa", sum := "9e97adbe9238e167795ddcc710553f27929e4c0feb835840439a55a0ac533b78", func := "tithebarn/tithebarnlaw01.CrcForced", spec := "crcForced", unfollowed := true, recurses := true, apart := false, narrowed := true }
def CrcForcedUptoSaid : Prop := crcForcedUptoRow.holds Try.pinned (OpenSpec.upto crcForcedSpec)

/-- 'tithebarnlaw01.CrcTriples', WHERE WHAT IT READS IS OF BULK AT MOST 1048576: true; the input reads as it did. -/
def crcTriplesUptoRow : OpenClaim := { program := "ytojgdejofpafkaa", sum := "9e97adbe9238e167795ddcc710553f27929e4c0feb835840439a55a0ac533b78", func := "tithebarn/tithebarnlaw01.CrcTriples", spec := "crcTriples", unfollowed := true, recurses := true, apart := false, narrowed := true }
def CrcTriplesUptoSaid : Prop := crcTriplesUptoRow.holds Try.pinned (OpenSpec.upto crcTriplesSpec)

/-- 'tithebarnlaw01.CrcNoughts', WHERE WHAT IT READS IS OF BULK AT MOST 1048576: true; the input reads as it did. -/
def crcNoughtsUptoRow : OpenClaim := { program := "ytojgdejofpafkaa", sum := "9e97adbe9238e167795ddcc710553f27929e4c0feb835840439a55a0ac533b78", func := "tithebarn/tithebarnlaw01.CrcNoughts", spec := "crcNoughts", unfollowed := true, recurses := true, apart := false, narrowed := true }
def CrcNoughtsUptoSaid : Prop := crcNoughtsUptoRow.holds Try.pinned (OpenSpec.upto crcNoughtsSpec)

/-- 'tithebarnlaw01.CrcKnown', WHERE WHAT IT READS IS OF BULK AT MOST 1048576: true; the input reads as it did. -/
def crcKnownUptoRow : OpenClaim := { program := "ytojgdejofpafkaa", sum := "9e97adbe9238e167795ddcc710553f27929e4c0feb835840439a55a0ac533b78", func := "tithebarn/tithebarnlaw01.CrcKnown", spec := "crcKnown", unfollowed := true, recurses := true, apart := false, narrowed := true }
def CrcKnownUptoSaid : Prop := crcKnownUptoRow.holds Try.pinned (OpenSpec.upto crcKnownSpec)

/-- 'tithebarnlaw03.FieldsWriter', WHERE WHAT IT READS IS OF BULK AT MOST 1048576: true; the input reads as it did. -/
def fieldsWriterUptoRow : OpenClaim := { program := "ytojgdejofpafkaa", sum := "9e97adbe9238e167795ddcc710553f27929e4c0feb835840439a55a0ac533b78", func := "tithebarn/tithebarnlaw03.FieldsWriter", spec := "fieldsWriter", recurses := true, apart := false, narrowed := true }
def FieldsWriterUptoSaid : Prop := fieldsWriterUptoRow.holds Try.pinned (OpenSpec.upto fieldsWriterSpec)

/-- 'tithebarnlaw03.FieldsOrder', WHERE WHAT IT READS IS OF BULK AT MOST 1048576: true; the input reads as it did. -/
def fieldsOrderUptoRow : OpenClaim := { program := "ytojgdejofpafkaa", sum := "9e97adbe9238e167795ddcc710553f27929e4c0feb835840439a55a0ac533b78", func := "tithebarn/tithebarnlaw03.FieldsOrder", spec := "fieldsOrder", recurses := true, apart := false, narrowed := true }
def FieldsOrderUptoSaid : Prop := fieldsOrderUptoRow.holds Try.pinned (OpenSpec.upto fieldsOrderSpec)

/-- 'tithebarnlaw03.FieldsReader', WHERE WHAT IT READS IS OF BULK AT MOST 1048576: true; the input reads as it did. -/
def fieldsReaderUptoRow : OpenClaim := { program := "ytojgdejofpafkaa", sum := "9e97adbe9238e167795ddcc710553f27929e4c0feb835840439a55a0ac533b78", func := "tithebarn/tithebarnlaw03.FieldsReader", spec := "fieldsReader", recurses := true, apart := false, narrowed := true }
def FieldsReaderUptoSaid : Prop := fieldsReaderUptoRow.holds Try.pinned (OpenSpec.upto fieldsReaderSpec)

/-- 'tithebarnlaw03.FieldsThere', WHERE WHAT IT READS IS OF BULK AT MOST 1048576: true; the input reads as it did. -/
def fieldsThereUptoRow : OpenClaim := { program := "ytojgdejofpafkaa", sum := "9e97adbe9238e167795ddcc710553f27929e4c0feb835840439a55a0ac533b78", func := "tithebarn/tithebarnlaw03.FieldsThere", spec := "fieldsThere", recurses := true, apart := false, narrowed := true }
def FieldsThereUptoSaid : Prop := fieldsThereUptoRow.holds Try.pinned (OpenSpec.upto fieldsThereSpec)

/-- 'tithebarnlaw03.FieldsAgain', WHERE WHAT IT READS IS OF BULK AT MOST 1048576: true; the input reads as it did. -/
def fieldsAgainUptoRow : OpenClaim := { program := "ytojgdejofpafkaa", sum := "9e97adbe9238e167795ddcc710553f27929e4c0feb835840439a55a0ac533b78", func := "tithebarn/tithebarnlaw03.FieldsAgain", spec := "fieldsAgain", apart := false, narrowed := true }
def FieldsAgainUptoSaid : Prop := fieldsAgainUptoRow.holds Try.pinned (OpenSpec.upto fieldsAgainSpec)

/-- 'tithebarnlaw03.FieldsKnown', WHERE WHAT IT READS IS OF BULK AT MOST 1048576: true; the input reads as it did. -/
def fieldsKnownUptoRow : OpenClaim := { program := "ytojgdejofpafkaa", sum := "9e97adbe9238e167795ddcc710553f27929e4c0feb835840439a55a0ac533b78", func := "tithebarn/tithebarnlaw03.FieldsKnown", spec := "fieldsKnown", recurses := true, apart := false, narrowed := true }
def FieldsKnownUptoSaid : Prop := fieldsKnownUptoRow.holds Try.pinned (OpenSpec.upto fieldsKnownSpec)

end Rows
end Go.Proofs.Ytojgdejofpafkaa
