/-
  No cell of these rows narrows 'for every input' (looked for: loops, veiled, ifaces, maps, wideKeys, modest, calm, conditions, laid).
  DERIVED. THE GIVEN ROWS OF THIS SEAT. 12 by the template 'for every input the law returns true; each argument reads behind the call as it read before'; 0 by the template 'total and deterministic' (their statements: YmbrcjTotals.lean).
  GIVEN WITH THE SEED: the statements are not yours to turn. If you find one false, say at which input.
  Laid BY PROGRAM, IN A SANDBOX (cutbox-rows.mjs): the forced cells as the released guide's own fill.sh prints them over the translation ebda2983b64a7d60… (all of the seat's roots in one cut). By AI agents, Wed Nov 11 2026. No macro, syntax, notation, axiom, sorry.
-/
import Derived.Test.YmbrcjChecked
import GoSem.Claim
import GoSem.ClaimJoined
import GoSem.ClaimMapViews
import Derived.JoinedTies
import Derived.KernelRfl
namespace Go.Proofs.Ymbrcj
/- THE CELL 'sum', in the pinned program and in every row, IS THE sha256 OF THE DUMP (.gsa) THAT YmbrcjProg.lean LOADS. Nothing in Lean hashes anything: it is a label: what it is worth is what the hold of that sum in a sandbox is worth. -/
noncomputable def Ycjm.pinned : Pinned := { name := "ymbrcj", sum := "ebda2983b64a7d602181f0b95d181ee93bf4d202d71ae36b54aebd010238083c", checked := Ycjm.checked }
namespace Rows
def none {H : Type} : Left H := { results := [], args := [] }

/-- 'varint.LawS930001ERoundTrip': WHATEVER THE INPUT: true; the input reads as it did. -/
def lawS930001ERoundTripSpec : ChangeSpec := { name := "lawS930001ERoundTrip", fn := fun _ => fun
  | [d1, d2, d3] => { results := [.lit (.bool true)], args := [d1, d2, d3] }
  | _ => none }
def lawS930001ERoundTripRow : OpenClaim := { program := "ymbrcj", sum := "ebda2983b64a7d602181f0b95d181ee93bf4d202d71ae36b54aebd010238083c", func := "example.com/own/varint.LawS930001ERoundTrip", spec := "lawS930001ERoundTrip", apart := false }
def LawS930001ERoundTripSaid : Prop := lawS930001ERoundTripRow.holds Ycjm.pinned (OpenSpec.ofChange lawS930001ERoundTripSpec)

/-- ITS FALSE NEIGHBOUR: 'it returns false'. Refute it at one input. -/
def lawS930001ERoundTripWrong : ChangeSpec := { name := "lawS930001ERoundTrip", fn := fun _ => fun
  | [d1, d2, d3] => { results := [.lit (.bool false)], args := [d1, d2, d3] }
  | _ => none }
def LawS930001ERoundTripWrongFalsely : Prop := lawS930001ERoundTripRow.holds Ycjm.pinned (OpenSpec.ofChange lawS930001ERoundTripWrong)

/-- 'varint.LawS930001EShape': WHATEVER THE INPUT: true; the input reads as it did. -/
def lawS930001EShapeSpec : ChangeSpec := { name := "lawS930001EShape", fn := fun _ => fun
  | [d1, d2, d3, d4, d5] => { results := [.lit (.bool true)], args := [d1, d2, d3, d4, d5] }
  | _ => none }
def lawS930001EShapeRow : OpenClaim := { program := "ymbrcj", sum := "ebda2983b64a7d602181f0b95d181ee93bf4d202d71ae36b54aebd010238083c", func := "example.com/own/varint.LawS930001EShape", spec := "lawS930001EShape", apart := false }
def LawS930001EShapeSaid : Prop := lawS930001EShapeRow.holds Ycjm.pinned (OpenSpec.ofChange lawS930001EShapeSpec)

/-- ITS FALSE NEIGHBOUR: 'it returns false'. Refute it at one input. -/
def lawS930001EShapeWrong : ChangeSpec := { name := "lawS930001EShape", fn := fun _ => fun
  | [d1, d2, d3, d4, d5] => { results := [.lit (.bool false)], args := [d1, d2, d3, d4, d5] }
  | _ => none }
def LawS930001EShapeWrongFalsely : Prop := lawS930001EShapeRow.holds Ycjm.pinned (OpenSpec.ofChange lawS930001EShapeWrong)

/-- 'varint.LawS930001FExact': WHATEVER THE INPUT: true; the input reads as it did. -/
def lawS930001FExactSpec : ChangeSpec := { name := "lawS930001FExact", fn := fun _ => fun
  | [d1, d2] => { results := [.lit (.bool true)], args := [d1, d2] }
  | _ => none }
def lawS930001FExactRow : OpenClaim := { program := "ymbrcj", sum := "ebda2983b64a7d602181f0b95d181ee93bf4d202d71ae36b54aebd010238083c", func := "example.com/own/varint.LawS930001FExact", spec := "lawS930001FExact", apart := false }
def LawS930001FExactSaid : Prop := lawS930001FExactRow.holds Ycjm.pinned (OpenSpec.ofChange lawS930001FExactSpec)

/-- ITS FALSE NEIGHBOUR: 'it returns false'. Refute it at one input. -/
def lawS930001FExactWrong : ChangeSpec := { name := "lawS930001FExact", fn := fun _ => fun
  | [d1, d2] => { results := [.lit (.bool false)], args := [d1, d2] }
  | _ => none }
def LawS930001FExactWrongFalsely : Prop := lawS930001FExactRow.holds Ycjm.pinned (OpenSpec.ofChange lawS930001FExactWrong)

/-- 'varint.LawS930001FOrder': WHATEVER THE INPUT: true; the input reads as it did. -/
def lawS930001FOrderSpec : ChangeSpec := { name := "lawS930001FOrder", fn := fun _ => fun
  | [d1, d2, d3, d4] => { results := [.lit (.bool true)], args := [d1, d2, d3, d4] }
  | _ => none }
def lawS930001FOrderRow : OpenClaim := { program := "ymbrcj", sum := "ebda2983b64a7d602181f0b95d181ee93bf4d202d71ae36b54aebd010238083c", func := "example.com/own/varint.LawS930001FOrder", spec := "lawS930001FOrder", apart := false }
def LawS930001FOrderSaid : Prop := lawS930001FOrderRow.holds Ycjm.pinned (OpenSpec.ofChange lawS930001FOrderSpec)

/-- ITS FALSE NEIGHBOUR: 'it returns false'. Refute it at one input. -/
def lawS930001FOrderWrong : ChangeSpec := { name := "lawS930001FOrder", fn := fun _ => fun
  | [d1, d2, d3, d4] => { results := [.lit (.bool false)], args := [d1, d2, d3, d4] }
  | _ => none }
def LawS930001FOrderWrongFalsely : Prop := lawS930001FOrderRow.holds Ycjm.pinned (OpenSpec.ofChange lawS930001FOrderWrong)

/-- 'varint.LawS930001FNumeric': WHATEVER THE INPUT: true; the input reads as it did. -/
def lawS930001FNumericSpec : ChangeSpec := { name := "lawS930001FNumeric", fn := fun _ => fun
  | [d1, d2, d3] => { results := [.lit (.bool true)], args := [d1, d2, d3] }
  | _ => none }
def lawS930001FNumericRow : OpenClaim := { program := "ymbrcj", sum := "ebda2983b64a7d602181f0b95d181ee93bf4d202d71ae36b54aebd010238083c", func := "example.com/own/varint.LawS930001FNumeric", spec := "lawS930001FNumeric", apart := false }
def LawS930001FNumericSaid : Prop := lawS930001FNumericRow.holds Ycjm.pinned (OpenSpec.ofChange lawS930001FNumericSpec)

/-- ITS FALSE NEIGHBOUR: 'it returns false'. Refute it at one input. -/
def lawS930001FNumericWrong : ChangeSpec := { name := "lawS930001FNumeric", fn := fun _ => fun
  | [d1, d2, d3] => { results := [.lit (.bool false)], args := [d1, d2, d3] }
  | _ => none }
def LawS930001FNumericWrongFalsely : Prop := lawS930001FNumericRow.holds Ycjm.pinned (OpenSpec.ofChange lawS930001FNumericWrong)

/-- 'varint.LawS930001GTable': WHATEVER THE INPUT: true; the input reads as it did. -/
def lawS930001GTableSpec : ChangeSpec := { name := "lawS930001GTable", fn := fun _ => fun
  | [d1, d2] => { results := [.lit (.bool true)], args := [d1, d2] }
  | _ => none }
def lawS930001GTableRow : OpenClaim := { program := "ymbrcj", sum := "ebda2983b64a7d602181f0b95d181ee93bf4d202d71ae36b54aebd010238083c", func := "example.com/own/varint.LawS930001GTable", spec := "lawS930001GTable", apart := false }
def LawS930001GTableSaid : Prop := lawS930001GTableRow.holds Ycjm.pinned (OpenSpec.ofChange lawS930001GTableSpec)

/-- ITS FALSE NEIGHBOUR: 'it returns false'. Refute it at one input. -/
def lawS930001GTableWrong : ChangeSpec := { name := "lawS930001GTable", fn := fun _ => fun
  | [d1, d2] => { results := [.lit (.bool false)], args := [d1, d2] }
  | _ => none }
def LawS930001GTableWrongFalsely : Prop := lawS930001GTableRow.holds Ycjm.pinned (OpenSpec.ofChange lawS930001GTableWrong)

/-- 'varint.LawS930001GTopBit': WHATEVER THE INPUT: true; the input reads as it did. -/
def lawS930001GTopBitSpec : ChangeSpec := { name := "lawS930001GTopBit", fn := fun _ => fun
  | [d1, d2] => { results := [.lit (.bool true)], args := [d1, d2] }
  | _ => none }
def lawS930001GTopBitRow : OpenClaim := { program := "ymbrcj", sum := "ebda2983b64a7d602181f0b95d181ee93bf4d202d71ae36b54aebd010238083c", func := "example.com/own/varint.LawS930001GTopBit", spec := "lawS930001GTopBit", apart := false }
def LawS930001GTopBitSaid : Prop := lawS930001GTopBitRow.holds Ycjm.pinned (OpenSpec.ofChange lawS930001GTopBitSpec)

/-- ITS FALSE NEIGHBOUR: 'it returns false'. Refute it at one input. -/
def lawS930001GTopBitWrong : ChangeSpec := { name := "lawS930001GTopBit", fn := fun _ => fun
  | [d1, d2] => { results := [.lit (.bool false)], args := [d1, d2] }
  | _ => none }
def LawS930001GTopBitWrongFalsely : Prop := lawS930001GTopBitRow.holds Ycjm.pinned (OpenSpec.ofChange lawS930001GTopBitWrong)

/-- 'varint.LawS930001GOrder': WHATEVER THE INPUT: true; the input reads as it did. -/
def lawS930001GOrderSpec : ChangeSpec := { name := "lawS930001GOrder", fn := fun _ => fun
  | [d1, d2, d3, d4] => { results := [.lit (.bool true)], args := [d1, d2, d3, d4] }
  | _ => none }
def lawS930001GOrderRow : OpenClaim := { program := "ymbrcj", sum := "ebda2983b64a7d602181f0b95d181ee93bf4d202d71ae36b54aebd010238083c", func := "example.com/own/varint.LawS930001GOrder", spec := "lawS930001GOrder", apart := false }
def LawS930001GOrderSaid : Prop := lawS930001GOrderRow.holds Ycjm.pinned (OpenSpec.ofChange lawS930001GOrderSpec)

/-- ITS FALSE NEIGHBOUR: 'it returns false'. Refute it at one input. -/
def lawS930001GOrderWrong : ChangeSpec := { name := "lawS930001GOrder", fn := fun _ => fun
  | [d1, d2, d3, d4] => { results := [.lit (.bool false)], args := [d1, d2, d3, d4] }
  | _ => none }
def LawS930001GOrderWrongFalsely : Prop := lawS930001GOrderRow.holds Ycjm.pinned (OpenSpec.ofChange lawS930001GOrderWrong)

/-- 'varint.LawS930001HModel': WHATEVER THE INPUT: true; the input reads as it did. -/
def lawS930001HModelSpec : ChangeSpec := { name := "lawS930001HModel", fn := fun _ => fun
  | [d1, d2] => { results := [.lit (.bool true)], args := [d1, d2] }
  | _ => none }
def lawS930001HModelRow : OpenClaim := { program := "ymbrcj", sum := "ebda2983b64a7d602181f0b95d181ee93bf4d202d71ae36b54aebd010238083c", func := "example.com/own/varint.LawS930001HModel", spec := "lawS930001HModel", apart := false }
def LawS930001HModelSaid : Prop := lawS930001HModelRow.holds Ycjm.pinned (OpenSpec.ofChange lawS930001HModelSpec)

/-- ITS FALSE NEIGHBOUR: 'it returns false'. Refute it at one input. -/
def lawS930001HModelWrong : ChangeSpec := { name := "lawS930001HModel", fn := fun _ => fun
  | [d1, d2] => { results := [.lit (.bool false)], args := [d1, d2] }
  | _ => none }
def LawS930001HModelWrongFalsely : Prop := lawS930001HModelRow.holds Ycjm.pinned (OpenSpec.ofChange lawS930001HModelWrong)

/-- 'varint.LawS930001HReencode': WHATEVER THE INPUT: true; the input reads as it did. -/
def lawS930001HReencodeSpec : ChangeSpec := { name := "lawS930001HReencode", fn := fun _ => fun
  | [d1, d2] => { results := [.lit (.bool true)], args := [d1, d2] }
  | _ => none }
def lawS930001HReencodeRow : OpenClaim := { program := "ymbrcj", sum := "ebda2983b64a7d602181f0b95d181ee93bf4d202d71ae36b54aebd010238083c", func := "example.com/own/varint.LawS930001HReencode", spec := "lawS930001HReencode", apart := false }
def LawS930001HReencodeSaid : Prop := lawS930001HReencodeRow.holds Ycjm.pinned (OpenSpec.ofChange lawS930001HReencodeSpec)

/-- ITS FALSE NEIGHBOUR: 'it returns false'. Refute it at one input. -/
def lawS930001HReencodeWrong : ChangeSpec := { name := "lawS930001HReencode", fn := fun _ => fun
  | [d1, d2] => { results := [.lit (.bool false)], args := [d1, d2] }
  | _ => none }
def LawS930001HReencodeWrongFalsely : Prop := lawS930001HReencodeRow.holds Ycjm.pinned (OpenSpec.ofChange lawS930001HReencodeWrong)

/-- 'varint.LawS930001HRoundTrip': WHATEVER THE INPUT: true; the input reads as it did. -/
def lawS930001HRoundTripSpec : ChangeSpec := { name := "lawS930001HRoundTrip", fn := fun _ => fun
  | [d1, d2, d3, d4] => { results := [.lit (.bool true)], args := [d1, d2, d3, d4] }
  | _ => none }
def lawS930001HRoundTripRow : OpenClaim := { program := "ymbrcj", sum := "ebda2983b64a7d602181f0b95d181ee93bf4d202d71ae36b54aebd010238083c", func := "example.com/own/varint.LawS930001HRoundTrip", spec := "lawS930001HRoundTrip", apart := false }
def LawS930001HRoundTripSaid : Prop := lawS930001HRoundTripRow.holds Ycjm.pinned (OpenSpec.ofChange lawS930001HRoundTripSpec)

/-- ITS FALSE NEIGHBOUR: 'it returns false'. Refute it at one input. -/
def lawS930001HRoundTripWrong : ChangeSpec := { name := "lawS930001HRoundTrip", fn := fun _ => fun
  | [d1, d2, d3, d4] => { results := [.lit (.bool false)], args := [d1, d2, d3, d4] }
  | _ => none }
def LawS930001HRoundTripWrongFalsely : Prop := lawS930001HRoundTripRow.holds Ycjm.pinned (OpenSpec.ofChange lawS930001HRoundTripWrong)

/-- 'varint.LawS930001IMax': WHATEVER THE INPUT: true; the input reads as it did. -/
def lawS930001IMaxSpec : ChangeSpec := { name := "lawS930001IMax", fn := fun _ => fun
  | [d] => { results := [.lit (.bool true)], args := [d] }
  | _ => none }
def lawS930001IMaxRow : OpenClaim := { program := "ymbrcj", sum := "ebda2983b64a7d602181f0b95d181ee93bf4d202d71ae36b54aebd010238083c", func := "example.com/own/varint.LawS930001IMax", spec := "lawS930001IMax", apart := false }
def LawS930001IMaxSaid : Prop := lawS930001IMaxRow.holds Ycjm.pinned (OpenSpec.ofChange lawS930001IMaxSpec)

/-- ITS FALSE NEIGHBOUR: 'it returns false'. Refute it at one input. -/
def lawS930001IMaxWrong : ChangeSpec := { name := "lawS930001IMax", fn := fun _ => fun
  | [d] => { results := [.lit (.bool false)], args := [d] }
  | _ => none }
def LawS930001IMaxWrongFalsely : Prop := lawS930001IMaxRow.holds Ycjm.pinned (OpenSpec.ofChange lawS930001IMaxWrong)

end Rows
end Go.Proofs.Ymbrcj
