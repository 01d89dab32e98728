/-
  No cell of these rows narrows 'for every input' (looked for: loops, veiled, ifaces, maps, wideKeys, modest, calm, conditions, laid).
  DERIVED. THE GIVEN ROWS OF THIS SEAT. 12 by the template 'for every input the law returns true; each argument reads behind the call as it read before'; 0 by the template 'total and deterministic' (their statements: YmbrciTotals.lean).
  GIVEN WITH THE SEED: the statements are not yours to turn. If you find one false, say at which input.
  Laid BY PROGRAM, IN A SANDBOX (cutbox-rows.mjs): the forced cells as the released guide's own fill.sh prints them over the translation e9eb2edb8a7f7f26… (all of the seat's roots in one cut). By AI agents, Wed Nov 11 2026. No macro, syntax, notation, axiom, sorry.
-/
import Derived.Test.YmbrciChecked
import GoSem.Claim
import GoSem.ClaimJoined
import GoSem.ClaimMapViews
import Derived.JoinedTies
import Derived.KernelRfl
namespace Go.Proofs.Ymbrci
/- THE CELL 'sum', in the pinned program and in every row, IS THE sha256 OF THE DUMP (.gsa) THAT YmbrciProg.lean LOADS. Nothing in Lean hashes anything: it is a label: what it is worth is what the hold of that sum in a sandbox is worth. -/
noncomputable def Ycim.pinned : Pinned := { name := "ymbrci", sum := "e9eb2edb8a7f7f26b5c3ea93d869717565c50f63f359fb1685121748b39e9085", checked := Ycim.checked }
namespace Rows
def none {H : Type} : Left H := { results := [], args := [] }

/-- 'varint.LawS930001AExact': WHATEVER THE INPUT: true; the input reads as it did. -/
def lawS930001AExactSpec : ChangeSpec := { name := "lawS930001AExact", fn := fun _ => fun
  | [d] => { results := [.lit (.bool true)], args := [d] }
  | _ => none }
def lawS930001AExactRow : OpenClaim := { program := "ymbrci", sum := "e9eb2edb8a7f7f26b5c3ea93d869717565c50f63f359fb1685121748b39e9085", func := "example.com/own/varint.LawS930001AExact", spec := "lawS930001AExact", apart := false }
def LawS930001AExactSaid : Prop := lawS930001AExactRow.holds Ycim.pinned (OpenSpec.ofChange lawS930001AExactSpec)

/-- ITS FALSE NEIGHBOUR: 'it returns false'. Refute it at one input. -/
def lawS930001AExactWrong : ChangeSpec := { name := "lawS930001AExact", fn := fun _ => fun
  | [d] => { results := [.lit (.bool false)], args := [d] }
  | _ => none }
def LawS930001AExactWrongFalsely : Prop := lawS930001AExactRow.holds Ycim.pinned (OpenSpec.ofChange lawS930001AExactWrong)

/-- 'varint.LawS930001ARound': WHATEVER THE INPUT: true; the input reads as it did. -/
def lawS930001ARoundSpec : ChangeSpec := { name := "lawS930001ARound", fn := fun _ => fun
  | [d1, d2, d3] => { results := [.lit (.bool true)], args := [d1, d2, d3] }
  | _ => none }
def lawS930001ARoundRow : OpenClaim := { program := "ymbrci", sum := "e9eb2edb8a7f7f26b5c3ea93d869717565c50f63f359fb1685121748b39e9085", func := "example.com/own/varint.LawS930001ARound", spec := "lawS930001ARound", apart := false }
def LawS930001ARoundSaid : Prop := lawS930001ARoundRow.holds Ycim.pinned (OpenSpec.ofChange lawS930001ARoundSpec)

/-- ITS FALSE NEIGHBOUR: 'it returns false'. Refute it at one input. -/
def lawS930001ARoundWrong : ChangeSpec := { name := "lawS930001ARound", fn := fun _ => fun
  | [d1, d2, d3] => { results := [.lit (.bool false)], args := [d1, d2, d3] }
  | _ => none }
def LawS930001ARoundWrongFalsely : Prop := lawS930001ARoundRow.holds Ycim.pinned (OpenSpec.ofChange lawS930001ARoundWrong)

/-- 'varint.LawS930001AShape': WHATEVER THE INPUT: true; the input reads as it did. -/
def lawS930001AShapeSpec : ChangeSpec := { name := "lawS930001AShape", fn := fun _ => fun
  | [d1, d2, d3] => { results := [.lit (.bool true)], args := [d1, d2, d3] }
  | _ => none }
def lawS930001AShapeRow : OpenClaim := { program := "ymbrci", sum := "e9eb2edb8a7f7f26b5c3ea93d869717565c50f63f359fb1685121748b39e9085", func := "example.com/own/varint.LawS930001AShape", spec := "lawS930001AShape", apart := false }
def LawS930001AShapeSaid : Prop := lawS930001AShapeRow.holds Ycim.pinned (OpenSpec.ofChange lawS930001AShapeSpec)

/-- ITS FALSE NEIGHBOUR: 'it returns false'. Refute it at one input. -/
def lawS930001AShapeWrong : ChangeSpec := { name := "lawS930001AShape", fn := fun _ => fun
  | [d1, d2, d3] => { results := [.lit (.bool false)], args := [d1, d2, d3] }
  | _ => none }
def LawS930001AShapeWrongFalsely : Prop := lawS930001AShapeRow.holds Ycim.pinned (OpenSpec.ofChange lawS930001AShapeWrong)

/-- 'varint.LawS930001BExact': WHATEVER THE INPUT: true; the input reads as it did. -/
def lawS930001BExactSpec : ChangeSpec := { name := "lawS930001BExact", fn := fun _ => fun
  | [d1, d2, d3, d4] => { results := [.lit (.bool true)], args := [d1, d2, d3, d4] }
  | _ => none }
def lawS930001BExactRow : OpenClaim := { program := "ymbrci", sum := "e9eb2edb8a7f7f26b5c3ea93d869717565c50f63f359fb1685121748b39e9085", func := "example.com/own/varint.LawS930001BExact", spec := "lawS930001BExact", apart := false }
def LawS930001BExactSaid : Prop := lawS930001BExactRow.holds Ycim.pinned (OpenSpec.ofChange lawS930001BExactSpec)

/-- ITS FALSE NEIGHBOUR: 'it returns false'. Refute it at one input. -/
def lawS930001BExactWrong : ChangeSpec := { name := "lawS930001BExact", fn := fun _ => fun
  | [d1, d2, d3, d4] => { results := [.lit (.bool false)], args := [d1, d2, d3, d4] }
  | _ => none }
def LawS930001BExactWrongFalsely : Prop := lawS930001BExactRow.holds Ycim.pinned (OpenSpec.ofChange lawS930001BExactWrong)

/-- 'varint.LawS930001BReadBack': WHATEVER THE INPUT: true; the input reads as it did. -/
def lawS930001BReadBackSpec : ChangeSpec := { name := "lawS930001BReadBack", fn := fun _ => fun
  | [d1, d2, d3, d4, d5, d6] => { results := [.lit (.bool true)], args := [d1, d2, d3, d4, d5, d6] }
  | _ => none }
def lawS930001BReadBackRow : OpenClaim := { program := "ymbrci", sum := "e9eb2edb8a7f7f26b5c3ea93d869717565c50f63f359fb1685121748b39e9085", func := "example.com/own/varint.LawS930001BReadBack", spec := "lawS930001BReadBack", apart := false }
def LawS930001BReadBackSaid : Prop := lawS930001BReadBackRow.holds Ycim.pinned (OpenSpec.ofChange lawS930001BReadBackSpec)

/-- ITS FALSE NEIGHBOUR: 'it returns false'. Refute it at one input. -/
def lawS930001BReadBackWrong : ChangeSpec := { name := "lawS930001BReadBack", fn := fun _ => fun
  | [d1, d2, d3, d4, d5, d6] => { results := [.lit (.bool false)], args := [d1, d2, d3, d4, d5, d6] }
  | _ => none }
def LawS930001BReadBackWrongFalsely : Prop := lawS930001BReadBackRow.holds Ycim.pinned (OpenSpec.ofChange lawS930001BReadBackWrong)

/-- 'varint.LawS930001BSpare': WHATEVER THE INPUT: true; the input reads as it did. -/
def lawS930001BSpareSpec : ChangeSpec := { name := "lawS930001BSpare", fn := fun _ => fun
  | [d1, d2, d3, d4, d5] => { results := [.lit (.bool true)], args := [d1, d2, d3, d4, d5] }
  | _ => none }
def lawS930001BSpareRow : OpenClaim := { program := "ymbrci", sum := "e9eb2edb8a7f7f26b5c3ea93d869717565c50f63f359fb1685121748b39e9085", func := "example.com/own/varint.LawS930001BSpare", spec := "lawS930001BSpare", apart := false }
def LawS930001BSpareSaid : Prop := lawS930001BSpareRow.holds Ycim.pinned (OpenSpec.ofChange lawS930001BSpareSpec)

/-- ITS FALSE NEIGHBOUR: 'it returns false'. Refute it at one input. -/
def lawS930001BSpareWrong : ChangeSpec := { name := "lawS930001BSpare", fn := fun _ => fun
  | [d1, d2, d3, d4, d5] => { results := [.lit (.bool false)], args := [d1, d2, d3, d4, d5] }
  | _ => none }
def LawS930001BSpareWrongFalsely : Prop := lawS930001BSpareRow.holds Ycim.pinned (OpenSpec.ofChange lawS930001BSpareWrong)

/-- 'varint.LawS930001CGaps': WHATEVER THE INPUT: true; the input reads as it did. -/
def lawS930001CGapsSpec : ChangeSpec := { name := "lawS930001CGaps", fn := fun _ => fun
  | [d1, d2, d3, d4] => { results := [.lit (.bool true)], args := [d1, d2, d3, d4] }
  | _ => none }
def lawS930001CGapsRow : OpenClaim := { program := "ymbrci", sum := "e9eb2edb8a7f7f26b5c3ea93d869717565c50f63f359fb1685121748b39e9085", func := "example.com/own/varint.LawS930001CGaps", spec := "lawS930001CGaps", apart := false }
def LawS930001CGapsSaid : Prop := lawS930001CGapsRow.holds Ycim.pinned (OpenSpec.ofChange lawS930001CGapsSpec)

/-- ITS FALSE NEIGHBOUR: 'it returns false'. Refute it at one input. -/
def lawS930001CGapsWrong : ChangeSpec := { name := "lawS930001CGaps", fn := fun _ => fun
  | [d1, d2, d3, d4] => { results := [.lit (.bool false)], args := [d1, d2, d3, d4] }
  | _ => none }
def LawS930001CGapsWrongFalsely : Prop := lawS930001CGapsRow.holds Ycim.pinned (OpenSpec.ofChange lawS930001CGapsWrong)

/-- 'varint.LawS930001CVerdict': WHATEVER THE INPUT: true; the input reads as it did. -/
def lawS930001CVerdictSpec : ChangeSpec := { name := "lawS930001CVerdict", fn := fun _ => fun
  | [d1, d2, d3] => { results := [.lit (.bool true)], args := [d1, d2, d3] }
  | _ => none }
def lawS930001CVerdictRow : OpenClaim := { program := "ymbrci", sum := "e9eb2edb8a7f7f26b5c3ea93d869717565c50f63f359fb1685121748b39e9085", func := "example.com/own/varint.LawS930001CVerdict", spec := "lawS930001CVerdict", apart := false }
def LawS930001CVerdictSaid : Prop := lawS930001CVerdictRow.holds Ycim.pinned (OpenSpec.ofChange lawS930001CVerdictSpec)

/-- ITS FALSE NEIGHBOUR: 'it returns false'. Refute it at one input. -/
def lawS930001CVerdictWrong : ChangeSpec := { name := "lawS930001CVerdict", fn := fun _ => fun
  | [d1, d2, d3] => { results := [.lit (.bool false)], args := [d1, d2, d3] }
  | _ => none }
def LawS930001CVerdictWrongFalsely : Prop := lawS930001CVerdictRow.holds Ycim.pinned (OpenSpec.ofChange lawS930001CVerdictWrong)

/-- 'varint.LawS930001DExact': WHATEVER THE INPUT: true; the input reads as it did. -/
def lawS930001DExactSpec : ChangeSpec := { name := "lawS930001DExact", fn := fun _ => fun
  | [d1, d2] => { results := [.lit (.bool true)], args := [d1, d2] }
  | _ => none }
def lawS930001DExactRow : OpenClaim := { program := "ymbrci", sum := "e9eb2edb8a7f7f26b5c3ea93d869717565c50f63f359fb1685121748b39e9085", func := "example.com/own/varint.LawS930001DExact", spec := "lawS930001DExact", apart := false }
def LawS930001DExactSaid : Prop := lawS930001DExactRow.holds Ycim.pinned (OpenSpec.ofChange lawS930001DExactSpec)

/-- ITS FALSE NEIGHBOUR: 'it returns false'. Refute it at one input. -/
def lawS930001DExactWrong : ChangeSpec := { name := "lawS930001DExact", fn := fun _ => fun
  | [d1, d2] => { results := [.lit (.bool false)], args := [d1, d2] }
  | _ => none }
def LawS930001DExactWrongFalsely : Prop := lawS930001DExactRow.holds Ycim.pinned (OpenSpec.ofChange lawS930001DExactWrong)

/-- 'varint.LawS930001DSplit': WHATEVER THE INPUT: true; the input reads as it did. -/
def lawS930001DSplitSpec : ChangeSpec := { name := "lawS930001DSplit", fn := fun _ => fun
  | [d1, d2, d3] => { results := [.lit (.bool true)], args := [d1, d2, d3] }
  | _ => none }
def lawS930001DSplitRow : OpenClaim := { program := "ymbrci", sum := "e9eb2edb8a7f7f26b5c3ea93d869717565c50f63f359fb1685121748b39e9085", func := "example.com/own/varint.LawS930001DSplit", spec := "lawS930001DSplit", apart := false }
def LawS930001DSplitSaid : Prop := lawS930001DSplitRow.holds Ycim.pinned (OpenSpec.ofChange lawS930001DSplitSpec)

/-- ITS FALSE NEIGHBOUR: 'it returns false'. Refute it at one input. -/
def lawS930001DSplitWrong : ChangeSpec := { name := "lawS930001DSplit", fn := fun _ => fun
  | [d1, d2, d3] => { results := [.lit (.bool false)], args := [d1, d2, d3] }
  | _ => none }
def LawS930001DSplitWrongFalsely : Prop := lawS930001DSplitRow.holds Ycim.pinned (OpenSpec.ofChange lawS930001DSplitWrong)

/-- 'varint.LawS930001DRoom': WHATEVER THE INPUT: true; the input reads as it did. -/
def lawS930001DRoomSpec : ChangeSpec := { name := "lawS930001DRoom", fn := fun _ => fun
  | [d1, d2, d3] => { results := [.lit (.bool true)], args := [d1, d2, d3] }
  | _ => none }
def lawS930001DRoomRow : OpenClaim := { program := "ymbrci", sum := "e9eb2edb8a7f7f26b5c3ea93d869717565c50f63f359fb1685121748b39e9085", func := "example.com/own/varint.LawS930001DRoom", spec := "lawS930001DRoom", apart := false }
def LawS930001DRoomSaid : Prop := lawS930001DRoomRow.holds Ycim.pinned (OpenSpec.ofChange lawS930001DRoomSpec)

/-- ITS FALSE NEIGHBOUR: 'it returns false'. Refute it at one input. -/
def lawS930001DRoomWrong : ChangeSpec := { name := "lawS930001DRoom", fn := fun _ => fun
  | [d1, d2, d3] => { results := [.lit (.bool false)], args := [d1, d2, d3] }
  | _ => none }
def LawS930001DRoomWrongFalsely : Prop := lawS930001DRoomRow.holds Ycim.pinned (OpenSpec.ofChange lawS930001DRoomWrong)

/-- 'varint.LawS930001EExact': WHATEVER THE INPUT: true; the input reads as it did. -/
def lawS930001EExactSpec : ChangeSpec := { name := "lawS930001EExact", fn := fun _ => fun
  | [d] => { results := [.lit (.bool true)], args := [d] }
  | _ => none }
def lawS930001EExactRow : OpenClaim := { program := "ymbrci", sum := "e9eb2edb8a7f7f26b5c3ea93d869717565c50f63f359fb1685121748b39e9085", func := "example.com/own/varint.LawS930001EExact", spec := "lawS930001EExact", apart := false }
def LawS930001EExactSaid : Prop := lawS930001EExactRow.holds Ycim.pinned (OpenSpec.ofChange lawS930001EExactSpec)

/-- ITS FALSE NEIGHBOUR: 'it returns false'. Refute it at one input. -/
def lawS930001EExactWrong : ChangeSpec := { name := "lawS930001EExact", fn := fun _ => fun
  | [d] => { results := [.lit (.bool false)], args := [d] }
  | _ => none }
def LawS930001EExactWrongFalsely : Prop := lawS930001EExactRow.holds Ycim.pinned (OpenSpec.ofChange lawS930001EExactWrong)

end Rows
end Go.Proofs.Ymbrci
