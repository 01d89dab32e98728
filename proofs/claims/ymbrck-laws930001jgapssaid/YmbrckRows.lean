/-
  No cell of these rows narrows 'for every input' (looked for: loops, veiled, ifaces, maps, wideKeys, modest, calm, conditions, laid).
  DERIVED. THE GIVEN ROWS OF THIS SEAT. 4 by the template 'for every input the law returns true; each argument reads behind the call as it read before'; 0 by the template 'total and deterministic' (their statements: YmbrckTotals.lean).
  GIVEN WITH THE SEED: the statements are not yours to turn. If you find one false, say at which input.
  Laid BY PROGRAM, IN A SANDBOX (cutbox-rows.mjs): the forced cells as the released guide's own fill.sh prints them over the translation 590fe1511fed1aef… (all of the seat's roots in one cut). By AI agents, Wed Nov 11 2026. No macro, syntax, notation, axiom, sorry.
-/
import Derived.Test.YmbrckChecked
import GoSem.Claim
import GoSem.ClaimJoined
import GoSem.ClaimMapViews
import Derived.JoinedTies
import Derived.KernelRfl
namespace Go.Proofs.Ymbrck
/- THE CELL 'sum', in the pinned program and in every row, IS THE sha256 OF THE DUMP (.gsa) THAT YmbrckProg.lean LOADS. Nothing in Lean hashes anything: it is a label: what it is worth is what the hold of that sum in a sandbox is worth. -/
noncomputable def Yckm.pinned : Pinned := { name := "ymbrck", sum := "590fe1511fed1aeff107964fe1f5bb723f57feaca0c14e094f67acde89e61dde", checked := Yckm.checked }
namespace Rows
def none {H : Type} : Left H := { results := [], args := [] }

/-- 'varint.LawS930001IDent': WHATEVER THE INPUT: true; the input reads as it did. -/
def lawS930001IDentSpec : ChangeSpec := { name := "lawS930001IDent", fn := fun _ => fun
  | [d1, d2, d3] => { results := [.lit (.bool true)], args := [d1, d2, d3] }
  | _ => none }
def lawS930001IDentRow : OpenClaim := { program := "ymbrck", sum := "590fe1511fed1aeff107964fe1f5bb723f57feaca0c14e094f67acde89e61dde", func := "example.com/own/varint.LawS930001IDent", spec := "lawS930001IDent", apart := false }
def LawS930001IDentSaid : Prop := lawS930001IDentRow.holds Yckm.pinned (OpenSpec.ofChange lawS930001IDentSpec)

/-- ITS FALSE NEIGHBOUR: 'it returns false'. Refute it at one input. -/
def lawS930001IDentWrong : ChangeSpec := { name := "lawS930001IDent", fn := fun _ => fun
  | [d1, d2, d3] => { results := [.lit (.bool false)], args := [d1, d2, d3] }
  | _ => none }
def LawS930001IDentWrongFalsely : Prop := lawS930001IDentRow.holds Yckm.pinned (OpenSpec.ofChange lawS930001IDentWrong)

/-- 'varint.LawS930001ISplit': WHATEVER THE INPUT: true; the input reads as it did. -/
def lawS930001ISplitSpec : ChangeSpec := { name := "lawS930001ISplit", fn := fun _ => fun
  | [d1, d2] => { results := [.lit (.bool true)], args := [d1, d2] }
  | _ => none }
def lawS930001ISplitRow : OpenClaim := { program := "ymbrck", sum := "590fe1511fed1aeff107964fe1f5bb723f57feaca0c14e094f67acde89e61dde", func := "example.com/own/varint.LawS930001ISplit", spec := "lawS930001ISplit", apart := false }
def LawS930001ISplitSaid : Prop := lawS930001ISplitRow.holds Yckm.pinned (OpenSpec.ofChange lawS930001ISplitSpec)

/-- ITS FALSE NEIGHBOUR: 'it returns false'. Refute it at one input. -/
def lawS930001ISplitWrong : ChangeSpec := { name := "lawS930001ISplit", fn := fun _ => fun
  | [d1, d2] => { results := [.lit (.bool false)], args := [d1, d2] }
  | _ => none }
def LawS930001ISplitWrongFalsely : Prop := lawS930001ISplitRow.holds Yckm.pinned (OpenSpec.ofChange lawS930001ISplitWrong)

/-- 'varint.LawS930001JBytes': WHATEVER THE INPUT: true; the input reads as it did. -/
def lawS930001JBytesSpec : ChangeSpec := { name := "lawS930001JBytes", fn := fun _ => fun
  | [d] => { results := [.lit (.bool true)], args := [d] }
  | _ => none }
def lawS930001JBytesRow : OpenClaim := { program := "ymbrck", sum := "590fe1511fed1aeff107964fe1f5bb723f57feaca0c14e094f67acde89e61dde", func := "example.com/own/varint.LawS930001JBytes", spec := "lawS930001JBytes", apart := false }
def LawS930001JBytesSaid : Prop := lawS930001JBytesRow.holds Yckm.pinned (OpenSpec.ofChange lawS930001JBytesSpec)

/-- ITS FALSE NEIGHBOUR: 'it returns false'. Refute it at one input. -/
def lawS930001JBytesWrong : ChangeSpec := { name := "lawS930001JBytes", fn := fun _ => fun
  | [d] => { results := [.lit (.bool false)], args := [d] }
  | _ => none }
def LawS930001JBytesWrongFalsely : Prop := lawS930001JBytesRow.holds Yckm.pinned (OpenSpec.ofChange lawS930001JBytesWrong)

/-- 'varint.LawS930001JGaps': WHATEVER THE INPUT: true; the input reads as it did. -/
def lawS930001JGapsSpec : ChangeSpec := { name := "lawS930001JGaps", fn := fun _ => fun
  | [d1, d2, d3] => { results := [.lit (.bool true)], args := [d1, d2, d3] }
  | _ => none }
def lawS930001JGapsRow : OpenClaim := { program := "ymbrck", sum := "590fe1511fed1aeff107964fe1f5bb723f57feaca0c14e094f67acde89e61dde", func := "example.com/own/varint.LawS930001JGaps", spec := "lawS930001JGaps", apart := false }
def LawS930001JGapsSaid : Prop := lawS930001JGapsRow.holds Yckm.pinned (OpenSpec.ofChange lawS930001JGapsSpec)

/-- ITS FALSE NEIGHBOUR: 'it returns false'. Refute it at one input. -/
def lawS930001JGapsWrong : ChangeSpec := { name := "lawS930001JGaps", fn := fun _ => fun
  | [d1, d2, d3] => { results := [.lit (.bool false)], args := [d1, d2, d3] }
  | _ => none }
def LawS930001JGapsWrongFalsely : Prop := lawS930001JGapsRow.holds Yckm.pinned (OpenSpec.ofChange lawS930001JGapsWrong)

end Rows
end Go.Proofs.Ymbrck
