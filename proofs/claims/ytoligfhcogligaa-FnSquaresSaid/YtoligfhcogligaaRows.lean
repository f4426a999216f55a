/-
  No cell of these rows narrows 'for every input' (looked for: loops, veiled, ifaces, maps, wideKeys, modest, calm, conditions, laid).
  DERIVED. THE GIVEN ROWS OF THIS SEAT. 8 by the template 'for every input the law returns true; each argument reads behind the call as it read before'; 0 by the template 'total and deterministic' (their statements: YtoligfhcogligaaTotals.lean).
  GIVEN WITH THE SEED: the statements are not yours to turn. If you find one false, say at which input.
  Laid BY PROGRAM, IN A SANDBOX (cutbox-rows.mjs): the forced cells as the released guide's own fill.sh prints them over the translation feda3cada65c6759… (all of the seat's roots in one cut). By AI agents, Wed Nov 11 2026. No macro, syntax, notation, axiom, sorry.
-/
import Derived.Test.YtoligfhcogligaaChecked
import GoSem.Claim
import GoSem.ClaimJoined
import GoSem.ClaimMapViews
import Derived.JoinedTies
import Derived.KernelRfl
namespace Go.Proofs.Ytoligfhcogligaa
/- THE CELL 'sum', in the pinned program and in every row, IS THE sha256 OF THE DUMP (.gsa) THAT YtoligfhcogligaaProg.lean LOADS. Nothing in Lean hashes anything: it is a label: what it is worth is what the hold of that sum in a sandbox is worth. -/
noncomputable def Try.pinned : Pinned := { name := "ytoligfhcogligaa", sum := "feda3cada65c67593a91d5e78f7300b4703070bf93ff2a0a50ded3083f02835d", checked := Try.checked }
namespace Rows
def none {H : Type} : Left H := { results := [], args := [] }

/-- 'laws.FnBends': WHATEVER THE INPUT: true; the input reads as it did. -/
def fnBendsSpec : ChangeSpec := { name := "fnBends", fn := fun _ => fun
  | [d] => { results := [.lit (.bool true)], args := [d] }
  | _ => none }
def fnBendsRow : OpenClaim := { program := "ytoligfhcogligaa", sum := "feda3cada65c67593a91d5e78f7300b4703070bf93ff2a0a50ded3083f02835d", func := "loop.example/turningwheels/laws.FnBends", spec := "fnBends", unfollowed := true, recurses := true, apart := false }
def FnBendsSaid : Prop := fnBendsRow.holds Try.pinned (OpenSpec.ofChange fnBendsSpec)

/-- ITS FALSE NEIGHBOUR: 'it returns false'. Refute it at one input. -/
def fnBendsWrong : ChangeSpec := { name := "fnBends", fn := fun _ => fun
  | [d] => { results := [.lit (.bool false)], args := [d] }
  | _ => none }
def FnBendsWrongFalsely : Prop := fnBendsRow.holds Try.pinned (OpenSpec.ofChange fnBendsWrong)

/-- 'laws.FnTurns': WHATEVER THE INPUT: true; the input reads as it did. -/
def fnTurnsSpec : ChangeSpec := { name := "fnTurns", fn := fun _ => fun
  | [d] => { results := [.lit (.bool true)], args := [d] }
  | _ => none }
def fnTurnsRow : OpenClaim := { program := "ytoligfhcogligaa", sum := "feda3cada65c67593a91d5e78f7300b4703070bf93ff2a0a50ded3083f02835d", func := "loop.example/turningwheels/laws.FnTurns", spec := "fnTurns", unfollowed := true, recurses := true, apart := false }
def FnTurnsSaid : Prop := fnTurnsRow.holds Try.pinned (OpenSpec.ofChange fnTurnsSpec)

/-- ITS FALSE NEIGHBOUR: 'it returns false'. Refute it at one input. -/
def fnTurnsWrong : ChangeSpec := { name := "fnTurns", fn := fun _ => fun
  | [d] => { results := [.lit (.bool false)], args := [d] }
  | _ => none }
def FnTurnsWrongFalsely : Prop := fnTurnsRow.holds Try.pinned (OpenSpec.ofChange fnTurnsWrong)

/-- 'laws.FnArea': WHATEVER THE INPUT: true; the input reads as it did. -/
def fnAreaSpec : ChangeSpec := { name := "fnArea", fn := fun _ => fun
  | [d] => { results := [.lit (.bool true)], args := [d] }
  | _ => none }
def fnAreaRow : OpenClaim := { program := "ytoligfhcogligaa", sum := "feda3cada65c67593a91d5e78f7300b4703070bf93ff2a0a50ded3083f02835d", func := "loop.example/turningwheels/laws.FnArea", spec := "fnArea", unfollowed := true, recurses := true, apart := false }
def FnAreaSaid : Prop := fnAreaRow.holds Try.pinned (OpenSpec.ofChange fnAreaSpec)

/-- ITS FALSE NEIGHBOUR: 'it returns false'. Refute it at one input. -/
def fnAreaWrong : ChangeSpec := { name := "fnArea", fn := fun _ => fun
  | [d] => { results := [.lit (.bool false)], args := [d] }
  | _ => none }
def FnAreaWrongFalsely : Prop := fnAreaRow.holds Try.pinned (OpenSpec.ofChange fnAreaWrong)

/-- 'laws.FnPoly': WHATEVER THE INPUT: true; the input reads as it did. -/
def fnPolySpec : ChangeSpec := { name := "fnPoly", fn := fun _ => fun
  | [d] => { results := [.lit (.bool true)], args := [d] }
  | _ => none }
def fnPolyRow : OpenClaim := { program := "ytoligfhcogligaa", sum := "feda3cada65c67593a91d5e78f7300b4703070bf93ff2a0a50ded3083f02835d", func := "loop.example/turningwheels/laws.FnPoly", spec := "fnPoly", unfollowed := true, recurses := true, apart := false }
def FnPolySaid : Prop := fnPolyRow.holds Try.pinned (OpenSpec.ofChange fnPolySpec)

/-- ITS FALSE NEIGHBOUR: 'it returns false'. Refute it at one input. -/
def fnPolyWrong : ChangeSpec := { name := "fnPoly", fn := fun _ => fun
  | [d] => { results := [.lit (.bool false)], args := [d] }
  | _ => none }
def FnPolyWrongFalsely : Prop := fnPolyRow.holds Try.pinned (OpenSpec.ofChange fnPolyWrong)

/-- 'laws.FnOn': WHATEVER THE INPUT: true; the input reads as it did. -/
def fnOnSpec : ChangeSpec := { name := "fnOn", fn := fun _ => fun
  | [d] => { results := [.lit (.bool true)], args := [d] }
  | _ => none }
def fnOnRow : OpenClaim := { program := "ytoligfhcogligaa", sum := "feda3cada65c67593a91d5e78f7300b4703070bf93ff2a0a50ded3083f02835d", func := "loop.example/turningwheels/laws.FnOn", spec := "fnOn", unfollowed := true, recurses := true, apart := false }
def FnOnSaid : Prop := fnOnRow.holds Try.pinned (OpenSpec.ofChange fnOnSpec)

/-- ITS FALSE NEIGHBOUR: 'it returns false'. Refute it at one input. -/
def fnOnWrong : ChangeSpec := { name := "fnOn", fn := fun _ => fun
  | [d] => { results := [.lit (.bool false)], args := [d] }
  | _ => none }
def FnOnWrongFalsely : Prop := fnOnRow.holds Try.pinned (OpenSpec.ofChange fnOnWrong)

/-- 'laws.FnWinding': WHATEVER THE INPUT: true; the input reads as it did. -/
def fnWindingSpec : ChangeSpec := { name := "fnWinding", fn := fun _ => fun
  | [d] => { results := [.lit (.bool true)], args := [d] }
  | _ => none }
def fnWindingRow : OpenClaim := { program := "ytoligfhcogligaa", sum := "feda3cada65c67593a91d5e78f7300b4703070bf93ff2a0a50ded3083f02835d", func := "loop.example/turningwheels/laws.FnWinding", spec := "fnWinding", unfollowed := true, recurses := true, apart := false }
def FnWindingSaid : Prop := fnWindingRow.holds Try.pinned (OpenSpec.ofChange fnWindingSpec)

/-- ITS FALSE NEIGHBOUR: 'it returns false'. Refute it at one input. -/
def fnWindingWrong : ChangeSpec := { name := "fnWinding", fn := fun _ => fun
  | [d] => { results := [.lit (.bool false)], args := [d] }
  | _ => none }
def FnWindingWrongFalsely : Prop := fnWindingRow.holds Try.pinned (OpenSpec.ofChange fnWindingWrong)

/-- 'laws.FnSquares': WHATEVER THE INPUT: true; the input reads as it did. -/
def fnSquaresSpec : ChangeSpec := { name := "fnSquares", fn := fun _ => fun
  | [d] => { results := [.lit (.bool true)], args := [d] }
  | _ => none }
def fnSquaresRow : OpenClaim := { program := "ytoligfhcogligaa", sum := "feda3cada65c67593a91d5e78f7300b4703070bf93ff2a0a50ded3083f02835d", func := "loop.example/turningwheels/laws.FnSquares", spec := "fnSquares", unfollowed := true, recurses := true, apart := false }
def FnSquaresSaid : Prop := fnSquaresRow.holds Try.pinned (OpenSpec.ofChange fnSquaresSpec)

/-- ITS FALSE NEIGHBOUR: 'it returns false'. Refute it at one input. -/
def fnSquaresWrong : ChangeSpec := { name := "fnSquares", fn := fun _ => fun
  | [d] => { results := [.lit (.bool false)], args := [d] }
  | _ => none }
def FnSquaresWrongFalsely : Prop := fnSquaresRow.holds Try.pinned (OpenSpec.ofChange fnSquaresWrong)

/-- 'laws.FnConvex': WHATEVER THE INPUT: true; the input reads as it did. -/
def fnConvexSpec : ChangeSpec := { name := "fnConvex", fn := fun _ => fun
  | [d] => { results := [.lit (.bool true)], args := [d] }
  | _ => none }
def fnConvexRow : OpenClaim := { program := "ytoligfhcogligaa", sum := "feda3cada65c67593a91d5e78f7300b4703070bf93ff2a0a50ded3083f02835d", func := "loop.example/turningwheels/laws.FnConvex", spec := "fnConvex", unfollowed := true, recurses := true, apart := false }
def FnConvexSaid : Prop := fnConvexRow.holds Try.pinned (OpenSpec.ofChange fnConvexSpec)

/-- ITS FALSE NEIGHBOUR: 'it returns false'. Refute it at one input. -/
def fnConvexWrong : ChangeSpec := { name := "fnConvex", fn := fun _ => fun
  | [d] => { results := [.lit (.bool false)], args := [d] }
  | _ => none }
def FnConvexWrongFalsely : Prop := fnConvexRow.holds Try.pinned (OpenSpec.ofChange fnConvexWrong)

/- THE SECOND FORM. 'bulk': how many values and letters a reading holds, each counted each time it is reached (what is shared counts as often as it is met; a slice's spare places count too). A statement '..UptoSaid' is the law's where the arguments, and the package variables that the reading takes, are together of bulk at most 1048576: NARROWER than '..Said'. Prove '..Said' where nothing that the law and all that it calls make is longer than what came in: it says more and counts as full. Else prove '..UptoSaid'. A law counts once. -/
mutual
def uptoBulk {H : Type} : DataW H → Nat
  | .lit (.string bytes) => bytes.length + 1
  | .lit _ => 1
  | .nil => 1
  | .ptr d => uptoBulk d + 1
  | .slice elems spare => uptoBulkAll elems + uptoBulkAll spare + 1
  | .agg parts => uptoBulkAll parts + 1
  | .iface _ d => uptoBulk d + 1
  | .map entries => uptoBulkEntries entries + 1
  | .held _ => 1
def uptoBulkAll {H : Type} : List (DataW H) → Nat
  | [] => 0
  | d :: r => uptoBulk d + uptoBulkAll r
def uptoBulkEntries {H : Type} : List (Lit × DataW H) → Nat
  | [] => 0
  | x :: r => uptoBulkEntry x + uptoBulkEntries r
def uptoBulkEntry {H : Type} : Lit × DataW H → Nat
  | (.string bytes, d) => bytes.length + uptoBulk d + 1
  | (_, d) => uptoBulk d + 1
 end
def uptoSmall : (H : Type) → List (DataW H) → Bool := fun _ ds => decide (uptoBulkAll ds ≤ 1048576)
def OpenSpec.upto (s : _root_.Go.ChangeSpec) : _root_.Go.OpenSpec := { _root_.Go.OpenSpec.ofChange s with cond := some uptoSmall }

/-- 'laws.FnBends', WHERE WHAT IT READS IS OF BULK AT MOST 1048576: true; the input reads as it did. -/
def fnBendsUptoRow : OpenClaim := { program := "ytoligfhcogligaa", sum := "feda3cada65c67593a91d5e78f7300b4703070bf93ff2a0a50ded3083f02835d", func := "loop.example/turningwheels/laws.FnBends", spec := "fnBends", unfollowed := true, recurses := true, apart := false, narrowed := true }
def FnBendsUptoSaid : Prop := fnBendsUptoRow.holds Try.pinned (OpenSpec.upto fnBendsSpec)

/-- 'laws.FnTurns', WHERE WHAT IT READS IS OF BULK AT MOST 1048576: true; the input reads as it did. -/
def fnTurnsUptoRow : OpenClaim := { program := "ytoligfhcogligaa", sum := "feda3cada65c67593a91d5e78f7300b4703070bf93ff2a0a50ded3083f02835d", func := "loop.example/turningwheels/laws.FnTurns", spec := "fnTurns", unfollowed := true, recurses := true, apart := false, narrowed := true }
def FnTurnsUptoSaid : Prop := fnTurnsUptoRow.holds Try.pinned (OpenSpec.upto fnTurnsSpec)

/-- 'laws.FnArea', WHERE WHAT IT READS IS OF BULK AT MOST 1048576: true; the input reads as it did. -/
def fnAreaUptoRow : OpenClaim := { program := "ytoligfhcogligaa", sum := "feda3cada65c67593a91d5e78f7300b4703070bf93ff2a0a50ded3083f02835d", func := "loop.example/turningwheels/laws.FnArea", spec := "fnArea", unfollowed := true, recurses := true, apart := false, narrowed := true }
def FnAreaUptoSaid : Prop := fnAreaUptoRow.holds Try.pinned (OpenSpec.upto fnAreaSpec)

/-- 'laws.FnPoly', WHERE WHAT IT READS IS OF BULK AT MOST 1048576: true; the input reads as it did. -/
def fnPolyUptoRow : OpenClaim := { program := "ytoligfhcogligaa", sum := "feda3cada65c67593a91d5e78f7300b4703070bf93ff2a0a50ded3083f02835d", func := "loop.example/turningwheels/laws.FnPoly", spec := "fnPoly", unfollowed := true, recurses := true, apart := false, narrowed := true }
def FnPolyUptoSaid : Prop := fnPolyUptoRow.holds Try.pinned (OpenSpec.upto fnPolySpec)

/-- 'laws.FnOn', WHERE WHAT IT READS IS OF BULK AT MOST 1048576: true; the input reads as it did. -/
def fnOnUptoRow : OpenClaim := { program := "ytoligfhcogligaa", sum := "feda3cada65c67593a91d5e78f7300b4703070bf93ff2a0a50ded3083f02835d", func := "loop.example/turningwheels/laws.FnOn", spec := "fnOn", unfollowed := true, recurses := true, apart := false, narrowed := true }
def FnOnUptoSaid : Prop := fnOnUptoRow.holds Try.pinned (OpenSpec.upto fnOnSpec)

/-- 'laws.FnWinding', WHERE WHAT IT READS IS OF BULK AT MOST 1048576: true; the input reads as it did. -/
def fnWindingUptoRow : OpenClaim := { program := "ytoligfhcogligaa", sum := "feda3cada65c67593a91d5e78f7300b4703070bf93ff2a0a50ded3083f02835d", func := "loop.example/turningwheels/laws.FnWinding", spec := "fnWinding", unfollowed := true, recurses := true, apart := false, narrowed := true }
def FnWindingUptoSaid : Prop := fnWindingUptoRow.holds Try.pinned (OpenSpec.upto fnWindingSpec)

/-- 'laws.FnSquares', WHERE WHAT IT READS IS OF BULK AT MOST 1048576: true; the input reads as it did. -/
def fnSquaresUptoRow : OpenClaim := { program := "ytoligfhcogligaa", sum := "feda3cada65c67593a91d5e78f7300b4703070bf93ff2a0a50ded3083f02835d", func := "loop.example/turningwheels/laws.FnSquares", spec := "fnSquares", unfollowed := true, recurses := true, apart := false, narrowed := true }
def FnSquaresUptoSaid : Prop := fnSquaresUptoRow.holds Try.pinned (OpenSpec.upto fnSquaresSpec)

/-- 'laws.FnConvex', WHERE WHAT IT READS IS OF BULK AT MOST 1048576: true; the input reads as it did. -/
def fnConvexUptoRow : OpenClaim := { program := "ytoligfhcogligaa", sum := "feda3cada65c67593a91d5e78f7300b4703070bf93ff2a0a50ded3083f02835d", func := "loop.example/turningwheels/laws.FnConvex", spec := "fnConvex", unfollowed := true, recurses := true, apart := false, narrowed := true }
def FnConvexUptoSaid : Prop := fnConvexUptoRow.holds Try.pinned (OpenSpec.upto fnConvexSpec)

end Rows
end Go.Proofs.Ytoligfhcogligaa
