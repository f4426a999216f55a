/-
  No cell of these rows narrows 'for every input' (looked for: loops, veiled, ifaces, maps, wideKeys, modest, calm, conditions, laid).
  DERIVED. THE GIVEN ROWS OF THIS SEAT. 12 by the template 'for every input the law returns true; each argument reads behind the call as it read before'; 0 by the template 'total and deterministic' (their statements: YtnlfdcjpeoafhaaTotals.lean).
  GIVEN WITH THE SEED: the statements are not yours to turn. If you find one false, say at which input.
  Laid BY PROGRAM, IN A SANDBOX (cutbox-rows.mjs): the forced cells as the released guide's own fill.sh prints them over the translation 80ba15abdcb0ee85… (all of the seat's roots in one cut). By AI agents, Wed Nov 11 2026. No macro, syntax, notation, axiom, sorry.
-/
import Derived.Test.YtnlfdcjpeoafhaaChecked
import GoSem.Claim
import GoSem.ClaimJoined
import GoSem.ClaimMapViews
import Derived.JoinedTies
import Derived.KernelRfl
namespace Go.Proofs.Ytnlfdcjpeoafhaa
/- THE CELL 'sum', in the pinned program and in every row, IS THE sha256 OF THE DUMP (.gsa) THAT YtnlfdcjpeoafhaaProg.lean LOADS. Nothing in Lean hashes anything: it is a label: what it is worth is what the hold of that sum in a sandbox is worth. -/
noncomputable def Try.pinned : Pinned := { name := "ytnlfdcjpeoafhaa", sum := "80ba15abdcb0ee858e31e94cb4f7d70173552b430aca617f2b7ebb8f51a1506c", checked := Try.checked }
namespace Rows
def none {H : Type} : Left H := { results := [], args := [] }

/-- 'laws.FnExactDesignMirror': WHATEVER THE INPUT: true; the input reads as it did. -/
def fnExactDesignMirrorSpec : ChangeSpec := { name := "fnExactDesignMirror", fn := fun _ => fun
  | [d] => { results := [.lit (.bool true)], args := [d] }
  | _ => none }
def fnExactDesignMirrorRow : OpenClaim := { program := "ytnlfdcjpeoafhaa", sum := "80ba15abdcb0ee858e31e94cb4f7d70173552b430aca617f2b7ebb8f51a1506c", func := "loop.example/turningwheels/laws.FnExactDesignMirror", spec := "fnExactDesignMirror", unfollowed := true, recurses := true, apart := false }
def FnExactDesignMirrorSaid : Prop := fnExactDesignMirrorRow.holds Try.pinned (OpenSpec.ofChange fnExactDesignMirrorSpec)

/-- ITS FALSE NEIGHBOUR: 'it returns false'. Refute it at one input. -/
def fnExactDesignMirrorWrong : ChangeSpec := { name := "fnExactDesignMirror", fn := fun _ => fun
  | [d] => { results := [.lit (.bool false)], args := [d] }
  | _ => none }
def FnExactDesignMirrorWrongFalsely : Prop := fnExactDesignMirrorRow.holds Try.pinned (OpenSpec.ofChange fnExactDesignMirrorWrong)

/-- 'laws.FnExactDesignTimes': WHATEVER THE INPUT: true; the input reads as it did. -/
def fnExactDesignTimesSpec : ChangeSpec := { name := "fnExactDesignTimes", fn := fun _ => fun
  | [d1, d2] => { results := [.lit (.bool true)], args := [d1, d2] }
  | _ => none }
def fnExactDesignTimesRow : OpenClaim := { program := "ytnlfdcjpeoafhaa", sum := "80ba15abdcb0ee858e31e94cb4f7d70173552b430aca617f2b7ebb8f51a1506c", func := "loop.example/turningwheels/laws.FnExactDesignTimes", spec := "fnExactDesignTimes", unfollowed := true, recurses := true, apart := false }
def FnExactDesignTimesSaid : Prop := fnExactDesignTimesRow.holds Try.pinned (OpenSpec.ofChange fnExactDesignTimesSpec)

/-- ITS FALSE NEIGHBOUR: 'it returns false'. Refute it at one input. -/
def fnExactDesignTimesWrong : ChangeSpec := { name := "fnExactDesignTimes", fn := fun _ => fun
  | [d1, d2] => { results := [.lit (.bool false)], args := [d1, d2] }
  | _ => none }
def FnExactDesignTimesWrongFalsely : Prop := fnExactDesignTimesRow.holds Try.pinned (OpenSpec.ofChange fnExactDesignTimesWrong)

/-- 'laws.FnExactDesignLater': WHATEVER THE INPUT: true; the input reads as it did. -/
def fnExactDesignLaterSpec : ChangeSpec := { name := "fnExactDesignLater", fn := fun _ => fun
  | [d1, d2] => { results := [.lit (.bool true)], args := [d1, d2] }
  | _ => none }
def fnExactDesignLaterRow : OpenClaim := { program := "ytnlfdcjpeoafhaa", sum := "80ba15abdcb0ee858e31e94cb4f7d70173552b430aca617f2b7ebb8f51a1506c", func := "loop.example/turningwheels/laws.FnExactDesignLater", spec := "fnExactDesignLater", unfollowed := true, recurses := true, apart := false }
def FnExactDesignLaterSaid : Prop := fnExactDesignLaterRow.holds Try.pinned (OpenSpec.ofChange fnExactDesignLaterSpec)

/-- ITS FALSE NEIGHBOUR: 'it returns false'. Refute it at one input. -/
def fnExactDesignLaterWrong : ChangeSpec := { name := "fnExactDesignLater", fn := fun _ => fun
  | [d1, d2] => { results := [.lit (.bool false)], args := [d1, d2] }
  | _ => none }
def FnExactDesignLaterWrongFalsely : Prop := fnExactDesignLaterRow.holds Try.pinned (OpenSpec.ofChange fnExactDesignLaterWrong)

/-- 'laws.FnExactDesignTurned': WHATEVER THE INPUT: true; the input reads as it did. -/
def fnExactDesignTurnedSpec : ChangeSpec := { name := "fnExactDesignTurned", fn := fun _ => fun
  | [d1, d2] => { results := [.lit (.bool true)], args := [d1, d2] }
  | _ => none }
def fnExactDesignTurnedRow : OpenClaim := { program := "ytnlfdcjpeoafhaa", sum := "80ba15abdcb0ee858e31e94cb4f7d70173552b430aca617f2b7ebb8f51a1506c", func := "loop.example/turningwheels/laws.FnExactDesignTurned", spec := "fnExactDesignTurned", unfollowed := true, recurses := true, apart := false }
def FnExactDesignTurnedSaid : Prop := fnExactDesignTurnedRow.holds Try.pinned (OpenSpec.ofChange fnExactDesignTurnedSpec)

/-- ITS FALSE NEIGHBOUR: 'it returns false'. Refute it at one input. -/
def fnExactDesignTurnedWrong : ChangeSpec := { name := "fnExactDesignTurned", fn := fun _ => fun
  | [d1, d2] => { results := [.lit (.bool false)], args := [d1, d2] }
  | _ => none }
def FnExactDesignTurnedWrongFalsely : Prop := fnExactDesignTurnedRow.holds Try.pinned (OpenSpec.ofChange fnExactDesignTurnedWrong)

/-- 'laws.FnExactDesignClosed': WHATEVER THE INPUT: true; the input reads as it did. -/
def fnExactDesignClosedSpec : ChangeSpec := { name := "fnExactDesignClosed", fn := fun _ => fun
  | [d1, d2] => { results := [.lit (.bool true)], args := [d1, d2] }
  | _ => none }
def fnExactDesignClosedRow : OpenClaim := { program := "ytnlfdcjpeoafhaa", sum := "80ba15abdcb0ee858e31e94cb4f7d70173552b430aca617f2b7ebb8f51a1506c", func := "loop.example/turningwheels/laws.FnExactDesignClosed", spec := "fnExactDesignClosed", unfollowed := true, recurses := true, apart := false }
def FnExactDesignClosedSaid : Prop := fnExactDesignClosedRow.holds Try.pinned (OpenSpec.ofChange fnExactDesignClosedSpec)

/-- ITS FALSE NEIGHBOUR: 'it returns false'. Refute it at one input. -/
def fnExactDesignClosedWrong : ChangeSpec := { name := "fnExactDesignClosed", fn := fun _ => fun
  | [d1, d2] => { results := [.lit (.bool false)], args := [d1, d2] }
  | _ => none }
def FnExactDesignClosedWrongFalsely : Prop := fnExactDesignClosedRow.holds Try.pinned (OpenSpec.ofChange fnExactDesignClosedWrong)

/-- 'laws.FnExactRowDesign': WHATEVER THE INPUT: true; the input reads as it did. -/
def fnExactRowDesignSpec : ChangeSpec := { name := "fnExactRowDesign", fn := fun _ => fun
  | [d] => { results := [.lit (.bool true)], args := [d] }
  | _ => none }
def fnExactRowDesignRow : OpenClaim := { program := "ytnlfdcjpeoafhaa", sum := "80ba15abdcb0ee858e31e94cb4f7d70173552b430aca617f2b7ebb8f51a1506c", func := "loop.example/turningwheels/laws.FnExactRowDesign", spec := "fnExactRowDesign", unfollowed := true, recurses := true, apart := false }
def FnExactRowDesignSaid : Prop := fnExactRowDesignRow.holds Try.pinned (OpenSpec.ofChange fnExactRowDesignSpec)

/-- ITS FALSE NEIGHBOUR: 'it returns false'. Refute it at one input. -/
def fnExactRowDesignWrong : ChangeSpec := { name := "fnExactRowDesign", fn := fun _ => fun
  | [d] => { results := [.lit (.bool false)], args := [d] }
  | _ => none }
def FnExactRowDesignWrongFalsely : Prop := fnExactRowDesignRow.holds Try.pinned (OpenSpec.ofChange fnExactRowDesignWrong)

/-- 'laws.FnExactDesignAkin': WHATEVER THE INPUT: true; the input reads as it did. -/
def fnExactDesignAkinSpec : ChangeSpec := { name := "fnExactDesignAkin", fn := fun _ => fun
  | [d1, d2] => { results := [.lit (.bool true)], args := [d1, d2] }
  | _ => none }
def fnExactDesignAkinRow : OpenClaim := { program := "ytnlfdcjpeoafhaa", sum := "80ba15abdcb0ee858e31e94cb4f7d70173552b430aca617f2b7ebb8f51a1506c", func := "loop.example/turningwheels/laws.FnExactDesignAkin", spec := "fnExactDesignAkin", unfollowed := true, recurses := true, apart := false }
def FnExactDesignAkinSaid : Prop := fnExactDesignAkinRow.holds Try.pinned (OpenSpec.ofChange fnExactDesignAkinSpec)

/-- ITS FALSE NEIGHBOUR: 'it returns false'. Refute it at one input. -/
def fnExactDesignAkinWrong : ChangeSpec := { name := "fnExactDesignAkin", fn := fun _ => fun
  | [d1, d2] => { results := [.lit (.bool false)], args := [d1, d2] }
  | _ => none }
def FnExactDesignAkinWrongFalsely : Prop := fnExactDesignAkinRow.holds Try.pinned (OpenSpec.ofChange fnExactDesignAkinWrong)

/-- 'laws.FnExactDesignCheck': WHATEVER THE INPUT: true; the input reads as it did. -/
def fnExactDesignCheckSpec : ChangeSpec := { name := "fnExactDesignCheck", fn := fun _ => fun
  | [d] => { results := [.lit (.bool true)], args := [d] }
  | _ => none }
def fnExactDesignCheckRow : OpenClaim := { program := "ytnlfdcjpeoafhaa", sum := "80ba15abdcb0ee858e31e94cb4f7d70173552b430aca617f2b7ebb8f51a1506c", func := "loop.example/turningwheels/laws.FnExactDesignCheck", spec := "fnExactDesignCheck", inPlace := ["math.Float32bits"], unfollowed := true, recurses := true, apart := false }
def FnExactDesignCheckSaid : Prop := fnExactDesignCheckRow.holds Try.pinned (OpenSpec.ofChange fnExactDesignCheckSpec)

/-- ITS FALSE NEIGHBOUR: 'it returns false'. Refute it at one input. -/
def fnExactDesignCheckWrong : ChangeSpec := { name := "fnExactDesignCheck", fn := fun _ => fun
  | [d] => { results := [.lit (.bool false)], args := [d] }
  | _ => none }
def FnExactDesignCheckWrongFalsely : Prop := fnExactDesignCheckRow.holds Try.pinned (OpenSpec.ofChange fnExactDesignCheckWrong)

/-- 'laws.FnExactDesignStill': WHATEVER THE INPUT: true; the input reads as it did. -/
def fnExactDesignStillSpec : ChangeSpec := { name := "fnExactDesignStill", fn := fun _ => fun
  | [d] => { results := [.lit (.bool true)], args := [d] }
  | _ => none }
def fnExactDesignStillRow : OpenClaim := { program := "ytnlfdcjpeoafhaa", sum := "80ba15abdcb0ee858e31e94cb4f7d70173552b430aca617f2b7ebb8f51a1506c", func := "loop.example/turningwheels/laws.FnExactDesignStill", spec := "fnExactDesignStill", unfollowed := true, recurses := true, apart := false }
def FnExactDesignStillSaid : Prop := fnExactDesignStillRow.holds Try.pinned (OpenSpec.ofChange fnExactDesignStillSpec)

/-- ITS FALSE NEIGHBOUR: 'it returns false'. Refute it at one input. -/
def fnExactDesignStillWrong : ChangeSpec := { name := "fnExactDesignStill", fn := fun _ => fun
  | [d] => { results := [.lit (.bool false)], args := [d] }
  | _ => none }
def FnExactDesignStillWrongFalsely : Prop := fnExactDesignStillRow.holds Try.pinned (OpenSpec.ofChange fnExactDesignStillWrong)

/-- 'laws.FnExactDesignMirrored': WHATEVER THE INPUT: true; the input reads as it did. -/
def fnExactDesignMirroredSpec : ChangeSpec := { name := "fnExactDesignMirrored", fn := fun _ => fun
  | [d] => { results := [.lit (.bool true)], args := [d] }
  | _ => none }
def fnExactDesignMirroredRow : OpenClaim := { program := "ytnlfdcjpeoafhaa", sum := "80ba15abdcb0ee858e31e94cb4f7d70173552b430aca617f2b7ebb8f51a1506c", func := "loop.example/turningwheels/laws.FnExactDesignMirrored", spec := "fnExactDesignMirrored", unfollowed := true, recurses := true, apart := false }
def FnExactDesignMirroredSaid : Prop := fnExactDesignMirroredRow.holds Try.pinned (OpenSpec.ofChange fnExactDesignMirroredSpec)

/-- ITS FALSE NEIGHBOUR: 'it returns false'. Refute it at one input. -/
def fnExactDesignMirroredWrong : ChangeSpec := { name := "fnExactDesignMirrored", fn := fun _ => fun
  | [d] => { results := [.lit (.bool false)], args := [d] }
  | _ => none }
def FnExactDesignMirroredWrongFalsely : Prop := fnExactDesignMirroredRow.holds Try.pinned (OpenSpec.ofChange fnExactDesignMirroredWrong)

/-- 'laws.FnDesignAt': WHATEVER THE INPUT: true; the input reads as it did. -/
def fnDesignAtSpec : ChangeSpec := { name := "fnDesignAt", fn := fun _ => fun
  | [d] => { results := [.lit (.bool true)], args := [d] }
  | _ => none }
def fnDesignAtRow : OpenClaim := { program := "ytnlfdcjpeoafhaa", sum := "80ba15abdcb0ee858e31e94cb4f7d70173552b430aca617f2b7ebb8f51a1506c", func := "loop.example/turningwheels/laws.FnDesignAt", spec := "fnDesignAt", unfollowed := true, recurses := true, apart := false }
def FnDesignAtSaid : Prop := fnDesignAtRow.holds Try.pinned (OpenSpec.ofChange fnDesignAtSpec)

/-- ITS FALSE NEIGHBOUR: 'it returns false'. Refute it at one input. -/
def fnDesignAtWrong : ChangeSpec := { name := "fnDesignAt", fn := fun _ => fun
  | [d] => { results := [.lit (.bool false)], args := [d] }
  | _ => none }
def FnDesignAtWrongFalsely : Prop := fnDesignAtRow.holds Try.pinned (OpenSpec.ofChange fnDesignAtWrong)

/-- 'laws.FnTidy': WHATEVER THE INPUT: true; the input reads as it did. -/
def fnTidySpec : ChangeSpec := { name := "fnTidy", fn := fun _ => fun
  | [d] => { results := [.lit (.bool true)], args := [d] }
  | _ => none }
def fnTidyRow : OpenClaim := { program := "ytnlfdcjpeoafhaa", sum := "80ba15abdcb0ee858e31e94cb4f7d70173552b430aca617f2b7ebb8f51a1506c", func := "loop.example/turningwheels/laws.FnTidy", spec := "fnTidy", unfollowed := true, recurses := true, apart := false }
def FnTidySaid : Prop := fnTidyRow.holds Try.pinned (OpenSpec.ofChange fnTidySpec)

/-- ITS FALSE NEIGHBOUR: 'it returns false'. Refute it at one input. -/
def fnTidyWrong : ChangeSpec := { name := "fnTidy", fn := fun _ => fun
  | [d] => { results := [.lit (.bool false)], args := [d] }
  | _ => none }
def FnTidyWrongFalsely : Prop := fnTidyRow.holds Try.pinned (OpenSpec.ofChange fnTidyWrong)

/- THE SECOND FORM. 'bulk': how many values and letters a reading holds, each counted each time it is reached (what is shared counts as often as it is met; a slice's spare places count too). A statement '..UptoSaid' is the law's where the arguments, and the package variables that the reading takes, are together of bulk at most 1048576: NARROWER than '..Said'. Prove '..Said' where nothing that the law and all that it calls make is longer than what came in: it says more and counts as full. Else prove '..UptoSaid'. A law counts once. -/
mutual
def uptoBulk {H : Type} : DataW H → Nat
  | .lit (.string bytes) => bytes.length + 1
  | .lit _ => 1
  | .nil => 1
  | .ptr d => uptoBulk d + 1
  | .slice elems spare => uptoBulkAll elems + uptoBulkAll spare + 1
  | .agg parts => uptoBulkAll parts + 1
  | .iface _ d => uptoBulk d + 1
  | .map entries => uptoBulkEntries entries + 1
  | .held _ => 1
def uptoBulkAll {H : Type} : List (DataW H) → Nat
  | [] => 0
  | d :: r => uptoBulk d + uptoBulkAll r
def uptoBulkEntries {H : Type} : List (Lit × DataW H) → Nat
  | [] => 0
  | x :: r => uptoBulkEntry x + uptoBulkEntries r
def uptoBulkEntry {H : Type} : Lit × DataW H → Nat
  | (.string bytes, d) => bytes.length + uptoBulk d + 1
  | (_, d) => uptoBulk d + 1
 end
def uptoSmall : (H : Type) → List (DataW H) → Bool := fun _ ds => decide (uptoBulkAll ds ≤ 1048576)
def OpenSpec.upto (s : _root_.Go.ChangeSpec) : _root_.Go.OpenSpec := { _root_.Go.OpenSpec.ofChange s with cond := some uptoSmall }

/-- 'laws.FnExactDesignMirror', WHERE WHAT IT READS IS OF BULK AT MOST 1048576: true; the input reads as it did. -/
def fnExactDesignMirrorUptoRow : OpenClaim := { program := "ytnlfdcjpeoafhaa", sum := "80ba15abdcb0ee858e31e94cb4f7d70173552b430aca617f2b7ebb8f51a1506c", func := "loop.example/turningwheels/laws.FnExactDesignMirror", spec := "fnExactDesignMirror", unfollowed := true, recurses := true, apart := false, narrowed := true }
def FnExactDesignMirrorUptoSaid : Prop := fnExactDesignMirrorUptoRow.holds Try.pinned (OpenSpec.upto fnExactDesignMirrorSpec)

/-- 'laws.FnExactDesignTimes', WHERE WHAT IT READS IS OF BULK AT MOST 1048576: true; the input reads as it did. -/
def fnExactDesignTimesUptoRow : OpenClaim := { program := "ytnlfdcjpeoafhaa", sum := "80ba15abdcb0ee858e31e94cb4f7d70173552b430aca617f2b7ebb8f51a1506c", func := "loop.example/turningwheels/laws.FnExactDesignTimes", spec := "fnExactDesignTimes", unfollowed := true, recurses := true, apart := false, narrowed := true }
def FnExactDesignTimesUptoSaid : Prop := fnExactDesignTimesUptoRow.holds Try.pinned (OpenSpec.upto fnExactDesignTimesSpec)

/-- 'laws.FnExactDesignLater', WHERE WHAT IT READS IS OF BULK AT MOST 1048576: true; the input reads as it did. -/
def fnExactDesignLaterUptoRow : OpenClaim := { program := "ytnlfdcjpeoafhaa", sum := "80ba15abdcb0ee858e31e94cb4f7d70173552b430aca617f2b7ebb8f51a1506c", func := "loop.example/turningwheels/laws.FnExactDesignLater", spec := "fnExactDesignLater", unfollowed := true, recurses := true, apart := false, narrowed := true }
def FnExactDesignLaterUptoSaid : Prop := fnExactDesignLaterUptoRow.holds Try.pinned (OpenSpec.upto fnExactDesignLaterSpec)

/-- 'laws.FnExactDesignTurned', WHERE WHAT IT READS IS OF BULK AT MOST 1048576: true; the input reads as it did. -/
def fnExactDesignTurnedUptoRow : OpenClaim := { program := "ytnlfdcjpeoafhaa", sum := "80ba15abdcb0ee858e31e94cb4f7d70173552b430aca617f2b7ebb8f51a1506c", func := "loop.example/turningwheels/laws.FnExactDesignTurned", spec := "fnExactDesignTurned", unfollowed := true, recurses := true, apart := false, narrowed := true }
def FnExactDesignTurnedUptoSaid : Prop := fnExactDesignTurnedUptoRow.holds Try.pinned (OpenSpec.upto fnExactDesignTurnedSpec)

/-- 'laws.FnExactDesignClosed', WHERE WHAT IT READS IS OF BULK AT MOST 1048576: true; the input reads as it did. -/
def fnExactDesignClosedUptoRow : OpenClaim := { program := "ytnlfdcjpeoafhaa", sum := "80ba15abdcb0ee858e31e94cb4f7d70173552b430aca617f2b7ebb8f51a1506c", func := "loop.example/turningwheels/laws.FnExactDesignClosed", spec := "fnExactDesignClosed", unfollowed := true, recurses := true, apart := false, narrowed := true }
def FnExactDesignClosedUptoSaid : Prop := fnExactDesignClosedUptoRow.holds Try.pinned (OpenSpec.upto fnExactDesignClosedSpec)

/-- 'laws.FnExactRowDesign', WHERE WHAT IT READS IS OF BULK AT MOST 1048576: true; the input reads as it did. -/
def fnExactRowDesignUptoRow : OpenClaim := { program := "ytnlfdcjpeoafhaa", sum := "80ba15abdcb0ee858e31e94cb4f7d70173552b430aca617f2b7ebb8f51a1506c", func := "loop.example/turningwheels/laws.FnExactRowDesign", spec := "fnExactRowDesign", unfollowed := true, recurses := true, apart := false, narrowed := true }
def FnExactRowDesignUptoSaid : Prop := fnExactRowDesignUptoRow.holds Try.pinned (OpenSpec.upto fnExactRowDesignSpec)

/-- 'laws.FnExactDesignAkin', WHERE WHAT IT READS IS OF BULK AT MOST 1048576: true; the input reads as it did. -/
def fnExactDesignAkinUptoRow : OpenClaim := { program := "ytnlfdcjpeoafhaa", sum := "80ba15abdcb0ee858e31e94cb4f7d70173552b430aca617f2b7ebb8f51a1506c", func := "loop.example/turningwheels/laws.FnExactDesignAkin", spec := "fnExactDesignAkin", unfollowed := true, recurses := true, apart := false, narrowed := true }
def FnExactDesignAkinUptoSaid : Prop := fnExactDesignAkinUptoRow.holds Try.pinned (OpenSpec.upto fnExactDesignAkinSpec)

/-- 'laws.FnExactDesignCheck', WHERE WHAT IT READS IS OF BULK AT MOST 1048576: true; the input reads as it did. -/
def fnExactDesignCheckUptoRow : OpenClaim := { program := "ytnlfdcjpeoafhaa", sum := "80ba15abdcb0ee858e31e94cb4f7d70173552b430aca617f2b7ebb8f51a1506c", func := "loop.example/turningwheels/laws.FnExactDesignCheck", spec := "fnExactDesignCheck", inPlace := ["math.Float32bits"], unfollowed := true, recurses := true, apart := false, narrowed := true }
def FnExactDesignCheckUptoSaid : Prop := fnExactDesignCheckUptoRow.holds Try.pinned (OpenSpec.upto fnExactDesignCheckSpec)

/-- 'laws.FnExactDesignStill', WHERE WHAT IT READS IS OF BULK AT MOST 1048576: true; the input reads as it did. -/
def fnExactDesignStillUptoRow : OpenClaim := { program := "ytnlfdcjpeoafhaa", sum := "80ba15abdcb0ee858e31e94cb4f7d70173552b430aca617f2b7ebb8f51a1506c", func := "loop.example/turningwheels/laws.FnExactDesignStill", spec := "fnExactDesignStill", unfollowed := true, recurses := true, apart := false, narrowed := true }
def FnExactDesignStillUptoSaid : Prop := fnExactDesignStillUptoRow.holds Try.pinned (OpenSpec.upto fnExactDesignStillSpec)

/-- 'laws.FnExactDesignMirrored', WHERE WHAT IT READS IS OF BULK AT MOST 1048576: true; the input reads as it did. -/
def fnExactDesignMirroredUptoRow : OpenClaim := { program := "ytnlfdcjpeoafhaa", sum := "80ba15abdcb0ee858e31e94cb4f7d70173552b430aca617f2b7ebb8f51a1506c", func := "loop.example/turningwheels/laws.FnExactDesignMirrored", spec := "fnExactDesignMirrored", unfollowed := true, recurses := true, apart := false, narrowed := true }
def FnExactDesignMirroredUptoSaid : Prop := fnExactDesignMirroredUptoRow.holds Try.pinned (OpenSpec.upto fnExactDesignMirroredSpec)

/-- 'laws.FnDesignAt', WHERE WHAT IT READS IS OF BULK AT MOST 1048576: true; the input reads as it did. -/
def fnDesignAtUptoRow : OpenClaim := { program := "ytnlfdcjpeoafhaa", sum := "80ba15abdcb0ee858e31e94cb4f7d70173552b430aca617f2b7ebb8f51a1506c", func := "loop.example/turningwheels/laws.FnDesignAt", spec := "fnDesignAt", unfollowed := true, recurses := true, apart := false, narrowed := true }
def FnDesignAtUptoSaid : Prop := fnDesignAtUptoRow.holds Try.pinned (OpenSpec.upto fnDesignAtSpec)

/-- 'laws.FnTidy', WHERE WHAT IT READS IS OF BULK AT MOST 1048576: true; the input reads as it did. -/
def fnTidyUptoRow : OpenClaim := { program := "ytnlfdcjpeoafhaa", sum := "80ba15abdcb0ee858e31e94cb4f7d70173552b430aca617f2b7ebb8f51a1506c", func := "loop.example/turningwheels/laws.FnTidy", spec := "fnTidy", unfollowed := true, recurses := true, apart := false, narrowed := true }
def FnTidyUptoSaid : Prop := fnTidyUptoRow.holds Try.pinned (OpenSpec.upto fnTidySpec)

end Rows
end Go.Proofs.Ytnlfdcjpeoafhaa
