/-
  No cell of these rows narrows 'for every input' (looked for: loops, veiled, ifaces, maps, wideKeys, modest, calm, conditions, laid).
  DERIVED. THE GIVEN ROWS OF THIS SEAT. 12 by the template 'for every input the law returns true; each argument reads behind the call as it read before'; 0 by the template 'total and deterministic' (their statements: YtakimbknciffnaaTotals.lean).
  GIVEN WITH THE SEED: the statements are not yours to turn. If you find one false, say at which input.
  Laid BY PROGRAM, IN A SANDBOX (cutbox-rows.mjs): the forced cells as the released guide's own fill.sh prints them over the translation 411be0c58817b6cf… (all of the seat's roots in one cut). By AI agents, Wed Nov 11 2026. No macro, syntax, notation, axiom, sorry.
-/
import Derived.Test.YtakimbknciffnaaChecked
import GoSem.Claim
import GoSem.ClaimJoined
import GoSem.ClaimMapViews
import Derived.JoinedTies
import Derived.KernelRfl
namespace Go.Proofs.Ytakimbknciffnaa
/- THE CELL 'sum', in the pinned program and in every row, IS THE sha256 OF THE DUMP (.gsa) THAT YtakimbknciffnaaProg.lean LOADS. Nothing in Lean hashes anything: it is a label: what it is worth is what the hold of that sum in a sandbox is worth. -/
noncomputable def Try.pinned : Pinned := { name := "ytakimbknciffnaa", sum := "411be0c58817b6cfcc6e307f3ba1ac0600637a0f1c3bb36ac8994e4e9e2d875e", checked := Try.checked }
namespace Rows
def none {H : Type} : Left H := { results := [], args := [] }

/-- 'laws.FnDesignTurned': WHATEVER THE INPUT: true; the input reads as it did. -/
def fnDesignTurnedSpec : ChangeSpec := { name := "fnDesignTurned", fn := fun _ => fun
  | [d] => { results := [.lit (.bool true)], args := [d] }
  | _ => none }
def fnDesignTurnedRow : OpenClaim := { program := "ytakimbknciffnaa", sum := "411be0c58817b6cfcc6e307f3ba1ac0600637a0f1c3bb36ac8994e4e9e2d875e", func := "loop.example/turningwheels/laws.FnDesignTurned", spec := "fnDesignTurned", unfollowed := true, recurses := true, apart := false }
def FnDesignTurnedSaid : Prop := fnDesignTurnedRow.holds Try.pinned (OpenSpec.ofChange fnDesignTurnedSpec)

/-- ITS FALSE NEIGHBOUR: 'it returns false'. Refute it at one input. -/
def fnDesignTurnedWrong : ChangeSpec := { name := "fnDesignTurned", fn := fun _ => fun
  | [d] => { results := [.lit (.bool false)], args := [d] }
  | _ => none }
def FnDesignTurnedWrongFalsely : Prop := fnDesignTurnedRow.holds Try.pinned (OpenSpec.ofChange fnDesignTurnedWrong)

/-- 'laws.FnSame': WHATEVER THE INPUT: true; the input reads as it did. -/
def fnSameSpec : ChangeSpec := { name := "fnSame", fn := fun _ => fun
  | [d] => { results := [.lit (.bool true)], args := [d] }
  | _ => none }
def fnSameRow : OpenClaim := { program := "ytakimbknciffnaa", sum := "411be0c58817b6cfcc6e307f3ba1ac0600637a0f1c3bb36ac8994e4e9e2d875e", func := "loop.example/turningwheels/laws.FnSame", spec := "fnSame", unfollowed := true, recurses := true, apart := false }
def FnSameSaid : Prop := fnSameRow.holds Try.pinned (OpenSpec.ofChange fnSameSpec)

/-- ITS FALSE NEIGHBOUR: 'it returns false'. Refute it at one input. -/
def fnSameWrong : ChangeSpec := { name := "fnSame", fn := fun _ => fun
  | [d] => { results := [.lit (.bool false)], args := [d] }
  | _ => none }
def FnSameWrongFalsely : Prop := fnSameRow.holds Try.pinned (OpenSpec.ofChange fnSameWrong)

/-- 'laws.FnDesignBack': WHATEVER THE INPUT: true; the input reads as it did. -/
def fnDesignBackSpec : ChangeSpec := { name := "fnDesignBack", fn := fun _ => fun
  | [d] => { results := [.lit (.bool true)], args := [d] }
  | _ => none }
def fnDesignBackRow : OpenClaim := { program := "ytakimbknciffnaa", sum := "411be0c58817b6cfcc6e307f3ba1ac0600637a0f1c3bb36ac8994e4e9e2d875e", func := "loop.example/turningwheels/laws.FnDesignBack", spec := "fnDesignBack", unfollowed := true, recurses := true, apart := false }
def FnDesignBackSaid : Prop := fnDesignBackRow.holds Try.pinned (OpenSpec.ofChange fnDesignBackSpec)

/-- ITS FALSE NEIGHBOUR: 'it returns false'. Refute it at one input. -/
def fnDesignBackWrong : ChangeSpec := { name := "fnDesignBack", fn := fun _ => fun
  | [d] => { results := [.lit (.bool false)], args := [d] }
  | _ => none }
def FnDesignBackWrongFalsely : Prop := fnDesignBackRow.holds Try.pinned (OpenSpec.ofChange fnDesignBackWrong)

/-- 'laws.FnDesignSum': WHATEVER THE INPUT: true; the input reads as it did. -/
def fnDesignSumSpec : ChangeSpec := { name := "fnDesignSum", fn := fun _ => fun
  | [d] => { results := [.lit (.bool true)], args := [d] }
  | _ => none }
def fnDesignSumRow : OpenClaim := { program := "ytakimbknciffnaa", sum := "411be0c58817b6cfcc6e307f3ba1ac0600637a0f1c3bb36ac8994e4e9e2d875e", func := "loop.example/turningwheels/laws.FnDesignSum", spec := "fnDesignSum", unfollowed := true, recurses := true, apart := false }
def FnDesignSumSaid : Prop := fnDesignSumRow.holds Try.pinned (OpenSpec.ofChange fnDesignSumSpec)

/-- ITS FALSE NEIGHBOUR: 'it returns false'. Refute it at one input. -/
def fnDesignSumWrong : ChangeSpec := { name := "fnDesignSum", fn := fun _ => fun
  | [d] => { results := [.lit (.bool false)], args := [d] }
  | _ => none }
def FnDesignSumWrongFalsely : Prop := fnDesignSumRow.holds Try.pinned (OpenSpec.ofChange fnDesignSumWrong)

/-- 'laws.FnFaster': WHATEVER THE INPUT: true; the input reads as it did. -/
def fnFasterSpec : ChangeSpec := { name := "fnFaster", fn := fun _ => fun
  | [d] => { results := [.lit (.bool true)], args := [d] }
  | _ => none }
def fnFasterRow : OpenClaim := { program := "ytakimbknciffnaa", sum := "411be0c58817b6cfcc6e307f3ba1ac0600637a0f1c3bb36ac8994e4e9e2d875e", func := "loop.example/turningwheels/laws.FnFaster", spec := "fnFaster", unfollowed := true, recurses := true, apart := false }
def FnFasterSaid : Prop := fnFasterRow.holds Try.pinned (OpenSpec.ofChange fnFasterSpec)

/-- ITS FALSE NEIGHBOUR: 'it returns false'. Refute it at one input. -/
def fnFasterWrong : ChangeSpec := { name := "fnFaster", fn := fun _ => fun
  | [d] => { results := [.lit (.bool false)], args := [d] }
  | _ => none }
def FnFasterWrongFalsely : Prop := fnFasterRow.holds Try.pinned (OpenSpec.ofChange fnFasterWrong)

/-- 'laws.FnRowOf': WHATEVER THE INPUT: true; the input reads as it did. -/
def fnRowOfSpec : ChangeSpec := { name := "fnRowOf", fn := fun _ => fun
  | [d] => { results := [.lit (.bool true)], args := [d] }
  | _ => none }
def fnRowOfRow : OpenClaim := { program := "ytakimbknciffnaa", sum := "411be0c58817b6cfcc6e307f3ba1ac0600637a0f1c3bb36ac8994e4e9e2d875e", func := "loop.example/turningwheels/laws.FnRowOf", spec := "fnRowOf", unfollowed := true, recurses := true, apart := false }
def FnRowOfSaid : Prop := fnRowOfRow.holds Try.pinned (OpenSpec.ofChange fnRowOfSpec)

/-- ITS FALSE NEIGHBOUR: 'it returns false'. Refute it at one input. -/
def fnRowOfWrong : ChangeSpec := { name := "fnRowOf", fn := fun _ => fun
  | [d] => { results := [.lit (.bool false)], args := [d] }
  | _ => none }
def FnRowOfWrongFalsely : Prop := fnRowOfRow.holds Try.pinned (OpenSpec.ofChange fnRowOfWrong)

/-- 'laws.FnDesignMirror': WHATEVER THE INPUT: true; the input reads as it did. -/
def fnDesignMirrorSpec : ChangeSpec := { name := "fnDesignMirror", fn := fun _ => fun
  | [d] => { results := [.lit (.bool true)], args := [d] }
  | _ => none }
def fnDesignMirrorRow : OpenClaim := { program := "ytakimbknciffnaa", sum := "411be0c58817b6cfcc6e307f3ba1ac0600637a0f1c3bb36ac8994e4e9e2d875e", func := "loop.example/turningwheels/laws.FnDesignMirror", spec := "fnDesignMirror", unfollowed := true, recurses := true, apart := false }
def FnDesignMirrorSaid : Prop := fnDesignMirrorRow.holds Try.pinned (OpenSpec.ofChange fnDesignMirrorSpec)

/-- ITS FALSE NEIGHBOUR: 'it returns false'. Refute it at one input. -/
def fnDesignMirrorWrong : ChangeSpec := { name := "fnDesignMirror", fn := fun _ => fun
  | [d] => { results := [.lit (.bool false)], args := [d] }
  | _ => none }
def FnDesignMirrorWrongFalsely : Prop := fnDesignMirrorRow.holds Try.pinned (OpenSpec.ofChange fnDesignMirrorWrong)

/-- 'laws.FnLater': WHATEVER THE INPUT: true; the input reads as it did. -/
def fnLaterSpec : ChangeSpec := { name := "fnLater", fn := fun _ => fun
  | [d] => { results := [.lit (.bool true)], args := [d] }
  | _ => none }
def fnLaterRow : OpenClaim := { program := "ytakimbknciffnaa", sum := "411be0c58817b6cfcc6e307f3ba1ac0600637a0f1c3bb36ac8994e4e9e2d875e", func := "loop.example/turningwheels/laws.FnLater", spec := "fnLater", unfollowed := true, recurses := true, apart := false }
def FnLaterSaid : Prop := fnLaterRow.holds Try.pinned (OpenSpec.ofChange fnLaterSpec)

/-- ITS FALSE NEIGHBOUR: 'it returns false'. Refute it at one input. -/
def fnLaterWrong : ChangeSpec := { name := "fnLater", fn := fun _ => fun
  | [d] => { results := [.lit (.bool false)], args := [d] }
  | _ => none }
def FnLaterWrongFalsely : Prop := fnLaterRow.holds Try.pinned (OpenSpec.ofChange fnLaterWrong)

/-- 'laws.FnDesignTimes': WHATEVER THE INPUT: true; the input reads as it did. -/
def fnDesignTimesSpec : ChangeSpec := { name := "fnDesignTimes", fn := fun _ => fun
  | [d] => { results := [.lit (.bool true)], args := [d] }
  | _ => none }
def fnDesignTimesRow : OpenClaim := { program := "ytakimbknciffnaa", sum := "411be0c58817b6cfcc6e307f3ba1ac0600637a0f1c3bb36ac8994e4e9e2d875e", func := "loop.example/turningwheels/laws.FnDesignTimes", spec := "fnDesignTimes", unfollowed := true, recurses := true, apart := false }
def FnDesignTimesSaid : Prop := fnDesignTimesRow.holds Try.pinned (OpenSpec.ofChange fnDesignTimesSpec)

/-- ITS FALSE NEIGHBOUR: 'it returns false'. Refute it at one input. -/
def fnDesignTimesWrong : ChangeSpec := { name := "fnDesignTimes", fn := fun _ => fun
  | [d] => { results := [.lit (.bool false)], args := [d] }
  | _ => none }
def FnDesignTimesWrongFalsely : Prop := fnDesignTimesRow.holds Try.pinned (OpenSpec.ofChange fnDesignTimesWrong)

/-- 'laws.FnPeriod': WHATEVER THE INPUT: true; the input reads as it did. -/
def fnPeriodSpec : ChangeSpec := { name := "fnPeriod", fn := fun _ => fun
  | [d] => { results := [.lit (.bool true)], args := [d] }
  | _ => none }
def fnPeriodRow : OpenClaim := { program := "ytakimbknciffnaa", sum := "411be0c58817b6cfcc6e307f3ba1ac0600637a0f1c3bb36ac8994e4e9e2d875e", func := "loop.example/turningwheels/laws.FnPeriod", spec := "fnPeriod", unfollowed := true, recurses := true, apart := false }
def FnPeriodSaid : Prop := fnPeriodRow.holds Try.pinned (OpenSpec.ofChange fnPeriodSpec)

/-- ITS FALSE NEIGHBOUR: 'it returns false'. Refute it at one input. -/
def fnPeriodWrong : ChangeSpec := { name := "fnPeriod", fn := fun _ => fun
  | [d] => { results := [.lit (.bool false)], args := [d] }
  | _ => none }
def FnPeriodWrongFalsely : Prop := fnPeriodRow.holds Try.pinned (OpenSpec.ofChange fnPeriodWrong)

/-- 'laws.FnFold': WHATEVER THE INPUT: true; the input reads as it did. -/
def fnFoldSpec : ChangeSpec := { name := "fnFold", fn := fun _ => fun
  | [d] => { results := [.lit (.bool true)], args := [d] }
  | _ => none }
def fnFoldRow : OpenClaim := { program := "ytakimbknciffnaa", sum := "411be0c58817b6cfcc6e307f3ba1ac0600637a0f1c3bb36ac8994e4e9e2d875e", func := "loop.example/turningwheels/laws.FnFold", spec := "fnFold", unfollowed := true, recurses := true, apart := false }
def FnFoldSaid : Prop := fnFoldRow.holds Try.pinned (OpenSpec.ofChange fnFoldSpec)

/-- ITS FALSE NEIGHBOUR: 'it returns false'. Refute it at one input. -/
def fnFoldWrong : ChangeSpec := { name := "fnFold", fn := fun _ => fun
  | [d] => { results := [.lit (.bool false)], args := [d] }
  | _ => none }
def FnFoldWrongFalsely : Prop := fnFoldRow.holds Try.pinned (OpenSpec.ofChange fnFoldWrong)

/-- 'laws.FnCentre': WHATEVER THE INPUT: true; the input reads as it did. -/
def fnCentreSpec : ChangeSpec := { name := "fnCentre", fn := fun _ => fun
  | [d] => { results := [.lit (.bool true)], args := [d] }
  | _ => none }
def fnCentreRow : OpenClaim := { program := "ytakimbknciffnaa", sum := "411be0c58817b6cfcc6e307f3ba1ac0600637a0f1c3bb36ac8994e4e9e2d875e", func := "loop.example/turningwheels/laws.FnCentre", spec := "fnCentre", unfollowed := true, recurses := true, apart := false }
def FnCentreSaid : Prop := fnCentreRow.holds Try.pinned (OpenSpec.ofChange fnCentreSpec)

/-- ITS FALSE NEIGHBOUR: 'it returns false'. Refute it at one input. -/
def fnCentreWrong : ChangeSpec := { name := "fnCentre", fn := fun _ => fun
  | [d] => { results := [.lit (.bool false)], args := [d] }
  | _ => none }
def FnCentreWrongFalsely : Prop := fnCentreRow.holds Try.pinned (OpenSpec.ofChange fnCentreWrong)

/- THE SECOND FORM. 'bulk': how many values and letters a reading holds, each counted each time it is reached (what is shared counts as often as it is met; a slice's spare places count too). A statement '..UptoSaid' is the law's where the arguments, and the package variables that the reading takes, are together of bulk at most 1048576: NARROWER than '..Said'. Prove '..Said' where nothing that the law and all that it calls make is longer than what came in: it says more and counts as full. Else prove '..UptoSaid'. A law counts once. -/
mutual
def uptoBulk {H : Type} : DataW H → Nat
  | .lit (.string bytes) => bytes.length + 1
  | .lit _ => 1
  | .nil => 1
  | .ptr d => uptoBulk d + 1
  | .slice elems spare => uptoBulkAll elems + uptoBulkAll spare + 1
  | .agg parts => uptoBulkAll parts + 1
  | .iface _ d => uptoBulk d + 1
  | .map entries => uptoBulkEntries entries + 1
  | .held _ => 1
def uptoBulkAll {H : Type} : List (DataW H) → Nat
  | [] => 0
  | d :: r => uptoBulk d + uptoBulkAll r
def uptoBulkEntries {H : Type} : List (Lit × DataW H) → Nat
  | [] => 0
  | x :: r => uptoBulkEntry x + uptoBulkEntries r
def uptoBulkEntry {H : Type} : Lit × DataW H → Nat
  | (.string bytes, d) => bytes.length + uptoBulk d + 1
  | (_, d) => uptoBulk d + 1
 end
def uptoSmall : (H : Type) → List (DataW H) → Bool := fun _ ds => decide (uptoBulkAll ds ≤ 1048576)
def OpenSpec.upto (s : _root_.Go.ChangeSpec) : _root_.Go.OpenSpec := { _root_.Go.OpenSpec.ofChange s with cond := some uptoSmall }

/-- 'laws.FnDesignTurned', WHERE WHAT IT READS IS OF BULK AT MOST 1048576: true; the input reads as it did. -/
def fnDesignTurnedUptoRow : OpenClaim := { program := "ytakimbknciffnaa", sum := "411be0c58817b6cfcc6e307f3ba1ac0600637a0f1c3bb36ac8994e4e9e2d875e", func := "loop.example/turningwheels/laws.FnDesignTurned", spec := "fnDesignTurned", unfollowed := true, recurses := true, apart := false, narrowed := true }
def FnDesignTurnedUptoSaid : Prop := fnDesignTurnedUptoRow.holds Try.pinned (OpenSpec.upto fnDesignTurnedSpec)

/-- 'laws.FnSame', WHERE WHAT IT READS IS OF BULK AT MOST 1048576: true; the input reads as it did. -/
def fnSameUptoRow : OpenClaim := { program := "ytakimbknciffnaa", sum := "411be0c58817b6cfcc6e307f3ba1ac0600637a0f1c3bb36ac8994e4e9e2d875e", func := "loop.example/turningwheels/laws.FnSame", spec := "fnSame", unfollowed := true, recurses := true, apart := false, narrowed := true }
def FnSameUptoSaid : Prop := fnSameUptoRow.holds Try.pinned (OpenSpec.upto fnSameSpec)

/-- 'laws.FnDesignBack', WHERE WHAT IT READS IS OF BULK AT MOST 1048576: true; the input reads as it did. -/
def fnDesignBackUptoRow : OpenClaim := { program := "ytakimbknciffnaa", sum := "411be0c58817b6cfcc6e307f3ba1ac0600637a0f1c3bb36ac8994e4e9e2d875e", func := "loop.example/turningwheels/laws.FnDesignBack", spec := "fnDesignBack", unfollowed := true, recurses := true, apart := false, narrowed := true }
def FnDesignBackUptoSaid : Prop := fnDesignBackUptoRow.holds Try.pinned (OpenSpec.upto fnDesignBackSpec)

/-- 'laws.FnDesignSum', WHERE WHAT IT READS IS OF BULK AT MOST 1048576: true; the input reads as it did. -/
def fnDesignSumUptoRow : OpenClaim := { program := "ytakimbknciffnaa", sum := "411be0c58817b6cfcc6e307f3ba1ac0600637a0f1c3bb36ac8994e4e9e2d875e", func := "loop.example/turningwheels/laws.FnDesignSum", spec := "fnDesignSum", unfollowed := true, recurses := true, apart := false, narrowed := true }
def FnDesignSumUptoSaid : Prop := fnDesignSumUptoRow.holds Try.pinned (OpenSpec.upto fnDesignSumSpec)

/-- 'laws.FnFaster', WHERE WHAT IT READS IS OF BULK AT MOST 1048576: true; the input reads as it did. -/
def fnFasterUptoRow : OpenClaim := { program := "ytakimbknciffnaa", sum := "411be0c58817b6cfcc6e307f3ba1ac0600637a0f1c3bb36ac8994e4e9e2d875e", func := "loop.example/turningwheels/laws.FnFaster", spec := "fnFaster", unfollowed := true, recurses := true, apart := false, narrowed := true }
def FnFasterUptoSaid : Prop := fnFasterUptoRow.holds Try.pinned (OpenSpec.upto fnFasterSpec)

/-- 'laws.FnRowOf', WHERE WHAT IT READS IS OF BULK AT MOST 1048576: true; the input reads as it did. -/
def fnRowOfUptoRow : OpenClaim := { program := "ytakimbknciffnaa", sum := "411be0c58817b6cfcc6e307f3ba1ac0600637a0f1c3bb36ac8994e4e9e2d875e", func := "loop.example/turningwheels/laws.FnRowOf", spec := "fnRowOf", unfollowed := true, recurses := true, apart := false, narrowed := true }
def FnRowOfUptoSaid : Prop := fnRowOfUptoRow.holds Try.pinned (OpenSpec.upto fnRowOfSpec)

/-- 'laws.FnDesignMirror', WHERE WHAT IT READS IS OF BULK AT MOST 1048576: true; the input reads as it did. -/
def fnDesignMirrorUptoRow : OpenClaim := { program := "ytakimbknciffnaa", sum := "411be0c58817b6cfcc6e307f3ba1ac0600637a0f1c3bb36ac8994e4e9e2d875e", func := "loop.example/turningwheels/laws.FnDesignMirror", spec := "fnDesignMirror", unfollowed := true, recurses := true, apart := false, narrowed := true }
def FnDesignMirrorUptoSaid : Prop := fnDesignMirrorUptoRow.holds Try.pinned (OpenSpec.upto fnDesignMirrorSpec)

/-- 'laws.FnLater', WHERE WHAT IT READS IS OF BULK AT MOST 1048576: true; the input reads as it did. -/
def fnLaterUptoRow : OpenClaim := { program := "ytakimbknciffnaa", sum := "411be0c58817b6cfcc6e307f3ba1ac0600637a0f1c3bb36ac8994e4e9e2d875e", func := "loop.example/turningwheels/laws.FnLater", spec := "fnLater", unfollowed := true, recurses := true, apart := false, narrowed := true }
def FnLaterUptoSaid : Prop := fnLaterUptoRow.holds Try.pinned (OpenSpec.upto fnLaterSpec)

/-- 'laws.FnDesignTimes', WHERE WHAT IT READS IS OF BULK AT MOST 1048576: true; the input reads as it did. -/
def fnDesignTimesUptoRow : OpenClaim := { program := "ytakimbknciffnaa", sum := "411be0c58817b6cfcc6e307f3ba1ac0600637a0f1c3bb36ac8994e4e9e2d875e", func := "loop.example/turningwheels/laws.FnDesignTimes", spec := "fnDesignTimes", unfollowed := true, recurses := true, apart := false, narrowed := true }
def FnDesignTimesUptoSaid : Prop := fnDesignTimesUptoRow.holds Try.pinned (OpenSpec.upto fnDesignTimesSpec)

/-- 'laws.FnPeriod', WHERE WHAT IT READS IS OF BULK AT MOST 1048576: true; the input reads as it did. -/
def fnPeriodUptoRow : OpenClaim := { program := "ytakimbknciffnaa", sum := "411be0c58817b6cfcc6e307f3ba1ac0600637a0f1c3bb36ac8994e4e9e2d875e", func := "loop.example/turningwheels/laws.FnPeriod", spec := "fnPeriod", unfollowed := true, recurses := true, apart := false, narrowed := true }
def FnPeriodUptoSaid : Prop := fnPeriodUptoRow.holds Try.pinned (OpenSpec.upto fnPeriodSpec)

/-- 'laws.FnFold', WHERE WHAT IT READS IS OF BULK AT MOST 1048576: true; the input reads as it did. -/
def fnFoldUptoRow : OpenClaim := { program := "ytakimbknciffnaa", sum := "411be0c58817b6cfcc6e307f3ba1ac0600637a0f1c3bb36ac8994e4e9e2d875e", func := "loop.example/turningwheels/laws.FnFold", spec := "fnFold", unfollowed := true, recurses := true, apart := false, narrowed := true }
def FnFoldUptoSaid : Prop := fnFoldUptoRow.holds Try.pinned (OpenSpec.upto fnFoldSpec)

/-- 'laws.FnCentre', WHERE WHAT IT READS IS OF BULK AT MOST 1048576: true; the input reads as it did. -/
def fnCentreUptoRow : OpenClaim := { program := "ytakimbknciffnaa", sum := "411be0c58817b6cfcc6e307f3ba1ac0600637a0f1c3bb36ac8994e4e9e2d875e", func := "loop.example/turningwheels/laws.FnCentre", spec := "fnCentre", unfollowed := true, recurses := true, apart := false, narrowed := true }
def FnCentreUptoSaid : Prop := fnCentreUptoRow.holds Try.pinned (OpenSpec.upto fnCentreSpec)

end Rows
end Go.Proofs.Ytakimbknciffnaa
