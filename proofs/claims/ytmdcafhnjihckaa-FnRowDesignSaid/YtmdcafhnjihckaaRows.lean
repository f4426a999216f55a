/-
  No cell of these rows narrows 'for every input' (looked for: loops, veiled, ifaces, maps, wideKeys, modest, calm, conditions, laid).
  DERIVED. THE GIVEN ROWS OF THIS SEAT. 11 by the template 'for every input the law returns true; each argument reads behind the call as it read before'; 0 by the template 'total and deterministic' (their statements: YtmdcafhnjihckaaTotals.lean).
  GIVEN WITH THE SEED: the statements are not yours to turn. If you find one false, say at which input.
  Laid BY PROGRAM, IN A SANDBOX (cutbox-rows.mjs): the forced cells as the released guide's own fill.sh prints them over the translation 93b51d476f4db8ff… (all of the seat's roots in one cut). By AI agents, Wed Nov 11 2026. No macro, syntax, notation, axiom, sorry.
-/
import Derived.Test.YtmdcafhnjihckaaChecked
import GoSem.Claim
import GoSem.ClaimJoined
import GoSem.ClaimMapViews
import Derived.JoinedTies
import Derived.KernelRfl
namespace Go.Proofs.Ytmdcafhnjihckaa
/- THE CELL 'sum', in the pinned program and in every row, IS THE sha256 OF THE DUMP (.gsa) THAT YtmdcafhnjihckaaProg.lean LOADS. Nothing in Lean hashes anything: it is a label: what it is worth is what the hold of that sum in a sandbox is worth. -/
noncomputable def Try.pinned : Pinned := { name := "ytmdcafhnjihckaa", sum := "93b51d476f4db8ff14148071ef6272753fa42c8ee1b7728a95b66c04fa4236b5", checked := Try.checked }
namespace Rows
def none {H : Type} : Left H := { results := [], args := [] }

/-- 'laws.FnDesignSum': WHATEVER THE INPUT: true; the input reads as it did. -/
def fnDesignSumSpec : ChangeSpec := { name := "fnDesignSum", fn := fun _ => fun
  | [d] => { results := [.lit (.bool true)], args := [d] }
  | _ => none }
def fnDesignSumRow : OpenClaim := { program := "ytmdcafhnjihckaa", sum := "93b51d476f4db8ff14148071ef6272753fa42c8ee1b7728a95b66c04fa4236b5", func := "loop.example/turningwheels/laws.FnDesignSum", spec := "fnDesignSum", unfollowed := true, recurses := true, apart := false }
def FnDesignSumSaid : Prop := fnDesignSumRow.holds Try.pinned (OpenSpec.ofChange fnDesignSumSpec)

/-- ITS FALSE NEIGHBOUR: 'it returns false'. Refute it at one input. -/
def fnDesignSumWrong : ChangeSpec := { name := "fnDesignSum", fn := fun _ => fun
  | [d] => { results := [.lit (.bool false)], args := [d] }
  | _ => none }
def FnDesignSumWrongFalsely : Prop := fnDesignSumRow.holds Try.pinned (OpenSpec.ofChange fnDesignSumWrong)

/-- 'laws.FnClosed': WHATEVER THE INPUT: true; the input reads as it did. -/
def fnClosedSpec : ChangeSpec := { name := "fnClosed", fn := fun _ => fun
  | [d] => { results := [.lit (.bool true)], args := [d] }
  | _ => none }
def fnClosedRow : OpenClaim := { program := "ytmdcafhnjihckaa", sum := "93b51d476f4db8ff14148071ef6272753fa42c8ee1b7728a95b66c04fa4236b5", func := "loop.example/turningwheels/laws.FnClosed", spec := "fnClosed", unfollowed := true, recurses := true, apart := false }
def FnClosedSaid : Prop := fnClosedRow.holds Try.pinned (OpenSpec.ofChange fnClosedSpec)

/-- ITS FALSE NEIGHBOUR: 'it returns false'. Refute it at one input. -/
def fnClosedWrong : ChangeSpec := { name := "fnClosed", fn := fun _ => fun
  | [d] => { results := [.lit (.bool false)], args := [d] }
  | _ => none }
def FnClosedWrongFalsely : Prop := fnClosedRow.holds Try.pinned (OpenSpec.ofChange fnClosedWrong)

/-- 'laws.FnStill': WHATEVER THE INPUT: true; the input reads as it did. -/
def fnStillSpec : ChangeSpec := { name := "fnStill", fn := fun _ => fun
  | [d] => { results := [.lit (.bool true)], args := [d] }
  | _ => none }
def fnStillRow : OpenClaim := { program := "ytmdcafhnjihckaa", sum := "93b51d476f4db8ff14148071ef6272753fa42c8ee1b7728a95b66c04fa4236b5", func := "loop.example/turningwheels/laws.FnStill", spec := "fnStill", unfollowed := true, recurses := true, apart := false }
def FnStillSaid : Prop := fnStillRow.holds Try.pinned (OpenSpec.ofChange fnStillSpec)

/-- ITS FALSE NEIGHBOUR: 'it returns false'. Refute it at one input. -/
def fnStillWrong : ChangeSpec := { name := "fnStill", fn := fun _ => fun
  | [d] => { results := [.lit (.bool false)], args := [d] }
  | _ => none }
def FnStillWrongFalsely : Prop := fnStillRow.holds Try.pinned (OpenSpec.ofChange fnStillWrong)

/-- 'laws.FnRowDesign': WHATEVER THE INPUT: true; the input reads as it did. -/
def fnRowDesignSpec : ChangeSpec := { name := "fnRowDesign", fn := fun _ => fun
  | [d] => { results := [.lit (.bool true)], args := [d] }
  | _ => none }
def fnRowDesignRow : OpenClaim := { program := "ytmdcafhnjihckaa", sum := "93b51d476f4db8ff14148071ef6272753fa42c8ee1b7728a95b66c04fa4236b5", func := "loop.example/turningwheels/laws.FnRowDesign", spec := "fnRowDesign", unfollowed := true, recurses := true, apart := false }
def FnRowDesignSaid : Prop := fnRowDesignRow.holds Try.pinned (OpenSpec.ofChange fnRowDesignSpec)

/-- ITS FALSE NEIGHBOUR: 'it returns false'. Refute it at one input. -/
def fnRowDesignWrong : ChangeSpec := { name := "fnRowDesign", fn := fun _ => fun
  | [d] => { results := [.lit (.bool false)], args := [d] }
  | _ => none }
def FnRowDesignWrongFalsely : Prop := fnRowDesignRow.holds Try.pinned (OpenSpec.ofChange fnRowDesignWrong)

/-- 'laws.FnCheck': WHATEVER THE INPUT: true; the input reads as it did. -/
def fnCheckSpec : ChangeSpec := { name := "fnCheck", fn := fun _ => fun
  | [d] => { results := [.lit (.bool true)], args := [d] }
  | _ => none }
def fnCheckRow : OpenClaim := { program := "ytmdcafhnjihckaa", sum := "93b51d476f4db8ff14148071ef6272753fa42c8ee1b7728a95b66c04fa4236b5", func := "loop.example/turningwheels/laws.FnCheck", spec := "fnCheck", inPlace := ["math.Float32bits"], unfollowed := true, recurses := true, apart := false }
def FnCheckSaid : Prop := fnCheckRow.holds Try.pinned (OpenSpec.ofChange fnCheckSpec)

/-- ITS FALSE NEIGHBOUR: 'it returns false'. Refute it at one input. -/
def fnCheckWrong : ChangeSpec := { name := "fnCheck", fn := fun _ => fun
  | [d] => { results := [.lit (.bool false)], args := [d] }
  | _ => none }
def FnCheckWrongFalsely : Prop := fnCheckRow.holds Try.pinned (OpenSpec.ofChange fnCheckWrong)

/-- 'laws.FnAkin': WHATEVER THE INPUT: true; the input reads as it did. -/
def fnAkinSpec : ChangeSpec := { name := "fnAkin", fn := fun _ => fun
  | [d] => { results := [.lit (.bool true)], args := [d] }
  | _ => none }
def fnAkinRow : OpenClaim := { program := "ytmdcafhnjihckaa", sum := "93b51d476f4db8ff14148071ef6272753fa42c8ee1b7728a95b66c04fa4236b5", func := "loop.example/turningwheels/laws.FnAkin", spec := "fnAkin", unfollowed := true, recurses := true, apart := false }
def FnAkinSaid : Prop := fnAkinRow.holds Try.pinned (OpenSpec.ofChange fnAkinSpec)

/-- ITS FALSE NEIGHBOUR: 'it returns false'. Refute it at one input. -/
def fnAkinWrong : ChangeSpec := { name := "fnAkin", fn := fun _ => fun
  | [d] => { results := [.lit (.bool false)], args := [d] }
  | _ => none }
def FnAkinWrongFalsely : Prop := fnAkinRow.holds Try.pinned (OpenSpec.ofChange fnAkinWrong)

/-- 'laws.FnMirrored': WHATEVER THE INPUT: true; the input reads as it did. -/
def fnMirroredSpec : ChangeSpec := { name := "fnMirrored", fn := fun _ => fun
  | [d] => { results := [.lit (.bool true)], args := [d] }
  | _ => none }
def fnMirroredRow : OpenClaim := { program := "ytmdcafhnjihckaa", sum := "93b51d476f4db8ff14148071ef6272753fa42c8ee1b7728a95b66c04fa4236b5", func := "loop.example/turningwheels/laws.FnMirrored", spec := "fnMirrored", unfollowed := true, recurses := true, apart := false }
def FnMirroredSaid : Prop := fnMirroredRow.holds Try.pinned (OpenSpec.ofChange fnMirroredSpec)

/-- ITS FALSE NEIGHBOUR: 'it returns false'. Refute it at one input. -/
def fnMirroredWrong : ChangeSpec := { name := "fnMirrored", fn := fun _ => fun
  | [d] => { results := [.lit (.bool false)], args := [d] }
  | _ => none }
def FnMirroredWrongFalsely : Prop := fnMirroredRow.holds Try.pinned (OpenSpec.ofChange fnMirroredWrong)

/-- 'laws.FnExactDesignAkin': WHATEVER THE INPUT: true; the input reads as it did. -/
def fnExactDesignAkinSpec : ChangeSpec := { name := "fnExactDesignAkin", fn := fun _ => fun
  | [d1, d2] => { results := [.lit (.bool true)], args := [d1, d2] }
  | _ => none }
def fnExactDesignAkinRow : OpenClaim := { program := "ytmdcafhnjihckaa", sum := "93b51d476f4db8ff14148071ef6272753fa42c8ee1b7728a95b66c04fa4236b5", func := "loop.example/turningwheels/laws.FnExactDesignAkin", spec := "fnExactDesignAkin", unfollowed := true, recurses := true, apart := false }
def FnExactDesignAkinSaid : Prop := fnExactDesignAkinRow.holds Try.pinned (OpenSpec.ofChange fnExactDesignAkinSpec)

/-- ITS FALSE NEIGHBOUR: 'it returns false'. Refute it at one input. -/
def fnExactDesignAkinWrong : ChangeSpec := { name := "fnExactDesignAkin", fn := fun _ => fun
  | [d1, d2] => { results := [.lit (.bool false)], args := [d1, d2] }
  | _ => none }
def FnExactDesignAkinWrongFalsely : Prop := fnExactDesignAkinRow.holds Try.pinned (OpenSpec.ofChange fnExactDesignAkinWrong)

/-- 'laws.FnExactDesignMirrored': WHATEVER THE INPUT: true; the input reads as it did. -/
def fnExactDesignMirroredSpec : ChangeSpec := { name := "fnExactDesignMirrored", fn := fun _ => fun
  | [d] => { results := [.lit (.bool true)], args := [d] }
  | _ => none }
def fnExactDesignMirroredRow : OpenClaim := { program := "ytmdcafhnjihckaa", sum := "93b51d476f4db8ff14148071ef6272753fa42c8ee1b7728a95b66c04fa4236b5", func := "loop.example/turningwheels/laws.FnExactDesignMirrored", spec := "fnExactDesignMirrored", unfollowed := true, recurses := true, apart := false }
def FnExactDesignMirroredSaid : Prop := fnExactDesignMirroredRow.holds Try.pinned (OpenSpec.ofChange fnExactDesignMirroredSpec)

/-- ITS FALSE NEIGHBOUR: 'it returns false'. Refute it at one input. -/
def fnExactDesignMirroredWrong : ChangeSpec := { name := "fnExactDesignMirrored", fn := fun _ => fun
  | [d] => { results := [.lit (.bool false)], args := [d] }
  | _ => none }
def FnExactDesignMirroredWrongFalsely : Prop := fnExactDesignMirroredRow.holds Try.pinned (OpenSpec.ofChange fnExactDesignMirroredWrong)

/-- 'laws.FnExactRowDesign': WHATEVER THE INPUT: true; the input reads as it did. -/
def fnExactRowDesignSpec : ChangeSpec := { name := "fnExactRowDesign", fn := fun _ => fun
  | [d] => { results := [.lit (.bool true)], args := [d] }
  | _ => none }
def fnExactRowDesignRow : OpenClaim := { program := "ytmdcafhnjihckaa", sum := "93b51d476f4db8ff14148071ef6272753fa42c8ee1b7728a95b66c04fa4236b5", func := "loop.example/turningwheels/laws.FnExactRowDesign", spec := "fnExactRowDesign", unfollowed := true, recurses := true, apart := false }
def FnExactRowDesignSaid : Prop := fnExactRowDesignRow.holds Try.pinned (OpenSpec.ofChange fnExactRowDesignSpec)

/-- ITS FALSE NEIGHBOUR: 'it returns false'. Refute it at one input. -/
def fnExactRowDesignWrong : ChangeSpec := { name := "fnExactRowDesign", fn := fun _ => fun
  | [d] => { results := [.lit (.bool false)], args := [d] }
  | _ => none }
def FnExactRowDesignWrongFalsely : Prop := fnExactRowDesignRow.holds Try.pinned (OpenSpec.ofChange fnExactRowDesignWrong)

/-- 'laws.FnExactDesignCheck': WHATEVER THE INPUT: true; the input reads as it did. -/
def fnExactDesignCheckSpec : ChangeSpec := { name := "fnExactDesignCheck", fn := fun _ => fun
  | [d] => { results := [.lit (.bool true)], args := [d] }
  | _ => none }
def fnExactDesignCheckRow : OpenClaim := { program := "ytmdcafhnjihckaa", sum := "93b51d476f4db8ff14148071ef6272753fa42c8ee1b7728a95b66c04fa4236b5", func := "loop.example/turningwheels/laws.FnExactDesignCheck", spec := "fnExactDesignCheck", inPlace := ["math.Float32bits"], unfollowed := true, recurses := true, apart := false }
def FnExactDesignCheckSaid : Prop := fnExactDesignCheckRow.holds Try.pinned (OpenSpec.ofChange fnExactDesignCheckSpec)

/-- ITS FALSE NEIGHBOUR: 'it returns false'. Refute it at one input. -/
def fnExactDesignCheckWrong : ChangeSpec := { name := "fnExactDesignCheck", fn := fun _ => fun
  | [d] => { results := [.lit (.bool false)], args := [d] }
  | _ => none }
def FnExactDesignCheckWrongFalsely : Prop := fnExactDesignCheckRow.holds Try.pinned (OpenSpec.ofChange fnExactDesignCheckWrong)

/- THE SECOND FORM. 'bulk': how many values and letters a reading holds, each counted each time it is reached (what is shared counts as often as it is met; a slice's spare places count too). A statement '..UptoSaid' is the law's where the arguments, and the package variables that the reading takes, are together of bulk at most 1048576: NARROWER than '..Said'. Prove '..Said' where nothing that the law and all that it calls make is longer than what came in: it says more and counts as full. Else prove '..UptoSaid'. A law counts once. -/
mutual
def uptoBulk {H : Type} : DataW H → Nat
  | .lit (.string bytes) => bytes.length + 1
  | .lit _ => 1
  | .nil => 1
  | .ptr d => uptoBulk d + 1
  | .slice elems spare => uptoBulkAll elems + uptoBulkAll spare + 1
  | .agg parts => uptoBulkAll parts + 1
  | .iface _ d => uptoBulk d + 1
  | .map entries => uptoBulkEntries entries + 1
  | .held _ => 1
def uptoBulkAll {H : Type} : List (DataW H) → Nat
  | [] => 0
  | d :: r => uptoBulk d + uptoBulkAll r
def uptoBulkEntries {H : Type} : List (Lit × DataW H) → Nat
  | [] => 0
  | x :: r => uptoBulkEntry x + uptoBulkEntries r
def uptoBulkEntry {H : Type} : Lit × DataW H → Nat
  | (.string bytes, d) => bytes.length + uptoBulk d + 1
  | (_, d) => uptoBulk d + 1
 end
def uptoSmall : (H : Type) → List (DataW H) → Bool := fun _ ds => decide (uptoBulkAll ds ≤ 1048576)
def OpenSpec.upto (s : _root_.Go.ChangeSpec) : _root_.Go.OpenSpec := { _root_.Go.OpenSpec.ofChange s with cond := some uptoSmall }

/-- 'laws.FnDesignSum', WHERE WHAT IT READS IS OF BULK AT MOST 1048576: true; the input reads as it did. -/
def fnDesignSumUptoRow : OpenClaim := { program := "ytmdcafhnjihckaa", sum := "93b51d476f4db8ff14148071ef6272753fa42c8ee1b7728a95b66c04fa4236b5", func := "loop.example/turningwheels/laws.FnDesignSum", spec := "fnDesignSum", unfollowed := true, recurses := true, apart := false, narrowed := true }
def FnDesignSumUptoSaid : Prop := fnDesignSumUptoRow.holds Try.pinned (OpenSpec.upto fnDesignSumSpec)

/-- 'laws.FnClosed', WHERE WHAT IT READS IS OF BULK AT MOST 1048576: true; the input reads as it did. -/
def fnClosedUptoRow : OpenClaim := { program := "ytmdcafhnjihckaa", sum := "93b51d476f4db8ff14148071ef6272753fa42c8ee1b7728a95b66c04fa4236b5", func := "loop.example/turningwheels/laws.FnClosed", spec := "fnClosed", unfollowed := true, recurses := true, apart := false, narrowed := true }
def FnClosedUptoSaid : Prop := fnClosedUptoRow.holds Try.pinned (OpenSpec.upto fnClosedSpec)

/-- 'laws.FnStill', WHERE WHAT IT READS IS OF BULK AT MOST 1048576: true; the input reads as it did. -/
def fnStillUptoRow : OpenClaim := { program := "ytmdcafhnjihckaa", sum := "93b51d476f4db8ff14148071ef6272753fa42c8ee1b7728a95b66c04fa4236b5", func := "loop.example/turningwheels/laws.FnStill", spec := "fnStill", unfollowed := true, recurses := true, apart := false, narrowed := true }
def FnStillUptoSaid : Prop := fnStillUptoRow.holds Try.pinned (OpenSpec.upto fnStillSpec)

/-- 'laws.FnRowDesign', WHERE WHAT IT READS IS OF BULK AT MOST 1048576: true; the input reads as it did. -/
def fnRowDesignUptoRow : OpenClaim := { program := "ytmdcafhnjihckaa", sum := "93b51d476f4db8ff14148071ef6272753fa42c8ee1b7728a95b66c04fa4236b5", func := "loop.example/turningwheels/laws.FnRowDesign", spec := "fnRowDesign", unfollowed := true, recurses := true, apart := false, narrowed := true }
def FnRowDesignUptoSaid : Prop := fnRowDesignUptoRow.holds Try.pinned (OpenSpec.upto fnRowDesignSpec)

/-- 'laws.FnCheck', WHERE WHAT IT READS IS OF BULK AT MOST 1048576: true; the input reads as it did. -/
def fnCheckUptoRow : OpenClaim := { program := "ytmdcafhnjihckaa", sum := "93b51d476f4db8ff14148071ef6272753fa42c8ee1b7728a95b66c04fa4236b5", func := "loop.example/turningwheels/laws.FnCheck", spec := "fnCheck", inPlace := ["math.Float32bits"], unfollowed := true, recurses := true, apart := false, narrowed := true }
def FnCheckUptoSaid : Prop := fnCheckUptoRow.holds Try.pinned (OpenSpec.upto fnCheckSpec)

/-- 'laws.FnAkin', WHERE WHAT IT READS IS OF BULK AT MOST 1048576: true; the input reads as it did. -/
def fnAkinUptoRow : OpenClaim := { program := "ytmdcafhnjihckaa", sum := "93b51d476f4db8ff14148071ef6272753fa42c8ee1b7728a95b66c04fa4236b5", func := "loop.example/turningwheels/laws.FnAkin", spec := "fnAkin", unfollowed := true, recurses := true, apart := false, narrowed := true }
def FnAkinUptoSaid : Prop := fnAkinUptoRow.holds Try.pinned (OpenSpec.upto fnAkinSpec)

/-- 'laws.FnMirrored', WHERE WHAT IT READS IS OF BULK AT MOST 1048576: true; the input reads as it did. -/
def fnMirroredUptoRow : OpenClaim := { program := "ytmdcafhnjihckaa", sum := "93b51d476f4db8ff14148071ef6272753fa42c8ee1b7728a95b66c04fa4236b5", func := "loop.example/turningwheels/laws.FnMirrored", spec := "fnMirrored", unfollowed := true, recurses := true, apart := false, narrowed := true }
def FnMirroredUptoSaid : Prop := fnMirroredUptoRow.holds Try.pinned (OpenSpec.upto fnMirroredSpec)

/-- 'laws.FnExactDesignAkin', WHERE WHAT IT READS IS OF BULK AT MOST 1048576: true; the input reads as it did. -/
def fnExactDesignAkinUptoRow : OpenClaim := { program := "ytmdcafhnjihckaa", sum := "93b51d476f4db8ff14148071ef6272753fa42c8ee1b7728a95b66c04fa4236b5", func := "loop.example/turningwheels/laws.FnExactDesignAkin", spec := "fnExactDesignAkin", unfollowed := true, recurses := true, apart := false, narrowed := true }
def FnExactDesignAkinUptoSaid : Prop := fnExactDesignAkinUptoRow.holds Try.pinned (OpenSpec.upto fnExactDesignAkinSpec)

/-- 'laws.FnExactDesignMirrored', WHERE WHAT IT READS IS OF BULK AT MOST 1048576: true; the input reads as it did. -/
def fnExactDesignMirroredUptoRow : OpenClaim := { program := "ytmdcafhnjihckaa", sum := "93b51d476f4db8ff14148071ef6272753fa42c8ee1b7728a95b66c04fa4236b5", func := "loop.example/turningwheels/laws.FnExactDesignMirrored", spec := "fnExactDesignMirrored", unfollowed := true, recurses := true, apart := false, narrowed := true }
def FnExactDesignMirroredUptoSaid : Prop := fnExactDesignMirroredUptoRow.holds Try.pinned (OpenSpec.upto fnExactDesignMirroredSpec)

/-- 'laws.FnExactRowDesign', WHERE WHAT IT READS IS OF BULK AT MOST 1048576: true; the input reads as it did. -/
def fnExactRowDesignUptoRow : OpenClaim := { program := "ytmdcafhnjihckaa", sum := "93b51d476f4db8ff14148071ef6272753fa42c8ee1b7728a95b66c04fa4236b5", func := "loop.example/turningwheels/laws.FnExactRowDesign", spec := "fnExactRowDesign", unfollowed := true, recurses := true, apart := false, narrowed := true }
def FnExactRowDesignUptoSaid : Prop := fnExactRowDesignUptoRow.holds Try.pinned (OpenSpec.upto fnExactRowDesignSpec)

/-- 'laws.FnExactDesignCheck', WHERE WHAT IT READS IS OF BULK AT MOST 1048576: true; the input reads as it did. -/
def fnExactDesignCheckUptoRow : OpenClaim := { program := "ytmdcafhnjihckaa", sum := "93b51d476f4db8ff14148071ef6272753fa42c8ee1b7728a95b66c04fa4236b5", func := "loop.example/turningwheels/laws.FnExactDesignCheck", spec := "fnExactDesignCheck", inPlace := ["math.Float32bits"], unfollowed := true, recurses := true, apart := false, narrowed := true }
def FnExactDesignCheckUptoSaid : Prop := fnExactDesignCheckUptoRow.holds Try.pinned (OpenSpec.upto fnExactDesignCheckSpec)

end Rows
end Go.Proofs.Ytmdcafhnjihckaa
