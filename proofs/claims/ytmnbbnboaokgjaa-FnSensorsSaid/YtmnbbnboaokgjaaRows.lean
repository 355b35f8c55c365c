/-
  No cell of these rows narrows 'for every input' (looked for: loops, veiled, ifaces, maps, wideKeys, modest, calm, conditions, laid).
  DERIVED. THE GIVEN ROWS OF THIS SEAT. 9 by the template 'for every input the law returns true; each argument reads behind the call as it read before'; 0 by the template 'total and deterministic' (their statements: YtmnbbnboaokgjaaTotals.lean).
  GIVEN WITH THE SEED: the statements are not yours to turn. If you find one false, say at which input.
  Laid BY PROGRAM, IN A SANDBOX (cutbox-rows.mjs): the forced cells as the released guide's own fill.sh prints them over the translation 532708f715516525… (all of the seat's roots in one cut). By AI agents, Wed Nov 11 2026. No macro, syntax, notation, axiom, sorry.
-/
import Derived.Test.YtmnbbnboaokgjaaChecked
import GoSem.Claim
import GoSem.ClaimJoined
import GoSem.ClaimMapViews
import Derived.JoinedTies
import Derived.KernelRfl
namespace Go.Proofs.Ytmnbbnboaokgjaa
/- THE CELL 'sum', in the pinned program and in every row, IS THE sha256 OF THE DUMP (.gsa) THAT YtmnbbnboaokgjaaProg.lean LOADS. Nothing in Lean hashes anything: it is a label: what it is worth is what the hold of that sum in a sandbox is worth. -/
noncomputable def Try.pinned : Pinned := { name := "ytmnbbnboaokgjaa", sum := "532708f715516525315e46fb58aa6aa4d304adfb49f01cca997720c8eecab6e0", checked := Try.checked }
namespace Rows
def none {H : Type} : Left H := { results := [], args := [] }

/-- 'laws.FnExactCommonBound': WHATEVER THE INPUT: true; the input reads as it did. -/
def fnExactCommonBoundSpec : ChangeSpec := { name := "fnExactCommonBound", fn := fun _ => fun
  | [d] => { results := [.lit (.bool true)], args := [d] }
  | _ => none }
def fnExactCommonBoundRow : OpenClaim := { program := "ytmnbbnboaokgjaa", sum := "532708f715516525315e46fb58aa6aa4d304adfb49f01cca997720c8eecab6e0", func := "loop.example/g00924/laws.FnExactCommonBound", spec := "fnExactCommonBound", unfollowed := true, recurses := true, apart := false }
def FnExactCommonBoundSaid : Prop := fnExactCommonBoundRow.holds Try.pinned (OpenSpec.ofChange fnExactCommonBoundSpec)

/-- ITS FALSE NEIGHBOUR: 'it returns false'. Refute it at one input. -/
def fnExactCommonBoundWrong : ChangeSpec := { name := "fnExactCommonBound", fn := fun _ => fun
  | [d] => { results := [.lit (.bool false)], args := [d] }
  | _ => none }
def FnExactCommonBoundWrongFalsely : Prop := fnExactCommonBoundRow.holds Try.pinned (OpenSpec.ofChange fnExactCommonBoundWrong)

/-- 'laws.FnExactIsPumpTask': WHATEVER THE INPUT: true; the input reads as it did. -/
def fnExactIsPumpTaskSpec : ChangeSpec := { name := "fnExactIsPumpTask", fn := fun _ => fun
  | [d] => { results := [.lit (.bool true)], args := [d] }
  | _ => none }
def fnExactIsPumpTaskRow : OpenClaim := { program := "ytmnbbnboaokgjaa", sum := "532708f715516525315e46fb58aa6aa4d304adfb49f01cca997720c8eecab6e0", func := "loop.example/g00924/laws.FnExactIsPumpTask", spec := "fnExactIsPumpTask", unfollowed := true, recurses := true, apart := false }
def FnExactIsPumpTaskSaid : Prop := fnExactIsPumpTaskRow.holds Try.pinned (OpenSpec.ofChange fnExactIsPumpTaskSpec)

/-- ITS FALSE NEIGHBOUR: 'it returns false'. Refute it at one input. -/
def fnExactIsPumpTaskWrong : ChangeSpec := { name := "fnExactIsPumpTask", fn := fun _ => fun
  | [d] => { results := [.lit (.bool false)], args := [d] }
  | _ => none }
def FnExactIsPumpTaskWrongFalsely : Prop := fnExactIsPumpTaskRow.holds Try.pinned (OpenSpec.ofChange fnExactIsPumpTaskWrong)

/-- 'laws.FnTrust': WHATEVER THE INPUT: true; the input reads as it did. -/
def fnTrustSpec : ChangeSpec := { name := "fnTrust", fn := fun _ => fun
  | [d] => { results := [.lit (.bool true)], args := [d] }
  | _ => none }
def fnTrustRow : OpenClaim := { program := "ytmnbbnboaokgjaa", sum := "532708f715516525315e46fb58aa6aa4d304adfb49f01cca997720c8eecab6e0", func := "loop.example/g00924/laws.FnTrust", spec := "fnTrust", unfollowed := true, recurses := true, apart := false }
def FnTrustSaid : Prop := fnTrustRow.holds Try.pinned (OpenSpec.ofChange fnTrustSpec)

/-- ITS FALSE NEIGHBOUR: 'it returns false'. Refute it at one input. -/
def fnTrustWrong : ChangeSpec := { name := "fnTrust", fn := fun _ => fun
  | [d] => { results := [.lit (.bool false)], args := [d] }
  | _ => none }
def FnTrustWrongFalsely : Prop := fnTrustRow.holds Try.pinned (OpenSpec.ofChange fnTrustWrong)

/-- 'laws.FnSeries': WHATEVER THE INPUT: true; the input reads as it did. -/
def fnSeriesSpec : ChangeSpec := { name := "fnSeries", fn := fun _ => fun
  | [d] => { results := [.lit (.bool true)], args := [d] }
  | _ => none }
def fnSeriesRow : OpenClaim := { program := "ytmnbbnboaokgjaa", sum := "532708f715516525315e46fb58aa6aa4d304adfb49f01cca997720c8eecab6e0", func := "loop.example/g00924/laws.FnSeries", spec := "fnSeries", unfollowed := true, recurses := true, apart := false }
def FnSeriesSaid : Prop := fnSeriesRow.holds Try.pinned (OpenSpec.ofChange fnSeriesSpec)

/-- ITS FALSE NEIGHBOUR: 'it returns false'. Refute it at one input. -/
def fnSeriesWrong : ChangeSpec := { name := "fnSeries", fn := fun _ => fun
  | [d] => { results := [.lit (.bool false)], args := [d] }
  | _ => none }
def FnSeriesWrongFalsely : Prop := fnSeriesRow.holds Try.pinned (OpenSpec.ofChange fnSeriesWrong)

/-- 'laws.FnExactMedianOf': WHATEVER THE INPUT: true; the input reads as it did. -/
def fnExactMedianOfSpec : ChangeSpec := { name := "fnExactMedianOf", fn := fun _ => fun
  | [d] => { results := [.lit (.bool true)], args := [d] }
  | _ => none }
def fnExactMedianOfRow : OpenClaim := { program := "ytmnbbnboaokgjaa", sum := "532708f715516525315e46fb58aa6aa4d304adfb49f01cca997720c8eecab6e0", func := "loop.example/g00924/laws.FnExactMedianOf", spec := "fnExactMedianOf", unfollowed := true, recurses := true, apart := false }
def FnExactMedianOfSaid : Prop := fnExactMedianOfRow.holds Try.pinned (OpenSpec.ofChange fnExactMedianOfSpec)

/-- ITS FALSE NEIGHBOUR: 'it returns false'. Refute it at one input. -/
def fnExactMedianOfWrong : ChangeSpec := { name := "fnExactMedianOf", fn := fun _ => fun
  | [d] => { results := [.lit (.bool false)], args := [d] }
  | _ => none }
def FnExactMedianOfWrongFalsely : Prop := fnExactMedianOfRow.holds Try.pinned (OpenSpec.ofChange fnExactMedianOfWrong)

/-- 'laws.FnExactAgreeingSensors': WHATEVER THE INPUT: true; the input reads as it did. -/
def fnExactAgreeingSensorsSpec : ChangeSpec := { name := "fnExactAgreeingSensors", fn := fun _ => fun
  | [d1, d2] => { results := [.lit (.bool true)], args := [d1, d2] }
  | _ => none }
def fnExactAgreeingSensorsRow : OpenClaim := { program := "ytmnbbnboaokgjaa", sum := "532708f715516525315e46fb58aa6aa4d304adfb49f01cca997720c8eecab6e0", func := "loop.example/g00924/laws.FnExactAgreeingSensors", spec := "fnExactAgreeingSensors", unfollowed := true, recurses := true, apart := false }
def FnExactAgreeingSensorsSaid : Prop := fnExactAgreeingSensorsRow.holds Try.pinned (OpenSpec.ofChange fnExactAgreeingSensorsSpec)

/-- ITS FALSE NEIGHBOUR: 'it returns false'. Refute it at one input. -/
def fnExactAgreeingSensorsWrong : ChangeSpec := { name := "fnExactAgreeingSensors", fn := fun _ => fun
  | [d1, d2] => { results := [.lit (.bool false)], args := [d1, d2] }
  | _ => none }
def FnExactAgreeingSensorsWrongFalsely : Prop := fnExactAgreeingSensorsRow.holds Try.pinned (OpenSpec.ofChange fnExactAgreeingSensorsWrong)

/-- 'laws.FnExactVotedLevel': WHATEVER THE INPUT: true; the input reads as it did. -/
def fnExactVotedLevelSpec : ChangeSpec := { name := "fnExactVotedLevel", fn := fun _ => fun
  | [d1, d2] => { results := [.lit (.bool true)], args := [d1, d2] }
  | _ => none }
def fnExactVotedLevelRow : OpenClaim := { program := "ytmnbbnboaokgjaa", sum := "532708f715516525315e46fb58aa6aa4d304adfb49f01cca997720c8eecab6e0", func := "loop.example/g00924/laws.FnExactVotedLevel", spec := "fnExactVotedLevel", unfollowed := true, recurses := true, apart := false }
def FnExactVotedLevelSaid : Prop := fnExactVotedLevelRow.holds Try.pinned (OpenSpec.ofChange fnExactVotedLevelSpec)

/-- ITS FALSE NEIGHBOUR: 'it returns false'. Refute it at one input. -/
def fnExactVotedLevelWrong : ChangeSpec := { name := "fnExactVotedLevel", fn := fun _ => fun
  | [d1, d2] => { results := [.lit (.bool false)], args := [d1, d2] }
  | _ => none }
def FnExactVotedLevelWrongFalsely : Prop := fnExactVotedLevelRow.holds Try.pinned (OpenSpec.ofChange fnExactVotedLevelWrong)

/-- 'laws.FnExactSuspectSensor': WHATEVER THE INPUT: true; the input reads as it did. -/
def fnExactSuspectSensorSpec : ChangeSpec := { name := "fnExactSuspectSensor", fn := fun _ => fun
  | [d1, d2] => { results := [.lit (.bool true)], args := [d1, d2] }
  | _ => none }
def fnExactSuspectSensorRow : OpenClaim := { program := "ytmnbbnboaokgjaa", sum := "532708f715516525315e46fb58aa6aa4d304adfb49f01cca997720c8eecab6e0", func := "loop.example/g00924/laws.FnExactSuspectSensor", spec := "fnExactSuspectSensor", unfollowed := true, recurses := true, apart := false }
def FnExactSuspectSensorSaid : Prop := fnExactSuspectSensorRow.holds Try.pinned (OpenSpec.ofChange fnExactSuspectSensorSpec)

/-- ITS FALSE NEIGHBOUR: 'it returns false'. Refute it at one input. -/
def fnExactSuspectSensorWrong : ChangeSpec := { name := "fnExactSuspectSensor", fn := fun _ => fun
  | [d1, d2] => { results := [.lit (.bool false)], args := [d1, d2] }
  | _ => none }
def FnExactSuspectSensorWrongFalsely : Prop := fnExactSuspectSensorRow.holds Try.pinned (OpenSpec.ofChange fnExactSuspectSensorWrong)

/-- 'laws.FnSensors': WHATEVER THE INPUT: true; the input reads as it did. -/
def fnSensorsSpec : ChangeSpec := { name := "fnSensors", fn := fun _ => fun
  | [d] => { results := [.lit (.bool true)], args := [d] }
  | _ => none }
def fnSensorsRow : OpenClaim := { program := "ytmnbbnboaokgjaa", sum := "532708f715516525315e46fb58aa6aa4d304adfb49f01cca997720c8eecab6e0", func := "loop.example/g00924/laws.FnSensors", spec := "fnSensors", unfollowed := true, recurses := true, apart := false }
def FnSensorsSaid : Prop := fnSensorsRow.holds Try.pinned (OpenSpec.ofChange fnSensorsSpec)

/-- ITS FALSE NEIGHBOUR: 'it returns false'. Refute it at one input. -/
def fnSensorsWrong : ChangeSpec := { name := "fnSensors", fn := fun _ => fun
  | [d] => { results := [.lit (.bool false)], args := [d] }
  | _ => none }
def FnSensorsWrongFalsely : Prop := fnSensorsRow.holds Try.pinned (OpenSpec.ofChange fnSensorsWrong)

/- THE SECOND FORM. 'bulk': how many values and letters a reading holds, each counted each time it is reached (what is shared counts as often as it is met; a slice's spare places count too). A statement '..UptoSaid' is the law's where the arguments, and the package variables that the reading takes, are together of bulk at most 1048576: NARROWER than '..Said'. Prove '..Said' where nothing that the law and all that it calls make is longer than what came in: it says more and counts as full. Else prove '..UptoSaid'. A law counts once. -/
mutual
def uptoBulk {H : Type} : DataW H → Nat
  | .lit (.string bytes) => bytes.length + 1
  | .lit _ => 1
  | .nil => 1
  | .ptr d => uptoBulk d + 1
  | .slice elems spare => uptoBulkAll elems + uptoBulkAll spare + 1
  | .agg parts => uptoBulkAll parts + 1
  | .iface _ d => uptoBulk d + 1
  | .map entries => uptoBulkEntries entries + 1
  | .held _ => 1
def uptoBulkAll {H : Type} : List (DataW H) → Nat
  | [] => 0
  | d :: r => uptoBulk d + uptoBulkAll r
def uptoBulkEntries {H : Type} : List (Lit × DataW H) → Nat
  | [] => 0
  | x :: r => uptoBulkEntry x + uptoBulkEntries r
def uptoBulkEntry {H : Type} : Lit × DataW H → Nat
  | (.string bytes, d) => bytes.length + uptoBulk d + 1
  | (_, d) => uptoBulk d + 1
 end
def uptoSmall : (H : Type) → List (DataW H) → Bool := fun _ ds => decide (uptoBulkAll ds ≤ 1048576)
def OpenSpec.upto (s : _root_.Go.ChangeSpec) : _root_.Go.OpenSpec := { _root_.Go.OpenSpec.ofChange s with cond := some uptoSmall }

/-- 'laws.FnExactCommonBound', WHERE WHAT IT READS IS OF BULK AT MOST 1048576: true; the input reads as it did. -/
def fnExactCommonBoundUptoRow : OpenClaim := { program := "ytmnbbnboaokgjaa", sum := "532708f715516525315e46fb58aa6aa4d304adfb49f01cca997720c8eecab6e0", func := "loop.example/g00924/laws.FnExactCommonBound", spec := "fnExactCommonBound", unfollowed := true, recurses := true, apart := false, narrowed := true }
def FnExactCommonBoundUptoSaid : Prop := fnExactCommonBoundUptoRow.holds Try.pinned (OpenSpec.upto fnExactCommonBoundSpec)

/-- 'laws.FnExactIsPumpTask', WHERE WHAT IT READS IS OF BULK AT MOST 1048576: true; the input reads as it did. -/
def fnExactIsPumpTaskUptoRow : OpenClaim := { program := "ytmnbbnboaokgjaa", sum := "532708f715516525315e46fb58aa6aa4d304adfb49f01cca997720c8eecab6e0", func := "loop.example/g00924/laws.FnExactIsPumpTask", spec := "fnExactIsPumpTask", unfollowed := true, recurses := true, apart := false, narrowed := true }
def FnExactIsPumpTaskUptoSaid : Prop := fnExactIsPumpTaskUptoRow.holds Try.pinned (OpenSpec.upto fnExactIsPumpTaskSpec)

/-- 'laws.FnTrust', WHERE WHAT IT READS IS OF BULK AT MOST 1048576: true; the input reads as it did. -/
def fnTrustUptoRow : OpenClaim := { program := "ytmnbbnboaokgjaa", sum := "532708f715516525315e46fb58aa6aa4d304adfb49f01cca997720c8eecab6e0", func := "loop.example/g00924/laws.FnTrust", spec := "fnTrust", unfollowed := true, recurses := true, apart := false, narrowed := true }
def FnTrustUptoSaid : Prop := fnTrustUptoRow.holds Try.pinned (OpenSpec.upto fnTrustSpec)

/-- 'laws.FnSeries', WHERE WHAT IT READS IS OF BULK AT MOST 1048576: true; the input reads as it did. -/
def fnSeriesUptoRow : OpenClaim := { program := "ytmnbbnboaokgjaa", sum := "532708f715516525315e46fb58aa6aa4d304adfb49f01cca997720c8eecab6e0", func := "loop.example/g00924/laws.FnSeries", spec := "fnSeries", unfollowed := true, recurses := true, apart := false, narrowed := true }
def FnSeriesUptoSaid : Prop := fnSeriesUptoRow.holds Try.pinned (OpenSpec.upto fnSeriesSpec)

/-- 'laws.FnExactMedianOf', WHERE WHAT IT READS IS OF BULK AT MOST 1048576: true; the input reads as it did. -/
def fnExactMedianOfUptoRow : OpenClaim := { program := "ytmnbbnboaokgjaa", sum := "532708f715516525315e46fb58aa6aa4d304adfb49f01cca997720c8eecab6e0", func := "loop.example/g00924/laws.FnExactMedianOf", spec := "fnExactMedianOf", unfollowed := true, recurses := true, apart := false, narrowed := true }
def FnExactMedianOfUptoSaid : Prop := fnExactMedianOfUptoRow.holds Try.pinned (OpenSpec.upto fnExactMedianOfSpec)

/-- 'laws.FnExactAgreeingSensors', WHERE WHAT IT READS IS OF BULK AT MOST 1048576: true; the input reads as it did. -/
def fnExactAgreeingSensorsUptoRow : OpenClaim := { program := "ytmnbbnboaokgjaa", sum := "532708f715516525315e46fb58aa6aa4d304adfb49f01cca997720c8eecab6e0", func := "loop.example/g00924/laws.FnExactAgreeingSensors", spec := "fnExactAgreeingSensors", unfollowed := true, recurses := true, apart := false, narrowed := true }
def FnExactAgreeingSensorsUptoSaid : Prop := fnExactAgreeingSensorsUptoRow.holds Try.pinned (OpenSpec.upto fnExactAgreeingSensorsSpec)

/-- 'laws.FnExactVotedLevel', WHERE WHAT IT READS IS OF BULK AT MOST 1048576: true; the input reads as it did. -/
def fnExactVotedLevelUptoRow : OpenClaim := { program := "ytmnbbnboaokgjaa", sum := "532708f715516525315e46fb58aa6aa4d304adfb49f01cca997720c8eecab6e0", func := "loop.example/g00924/laws.FnExactVotedLevel", spec := "fnExactVotedLevel", unfollowed := true, recurses := true, apart := false, narrowed := true }
def FnExactVotedLevelUptoSaid : Prop := fnExactVotedLevelUptoRow.holds Try.pinned (OpenSpec.upto fnExactVotedLevelSpec)

/-- 'laws.FnExactSuspectSensor', WHERE WHAT IT READS IS OF BULK AT MOST 1048576: true; the input reads as it did. -/
def fnExactSuspectSensorUptoRow : OpenClaim := { program := "ytmnbbnboaokgjaa", sum := "532708f715516525315e46fb58aa6aa4d304adfb49f01cca997720c8eecab6e0", func := "loop.example/g00924/laws.FnExactSuspectSensor", spec := "fnExactSuspectSensor", unfollowed := true, recurses := true, apart := false, narrowed := true }
def FnExactSuspectSensorUptoSaid : Prop := fnExactSuspectSensorUptoRow.holds Try.pinned (OpenSpec.upto fnExactSuspectSensorSpec)

/-- 'laws.FnSensors', WHERE WHAT IT READS IS OF BULK AT MOST 1048576: true; the input reads as it did. -/
def fnSensorsUptoRow : OpenClaim := { program := "ytmnbbnboaokgjaa", sum := "532708f715516525315e46fb58aa6aa4d304adfb49f01cca997720c8eecab6e0", func := "loop.example/g00924/laws.FnSensors", spec := "fnSensors", unfollowed := true, recurses := true, apart := false, narrowed := true }
def FnSensorsUptoSaid : Prop := fnSensorsUptoRow.holds Try.pinned (OpenSpec.upto fnSensorsSpec)

end Rows
end Go.Proofs.Ytmnbbnboaokgjaa
