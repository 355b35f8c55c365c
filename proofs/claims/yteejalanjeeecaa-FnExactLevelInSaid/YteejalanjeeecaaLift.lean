/- What every row of the seat wants: the arguments as data. -/
import Derived.Test.YteejalanjeeecaaRows
import Derived.Test.YteejalanjeeecaaBase
import Derived.ProofKit
import Derived.OpenShut
import Derived.ShutString
import Derived.ChangeOld
import Derived.Lib.SmallJoins
namespace Go.Proofs.Yteejalanjeeecaa
open Go.ChangeShapes Go.WideShapes Go.ChangeAt Go.RowKit Go.Deep Go.Joins
theorem seatOwn : ownKnob Try.prog.godebug = none := by kernel_rfl
theorem seatLaid : laidOutB Try.prog = true := by kernel_rfl
theorem int_bounds {x : Int} (h : (Lit.int .i64 x).wf = true) : -9223372036854775808 ≤ x ∧ x ≤ 9223372036854775807 := by
  simp [Lit.wf, IntKind.min, IntKind.max, IntKind.signed, IntKind.bits] at h
  exact ⟨by omega, by omega⟩
end Go.Proofs.Yteejalanjeeecaa
