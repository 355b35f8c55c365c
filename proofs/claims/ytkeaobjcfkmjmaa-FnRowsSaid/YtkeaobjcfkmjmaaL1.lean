/- The small functions on numbers. -/
import Derived.Test.YtkeaobjcfkmjmaaRows
import Derived.Test.YtkeaobjcfkmjmaaBase
namespace Go.Proofs.Ytkeaobjcfkmjmaa
open Go.RowKit
set_option maxHeartbeats 400000 in
theorem inside_any (n lo hi : Int) (w : World) : Calls Try.prog 53 #[.int .i64 n, .int .i64 lo, .int .i64 hi] w fun e w' => e = .returned (.bool (inB n lo hi)) ∧ w = w' := by
  by_cases h1 : lo ≤ n
  · have h1' : decide (lo ≤ n) = true := by simpa using h1
    go_enter Try.func53, Try.ntmps53
    go_wp2
    go_ret
    exact ⟨by simp [inB, h1], rfl⟩
  · have h1' : decide (lo ≤ n) = false := by simpa using h1
    go_enter Try.func53, Try.ntmps53
    go_wp2
    go_ret
    exact ⟨by simp [inB, h1'], rfl⟩
set_option maxHeartbeats 400000 in
theorem l1In_any (n lo hi : Int) (w : World) : Calls Try.prog 51 #[.int .i64 n, .int .i64 lo, .int .i64 hi] w fun e w' => e = .returned (.bool (inB n lo hi)) ∧ w = w' := by
  by_cases h1 : lo ≤ n
  · have h1' : decide (lo ≤ n) = true := by simpa using h1
    go_enter Try.func51, Try.ntmps51
    go_wp2
    go_ret
    exact ⟨by simp [inB, h1], rfl⟩
  · have h1' : decide (lo ≤ n) = false := by simpa using h1
    go_enter Try.func51, Try.ntmps51
    go_wp2
    go_ret
    exact ⟨by simp [inB, h1'], rfl⟩
set_option maxHeartbeats 400000 in
theorem l1Most_any (a b : Int) (w : World) : Calls Try.prog 83 #[.int .i64 a, .int .i64 b] w fun e w' => e = .returned (.int .i64 (max a b)) ∧ w = w' := by
  by_cases h : b < a
  · have HR := Lib.hid (show max a b = a by omega)
    go_enter Try.func83, Try.ntmps83
    go_wp2
    go_ret
    exact ⟨by rw [HR.out]; rfl, rfl⟩
  · have HR := Lib.hid (show max a b = b by omega)
    go_enter Try.func83, Try.ntmps83
    go_wp2
    go_ret
    exact ⟨by rw [HR.out]; rfl, rfl⟩
end Go.Proofs.Ytkeaobjcfkmjmaa
