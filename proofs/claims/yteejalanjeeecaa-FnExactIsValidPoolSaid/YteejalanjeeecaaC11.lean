/- The contracts of the functions on pools. -/
import Derived.Test.YteejalanjeeecaaL1
import Derived.Test.YteejalanjeeecaaHPool
namespace Go.Proofs.Yteejalanjeeecaa
open Go.RowKit
def validPool (p : Pool) : Bool := inB p.Area 1 100 && inB p.Floor 0 2000 && inB p.Water 0 100000
set_option maxHeartbeats 400000 in
theorem l11Good_any (p : Pool) (w : World) : Calls Try.prog 54 #[p.val] w fun e w' => e = .returned (.bool (validPool p)) ∧ Bl w w' := by
  obtain ⟨a, b, c⟩ := p
  cases h1 : inB a 1 100 <;> cases h2 : inB b 0 2000 <;> cases h3 : inB c 0 100000
  all_goals
    simp only [Pool.val, validPool]
    go_enter Try.func54, Try.ntmps54
    go_wp2_with (go_at_call 65; refine (l1In_any _ _ _ _).mono ?_; rintro e w' ⟨rfl, rfl⟩)
    go_ret
    exact ⟨by simp [h1, h2, h3], (Bl.refl _).alloc _⟩
set_option maxHeartbeats 400000 in
theorem implIsValidPool_any (p : Pool) (w : World) : Calls Try.prog 17 #[p.val] w fun e w' => e = .returned (.bool (validPool p)) ∧ Bl w w' := by
  obtain ⟨a, b, c⟩ := p
  cases h1 : inB a 1 100 <;> cases h2 : inB b 0 2000 <;> cases h3 : inB c 0 100000
  all_goals
    simp only [Pool.val, validPool]
    go_enter Try.func17, Try.ntmps17
    go_wp2_with (go_at_call 55; refine (inside_any _ _ _ _).mono ?_; rintro e w' ⟨rfl, rfl⟩)
    go_ret
    exact ⟨by simp [h1, h2, h3], (Bl.refl _).alloc _⟩
set_option maxHeartbeats 400000 in
theorem specIsValidPool_any (p : Pool) (w : World) : Calls Try.prog 15 #[p.val] w fun e w' => e = .returned (.bool (validPool p)) ∧ Bl w w' := by
  obtain ⟨a, b, c⟩ := p
  have hc := fun w => l11Good_any ⟨a, b, c⟩ w
  simp only [Pool.val] at hc ⊢
  have HC := Lib.hid hc; clear hc
  go_enter Try.func15, Try.ntmps15
  go_wp2_with fail
  refine (HC.out _).mono ?_
  rintro e w' ⟨rfl, hb⟩
  go_wp2
  go_ret
  exact ⟨rfl, ((Bl.refl _).alloc _).trans hb⟩
end Go.Proofs.Yteejalanjeeecaa
