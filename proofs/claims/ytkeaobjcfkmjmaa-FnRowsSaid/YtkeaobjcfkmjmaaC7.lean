/- The contracts of the functions on cargo: gaps, validity. -/
import Derived.Test.YtkeaobjcfkmjmaaL1
import Derived.Test.YtkeaobjcfkmjmaaHCargo
namespace Go.Proofs.Ytkeaobjcfkmjmaa
open Go.RowKit
def gapZ (x y : Int) : Int := if x = 3 ∨ y = 3 then 5 else x + y
def neededGapR (x y : Int) : Int × Bool := if inB x 0 3 = true ∧ inB y 0 3 = true then (gapZ x y, true) else (0, false)
set_option maxHeartbeats 400000 in
theorem neededGap_any (x y : Int) (w : World) (h0 : 0 ≤ x) (h1 : x ≤ 3) (h2 : 0 ≤ y) (h3 : y ≤ 3) : Calls Try.prog 54 #[.int .i64 x, .int .i64 y] w fun e w' => e = .returned (.int .i64 (gapZ x y)) ∧ w = w' := by
  have hx : x = 0 ∨ x = 1 ∨ x = 2 ∨ x = 3 := by omega
  have hy : y = 0 ∨ y = 1 ∨ y = 2 ∨ y = 3 := by omega
  rcases hx with rfl | rfl | rfl | rfl <;> rcases hy with rfl | rfl | rfl | rfl
  all_goals
    clear h0 h1 h2 h3
    go_enter Try.func54, Try.ntmps54
    go_wp2
    go_ret
    exact ⟨rfl, rfl⟩
set_option maxHeartbeats 400000 in
theorem l7Gap_any (x y : Int) (w : World) (h0 : 0 ≤ x) (h1 : x ≤ 3) (h2 : 0 ≤ y) (h3 : y ≤ 3) : Calls Try.prog 52 #[.int .i64 x, .int .i64 y] w fun e w' => e = .returned (.int .i64 (gapZ x y)) ∧ w = w' := by
  have hx : x = 0 ∨ x = 1 ∨ x = 2 ∨ x = 3 := by omega
  have hy : y = 0 ∨ y = 1 ∨ y = 2 ∨ y = 3 := by omega
  rcases hx with rfl | rfl | rfl | rfl <;> rcases hy with rfl | rfl | rfl | rfl
  all_goals
    clear h0 h1 h2 h3
    go_enter Try.func52, Try.ntmps52
    go_wp2
    go_ret
    exact ⟨rfl, rfl⟩
set_option maxHeartbeats 400000 in
theorem specNeededGap_any (x y : Int) (w : World) : Calls Try.prog 14 #[.int .i64 x, .int .i64 y] w fun e w' => e = .returned (.tuple #[.int .i64 (neededGapR x y).1, .bool (neededGapR x y).2]) ∧ Bl w w' := by
  have H1 := Lib.hid (fun w => same_bl (l1In_any x 0 3 w))
  have H2 := Lib.hid (fun w => same_bl (l1In_any y 0 3 w))
  have hb := Bl.refl w
  cases h1 : inB x 0 3
  · have HR : Hid (neededGapR x y = (0, false)) := by show _ = _; simp [neededGapR, h1]
    go_enter Try.func14, Try.ntmps14
    go_wp2_with fail
    refine (H1.out _).mono ?_
    rintro e w' ⟨rfl, hbn⟩
    have hb := hb.trans hbn
    clear hbn
    simp only [h1]
    go_wp2_with fail
    go_ret2
    exact ⟨by rw [HR.out]; rfl, hb⟩
  cases h2 : inB y 0 3
  · have HR : Hid (neededGapR x y = (0, false)) := by show _ = _; simp [neededGapR, h2]
    go_enter Try.func14, Try.ntmps14
    go_wp2_with fail
    refine (H1.out _).mono ?_
    rintro e w' ⟨rfl, hbn⟩
    have hb := hb.trans hbn
    clear hbn
    simp only [h1]
    go_wp2_with fail
    refine (H2.out _).mono ?_
    rintro e w' ⟨rfl, hbn⟩
    have hb := hb.trans hbn
    clear hbn
    simp only [h2]
    go_wp2_with fail
    go_ret2
    exact ⟨by rw [HR.out]; rfl, hb⟩
  have HR : Hid (neededGapR x y = (gapZ x y, true)) := by show _ = _; simp [neededGapR, h1, h2]
  have b1 := inB_iff.1 h1
  have b2 := inB_iff.1 h2
  have H3 := Lib.hid (fun w => same_bl (l7Gap_any x y w b1.1 b1.2 b2.1 b2.2))
  go_enter Try.func14, Try.ntmps14
  go_wp2_with fail
  refine (H1.out _).mono ?_
  rintro e w' ⟨rfl, hbn⟩
  have hb := hb.trans hbn
  clear hbn
  simp only [h1]
  go_wp2_with fail
  refine (H2.out _).mono ?_
  rintro e w' ⟨rfl, hbn⟩
  have hb := hb.trans hbn
  clear hbn
  simp only [h2]
  go_wp2_with fail
  refine (H3.out _).mono ?_
  rintro e w' ⟨rfl, hbn⟩
  have hb := hb.trans hbn
  clear hbn
  go_wp2_with fail
  go_ret2
  exact ⟨by rw [HR.out]; rfl, hb⟩
set_option maxHeartbeats 400000 in
theorem implNeededGap_any (x y : Int) (w : World) : Calls Try.prog 15 #[.int .i64 x, .int .i64 y] w fun e w' => e = .returned (.tuple #[.int .i64 (neededGapR x y).1, .bool (neededGapR x y).2]) ∧ Bl w w' := by
  have H1 := Lib.hid (fun w => same_bl (inside_any x 0 3 w))
  have H2 := Lib.hid (fun w => same_bl (inside_any y 0 3 w))
  have hb := Bl.refl w
  cases h1 : inB x 0 3
  · have HR : Hid (neededGapR x y = (0, false)) := by show _ = _; simp [neededGapR, h1]
    go_enter Try.func15, Try.ntmps15
    go_wp2_with fail
    refine (H1.out _).mono ?_
    rintro e w' ⟨rfl, hbn⟩
    have hb := hb.trans hbn
    clear hbn
    simp only [h1]
    go_wp2_with fail
    go_ret2
    exact ⟨by rw [HR.out]; rfl, hb⟩
  cases h2 : inB y 0 3
  · have HR : Hid (neededGapR x y = (0, false)) := by show _ = _; simp [neededGapR, h2]
    go_enter Try.func15, Try.ntmps15
    go_wp2_with fail
    refine (H1.out _).mono ?_
    rintro e w' ⟨rfl, hbn⟩
    have hb := hb.trans hbn
    clear hbn
    simp only [h1]
    go_wp2_with fail
    refine (H2.out _).mono ?_
    rintro e w' ⟨rfl, hbn⟩
    have hb := hb.trans hbn
    clear hbn
    simp only [h2]
    go_wp2_with fail
    go_ret2
    exact ⟨by rw [HR.out]; rfl, hb⟩
  have HR : Hid (neededGapR x y = (gapZ x y, true)) := by show _ = _; simp [neededGapR, h1, h2]
  have b1 := inB_iff.1 h1
  have b2 := inB_iff.1 h2
  have H3 := Lib.hid (fun w => same_bl (neededGap_any x y w b1.1 b1.2 b2.1 b2.2))
  go_enter Try.func15, Try.ntmps15
  go_wp2_with fail
  refine (H1.out _).mono ?_
  rintro e w' ⟨rfl, hbn⟩
  have hb := hb.trans hbn
  clear hbn
  simp only [h1]
  go_wp2_with fail
  refine (H2.out _).mono ?_
  rintro e w' ⟨rfl, hbn⟩
  have hb := hb.trans hbn
  clear hbn
  simp only [h2]
  go_wp2_with fail
  refine (H3.out _).mono ?_
  rintro e w' ⟨rfl, hbn⟩
  have hb := hb.trans hbn
  clear hbn
  go_wp2_with fail
  go_ret2
  exact ⟨by rw [HR.out]; rfl, hb⟩
end Go.Proofs.Ytkeaobjcfkmjmaa
