/- The contract of the comparison of two arrivals. -/
import Derived.Test.YtnckpionabokeaaQ8
import Derived.Test.YtnckpionabokeaaCmp
import Derived.Deep.RegionHeld3
namespace Go.Proofs.Ytnckpionabokeaa
open Go.RowKit
def cmpArr (a b : Arrival) : Int := orZ [cmpZ a.Minute b.Minute, cmpZ a.Id b.Id]
theorem cmpArr_pos (a b : Arrival) : decide (0 < cmpArr a b) = befA b a := by
  rw [Bool.eq_iff_iff]
  simp only [cmpArr, befA, decide_eq_true_eq, Bool.or_eq_true, Bool.and_eq_true, orZ, cmpZ]
  by_cases h1 : a.Minute < b.Minute
  · have : ¬ b.Minute < a.Minute := by omega
    have : ¬ b.Minute = a.Minute := by omega
    simp [*]
  · by_cases h2 : b.Minute < a.Minute
    · simp [h1, h2]
    · have h3 : b.Minute = a.Minute := by omega
      by_cases h4 : a.Id < b.Id
      · have : ¬ b.Id < a.Id := by omega
        simp [h1, h2, h3, h4, this]
      · by_cases h5 : b.Id < a.Id
        · simp [h1, h2, h3, h4, h5]
        · simp [h1, h2, h3, h4, h5]
set_option maxHeartbeats 1000000 in
theorem compareArrivals_any (p q : Arrival) (w : World) : Calls Try.prog 63 #[p.val, q.val] w fun e w' => e = .returned (.int .i64 (cmpArr p q)) ∧ Bl w w' := by
  obtain ⟨p0, p1, p2, p3⟩ := p
  obtain ⟨q0, q1, q2, q3⟩ := q
  simp only [Arrival.val]
  have F00 : ∀ W, Bl ((w.alloc (.cells #[.int .i64 p0, .bool p1, .int .i64 p2, .int .i64 p3] 43)).alloc (.cells #[.int .i64 q0, .bool q1, .int .i64 q2, .int .i64 q3] 43)) W → W.cell? ⟨w.heap.size, 0, none⟩ = some (.int .i64 p0) := Bl.all (by go_simp)
  have F01 : ∀ W, Bl ((w.alloc (.cells #[.int .i64 p0, .bool p1, .int .i64 p2, .int .i64 p3] 43)).alloc (.cells #[.int .i64 q0, .bool q1, .int .i64 q2, .int .i64 q3] 43)) W → W.cell? ⟨w.heap.size, 1, none⟩ = some (.bool p1) := Bl.all (by go_simp)
  have F02 : ∀ W, Bl ((w.alloc (.cells #[.int .i64 p0, .bool p1, .int .i64 p2, .int .i64 p3] 43)).alloc (.cells #[.int .i64 q0, .bool q1, .int .i64 q2, .int .i64 q3] 43)) W → W.cell? ⟨w.heap.size, 2, none⟩ = some (.int .i64 p2) := Bl.all (by go_simp)
  have F03 : ∀ W, Bl ((w.alloc (.cells #[.int .i64 p0, .bool p1, .int .i64 p2, .int .i64 p3] 43)).alloc (.cells #[.int .i64 q0, .bool q1, .int .i64 q2, .int .i64 q3] 43)) W → W.cell? ⟨w.heap.size, 3, none⟩ = some (.int .i64 p3) := Bl.all (by go_simp)
  have F10 : ∀ W, Bl ((w.alloc (.cells #[.int .i64 p0, .bool p1, .int .i64 p2, .int .i64 p3] 43)).alloc (.cells #[.int .i64 q0, .bool q1, .int .i64 q2, .int .i64 q3] 43)) W → W.cell? ⟨w.heap.size + 1, 0, none⟩ = some (.int .i64 q0) := Bl.all (by go_simp)
  have F11 : ∀ W, Bl ((w.alloc (.cells #[.int .i64 p0, .bool p1, .int .i64 p2, .int .i64 p3] 43)).alloc (.cells #[.int .i64 q0, .bool q1, .int .i64 q2, .int .i64 q3] 43)) W → W.cell? ⟨w.heap.size + 1, 1, none⟩ = some (.bool q1) := Bl.all (by go_simp)
  have F12 : ∀ W, Bl ((w.alloc (.cells #[.int .i64 p0, .bool p1, .int .i64 p2, .int .i64 p3] 43)).alloc (.cells #[.int .i64 q0, .bool q1, .int .i64 q2, .int .i64 q3] 43)) W → W.cell? ⟨w.heap.size + 1, 2, none⟩ = some (.int .i64 q2) := Bl.all (by go_simp)
  have F13 : ∀ W, Bl ((w.alloc (.cells #[.int .i64 p0, .bool p1, .int .i64 p2, .int .i64 p3] 43)).alloc (.cells #[.int .i64 q0, .bool q1, .int .i64 q2, .int .i64 q3] 43)) W → W.cell? ⟨w.heap.size + 1, 3, none⟩ = some (.int .i64 q3) := Bl.all (by go_simp)
  have hb := Bl.refl ((w.alloc (.cells #[.int .i64 p0, .bool p1, .int .i64 p2, .int .i64 p3] 43)).alloc (.cells #[.int .i64 q0, .bool q1, .int .i64 q2, .int .i64 q3] 43))
  have hb0 : Hid (Bl w ((w.alloc (.cells #[.int .i64 p0, .bool p1, .int .i64 p2, .int .i64 p3] 43)).alloc (.cells #[.int .i64 q0, .bool q1, .int .i64 q2, .int .i64 q3] 43))) := ((Bl.refl w).alloc _).alloc _
  have hb1 := hb.drew
  have k0 := F00 _ hb
  have k1 := F02 _ hb
  have k2 := F10 _ hb
  have k3 := F12 _ hb
  have HF0 := Lib.hid F00
  have HF1 := Lib.hid F02
  have HF2 := Lib.hid F10
  have HF3 := Lib.hid F12
  clear F00 F01 F02 F03 F10 F11 F12 F13
  go_enter Try.func63, Try.ntmps63
  go_wp2_with fail
  go_region_held3 (fun W => W.cell? ⟨w.heap.size, 0, none⟩ = some (.int .i64 p0) ∧ W.cell? ⟨w.heap.size, 2, none⟩ = some (.int .i64 p2) ∧ W.cell? ⟨w.heap.size + 1, 0, none⟩ = some (.int .i64 q0) ∧ W.cell? ⟨w.heap.size + 1, 2, none⟩ = some (.int .i64 q2)) (first | go_keep | exact ⟨HF0.out _ hb2, HF1.out _ hb2, HF2.out _ hb2, HF3.out _ hb2⟩) (first | (go_at_call 79; refine (compare_any _ _ _).mono ?_; rintro e w' ⟨rfl, rfl⟩) | (go_at_call 78; refine Calls.mono (or_any _ 2 2 [cmpZ p2 q2, cmpZ p0 q0] _ (sl_lit2 _ _ (cmpZ p2 q2) (cmpZ p0 q0) _ (by simp))) ?_; rintro e w' ⟨rfl, hbn⟩; have hb2 := Bl.trans (hb1.alloc _) hbn; clear hbn))
  all_goals
    go_wp2_with fail
    go_ret
    exact ⟨rfl, hb0.out.trans (by repeat (first | (with_reducible assumption) | (with_reducible apply Bl.drew)))⟩
end Go.Proofs.Ytnckpionabokeaa
