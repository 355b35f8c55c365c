/- The contracts of the functions on lists of pools. -/
import Derived.Test.YteejalanjeeecaaC11
namespace Go.Proofs.Yteejalanjeeecaa
open Go.RowKit
def redI (x y : Int) : Int × Int := (x / (Nat.gcd x.toNat y.toNat : Int), y / (Nat.gcd x.toNat y.toNat : Int))
theorem l11Reduce_int (x y : Int) (w : World) (h0 : 0 ≤ x) (h1 : x ≤ 1000000000) (h2 : 1 ≤ y) (h3 : y ≤ 1000000000) : Calls Try.prog 58 #[.int .i64 x, .int .i64 y] w fun e w' => e = .returned (.tuple #[.int .i64 (redI x y).1, .int .i64 (redI x y).2]) ∧ Bl w w' := by
  obtain ⟨a, rfl⟩ := Int.eq_ofNat_of_zero_le h0
  obtain ⟨b, rfl⟩ := Int.eq_ofNat_of_zero_le (a := y) (by omega)
  exact l11Reduce_any a b w (by omega) (by omega) (by omega)
theorem lowestTerms_int (x y : Int) (w : World) (h0 : 0 ≤ x) (h1 : x ≤ 1000000000) (h2 : 1 ≤ y) (h3 : y ≤ 1000000000) : Calls Try.prog 60 #[.int .i64 x, .int .i64 y] w fun e w' => e = .returned (.tuple #[.int .i64 (redI x y).1, .int .i64 (redI x y).2]) ∧ Bl w w' := by
  obtain ⟨a, rfl⟩ := Int.eq_ofNat_of_zero_le h0
  obtain ⟨b, rfl⟩ := Int.eq_ofNat_of_zero_le (a := y) (by omega)
  exact lowestTerms_any a b w (by omega) (by omega) (by omega)
/-- What LevelIn hands back. -/
def levelIn (p : Pool) : (Int × Int) × Bool := if validPool p = true then (redI (heightZ p) p.Area, true) else ((0, 0), false)
set_option maxHeartbeats 400000 in
theorem specLevelIn_any (p : Pool) (w : World) : Calls Try.prog 20 #[p.val] w fun e w' => e = .returned (.tuple #[.int .i64 (levelIn p).1.1, .int .i64 (levelIn p).1.2, .bool (levelIn p).2]) ∧ Bl w w' := by
  have H1 := Lib.hid (fun w => l11Good_any p w)
  cases h1 : validPool p
  · have HR : Hid (levelIn p = ((0, 0), false)) := by show _ = _; simp [levelIn, h1]
    generalize levelIn p = r at *
    obtain ⟨a, b, c⟩ := p
    simp only [Pool.val] at H1 ⊢
    have F00 : ∀ W, Bl (w.alloc (.cells #[.int .i64 a, .int .i64 b, .int .i64 c] 25)) W → W.cell? ⟨w.heap.size, 0, none⟩ = some (.int .i64 a) := Bl.all (by go_simp)
    have F01 : ∀ W, Bl (w.alloc (.cells #[.int .i64 a, .int .i64 b, .int .i64 c] 25)) W → W.cell? ⟨w.heap.size, 1, none⟩ = some (.int .i64 b) := Bl.all (by go_simp)
    have F02 : ∀ W, Bl (w.alloc (.cells #[.int .i64 a, .int .i64 b, .int .i64 c] 25)) W → W.cell? ⟨w.heap.size, 2, none⟩ = some (.int .i64 c) := Bl.all (by go_simp)
    have hb := Bl.refl (w.alloc (.cells #[.int .i64 a, .int .i64 b, .int .i64 c] 25))
    have hb0 : Hid (Bl w (w.alloc (.cells #[.int .i64 a, .int .i64 b, .int .i64 c] 25))) := (Bl.refl w).alloc _
    go_enter Try.func20, Try.ntmps20
    go_wp2_with fail
    refine (H1.out _).mono ?_
    rintro e w' ⟨rfl, hbn⟩
    have hb := hb.trans hbn
    clear hbn
    simp only [h1]
    go_wp2_with fail
    go_ret3
    exact ⟨by rw [HR.out]; rfl, hb0.out.trans hb⟩
  · have HR : Hid (levelIn p = (redI (heightZ p) p.Area, true)) := by show _ = _; simp [levelIn, h1]
    have ok := ok_of_valid h1
    have hh := height_bd ok
    have H2 := Lib.hid (fun w => l11Height_any p w ok)
    have H3 := Lib.hid (fun w => l11Reduce_int (heightZ p) p.Area w hh.1 (by omega) ok.a0 (by have := ok.a1; omega))
    generalize levelIn p = r at *
    generalize heightZ p = z at *
    obtain ⟨a, b, c⟩ := p
    simp only [Pool.val] at H1 H2 H3 HR ⊢
    clear ok
    generalize redI z a = q at *
    have F00 : ∀ W, Bl (w.alloc (.cells #[.int .i64 a, .int .i64 b, .int .i64 c] 25)) W → W.cell? ⟨w.heap.size, 0, none⟩ = some (.int .i64 a) := Bl.all (by go_simp)
    have F01 : ∀ W, Bl (w.alloc (.cells #[.int .i64 a, .int .i64 b, .int .i64 c] 25)) W → W.cell? ⟨w.heap.size, 1, none⟩ = some (.int .i64 b) := Bl.all (by go_simp)
    have F02 : ∀ W, Bl (w.alloc (.cells #[.int .i64 a, .int .i64 b, .int .i64 c] 25)) W → W.cell? ⟨w.heap.size, 2, none⟩ = some (.int .i64 c) := Bl.all (by go_simp)
    have hb := Bl.refl (w.alloc (.cells #[.int .i64 a, .int .i64 b, .int .i64 c] 25))
    have hb0 : Hid (Bl w (w.alloc (.cells #[.int .i64 a, .int .i64 b, .int .i64 c] 25))) := (Bl.refl w).alloc _
    go_enter Try.func20, Try.ntmps20
    go_wp2_with fail
    refine (H1.out _).mono ?_
    rintro e w' ⟨rfl, hbn⟩
    have hb := hb.trans hbn
    clear hbn
    simp only [h1]
    go_wp2_with fail
    refine region_bl (by kernel_rfl) (by kernel_rfl) hb ?_
    repeat' (first | go_big_quiet_skip | (go_big_quiet_want; go_simp; (try go_bits); first | (refine ⟨_, fun _ _ => rfl, ?_⟩; go_big_quiet_on) | (apply Exists.intro; (with_reducible refine ⟨fun W hW => ret_bl hW (H2.out W), ?_⟩); go_big_quiet_on) | (apply Exists.intro; (with_reducible refine ⟨fun W hW => ret_bl hW (H3.out W), ?_⟩); go_big_quiet_on) | (apply Exists.intro; refine ⟨fun W hW => ?_, ?_⟩; (· go_simp; (try go_bits); rfl); go_big_quiet_on)))
    apply wpQuiet_nil
    intro W hb
    go_wp2_with fail
    go_ret3
    exact ⟨by rw [HR.out]; rfl, hb0.out.trans hb⟩
set_option maxHeartbeats 400000 in
theorem implLevelIn_any (p : Pool) (w : World) : Calls Try.prog 21 #[p.val] w fun e w' => e = .returned (.tuple #[.int .i64 (levelIn p).1.1, .int .i64 (levelIn p).1.2, .bool (levelIn p).2]) ∧ Bl w w' := by
  have H1 := Lib.hid (fun w => implIsValidPool_any p w)
  cases h1 : validPool p
  · have HR : Hid (levelIn p = ((0, 0), false)) := by show _ = _; simp [levelIn, h1]
    generalize levelIn p = r at *
    obtain ⟨a, b, c⟩ := p
    simp only [Pool.val] at H1 ⊢
    have F00 : ∀ W, Bl (w.alloc (.cells #[.int .i64 a, .int .i64 b, .int .i64 c] 25)) W → W.cell? ⟨w.heap.size, 0, none⟩ = some (.int .i64 a) := Bl.all (by go_simp)
    have F01 : ∀ W, Bl (w.alloc (.cells #[.int .i64 a, .int .i64 b, .int .i64 c] 25)) W → W.cell? ⟨w.heap.size, 1, none⟩ = some (.int .i64 b) := Bl.all (by go_simp)
    have F02 : ∀ W, Bl (w.alloc (.cells #[.int .i64 a, .int .i64 b, .int .i64 c] 25)) W → W.cell? ⟨w.heap.size, 2, none⟩ = some (.int .i64 c) := Bl.all (by go_simp)
    have hb := Bl.refl (w.alloc (.cells #[.int .i64 a, .int .i64 b, .int .i64 c] 25))
    have hb0 : Hid (Bl w (w.alloc (.cells #[.int .i64 a, .int .i64 b, .int .i64 c] 25))) := (Bl.refl w).alloc _
    go_enter Try.func21, Try.ntmps21
    go_wp2_with fail
    refine (H1.out _).mono ?_
    rintro e w' ⟨rfl, hbn⟩
    have hb := hb.trans hbn
    clear hbn
    simp only [h1]
    go_wp2_with fail
    go_ret3
    exact ⟨by rw [HR.out]; rfl, hb0.out.trans hb⟩
  · have HR : Hid (levelIn p = (redI (heightZ p) p.Area, true)) := by show _ = _; simp [levelIn, h1]
    have ok := ok_of_valid h1
    have hh := height_bd ok
    have H3 := Lib.hid (fun w => lowestTerms_int (heightZ p) p.Area w hh.1 (by omega) ok.a0 (by have := ok.a1; omega))
    have hm := mul_bd ok.f0 ok.f1 (Int.le_trans (by decide) ok.a0) ok.a1
    have hw0 := ok.w0
    have hw1 := ok.w1
    generalize levelIn p = r at *
    obtain ⟨a, b, c⟩ := p
    simp only [Pool.val, heightZ] at H1 H3 HR hm hw0 hw1 hh ⊢
    obtain ⟨m1, m2⟩ := hm
    clear ok
    generalize redI (b * a + c) a = q at *
    have F00 : ∀ W, Bl (w.alloc (.cells #[.int .i64 a, .int .i64 b, .int .i64 c] 25)) W → W.cell? ⟨w.heap.size, 0, none⟩ = some (.int .i64 a) := Bl.all (by go_simp)
    have F01 : ∀ W, Bl (w.alloc (.cells #[.int .i64 a, .int .i64 b, .int .i64 c] 25)) W → W.cell? ⟨w.heap.size, 1, none⟩ = some (.int .i64 b) := Bl.all (by go_simp)
    have F02 : ∀ W, Bl (w.alloc (.cells #[.int .i64 a, .int .i64 b, .int .i64 c] 25)) W → W.cell? ⟨w.heap.size, 2, none⟩ = some (.int .i64 c) := Bl.all (by go_simp)
    have hb := Bl.refl (w.alloc (.cells #[.int .i64 a, .int .i64 b, .int .i64 c] 25))
    have hb0 : Hid (Bl w (w.alloc (.cells #[.int .i64 a, .int .i64 b, .int .i64 c] 25))) := (Bl.refl w).alloc _
    go_enter Try.func21, Try.ntmps21
    go_wp2_with fail
    refine (H1.out _).mono ?_
    rintro e w' ⟨rfl, hbn⟩
    have hb := hb.trans hbn
    clear hbn
    simp only [h1]
    go_wp2_with fail
    refine (H3.out _).mono ?_
    rintro e w' ⟨rfl, hbn⟩
    have hb := hb.trans hbn
    clear hbn
    go_wp2_with fail
    go_ret3
    exact ⟨by rw [HR.out]; rfl, hb0.out.trans hb⟩
end Go.Proofs.Yteejalanjeeecaa
