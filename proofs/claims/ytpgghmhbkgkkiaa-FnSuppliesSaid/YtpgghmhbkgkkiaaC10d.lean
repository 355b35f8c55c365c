/- The contracts of the functions on basins: the most lockages. -/
import Derived.Test.YtpgghmhbkgkkiaaC10c
namespace Go.Proofs.Ytpgghmhbkgkkiaa
open Go.RowKit
def basAt (l : List Basin) (i : Int) : Basin := (l[i.toNat]?).getD ⟨0, 0, 0⟩
def cntR (l : List Basin) (x y z : Int) : Int :=
  let c1 := if x = -1 then 100000 else min 100000 (((basAt l x).Volume - (basAt l x).Least) / z)
  if y = -1 then c1 else min c1 (((basAt l y).Most - (basAt l y).Volume) / z)
def mostLockages (l : List Basin) (x y z : Int) : Int × Bool := if flowOk l ⟨x, y, z⟩ = true then (cntR l x y z, true) else (0, false)
theorem flow_parts {l : List Basin} {f : Flow} (h : flowOk l f = true) : basinsOk l = true ∧ validFlow l.length f = true := by
  simpa [flowOk] using h
theorem bas_nat {l : List Basin} {i : Nat} {p : Basin} (h : l[i]? = some p) : basAt l (i : Int) = p := by simp [basAt, h]
theorem cnt_to {l : List Basin} {x z : Int} {j : Nat} {p : Basin} (hx : x = -1) (h : l[j]? = some p) : cntR l x j z = min 100000 ((p.Most - p.Volume) / z) := by
  have : ¬ ((j : Int) = -1) := by omega
  simp only [cntR, hx, if_true, this, if_false, bas_nat h]
theorem cnt_from {l : List Basin} {y z : Int} {i : Nat} {p : Basin} (hy : y = -1) (h : l[i]? = some p) : cntR l i y z = min 100000 ((p.Volume - p.Least) / z) := by
  have : ¬ ((i : Int) = -1) := by omega
  simp only [cntR, hy, if_true, this, if_false, bas_nat h]
theorem cnt_both {l : List Basin} {z : Int} {i j : Nat} {p q : Basin} (h : l[i]? = some p) (g : l[j]? = some q) : cntR l i j z = min (min 100000 ((p.Volume - p.Least) / z)) ((q.Most - q.Volume) / z) := by
  have h1 : ¬ ((i : Int) = -1) := by omega
  have h2 : ¬ ((j : Int) = -1) := by omega
  simp only [cntR, h1, h2, if_false, bas_nat h, bas_nat g]
set_option maxHeartbeats 2000000 in
theorem specMostLockages_any (A : Option Addr) (n c : Nat) (l : List Basin) (x y z : Int) (w : World) (h : Sl Basin.cs 3 w A n l) :
    Calls Try.prog 24 #[.slice A n c, .int .i64 x, .int .i64 y, .int .i64 z] w fun e w' => e = .returned (.tuple #[.int .i64 (mostLockages l x y z).1, .bool (mostLockages l x y z).2]) ∧ Bl w w' := by
  have bn := h.le
  have HL := Lib.hid h.1
  have hn0 : 0 ≤ (n : Int) := by omega
  have hn1 : (n : Int) ≤ 9223372036854775807 := by omega
  have H1 := Lib.hid (l10Good_any A n c l w h)
  have H2 := Lib.hid (fun w => l10Flow_any n ⟨x, y, z⟩ w hn0 hn1)
  simp only [Flow.val] at H2
  cases h1 : basinsOk l
  · have HR : Hid (mostLockages l x y z = (0, false)) := by show _ = _; simp [mostLockages, flowOk, h1]
    go_enter Try.func24, Try.ntmps24
    go_wp2_with fail
    refine H1.out.mono ?_
    rintro e w1 ⟨rfl, hb⟩
    simp only [h1]
    go_wp2_with fail
    go_ret2
    exact ⟨by rw [HR.out]; rfl, hb⟩
  cases h2 : validFlow n ⟨x, y, z⟩
  · have HR : Hid (mostLockages l x y z = (0, false)) := by show _ = _; simp [mostLockages, flowOk, h1, HL.out, h2]
    go_enter Try.func24, Try.ntmps24
    go_wp2_with fail
    refine H1.out.mono ?_
    rintro e w1 ⟨rfl, hb⟩
    simp only [h1]
    go_wp2_with fail
    refine (H2.out _).mono ?_
    rintro e w' ⟨rfl, hbn⟩
    have hb := hb.trans hbn
    clear hbn
    simp only [h2]
    go_wp2_with fail
    go_ret2
    exact ⟨by rw [HR.out]; rfl, hb⟩
  have HV := Lib.hid (show flowOk l ⟨x, y, z⟩ = true by simp [flowOk, h1, HL.out, h2])
  have hok := (flow_parts HV.out).1
  have hvf := valid_flow (flow_parts HV.out).2
  obtain ⟨v1, v2, v3, v4, v5, v6, v7⟩ := hvf
  rw [h.1] at v2 v4
  simp only at v1 v2 v3 v4 v5 v6 v7
  have q1 : ¬ z = 0 := by omega
  have HR0 : Hid (mostLockages l x y z = (cntR l x y z, true)) := by show _ = _; rw [mostLockages, if_pos HV.out]
  by_cases hx : x = -1
  · have hy : ¬ y = -1 := by omega
    obtain ⟨j, rfl⟩ := Int.eq_ofNat_of_zero_le (a := y) (by omega)
    have hj : j < n := by omega
    obtain ⟨bqy, oy, py, rfl, ey, cy1, cy2, cy3⟩ := h.Basin (i := j) (by omega)
    obtain ⟨ry0, ry1, ry2, ry3⟩ := bas_at hok ey
    have HR := Lib.hid (HR0.out.trans (by rw [cnt_to hx ey] : _ = (min 100000 ((py.Most - py.Volume) / z), true)))
    obtain ⟨d1, d2⟩ := IntWalk.tdiv_le (py.Most - py.Volume) z (by omega) (by omega)
    clear HR0 ey HV hok
    subst hx
    go_enter Try.func24, Try.ntmps24
    go_wp2_with fail
    refine H1.out.mono ?_
    rintro e w1 ⟨rfl, hb⟩
    simp only [h1]
    go_wp2_with fail
    refine (H2.out _).mono ?_
    rintro e w' ⟨rfl, hbn⟩
    have hb := hb.trans hbn
    clear hbn
    simp only [h2]
    go_wp2_with fail
    refine region_bl (by kernel_rfl) (by kernel_rfl) hb ?_
    repeat' (first | go_big_quiet_skip | (go_big_quiet_want; go_simp; (try go_bits); first | (refine ⟨_, fun _ _ => rfl, ?_⟩; go_big_quiet_on) | (apply Exists.intro; (with_reducible refine ⟨fun W hW => ret_bl hW (same_bl (l1Least_any _ _ W)), ?_⟩); go_big_quiet_on) | (apply Exists.intro; refine ⟨fun W hW => ?_, ?_⟩; (· go_simp; (try go_bits); rfl); go_big_quiet_on)))
    apply wpQuiet_nil
    intro W hb
    go_wp2_with fail
    go_ret2
    exact ⟨by rw [HR.out]; rfl, hb⟩
  · obtain ⟨i, rfl⟩ := Int.eq_ofNat_of_zero_le (a := x) (by omega)
    have hi : i < n := by omega
    obtain ⟨bqx, ox, px, rfl, ex, cx1, cx2, cx3⟩ := h.Basin (i := i) (by omega)
    obtain ⟨rx0, rx1, rx2, rx3⟩ := bas_at hok ex
    obtain ⟨d1, d2⟩ := IntWalk.tdiv_le (px.Volume - px.Least) z (by omega) (by omega)
    by_cases hy : y = -1
    · have HR := Lib.hid (HR0.out.trans (by rw [cnt_from hy ex] : _ = (min 100000 ((px.Volume - px.Least) / z), true)))
      clear HR0 ex HV hok
      subst hy
      go_enter Try.func24, Try.ntmps24
      go_wp2_with fail
      refine H1.out.mono ?_
      rintro e w1 ⟨rfl, hb⟩
      simp only [h1]
      go_wp2_with fail
      refine (H2.out _).mono ?_
      rintro e w' ⟨rfl, hbn⟩
      have hb := hb.trans hbn
      clear hbn
      simp only [h2]
      go_wp2_with fail
      refine region_bl (by kernel_rfl) (by kernel_rfl) hb ?_
      repeat' (first | go_big_quiet_skip | (go_big_quiet_want; go_simp; (try go_bits); first | (refine ⟨_, fun _ _ => rfl, ?_⟩; go_big_quiet_on) | (apply Exists.intro; (with_reducible refine ⟨fun W hW => ret_bl hW (same_bl (l1Least_any _ _ W)), ?_⟩); go_big_quiet_on) | (apply Exists.intro; refine ⟨fun W hW => ?_, ?_⟩; (· go_simp; (try go_bits); rfl); go_big_quiet_on)))
      apply wpQuiet_nil
      intro W hb
      go_wp2_with fail
      go_ret2
      exact ⟨by rw [HR.out]; rfl, hb⟩
    · obtain ⟨j, rfl⟩ := Int.eq_ofNat_of_zero_le (a := y) (by omega)
      have hj : j < n := by omega
      obtain ⟨bqy, oy, py, hA, ey, cy1, cy2, cy3⟩ := h.Basin (i := j) (by omega)
      obtain ⟨ry0, ry1, ry2, ry3⟩ := bas_at hok ey
      injection hA with hA
      injection hA with hA1 hA2
      subst hA1 hA2
      have HR := Lib.hid (HR0.out.trans (by rw [cnt_both ex ey, Int.min_assoc] : _ = (min 100000 (min ((px.Volume - px.Least) / z) ((py.Most - py.Volume) / z)), true)))
      obtain ⟨d3, d4⟩ := IntWalk.tdiv_le (py.Most - py.Volume) z (by omega) (by omega)
      clear HR0 ex ey HV hok
      go_enter Try.func24, Try.ntmps24
      go_wp2_with fail
      refine H1.out.mono ?_
      rintro e w1 ⟨rfl, hb⟩
      simp only [h1]
      go_wp2_with fail
      refine (H2.out _).mono ?_
      rintro e w' ⟨rfl, hbn⟩
      have hb := hb.trans hbn
      clear hbn
      simp only [h2]
      go_wp2_with fail
      refine region_bl (by kernel_rfl) (by kernel_rfl) hb ?_
      repeat' (first | go_big_quiet_skip | (go_big_quiet_want; go_simp; (try go_bits); first | (refine ⟨_, fun _ _ => rfl, ?_⟩; go_big_quiet_on) | (apply Exists.intro; (with_reducible refine ⟨fun W hW => ret_bl hW (same_bl (l1Least_any _ _ W)), ?_⟩); go_big_quiet_on) | (apply Exists.intro; refine ⟨fun W hW => ?_, ?_⟩; (· go_simp; (try go_bits); rfl); go_big_quiet_on)))
      apply wpQuiet_nil
      intro W hb
      go_wp2_with fail
      refine region_bl (by kernel_rfl) (by kernel_rfl) hb ?_
      repeat' (first | go_big_quiet_skip | (go_big_quiet_want; go_simp; (try go_bits); first | (refine ⟨_, fun _ _ => rfl, ?_⟩; go_big_quiet_on) | (apply Exists.intro; (with_reducible refine ⟨fun W hW => ret_bl hW (same_bl (l1Least_any _ _ W)), ?_⟩); go_big_quiet_on) | (apply Exists.intro; refine ⟨fun W hW => ?_, ?_⟩; (· go_simp; (try go_bits); rfl); go_big_quiet_on)))
      apply wpQuiet_nil
      intro W hb
      go_wp2_with fail
      go_ret2
      exact ⟨by rw [HR.out]; rfl, hb⟩
set_option maxHeartbeats 2000000 in
theorem implMostLockages_any (A : Option Addr) (n c : Nat) (l : List Basin) (x y z : Int) (w : World) (h : Sl Basin.cs 3 w A n l) :
    Calls Try.prog 25 #[.slice A n c, .int .i64 x, .int .i64 y, .int .i64 z] w fun e w' => e = .returned (.tuple #[.int .i64 (mostLockages l x y z).1, .bool (mostLockages l x y z).2]) ∧ Bl w w' := by
  have bn := h.le
  have HL := Lib.hid h.1
  have hb0 : Hid (Bl w (w.alloc (.cells #[.int .i64 x, .int .i64 y, .int .i64 z] 32))) := (Bl.refl w).alloc _
  have H1 := Lib.hid (implIsFlow_any A n c l ⟨x, y, z⟩ _ (h.bl hb0.out))
  simp only [Flow.val] at H1
  cases h1 : flowOk l ⟨x, y, z⟩
  · have HR : Hid (mostLockages l x y z = (0, false)) := by show _ = _; simp [mostLockages, h1]
    go_enter Try.func25, Try.ntmps25
    go_wp2_with fail
    refine H1.out.mono ?_
    rintro e w1 ⟨rfl, hbn⟩
    have hb := hb0.out.trans hbn
    simp only [h1]
    go_wp2_with fail
    go_ret2
    exact ⟨by rw [HR.out]; rfl, hb⟩
  have HV := Lib.hid h1
  have hok := (flow_parts HV.out).1
  have hvf := valid_flow (flow_parts HV.out).2
  obtain ⟨v1, v2, v3, v4, v5, v6, v7⟩ := hvf
  rw [h.1] at v2 v4
  simp only at v1 v2 v3 v4 v5 v6 v7
  have q1 : ¬ z = 0 := by omega
  have HR0 : Hid (mostLockages l x y z = (cntR l x y z, true)) := by show _ = _; rw [mostLockages, if_pos HV.out]
  by_cases hx : x = -1
  · have hy : ¬ y = -1 := by omega
    obtain ⟨j, rfl⟩ := Int.eq_ofNat_of_zero_le (a := y) (by omega)
    have hj : j < n := by omega
    obtain ⟨bqy, oy, py, rfl, ey, cy1, cy2, cy3⟩ := h.Basin (i := j) (by omega)
    obtain ⟨ry0, ry1, ry2, ry3⟩ := bas_at hok ey
    have HR := Lib.hid (HR0.out.trans (by rw [cnt_to hx ey] : _ = (min 100000 ((py.Most - py.Volume) / z), true)))
    obtain ⟨d1, d2⟩ := IntWalk.tdiv_le (py.Most - py.Volume) z (by omega) (by omega)
    clear HR0 ey HV hok
    subst hx
    go_enter Try.func25, Try.ntmps25
    go_wp2_with fail
    refine H1.out.mono ?_
    rintro e w1 ⟨rfl, hbn⟩
    have hb := hb0.out.trans hbn
    clear hbn
    simp only [h1]
    go_wp2_with fail
    refine region_bl (by kernel_rfl) (by kernel_rfl) hb ?_
    repeat' (first | go_big_quiet_skip | (go_big_quiet_want; go_simp; (try go_bits); first | (refine ⟨_, fun _ _ => rfl, ?_⟩; go_big_quiet_on) | (apply Exists.intro; refine ⟨fun W hW => ?_, ?_⟩; (· go_simp; (try go_bits); rfl); go_big_quiet_on)))
    apply wpQuiet_nil
    intro W hb
    simp only [ite_min]
    go_wp2_with fail
    go_ret2
    exact ⟨by rw [HR.out]; rfl, hb⟩
  · obtain ⟨i, rfl⟩ := Int.eq_ofNat_of_zero_le (a := x) (by omega)
    have hi : i < n := by omega
    obtain ⟨bqx, ox, px, rfl, ex, cx1, cx2, cx3⟩ := h.Basin (i := i) (by omega)
    obtain ⟨rx0, rx1, rx2, rx3⟩ := bas_at hok ex
    obtain ⟨d1, d2⟩ := IntWalk.tdiv_le (px.Volume - px.Least) z (by omega) (by omega)
    by_cases hy : y = -1
    · have HR := Lib.hid (HR0.out.trans (by rw [cnt_from hy ex] : _ = (min 100000 ((px.Volume - px.Least) / z), true)))
      clear HR0 ex HV hok
      subst hy
      go_enter Try.func25, Try.ntmps25
      go_wp2_with fail
      refine H1.out.mono ?_
      rintro e w1 ⟨rfl, hbn⟩
      have hb := hb0.out.trans hbn
      clear hbn
      simp only [h1]
      go_wp2_with fail
      refine region_bl (by kernel_rfl) (by kernel_rfl) hb ?_
      repeat' (first | go_big_quiet_skip | (go_big_quiet_want; go_simp; (try go_bits); first | (refine ⟨_, fun _ _ => rfl, ?_⟩; go_big_quiet_on) | (apply Exists.intro; refine ⟨fun W hW => ?_, ?_⟩; (· go_simp; (try go_bits); rfl); go_big_quiet_on)))
      apply wpQuiet_nil
      intro W hb
      simp only [ite_min]
      go_wp2_with fail
      go_ret2
      exact ⟨by rw [HR.out]; rfl, hb⟩
    · obtain ⟨j, rfl⟩ := Int.eq_ofNat_of_zero_le (a := y) (by omega)
      have hj : j < n := by omega
      obtain ⟨bqy, oy, py, hA, ey, cy1, cy2, cy3⟩ := h.Basin (i := j) (by omega)
      obtain ⟨ry0, ry1, ry2, ry3⟩ := bas_at hok ey
      injection hA with hA
      injection hA with hA1 hA2
      subst hA1 hA2
      have HR := Lib.hid (HR0.out.trans (by rw [cnt_both ex ey] : _ = (min (min 100000 ((px.Volume - px.Least) / z)) ((py.Most - py.Volume) / z), true)))
      obtain ⟨d3, d4⟩ := IntWalk.tdiv_le (py.Most - py.Volume) z (by omega) (by omega)
      clear HR0 ex ey HV hok
      go_enter Try.func25, Try.ntmps25
      go_wp2_with fail
      refine H1.out.mono ?_
      rintro e w1 ⟨rfl, hbn⟩
      have hb := hb0.out.trans hbn
      clear hbn
      simp only [h1]
      go_wp2_with fail
      refine region_bl (by kernel_rfl) (by kernel_rfl) hb ?_
      repeat' (first | go_big_quiet_skip | (go_big_quiet_want; go_simp; (try go_bits); first | (refine ⟨_, fun _ _ => rfl, ?_⟩; go_big_quiet_on) | (apply Exists.intro; refine ⟨fun W hW => ?_, ?_⟩; (· go_simp; (try go_bits); rfl); go_big_quiet_on)))
      apply wpQuiet_nil
      intro W hb
      simp only [ite_min]
      go_wp2_with fail
      refine region_bl (by kernel_rfl) (by kernel_rfl) hb ?_
      repeat' (first | go_big_quiet_skip | (go_big_quiet_want; go_simp; (try go_bits); first | (refine ⟨_, fun _ _ => rfl, ?_⟩; go_big_quiet_on) | (apply Exists.intro; refine ⟨fun W hW => ?_, ?_⟩; (· go_simp; (try go_bits); rfl); go_big_quiet_on)))
      apply wpQuiet_nil
      intro W hb
      simp only [ite_min]
      go_wp2_with fail
      go_ret2
      exact ⟨by rw [HR.out]; rfl, hb⟩
end Go.Proofs.Ytpgghmhbkgkkiaa
