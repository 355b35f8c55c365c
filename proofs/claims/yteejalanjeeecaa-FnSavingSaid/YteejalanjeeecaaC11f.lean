/- The contracts of SavedShare in both programs. -/
import Derived.Test.YteejalanjeeecaaC11e
namespace Go.Proofs.Yteejalanjeeecaa
open Go.RowKit
set_option maxHeartbeats 1000000 in
theorem specSavedShare_any (A : Option Addr) (n c : Nat) (l : List Pool) (B : Option Addr) (m d : Nat) (o : List Int) (w : World) (h : Sl Pool.cs 3 w A n l) (ho : Sl ci 1 w B m o) (hn : n ≤ 1048576) (hm : m ≤ 1048576) (hcn : n ≤ c) (hc : m ≤ d) :
    Calls Try.prog 33 #[.slice A n c, .slice B m d] w fun e w' => e = .returned (.tuple #[.int .i64 (savedR l o).1.1, .int .i64 (savedR l o).1.2, .bool (savedR l o).2]) ∧ Bl w w' := by
  have HL := Lib.hid h.1
  have H1 := Lib.hid (l11Run_any A n c l B m d o true w h ho hn hm hc)
  have HV : Hid (savedR l o = if (flowAllR true l o).2.2 = true ∧ (getP l 0).Water ≠ 0 then (redI (flowAllR true l o).2.1 (getP l 0).Water, true) else ((0, 0), false)) := rfl
  have HB := Lib.hid (fun r v (h : flowAllR true l o = (r, v, true)) => saved_bd h)
  generalize flowAllR true l o = R at *
  obtain ⟨r, v, b⟩ := R
  simp only at H1 HV
  cases b
  · have HR := Lib.hid (show savedR l o = ((0, 0), false) by rw [HV.out]; simp)
    go_enter Try.func33, Try.ntmps33
    go_wp2_with fail
    refine H1.out.mono ?_
    rintro e w' ⟨C, k, c4, rfl, ho4, hl4, hm4, hb⟩
    go_wp2_with fail
    go_ret3
    exact ⟨by rw [HR.out]; rfl, hb⟩
  obtain ⟨hok, v0, v1⟩ := HB.out r v rfl
  have hl5 := len_ok hok
  rw [HL.out] at hl5
  obtain ⟨b1, o1, p, rfl, ep, c1, c2, c3⟩ := h.Pool (i := 0) (by omega)
  simp only [Nat.zero_mul, Nat.add_zero] at c1 c2 c3
  have hv := at_ok hok ep
  simp only [validPool, Bool.and_eq_true, inB_iff] at hv
  obtain ⟨_, p0, p1⟩ := hv
  have h0n : 0 < n := by omega
  by_cases hw : p.Water = 0
  · have HR := Lib.hid (show savedR l o = ((0, 0), false) by rw [HV.out]; simp [getP_at ep, hw])
    have ew : (p.Water == 0) = true := by simpa using hw
    clear ep hw
    go_enter Try.func33, Try.ntmps33
    go_wp2_with fail
    refine H1.out.mono ?_
    rintro e w' ⟨C, k, c4, rfl, ho4, hl4, hm4, hb⟩
    go_wp2_with fail
    go_ret3
    exact ⟨by rw [HR.out]; rfl, hb⟩
  · have HR := Lib.hid (show savedR l o = (redI v p.Water, true) by rw [HV.out]; simp [getP_at ep, hw])
    have ew : (p.Water == 0) = false := by simpa using hw
    have H2 := Lib.hid (fun w => l11Reduce_int v p.Water w v0 (by omega) (by omega) (by omega))
    clear ep hw
    generalize redI v p.Water = q at *
    go_enter Try.func33, Try.ntmps33
    go_wp2_with fail
    refine H1.out.mono ?_
    rintro e w' ⟨C, k, c4, rfl, ho4, hl4, hm4, hb⟩
    go_wp2_with fail
    go_wp2_with fail
    refine (H2.out _).mono ?_
    rintro e w' ⟨rfl, hbn⟩
    have hb := hb.trans hbn
    clear hbn
    go_wp2_with fail
    go_ret3
    exact ⟨by rw [HR.out]; rfl, hb⟩
set_option maxHeartbeats 1000000 in
theorem implSavedShare_any (A : Option Addr) (n c : Nat) (l : List Pool) (B : Option Addr) (m d : Nat) (o : List Int) (w : World) (h : Sl Pool.cs 3 w A n l) (ho : Sl ci 1 w B m o) (hn : n ≤ 1048576) (hm : m ≤ 1048576) (hcn : n ≤ c) (hc : m ≤ d) :
    Calls Try.prog 35 #[.slice A n c, .slice B m d] w fun e w' => e = .returned (.tuple #[.int .i64 (savedR l o).1.1, .int .i64 (savedR l o).1.2, .bool (savedR l o).2]) ∧ Bl w w' := by
  have HL := Lib.hid h.1
  have H1 := Lib.hid (implDrainChamber_any A n c l B m d o w h ho hn hm hcn hc)
  have HV : Hid (savedR l o = if (flowAllR true l o).2.2 = true ∧ (getP l 0).Water ≠ 0 then (redI (flowAllR true l o).2.1 (getP l 0).Water, true) else ((0, 0), false)) := rfl
  have HB := Lib.hid (fun r v (h : flowAllR true l o = (r, v, true)) => saved_bd h)
  generalize flowAllR true l o = R at *
  obtain ⟨r, v, b⟩ := R
  simp only at H1 HV
  cases b
  · have HR := Lib.hid (show savedR l o = ((0, 0), false) by rw [HV.out]; simp)
    go_enter Try.func35, Try.ntmps35
    go_wp2_with fail
    refine H1.out.mono ?_
    rintro e w' ⟨C, k, c4, rfl, ho4, hl4, hm4, hb⟩
    go_wp2_with fail
    go_ret3
    exact ⟨by rw [HR.out]; rfl, hb⟩
  obtain ⟨hok, v0, v1⟩ := HB.out r v rfl
  have hl5 := len_ok hok
  rw [HL.out] at hl5
  obtain ⟨b1, o1, p, rfl, ep, c1, c2, c3⟩ := h.Pool (i := 0) (by omega)
  simp only [Nat.zero_mul, Nat.add_zero] at c1 c2 c3
  have hv := at_ok hok ep
  simp only [validPool, Bool.and_eq_true, inB_iff] at hv
  obtain ⟨_, p0, p1⟩ := hv
  have h0n : 0 < n := by omega
  by_cases hw : p.Water = 0
  · have HR := Lib.hid (show savedR l o = ((0, 0), false) by rw [HV.out]; simp [getP_at ep, hw])
    have ew : (p.Water == 0) = true := by simpa using hw
    clear ep hw
    go_enter Try.func35, Try.ntmps35
    go_wp2_with fail
    refine H1.out.mono ?_
    rintro e w' ⟨C, k, c4, rfl, ho4, hl4, hm4, hb⟩
    go_wp2_with fail
    go_ret3
    exact ⟨by rw [HR.out]; rfl, hb⟩
  · have HR := Lib.hid (show savedR l o = (redI v p.Water, true) by rw [HV.out]; simp [getP_at ep, hw])
    have ew : (p.Water == 0) = false := by simpa using hw
    have H2 := Lib.hid (fun w => lowestTerms_int v p.Water w v0 (by omega) (by omega) (by omega))
    clear ep hw
    generalize redI v p.Water = q at *
    go_enter Try.func35, Try.ntmps35
    go_wp2_with fail
    refine H1.out.mono ?_
    rintro e w' ⟨C, k, c4, rfl, ho4, hl4, hm4, hb⟩
    go_wp2_with fail
    go_wp2_with fail
    refine (H2.out _).mono ?_
    rintro e w' ⟨rfl, hbn⟩
    have hb := hb.trans hbn
    clear hbn
    go_wp2_with fail
    go_ret3
    exact ⟨by rw [HR.out]; rfl, hb⟩
end Go.Proofs.Yteejalanjeeecaa
