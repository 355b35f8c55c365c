/- The contracts of the functions on series: jumps, greatest and least. -/
import Derived.Test.YtmnbbnboaokgjaaQc
import Derived.Test.YtmnbbnboaokgjaaC6t
namespace Go.Proofs.Ytmnbbnboaokgjaa
open Go.RowKit
theorem Sl.sub {w : World} {b o n : Nat} {l : List Int} (h : Sl ci 1 w (some ⟨b, o, none⟩) n l) {k j : Nat} (hk : k + j ≤ n) : Sl ci 1 w (some ⟨b, o + k, none⟩) j ((l.drop k).take j) := by
  have h1 := h.1
  have h2 := h.2.1
  refine ⟨by rw [List.length_take, List.length_drop]; omega, by omega, fun h0 => ⟨b, o + k, rfl, fun i x hi q u hu => ?_⟩⟩
  obtain ⟨b', o', e, hc⟩ := h.2.2 (by omega)
  injection e with e
  injection e with e1 e2
  subst e1 e2
  rw [List.getElem?_take] at hi
  split at hi
  · rw [List.getElem?_drop] at hi
    have := hc (k + i) x hi q u hu
    rw [Nat.add_mul, ← Nat.add_assoc, Nat.mul_one k] at this
    exact this
  · cases hi
set_option maxHeartbeats 400000 in
theorem isSeries_any (A : Option Addr) (n c : Nat) (l : List Int) (w : World) (h : Sl ci 1 w A n l) :
    Calls Try.prog 78 #[.slice A n c] w fun e w' => e = .returned (.bool (serOk l)) ∧ Bl w w' := by
  have bn := h.le
  have HL := Lib.hid h.1
  have H1 := Lib.hid (areGauges_any A n c l w h)
  by_cases h1 : n ≤ 20
  · have HR : Hid (serOk l = l.all gauge) := by show _ = _; rw [serOk, HL.out, decide_eq_true h1, Bool.and_true]
    go_enter Try.func78, Try.ntmps78
    go_wp2_with fail
    refine H1.out.mono ?_
    rintro e w2 ⟨rfl, hb⟩
    go_wp2_with fail
    go_ret
    exact ⟨by rw [HR.out]; rfl, hb⟩
  · have HR : Hid (serOk l = false) := by show _ = _; rw [serOk, HL.out, decide_eq_false h1, Bool.and_false]
    go_enter Try.func78, Try.ntmps78
    go_wp2_with fail
    go_ret
    exact ⟨by rw [HR.out]; rfl, Bl.refl _⟩
set_option maxHeartbeats 1000000 in
theorem max_any (A : Option Addr) (n c : Nat) (D : List Int) (w : World) (h : Sl ci 1 w A n D) (hn : 0 < n) :
    Calls Try.prog 80 #[.slice A n c] w fun e w' => e = .returned (.int .i64 (maxK D n)) ∧ Bl w w' := by
  have bn := h.le
  obtain ⟨b0, o0, x0, rfl, ex0, c0⟩ := h.int hn
  have HM1 := Lib.hid (maxK_1 ex0)
  simp only [Nat.add_zero] at c0
  have q0 := c0 w (Bl.refl _)
  clear ex0 c0
  go_enter Try.func80, Try.ntmps80
  go_wp2_with fail
  go_loopw [3, 4] (fun u i wr => ∃ k : Nat, 1 ≤ k ∧ k ≤ n ∧ i = .int .i64 k ∧ u = .int .i64 (maxK D k) ∧ Bl w wr) (fun _ i _ => n - (intOf i).toNat)
  case atStart => exact ⟨1, Nat.le_refl _, hn, rfl, by rw [HM1.out], Bl.refl _⟩
  case round =>
    clear q0 HM1
    obtain ⟨k, hk1, hk, rfl, rfl, hb⟩ := hrel
    by_cases hlt : k < n
    · obtain ⟨b1, o1, x, hA, ex, c1⟩ := h.int hlt
      injection hA with hA; injection hA with hA hA'; subst hA hA'
      have HN := Lib.hid (maxK_one ex)
      have q1 := c1 _ hb
      clear ex c1
      generalize maxK D k = mv at *
      go_wp2_with fail
      all_goals
        first | exact ⟨⟨k + 1, by omega, by omega, by go_num, by rw [HN.out]; congr 1; omega, hb⟩, by simp [intOf]; omega⟩ | (refine ⟨?_, by simp [intOf]; omega⟩; (repeat apply Exists.intro); exact ⟨⟨k + 1, by omega, by omega, by go_num, by rw [HN.out]; congr 1; omega, hb⟩, rfl⟩)
    · have e : k = n := by omega
      subst e
      generalize hg : maxK D k = mv at *
      have HE := Lib.hid hg
      clear hg
      go_wp2_with fail
      go_ret
      exact ⟨by rw [HE.out]; rfl, hb⟩
set_option maxHeartbeats 1000000 in
theorem min_any (A : Option Addr) (n c : Nat) (D : List Int) (w : World) (h : Sl ci 1 w A n D) (hn : 0 < n) :
    Calls Try.prog 81 #[.slice A n c] w fun e w' => e = .returned (.int .i64 (minK D n)) ∧ Bl w w' := by
  have bn := h.le
  obtain ⟨b0, o0, x0, rfl, ex0, c0⟩ := h.int hn
  have HM1 := Lib.hid (minK_1 ex0)
  simp only [Nat.add_zero] at c0
  have q0 := c0 w (Bl.refl _)
  clear ex0 c0
  go_enter Try.func81, Try.ntmps81
  go_wp2_with fail
  go_loopw [3, 4] (fun u i wr => ∃ k : Nat, 1 ≤ k ∧ k ≤ n ∧ i = .int .i64 k ∧ u = .int .i64 (minK D k) ∧ Bl w wr) (fun _ i _ => n - (intOf i).toNat)
  case atStart => exact ⟨1, Nat.le_refl _, hn, rfl, by rw [HM1.out], Bl.refl _⟩
  case round =>
    clear q0 HM1
    obtain ⟨k, hk1, hk, rfl, rfl, hb⟩ := hrel
    by_cases hlt : k < n
    · obtain ⟨b1, o1, x, hA, ex, c1⟩ := h.int hlt
      injection hA with hA; injection hA with hA hA'; subst hA hA'
      have HN := Lib.hid (minK_one ex)
      have q1 := c1 _ hb
      clear ex c1
      generalize minK D k = mv at *
      go_wp2_with fail
      all_goals
        first | exact ⟨⟨k + 1, by omega, by omega, by go_num, by rw [HN.out]; congr 1; omega, hb⟩, by simp [intOf]; omega⟩ | (refine ⟨?_, by simp [intOf]; omega⟩; (repeat apply Exists.intro); exact ⟨⟨k + 1, by omega, by omega, by go_num, by rw [HN.out]; congr 1; omega, hb⟩, rfl⟩)
    · have e : k = n := by omega
      subst e
      generalize hg : minK D k = mv at *
      have HE := Lib.hid hg
      clear hg
      go_wp2_with fail
      go_ret
      exact ⟨by rw [HE.out]; rfl, hb⟩
set_option maxHeartbeats 1000000 in
theorem specJumpIn_any (A : Option Addr) (n c : Nat) (l : List Int) (m : Int) (w : World) (h : Sl ci 1 w A n l) :
    Calls Try.prog 36 #[.slice A n c, .int .i64 m] w fun e w' => e = .returned (.tuple #[.int .i64 (jumpR l m).1, .bool (jumpR l m).2]) ∧ Bl w w' := by
  have bn := h.le
  have HL := Lib.hid h.1
  have H1 : Hid (Calls Try.prog 82 #[.slice A n c] w fun e w' => e = .returned (.bool (serOk l)) ∧ Bl w w') := l6Series_any A n c l w h
  cases h1 : serOk l
  · have HR := Lib.hid (jump_no (m := m) (.inl h1))
    go_enter Try.func36, Try.ntmps36
    go_wp2_with fail
    refine H1.out.mono ?_
    rintro e w1 ⟨rfl, hb⟩
    simp only [h1]
    go_wp2_with fail
    go_ret2
    exact ⟨by rw [HR.out]; rfl, hb⟩
  have H2 := Lib.hid (fun W => l6Level_any m W)
  cases h2 : inB m 0 2000
  · have HR := Lib.hid (jump_no (l := l) (.inr h2))
    go_enter Try.func36, Try.ntmps36
    go_wp2_with fail
    refine H1.out.mono ?_
    rintro e w1 ⟨rfl, hb⟩
    simp only [h1]
    go_wp2_with fail
    refine (H2.out _).mono ?_
    rintro e w1 ⟨rfl, rfl⟩
    simp only [h2]
    go_wp2_with fail
    go_ret2
    exact ⟨by rw [HR.out]; rfl, hb⟩
  have HT := Lib.hid h1
  have HM := Lib.hid h2
  go_enter Try.func36, Try.ntmps36
  go_wp2_with fail
  refine H1.out.mono ?_
  rintro e w1 ⟨rfl, hb⟩
  simp only [h1]
  go_wp2_with fail
  refine (H2.out _).mono ?_
  rintro e w1 ⟨rfl, rfl⟩
  simp only [h2]
  clear H1 H2 h1 h2
  go_wp2_with fail
  go_loopw [6] (fun i wr => ∃ k : Nat, 1 ≤ k ∧ i = .int .i64 k ∧ Bl w wr ∧ Hid (∀ j, 1 ≤ j → j < k → j < l.length → farAt l j ≤ m)) (fun i _ => n - (intOf i).toNat)
  case atStart => exact ⟨1, Nat.le_refl _, rfl, hb, fun j h1 h2 => absurd h1 (by omega)⟩
  case round =>
    clear hb
    obtain ⟨k, hk1, rfl, hb, HK⟩ := hrel
    by_cases hlt : k < n
    · obtain ⟨b1, o1, x, rfl, ex, c1⟩ := h.int hlt
      obtain ⟨b2, o2, y, hA, ey, c2⟩ := h.int (i := k - 1) (by omega)
      injection hA with hA; injection hA with hA hA'; subst hA hA'
      have hx := ser_rng HT.out ex
      have hy := ser_rng HT.out ey
      have HF := Lib.hid (far_at ex ey)
      have H3 : Hid (∀ W, Calls Try.prog 88 #[.int .i64 y, .int .i64 x] W fun e w' => e = .returned (.int .i64 (farAt l k)) ∧ Bl W w') := by
        show ∀ W, _
        intro W
        rw [HF.out, far_comm]
        exact same_bl (l6Far_any y x W hy hx)
      have d1 : ∀ V, Bl wr V → V.cell? ⟨b1, o1 + k, none⟩ = some (.int .i64 x) := fun V hV => c1 V (hb.trans hV)
      have d2 : ∀ V, Bl wr V → V.cell? ⟨b1, o1 + (k - 1), none⟩ = some (.int .i64 y) := fun V hV => c2 V (hb.trans hV)
      have k1 : (0 : Int) ≤ (k : Int) - 1 := by omega
      have k2 : (k : Int) - 1 < (n : Int) := by omega
      have k3 : ((k : Int) - 1).toNat = k - 1 := by omega
      have k4 : k - 1 < n := by omega
      have k6 : 1 ≤ (k : Int) := by omega
      have k7 : (0 : Int) < (k : Int) := by omega
      have k8 : 0 < k := by omega
      clear ex ey c1 c2 hx hy HF
      have HKN : Hid (∀ (_ : farAt l k ≤ m), ∀ j, 1 ≤ j → j < k + 1 → j < l.length → farAt l j ≤ m) := fun hf j h1 h2 h3 => by
        by_cases e : j = k
        · subst e; exact hf
        · exact HK.out j h1 (by omega) h3
      have HS : Hid (m < farAt l k → jumpR l m = ((k : Int), true)) := fun hf => jump_yes HT.out HM.out (jump_some hk1 (by rw [HL.out]; exact hlt) hf (fun j h1 h2 => HK.out j h1 h2 (by rw [HL.out]; omega)))
      generalize farAt l k = fv at *
      cases hd : decide (m < fv)
      · have HKN := Lib.hid (HKN.out (by simpa using hd))
        have hb0 := hb
        go_wp2_with fail
        refine region_bl (by kernel_rfl) (by kernel_rfl) (Bl.refl wr) ?_
        repeat' (first | go_big_quiet_skip | (go_big_quiet_want; go_simp; (try go_bits); first | (refine ⟨_, fun _ _ => rfl, ?_⟩; go_big_quiet_on) | (apply Exists.intro; (with_reducible refine ⟨fun W hW => ret_bl hW (H3.out W), ?_⟩); go_big_quiet_on) | (apply Exists.intro; refine ⟨fun W hW => ?_, ?_⟩; (· go_simp; (try go_bits); rfl); go_big_quiet_on)))
        apply wpQuiet_nil
        intro W hb
        have hb2 := hb0.trans hb
        go_wp2_with fail
        first | exact ⟨⟨k + 1, by omega, by go_num, hb2, HKN⟩, by simp [intOf]; omega⟩ | (refine ⟨?_, by simp [intOf]; omega⟩; (repeat apply Exists.intro); exact ⟨⟨k + 1, by omega, by go_num, hb2, HKN⟩, rfl⟩)
      · have HR := Lib.hid (HS.out (by simpa using hd))
        have hb0 := hb
        go_wp2_with fail
        refine region_bl (by kernel_rfl) (by kernel_rfl) (Bl.refl wr) ?_
        repeat' (first | go_big_quiet_skip | (go_big_quiet_want; go_simp; (try go_bits); first | (refine ⟨_, fun _ _ => rfl, ?_⟩; go_big_quiet_on) | (apply Exists.intro; (with_reducible refine ⟨fun W hW => ret_bl hW (H3.out W), ?_⟩); go_big_quiet_on) | (apply Exists.intro; refine ⟨fun W hW => ?_, ?_⟩; (· go_simp; (try go_bits); rfl); go_big_quiet_on)))
        apply wpQuiet_nil
        intro W hb
        have hb2 := hb0.trans hb
        go_wp2_with fail
        go_ret2
        exact ⟨by rw [HR.out]; rfl, hb2⟩
    · have HR : Hid (jumpR l m = (0, false)) := jump_not (jump_none (fun j h1 h2 => HK.out j h1 (by rw [HL.out] at h2; omega) h2))
      go_wp2_with fail
      go_ret2
      exact ⟨by rw [HR.out]; rfl, hb⟩
set_option maxHeartbeats 1000000 in
theorem implJumpIn_any (A : Option Addr) (n c : Nat) (l : List Int) (m : Int) (w : World) (h : Sl ci 1 w A n l) :
    Calls Try.prog 34 #[.slice A n c, .int .i64 m] w fun e w' => e = .returned (.tuple #[.int .i64 (jumpR l m).1, .bool (jumpR l m).2]) ∧ Bl w w' := by
  have bn := h.le
  have HL := Lib.hid h.1
  have H1 := Lib.hid (isSeries_any A n c l w h)
  cases h1 : serOk l
  · have HR := Lib.hid (jump_no (m := m) (.inl h1))
    go_enter Try.func34, Try.ntmps34
    go_wp2_with fail
    refine H1.out.mono ?_
    rintro e w1 ⟨rfl, hb⟩
    simp only [h1]
    go_wp2_with fail
    go_ret2
    exact ⟨by rw [HR.out]; rfl, hb⟩
  have H2 := Lib.hid (fun W => isGauge_any m W)
  cases h2 : inB m 0 2000
  · have HR := Lib.hid (jump_no (l := l) (.inr h2))
    go_enter Try.func34, Try.ntmps34
    go_wp2_with fail
    refine H1.out.mono ?_
    rintro e w1 ⟨rfl, hb⟩
    simp only [h1]
    go_wp2_with fail
    refine (H2.out _).mono ?_
    rintro e w1 ⟨rfl, rfl⟩
    simp only [h2]
    go_wp2_with fail
    go_ret2
    exact ⟨by rw [HR.out]; rfl, hb⟩
  have HT := Lib.hid h1
  have HM := Lib.hid h2
  go_enter Try.func34, Try.ntmps34
  go_wp2_with fail
  refine H1.out.mono ?_
  rintro e w1 ⟨rfl, hb⟩
  simp only [h1]
  go_wp2_with fail
  refine (H2.out _).mono ?_
  rintro e w1 ⟨rfl, rfl⟩
  simp only [h2]
  clear H1 H2 h1 h2
  go_wp2_with fail
  go_loopw [6] (fun i wr => ∃ k : Nat, 1 ≤ k ∧ i = .int .i64 k ∧ Bl w wr ∧ Hid (∀ j, 1 ≤ j → j < k → j < l.length → farAt l j ≤ m)) (fun i _ => n - (intOf i).toNat)
  case atStart => exact ⟨1, Nat.le_refl _, rfl, hb, fun j h1 h2 => absurd h1 (by omega)⟩
  case round =>
    clear hb
    obtain ⟨k, hk1, rfl, hb, HK⟩ := hrel
    by_cases hlt : k < n
    · obtain ⟨b1, o1, x, rfl, ex, c1⟩ := h.int hlt
      obtain ⟨b2, o2, y, hA, ey, c2⟩ := h.int (i := k - 1) (by omega)
      injection hA with hA; injection hA with hA hA'; subst hA hA'
      have hx := ser_rng HT.out ex
      have hy := ser_rng HT.out ey
      have HF := Lib.hid (far_at ex ey)
      have H3 : Hid (∀ W, Calls Try.prog 85 #[.int .i64 (x - y)] W fun e w' => e = .returned (.int .i64 (farAt l k)) ∧ Bl W w') := by
        show ∀ W, _
        intro W
        rw [HF.out, show farZ x y = max (x - y) (-(x - y)) by unfold farZ; omega]
        exact same_bl (absOfI_any (x - y) W (by omega))
      have d1 : ∀ V, Bl wr V → V.cell? ⟨b1, o1 + k, none⟩ = some (.int .i64 x) := fun V hV => c1 V (hb.trans hV)
      have d2 : ∀ V, Bl wr V → V.cell? ⟨b1, o1 + (k - 1), none⟩ = some (.int .i64 y) := fun V hV => c2 V (hb.trans hV)
      have k1 : (0 : Int) ≤ (k : Int) - 1 := by omega
      have k2 : (k : Int) - 1 < (n : Int) := by omega
      have k3 : ((k : Int) - 1).toNat = k - 1 := by omega
      have k4 : k - 1 < n := by omega
      have k6 : 1 ≤ (k : Int) := by omega
      have k7 : (0 : Int) < (k : Int) := by omega
      have k8 : 0 < k := by omega
      obtain ⟨hx0, hx1⟩ := hx
      obtain ⟨hy0, hy1⟩ := hy
      clear ex ey c1 c2 HF
      have HKN : Hid (∀ (_ : farAt l k ≤ m), ∀ j, 1 ≤ j → j < k + 1 → j < l.length → farAt l j ≤ m) := fun hf j h1 h2 h3 => by
        by_cases e : j = k
        · subst e; exact hf
        · exact HK.out j h1 (by omega) h3
      have HS : Hid (m < farAt l k → jumpR l m = ((k : Int), true)) := fun hf => jump_yes HT.out HM.out (jump_some hk1 (by rw [HL.out]; exact hlt) hf (fun j h1 h2 => HK.out j h1 h2 (by rw [HL.out]; omega)))
      generalize farAt l k = fv at *
      cases hd : decide (m < fv)
      · have HKN := Lib.hid (HKN.out (by simpa using hd))
        have hb0 := hb
        go_wp2_with fail
        refine region_bl (by kernel_rfl) (by kernel_rfl) (Bl.refl wr) ?_
        repeat' (first | go_big_quiet_skip | (go_big_quiet_want; go_simp; (try go_bits); first | (refine ⟨_, fun _ _ => rfl, ?_⟩; go_big_quiet_on) | (apply Exists.intro; (with_reducible refine ⟨fun W hW => ret_bl hW (H3.out W), ?_⟩); go_big_quiet_on) | (apply Exists.intro; refine ⟨fun W hW => ?_, ?_⟩; (· go_simp; (try go_bits); rfl); go_big_quiet_on)))
        apply wpQuiet_nil
        intro W hb
        have hb2 := hb0.trans hb
        go_wp2_with fail
        first | exact ⟨⟨k + 1, by omega, by go_num, hb2, HKN⟩, by simp [intOf]; omega⟩ | (refine ⟨?_, by simp [intOf]; omega⟩; (repeat apply Exists.intro); exact ⟨⟨k + 1, by omega, by go_num, hb2, HKN⟩, rfl⟩)
      · have HR := Lib.hid (HS.out (by simpa using hd))
        have hb0 := hb
        go_wp2_with fail
        refine region_bl (by kernel_rfl) (by kernel_rfl) (Bl.refl wr) ?_
        repeat' (first | go_big_quiet_skip | (go_big_quiet_want; go_simp; (try go_bits); first | (refine ⟨_, fun _ _ => rfl, ?_⟩; go_big_quiet_on) | (apply Exists.intro; (with_reducible refine ⟨fun W hW => ret_bl hW (H3.out W), ?_⟩); go_big_quiet_on) | (apply Exists.intro; refine ⟨fun W hW => ?_, ?_⟩; (· go_simp; (try go_bits); rfl); go_big_quiet_on)))
        apply wpQuiet_nil
        intro W hb
        have hb2 := hb0.trans hb
        go_wp2_with fail
        go_ret2
        exact ⟨by rw [HR.out]; rfl, hb2⟩
    · have HR : Hid (jumpR l m = (0, false)) := jump_not (jump_none (fun j h1 h2 => HK.out j h1 (by rw [HL.out] at h2; omega) h2))
      go_wp2_with fail
      go_ret2
      exact ⟨by rw [HR.out]; rfl, hb⟩
end Go.Proofs.Ytmnbbnboaokgjaa
