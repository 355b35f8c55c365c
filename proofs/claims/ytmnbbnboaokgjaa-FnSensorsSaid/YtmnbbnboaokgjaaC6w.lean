/- The contracts of the functions on triples of sensors: the level voted for. -/
import Derived.Test.YtmnbbnboaokgjaaC6v
namespace Go.Proofs.Ytmnbbnboaokgjaa
open Go.RowKit
theorem voted_no {l : List Int} {m : Int} (h : tripOk l = false ∨ inB m 0 2000 = false) : votedR l m = (0, false) := by
  unfold votedR
  rw [if_neg]
  rintro ⟨⟨h1, h2⟩, _⟩
  rcases h with h | h
  · rw [h] at h1; cases h1
  · have : gauge m = inB m 0 2000 := rfl
    rw [this, h] at h2; cases h2
theorem voted_few {l : List Int} {m : Int} {j : Nat} (hj : (agreeK l m 3).length = j) (h : j < 2) : votedR l m = (0, false) := by
  unfold votedR
  rw [if_neg]
  rintro ⟨_, h2⟩
  omega
theorem voted_yes {l : List Int} {m : Int} {j : Nat} (h1 : tripOk l = true) (h2 : inB m 0 2000 = true) (hj : (agreeK l m 3).length = j) (h : ¬ j < 2) : votedR l m = (sumAg l (agreeK l m 3) j / (j : Nat), true) := by
  unfold votedR
  rw [if_pos ⟨⟨h1, h2⟩, by omega⟩, hj]
theorem agree_at {l : List Int} {m : Int} {k : Nat} {x : Int} (h : (agreeK l m 3)[k]? = some x) : ∃ i : Nat, x = (i : Int) ∧ i < 3 := by
  have := agreeK_rng l m 3 x (List.mem_of_getElem? h)
  exact ⟨x.toNat, by omega, by omega⟩
set_option maxHeartbeats 1000000 in
theorem specVoted_any (A : Option Addr) (n c : Nat) (l : List Int) (m : Int) (w : World) (h : Sl ci 1 w A n l) :
    Calls Try.prog 48 #[.slice A n c, .int .i64 m] w fun e w' => e = .returned (.tuple #[.int .i64 (votedR l m).1, .bool (votedR l m).2]) ∧ Bl w w' := by
  have HL := Lib.hid h.1
  have H1 := Lib.hid (l6Triple_any A n c l w h)
  cases h1 : tripOk l
  · have HR := Lib.hid (voted_no (m := m) (.inl h1))
    go_enter Try.func48, Try.ntmps48
    go_wp2_with fail
    refine H1.out.mono ?_
    rintro e w1 ⟨rfl, hb⟩
    simp only [h1]
    go_wp2_with fail
    go_ret2
    exact ⟨by rw [HR.out]; rfl, hb⟩
  have H2 := Lib.hid (fun W => l6Level_any m W)
  cases h2 : inB m 0 2000
  · have HR := Lib.hid (voted_no (l := l) (.inr h2))
    go_enter Try.func48, Try.ntmps48
    go_wp2_with fail
    refine H1.out.mono ?_
    rintro e w1 ⟨rfl, hb⟩
    simp only [h1]
    go_wp2_with fail
    refine (H2.out _).mono ?_
    rintro e w1 ⟨rfl, rfl⟩
    simp only [h2]
    go_wp2_with fail
    go_ret2
    exact ⟨by rw [HR.out]; rfl, hb⟩
  · have e3 : n = 3 := by rw [← trip_len h1]; exact HL.out.symm
    subst e3
    have HT := Lib.hid h1
    have HM2 := Lib.hid h2
    go_enter Try.func48, Try.ntmps48
    go_wp2_with fail
    refine H1.out.mono ?_
    rintro e w1 ⟨rfl, hb⟩
    simp only [h1]
    go_wp2_with fail
    refine (H2.out _).mono ?_
    rintro e w1 ⟨rfl, rfl⟩
    simp only [h2]
    go_wp2_with fail
    refine (l6Agreeing_any A c l m _ (h.bl hb) HT.out).mono ?_
    rintro e w2 ⟨B, j, d, rfl, ho, hj, hj2, hb2⟩
    have hj3 : j ≤ 3 := by rw [← hj]; exact agreeK_len l m 3
    have hS := Sl.of_own ci_len ho hj (by omega)
    have HJ := Lib.hid hj
    have hb := hb.trans hb2
    clear ho hj hb2
    by_cases hj1 : j < 2
    · have HR := Lib.hid (voted_few HJ.out hj1)
      go_wp2_with fail
      go_ret2
      exact ⟨by rw [HR.out]; rfl, hb⟩
    · have HR := Lib.hid (voted_yes HT.out HM2.out HJ.out hj1)
      have HG := Lib.hid (sumAg_rng (trip_rng HT.out) (agreeK l m 3))
      go_wp2_with fail
      go_loopw [7, 8] (fun u i wr => ∃ k : Nat, k ≤ j ∧ i = .int .i64 k ∧ u = .int .i64 (sumAg l (agreeK l m 3) k) ∧ Bl w2 wr) (fun _ i _ => j - (intOf i).toNat)
      case atStart => exact ⟨0, Nat.zero_le _, rfl, rfl, Bl.refl _⟩
      case round =>
        obtain ⟨k, hk, rfl, rfl, hbr⟩ := hrel
        have hg := HG.out k
        obtain ⟨hg0, hg1⟩ := hg
        by_cases hlt : k < j
        · obtain ⟨b1, o1, x, rfl, ex, c1⟩ := hS.int hlt
          obtain ⟨i, rfl, hi⟩ := agree_at ex
          obtain ⟨b2, o2, y, rfl, ey, c2⟩ := h.int hi
          have HN := Lib.hid (sumAg_one ex ey)
          have hy := trip_rng HT.out y (List.mem_of_getElem? ey)
          obtain ⟨hy0, hy1⟩ := hy
          have q1 := c1 _ hbr
          have q2 := c2 _ (hb.trans hbr)
          clear ex ey c1 c2
          generalize sumAg l (agreeK l m 3) k = sv at *
          go_wp2_with fail
          first | exact ⟨⟨k + 1, by omega, by go_num, by rw [HN.out], hbr⟩, by simp [intOf]; omega⟩ | (refine ⟨?_, by simp [intOf]; omega⟩; (repeat apply Exists.intro); exact ⟨⟨k + 1, by omega, by go_num, by rw [HN.out], hbr⟩, rfl⟩)
        · have e : k = j := by omega
          subst e
          generalize sumAg l (agreeK l m 3) k = sv at *
          have hbw := hb.trans hbr
          have hne : ((k : Int) == 0) = false := by simp; omega
          have hne2 : ¬ (k : Int) = 0 := by omega
          go_wp2_with fail
          go_ret2
          exact ⟨by rw [HR.out]; rfl, hbw⟩
set_option maxHeartbeats 1000000 in
theorem implVoted_any (A : Option Addr) (n c : Nat) (l : List Int) (m : Int) (w : World) (h : Sl ci 1 w A n l) :
    Calls Try.prog 49 #[.slice A n c, .int .i64 m] w fun e w' => e = .returned (.tuple #[.int .i64 (votedR l m).1, .bool (votedR l m).2]) ∧ Bl w w' := by
  have HL := Lib.hid h.1
  have H1 := Lib.hid (implAgreeing_any A n c l m w h)
  by_cases h1 : tripOk l = true ∧ inB m 0 2000 = true
  · obtain ⟨h1, h2⟩ := h1
    have HA : Hid (agreeR l m = (agreeK l m 3, true)) := by show _ = _; exact if_pos ⟨h1, h2⟩
    have e3 : n = 3 := by rw [← trip_len h1]; exact HL.out.symm
    subst e3
    have HT := Lib.hid h1
    have HM2 := Lib.hid h2
    rw [HA.out] at H1
    go_enter Try.func49, Try.ntmps49
    go_wp2_with fail
    refine H1.out.mono ?_
    rintro e w2 ⟨B, j, d, rfl, ho, hj, hj2, hb⟩
    have hj3 : j ≤ 3 := by rw [← hj]; exact agreeK_len l m 3
    have hS := Sl.of_own ci_len ho hj (by omega)
    have HJ := Lib.hid hj
    clear ho hj
    by_cases hj1 : j < 2
    · have HR := Lib.hid (voted_few HJ.out hj1)
      have hd : decide ((j : Int) < 2) = true := by simp; omega
      go_wp2_with fail
      go_ret2
      exact ⟨by rw [HR.out]; rfl, hb⟩
    · have HR := Lib.hid (voted_yes HT.out HM2.out HJ.out hj1)
      have HG := Lib.hid (sumAg_rng (trip_rng HT.out) (agreeK l m 3))
      have hd : decide ((j : Int) < 2) = false := by simp; omega
      go_wp2_with fail
      go_loopw [8, 26] (fun u i wr => ∃ k : Nat, k ≤ j ∧ i = .int .i64 k ∧ u = .int .i64 (sumAg l (agreeK l m 3) k) ∧ Bl w2 wr) (fun _ i _ => j - (intOf i).toNat)
      case atStart => exact ⟨0, Nat.zero_le _, rfl, rfl, Bl.refl _⟩
      case round =>
        obtain ⟨k, hk, rfl, rfl, hbr⟩ := hrel
        have hg := HG.out k
        obtain ⟨hg0, hg1⟩ := hg
        by_cases hlt : k < j
        · obtain ⟨b1, o1, x, rfl, ex, c1⟩ := hS.int hlt
          obtain ⟨i, rfl, hi⟩ := agree_at ex
          obtain ⟨b2, o2, y, rfl, ey, c2⟩ := h.int hi
          have HN := Lib.hid (sumAg_one ex ey)
          have hy := trip_rng HT.out y (List.mem_of_getElem? ey)
          obtain ⟨hy0, hy1⟩ := hy
          have q1 := c1 _ hbr
          have q2 := c2 _ (hb.trans hbr)
          clear ex ey c1 c2
          generalize sumAg l (agreeK l m 3) k = sv at *
          go_wp2_with fail
          first | exact ⟨⟨k + 1, by omega, by go_num, by rw [HN.out], hbr⟩, by simp [intOf]; omega⟩ | (refine ⟨?_, by simp [intOf]; omega⟩; (repeat apply Exists.intro); exact ⟨⟨k + 1, by omega, by go_num, by rw [HN.out], hbr⟩, rfl⟩)
        · have e : k = j := by omega
          subst e
          generalize sumAg l (agreeK l m 3) k = sv at *
          have hbw := hb.trans hbr
          have hne : ((k : Int) == 0) = false := by simp; omega
          have hne2 : ¬ (k : Int) = 0 := by omega
          go_wp2_with fail
          go_ret2
          exact ⟨by rw [HR.out]; rfl, hbw⟩
  · have h2 : tripOk l = false ∨ inB m 0 2000 = false := by
      cases h3 : tripOk l
      · exact .inl rfl
      · cases h4 : inB m 0 2000
        · exact .inr rfl
        · exact absurd ⟨h3, h4⟩ h1
    have HA := Lib.hid (agree_no h2)
    have HR := Lib.hid (voted_no h2)
    clear h1 h2
    rw [HA.out] at H1
    go_enter Try.func49, Try.ntmps49
    go_wp2_with fail
    refine H1.out.mono ?_
    rintro e w2 ⟨B, j, d, rfl, ho, hj, hj2, hb⟩
    go_wp2_with fail
    go_ret2
    exact ⟨by rw [HR.out]; rfl, hb⟩
end Go.Proofs.Ytmnbbnboaokgjaa
