/- The contract of the program's way to the longest calm run: all runs that are longer than the one at hand. -/
import Derived.Test.YtmnbbnboaokgjaaC6y
import Derived.Test.YtmnbbnboaokgjaaC6z
namespace Go.Proofs.Ytmnbbnboaokgjaa
open Go.RowKit
/-- What is at hand behind the runs from i of up to j readings. -/
def stp (l : List Int) (m : Int) (i bf bl j : Nat) : Nat × Nat := if bl < cnK l m i j then (i, cnK l m i j) else (bf, bl)
theorem stp_yes {l : List Int} {m : Int} {i bf bl j : Nat} (h : sprd l i (j + 1) ≤ m) (hj : bl ≤ j) : stp l m i bf bl (j + 1) = (i, j + 1) := by rw [stp, cnK_yes h, if_pos (by omega)]
theorem stp_no {l : List Int} {m : Int} {i bf bl j : Nat} (h : ¬ sprd l i (j + 1) ≤ m) : stp l m i bf bl (j + 1) = stp l m i bf bl j := by rw [stp, stp, cnK_no h]
theorem stp_start {l : List Int} {m : Int} {i bf bl j : Nat} (h : j ≤ bl) : stp l m i bf bl j = (bf, bl) := by
  have := cnK_le l m i j
  rw [stp, if_neg (by omega)]
theorem stp_end {l : List Int} {m : Int} {k : Nat} : stp l m k (bstK l m k).1 (bstK l m k).2 (l.length - k) = bstK l m (k + 1) := by
  have e : cnK l m k (l.length - k) = calmN l m k := rfl
  by_cases h : (bstK l m k).2 < calmN l m k
  · rw [bstK_yes h, stp, e, if_pos h]
  · rw [bstK_no h, stp, e, if_neg h]
theorem stp_le {l : List Int} {m : Int} {i bf bl j : Nat} (h : bl ≤ j) : (stp l m i bf bl j).2 ≤ j := by
  have := cnK_le l m i j
  unfold stp
  split
  · exact this
  · exact h
set_option maxRecDepth 100000 in
set_option maxHeartbeats 2000000 in
theorem implLongest_any (A : Option Addr) (n c : Nat) (l : List Int) (m : Int) (w : World) (h : Sl ci 1 w A n l) (hc : n ≤ c) :
    Calls Try.prog 32 #[.slice A n c, .int .i64 m] w fun e w' => e = .returned (.tuple #[.int .i64 (longR l m).1.1, .int .i64 (longR l m).1.2, .bool (longR l m).2]) ∧ Bl w w' := by
  have bn := h.le
  have HL := Lib.hid h.1
  have H1 := Lib.hid (isSeries_any A n c l w h)
  cases h1 : serOk l
  · have HR := Lib.hid (long_no (m := m) (.inl h1))
    go_enter Try.func32, Try.ntmps32
    go_wp2_with fail
    refine H1.out.mono ?_
    rintro e w1 ⟨rfl, hb⟩
    simp only [h1]
    go_wp2_with fail
    go_ret3
    exact ⟨by rw [HR.out]; rfl, hb⟩
  by_cases h0 : n = 0
  · have HR := Lib.hid (long_no (l := l) (m := m) (.inr (.inl (by rw [HL.out]; exact h0))))
    subst h0
    go_enter Try.func32, Try.ntmps32
    go_wp2_with fail
    refine H1.out.mono ?_
    rintro e w1 ⟨rfl, hb⟩
    simp only [h1]
    go_wp2_with fail
    go_ret3
    exact ⟨by rw [HR.out]; rfl, hb⟩
  have hz : ((n : Int) == 0) = false := by simp; omega
  have hz2 : ¬ (n : Int) = 0 := by omega
  have H2 := Lib.hid (fun W => isGauge_any m W)
  cases h2 : inB m 0 2000
  · have HR := Lib.hid (long_no (l := l) (.inr (.inr h2)))
    go_enter Try.func32, Try.ntmps32
    go_wp2_with fail
    refine H1.out.mono ?_
    rintro e w1 ⟨rfl, hb⟩
    simp only [h1]
    go_wp2_with fail
    refine (H2.out _).mono ?_
    rintro e w1 ⟨rfl, rfl⟩
    simp only [h2]
    go_wp2_with fail
    go_ret3
    exact ⟨by rw [HR.out]; rfl, hb⟩
  have HR := Lib.hid (long_yes h1 (by rw [HL.out]; omega) h2)
  rw [HL.out] at HR
  have h20 : n ≤ 20 := by rw [← HL.out]; exact ser_len h1
  have HT := Lib.hid h1
  obtain ⟨b0, o0, x0, rfl, ex0, c0⟩ := h.int (i := 0) (by omega)
  clear ex0 c0
  go_enter Try.func32, Try.ntmps32
  go_wp2_with fail
  refine H1.out.mono ?_
  rintro e w1 ⟨rfl, hb⟩
  simp only [h1]
  go_wp2_with fail
  refine (H2.out _).mono ?_
  rintro e w1 ⟨rfl, rfl⟩
  simp only [h2]
  clear H1 H2 h1 h2
  go_wp2_with fail
  go_loopw [7, 8, 27] (fun u v j wr => ∃ k : Nat, k ≤ n ∧ j = .int .i64 k ∧ u = .int .i64 ((bstK l m k).1 : Int) ∧ v = .int .i64 ((bstK l m k).2 : Int) ∧ Bl w wr) (fun _ _ j _ => n - (intOf j).toNat)
  case atStart => exact ⟨0, Nat.zero_le _, rfl, rfl, rfl, hb⟩
  case round =>
    clear hb
    obtain ⟨k, hk, rfl, rfl, rfl, hb⟩ := hrel
    by_cases hlt : k < n
    · have HE := Lib.hid (stp_end (l := l) (m := m) (k := k))
      have hbr := bstK_rng l m (k := k) (by rw [HL.out]; exact hk)
      rw [HL.out] at HE hbr
      generalize bstK l m k = B at *
      obtain ⟨bf, bl⟩ := B
      (try simp only at HE)
      (try simp only at hbr)
      go_wp2_with fail
      go_loopw [7, 8, 10] (fun u v j wx => ∃ t : Nat, bl ≤ t ∧ (t ≤ n - k ∨ t = bl) ∧ j = .int .i64 ((k + t + 1 : Nat) : Int) ∧ u = .int .i64 ((stp l m k bf bl t).1 : Int) ∧ v = .int .i64 ((stp l m k bf bl t).2 : Int) ∧ Bl w wx) (fun _ _ j _ => 100 - (intOf j).toNat)
      case atStart => exact ⟨bl, Nat.le_refl _, .inr rfl, by congr 1, by rw [stp_start (Nat.le_refl _)], by rw [stp_start (Nat.le_refl _)], hb⟩
      case round =>
        clear hb
        obtain ⟨t, ht1, ht2, rfl, rfl, rfl, hb⟩ := hrel
        by_cases htl : k + t + 1 ≤ n
        · have HSU := Lib.hid (h.sub (k := k) (j := t + 1) (by omega))
          have HMT := Lib.hid (maxK_take (D := l.drop k) (q := t + 1) (by omega))
          have H3 := Lib.hid (fun c' W hW => max_any (some ⟨b0, o0 + k, none⟩) (t + 1) c' _ W (HSU.out.bl hW) (by omega))
          have H4 := Lib.hid (fun c' W hW => min_any (some ⟨b0, o0 + k, none⟩) (t + 1) c' _ W (HSU.out.bl hW) (by omega))
          rw [HMT.out.1] at H3
          rw [HMT.out.2] at H4
          have HRG := maxK_rng (D := l.drop k) (a := 0) (b := 2000) (fun j x hx => ser_rng HT.out (by rw [List.getElem?_drop] at hx; exact hx)) (by rw [List.length_drop, HL.out]; omega) (t + 1)
          obtain ⟨r0, r1, r2, r3, r4⟩ := HRG
          have HY : Hid (maxK (l.drop k) (t + 1) - minK (l.drop k) (t + 1) ≤ m → stp l m k bf bl (t + 1) = (k, t + 1)) := fun hs => stp_yes hs ht1
          have HNO : Hid (¬ maxK (l.drop k) (t + 1) - minK (l.drop k) (t + 1) ≤ m → stp l m k bf bl (t + 1) = stp l m k bf bl t) := fun hs => stp_no hs
          clear HMT
          generalize maxK (l.drop k) (t + 1) = mx at *
          generalize minK (l.drop k) (t + 1) = mn at *
          generalize stp l m k bf bl t = S at *
          have k1 : (k : Int) + (t : Int) + 1 ≤ (n : Int) := by omega
          have k2 : k + t + 1 - k = t + 1 := by omega
          go_wp2_with fail
          refine (H3.out _ _ hb).mono ?_
          rintro e w2 ⟨rfl, hb2⟩
          have hb := hb.trans hb2
          clear hb2
          go_wp2_with fail
          refine (H4.out _ _ hb).mono ?_
          rintro e w2 ⟨rfl, hb2⟩
          have hb := hb.trans hb2
          clear hb2
          by_cases hs : mx - mn ≤ m
          · have HN := Lib.hid (HY.out hs)
            go_wp2_with fail
            first | exact ⟨⟨t + 1, by omega, .inl (by omega), by go_num, by rw [HN.out], by rw [HN.out]; first | rfl | (congr 1; omega) | (congr 1; simp only; omega), hb⟩, by simp [intOf]; omega⟩ | (refine ⟨?_, by simp [intOf]; omega⟩; (repeat apply Exists.intro); exact ⟨⟨t + 1, by omega, .inl (by omega), by go_num, by rw [HN.out], by rw [HN.out]; first | rfl | (congr 1; omega) | (congr 1; simp only; omega), hb⟩, rfl⟩)
          · have HN := Lib.hid (HNO.out (by omega))
            go_wp2_with fail
            first | exact ⟨⟨t + 1, by omega, .inl (by omega), by go_num, by rw [HN.out], by rw [HN.out], hb⟩, by simp [intOf]; omega⟩ | (refine ⟨?_, by simp [intOf]; omega⟩; (repeat apply Exists.intro); exact ⟨⟨t + 1, by omega, .inl (by omega), by go_num, by rw [HN.out], by rw [HN.out], hb⟩, rfl⟩)
        · have HN : Hid (stp l m k bf bl t = bstK l m (k + 1)) := by
            show _ = _
            rw [← HE.out]
            rcases ht2 with h | h
            · congr 1; omega
            · rw [stp_start (by omega), stp_start (by omega)]
          generalize stp l m k bf bl t = S at *
          have k1 : ¬ ((k : Int) + (t : Int) + 1 ≤ (n : Int)) := by omega
          go_wp2_with fail
          first | exact ⟨⟨k + 1, by omega, by go_num, by rw [HN.out], by rw [HN.out], hb⟩, by simp [intOf]; omega⟩ | (refine ⟨?_, by simp [intOf]; omega⟩; (repeat apply Exists.intro); exact ⟨⟨k + 1, by omega, by go_num, by rw [HN.out], by rw [HN.out], hb⟩, rfl⟩)
    · have e : k = n := by omega
      subst e
      generalize bstK l m k = B at *
      go_wp2_with fail
      go_ret3
      exact ⟨by rw [HR.out]; rfl, hb⟩
end Go.Proofs.Ytmnbbnboaokgjaa
