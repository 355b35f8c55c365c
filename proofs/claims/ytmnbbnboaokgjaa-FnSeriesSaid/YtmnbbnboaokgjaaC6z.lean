/- The contracts of the functions on series: the longest calm run. -/
import Derived.Test.YtmnbbnboaokgjaaC6x
namespace Go.Proofs.Ytmnbbnboaokgjaa
open Go.RowKit
set_option maxHeartbeats 1000000 in
theorem l6Calm_any (A : Option Addr) (n c i : Nat) (l : List Int) (m : Int) (w : World) (h : Sl ci 1 w A n l) (hi : i < n) (hser : serOk l = true) :
    Calls Try.prog 84 #[.slice A n c, .int .i64 i, .int .i64 m] w fun e w' => e = .returned (.int .i64 (calmN l m i)) ∧ Bl w w' := by
  have bn := h.le
  have HL := Lib.hid h.1
  have HT := Lib.hid hser
  clear hser
  obtain ⟨b0, o0, x0, rfl, ex0, c0⟩ := h.int hi
  have h20 : n ≤ 20 := by rw [← HL.out]; exact ser_len HT.out
  have hd0 : (l.drop i)[0]? = some x0 := by rw [List.getElem?_drop]; exact ex0
  have HM0 := Lib.hid (maxK_0 hd0)
  have HN0 := Lib.hid (minK_0 hd0)
  have HRG := Lib.hid (maxK_rng (D := l.drop i) (a := 0) (b := 2000) (fun j x hx => ser_rng HT.out (by rw [List.getElem?_drop] at hx; exact hx)) (by rw [List.length_drop, HL.out]; omega))
  have HC : Hid (calmN l m i = cnK l m i (n - i)) := by show _ = _; rw [calmN, HL.out]
  clear ex0 hd0
  go_enter Try.func84, Try.ntmps84
  go_wp2_with fail
  refine region_bl (by kernel_rfl) (by kernel_rfl) (Bl.refl w) ?_
  repeat' (first | go_big_quiet_skip | (go_big_quiet_want; go_simp; (try go_bits); first | (refine ⟨_, fun _ _ => rfl, ?_⟩; go_big_quiet_on) | (apply Exists.intro; refine ⟨fun W hW => ?_, ?_⟩; (· go_simp; (try go_bits); rfl); go_big_quiet_on)))
  apply wpQuiet_nil
  intro W hb
  go_wp2_with fail
  go_loopw [7, 8, 9] (fun u v j wr => ∃ k : Nat, i + k ≤ n ∧ j = .int .i64 k ∧ u = .int .i64 (minK (l.drop i) k) ∧ v = .int .i64 (maxK (l.drop i) k) ∧ Hid (cnK l m i k = k) ∧ Bl w wr) (fun _ _ j _ => n - i - (intOf j).toNat)
  case atStart => exact ⟨0, by omega, rfl, by rw [HN0.out], by rw [HM0.out], rfl, hb⟩
  case round =>
    clear hb c0 HM0 HN0
    obtain ⟨k, hk, rfl, rfl, rfl, HK, hb⟩ := hrel
    by_cases hlt : i + k < n
    · obtain ⟨b1, o1, x, hA, ex, c1⟩ := h.int hlt
      injection hA with hA; injection hA with hA hA'; subst hA hA'
      have hx := ser_rng HT.out ex
      have hd : (l.drop i)[k]? = some x := by rw [List.getElem?_drop]; exact ex
      have HMX := Lib.hid (maxK_one hd)
      have HMN := Lib.hid (minK_one hd)
      have q1 := c1 _ hb
      have r1 := HRG.out (k + 1)
      obtain ⟨r10, r11, r12, r13, r14⟩ := r1
      have HSP : Hid (sprd l i (k + 1) = maxK (l.drop i) (k + 1) - minK (l.drop i) (k + 1)) := rfl
      obtain ⟨hx0, hx1⟩ := hx
      have H1 : Hid (∀ W, Calls Try.prog 112 #[.int .i64 (minK (l.drop i) k), .int .i64 x] W fun e w' => e = .returned (.int .i64 (minK (l.drop i) (k + 1))) ∧ W = w') := fun W => by rw [HMN.out]; exact l1Least_any _ _ W
      have H2 : Hid (∀ W, Calls Try.prog 113 #[.int .i64 (maxK (l.drop i) k), .int .i64 x] W fun e w' => e = .returned (.int .i64 (maxK (l.drop i) (k + 1))) ∧ W = w') := fun W => by rw [HMX.out]; exact l1Most_any _ _ W
      have HGO : Hid (maxK (l.drop i) (k + 1) - minK (l.drop i) (k + 1) ≤ m → cnK l m i (k + 1) = k + 1) := fun hs => cnK_yes (by rw [HSP.out]; exact hs)
      have HST : Hid (¬ maxK (l.drop i) (k + 1) - minK (l.drop i) (k + 1) ≤ m → cnK l m i (n - i) = k) := fun hs => cnK_stop HK.out (by rw [HSP.out]; exact hs) _ (by omega)
      clear HMX HMN HSP ex hd c1
      generalize hg1 : maxK (l.drop i) (k + 1) = mx1 at *
      generalize hg2 : minK (l.drop i) (k + 1) = mn1 at *
      have HG1 := Lib.hid hg1
      have HG2 := Lib.hid hg2
      clear hg1 hg2
      go_wp2_with fail
      refine (H1.out _).mono ?_
      rintro e w2 ⟨rfl, rfl⟩
      go_wp2_with fail
      refine (H2.out _).mono ?_
      rintro e w2 ⟨rfl, rfl⟩
      by_cases hs : mx1 - mn1 ≤ m
      · have HN := Lib.hid (HGO.out hs)
        go_wp2_with fail
        first | exact ⟨⟨k + 1, by omega, by go_num, by rw [HG2.out], by rw [HG1.out], HN, hb⟩, by simp [intOf]; omega⟩ | (refine ⟨?_, by simp [intOf]; omega⟩; (repeat apply Exists.intro); exact ⟨⟨k + 1, by omega, by go_num, by rw [HG2.out], by rw [HG1.out], HN, hb⟩, rfl⟩)
      · have HN := Lib.hid (HC.out.trans (HST.out (by omega)))
        go_wp2_with fail
        go_ret
        exact ⟨by rw [HN.out]; rfl, hb⟩
    · have e : n - i = k := by omega
      have HN : Hid (calmN l m i = k) := by show _ = _; rw [HC.out, e]; exact HK.out
      clear e
      go_wp2_with fail
      go_ret
      exact ⟨by rw [HN.out]; rfl, hb⟩
set_option maxHeartbeats 1000000 in
theorem specLongest_any (A : Option Addr) (n c : Nat) (l : List Int) (m : Int) (w : World) (h : Sl ci 1 w A n l) :
    Calls Try.prog 33 #[.slice A n c, .int .i64 m] w fun e w' => e = .returned (.tuple #[.int .i64 (longR l m).1.1, .int .i64 (longR l m).1.2, .bool (longR l m).2]) ∧ Bl w w' := by
  have bn := h.le
  have HL := Lib.hid h.1
  have H1 : Hid (Calls Try.prog 82 #[.slice A n c] w fun e w' => e = .returned (.bool (serOk l)) ∧ Bl w w') := l6Series_any A n c l w h
  cases h1 : serOk l
  · have HR := Lib.hid (long_no (m := m) (.inl h1))
    go_enter Try.func33, Try.ntmps33
    go_wp2_with fail
    refine H1.out.mono ?_
    rintro e w1 ⟨rfl, hb⟩
    simp only [h1]
    go_wp2_with fail
    go_ret3
    exact ⟨by rw [HR.out]; rfl, hb⟩
  by_cases h0 : n = 0
  · have HR := Lib.hid (long_no (l := l) (m := m) (.inr (.inl (by rw [HL.out]; exact h0))))
    subst h0
    go_enter Try.func33, Try.ntmps33
    go_wp2_with fail
    refine H1.out.mono ?_
    rintro e w1 ⟨rfl, hb⟩
    simp only [h1]
    go_wp2_with fail
    go_ret3
    exact ⟨by rw [HR.out]; rfl, hb⟩
  have hz : ((n : Int) == 0) = false := by simp; omega
  have hz2 : ¬ (n : Int) = 0 := by omega
  have H2 := Lib.hid (fun W => l6Level_any m W)
  cases h2 : inB m 0 2000
  · have HR := Lib.hid (long_no (l := l) (.inr (.inr h2)))
    go_enter Try.func33, Try.ntmps33
    go_wp2_with fail
    refine H1.out.mono ?_
    rintro e w1 ⟨rfl, hb⟩
    simp only [h1]
    go_wp2_with fail
    refine (H2.out _).mono ?_
    rintro e w1 ⟨rfl, rfl⟩
    simp only [h2]
    go_wp2_with fail
    go_ret3
    exact ⟨by rw [HR.out]; rfl, hb⟩
  have HR := Lib.hid (long_yes h1 (by rw [HL.out]; omega) h2)
  rw [HL.out] at HR
  have h20 : n ≤ 20 := by rw [← HL.out]; exact ser_len h1
  have HT := Lib.hid h1
  go_enter Try.func33, Try.ntmps33
  go_wp2_with fail
  refine H1.out.mono ?_
  rintro e w1 ⟨rfl, hb⟩
  simp only [h1]
  go_wp2_with fail
  refine (H2.out _).mono ?_
  rintro e w1 ⟨rfl, rfl⟩
  simp only [h2]
  clear H1 H2 h1 h2
  go_wp2_with fail
  go_loopw [7, 8, 9] (fun u v j wr => ∃ k : Nat, k ≤ n ∧ j = .int .i64 k ∧ u = .int .i64 ((bstK l m k).1 : Int) ∧ v = .int .i64 ((bstK l m k).2 : Int) ∧ Bl w wr) (fun _ _ j _ => n - (intOf j).toNat)
  case atStart => exact ⟨0, Nat.zero_le _, rfl, rfl, rfl, hb⟩
  case round =>
    clear hb
    obtain ⟨k, hk, rfl, rfl, rfl, hb⟩ := hrel
    by_cases hlt : k < n
    · have H3 := Lib.hid (l6Calm_any A n c k l m wr (h.bl hb) hlt HT.out)
      have hcl := calmN_le l m k
      have HY := Lib.hid (bstK_yes (l := l) (m := m) (k := k))
      have HNO := Lib.hid (bstK_no (l := l) (m := m) (k := k))
      rw [HL.out] at hcl
      generalize calmN l m k = cn at *
      generalize hB : bstK l m k = B at *
      obtain ⟨bf, bl⟩ := B
      (try simp only at HY)
      (try simp only at HNO)
      clear hB
      go_wp2_with fail
      refine H3.out.mono ?_
      rintro e w2 ⟨rfl, hb2⟩
      have hb3 := hb.trans hb2
      by_cases hs : bl < cn
      · have HN := Lib.hid (HY.out hs)
        go_wp2_with fail
        first | exact ⟨⟨k + 1, by omega, by go_num, by rw [HN.out], by rw [HN.out], hb3⟩, by simp [intOf]; omega⟩ | (refine ⟨?_, by simp [intOf]; omega⟩; (repeat apply Exists.intro); exact ⟨⟨k + 1, by omega, by go_num, by rw [HN.out], by rw [HN.out], hb3⟩, rfl⟩)
      · have HN := Lib.hid (HNO.out hs)
        go_wp2_with fail
        first | exact ⟨⟨k + 1, by omega, by go_num, by rw [HN.out], by rw [HN.out], hb3⟩, by simp [intOf]; omega⟩ | (refine ⟨?_, by simp [intOf]; omega⟩; (repeat apply Exists.intro); exact ⟨⟨k + 1, by omega, by go_num, by rw [HN.out], by rw [HN.out], hb3⟩, rfl⟩)
    · have e : k = n := by omega
      subst e
      generalize bstK l m k = B at *
      go_wp2_with fail
      go_ret3
      exact ⟨by rw [HR.out]; rfl, hb⟩
end Go.Proofs.Ytmnbbnboaokgjaa
