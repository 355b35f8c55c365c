/- The contracts of the functions on series: is a sensor stuck. -/
import Derived.Test.YtmnbbnboaokgjaaC6x
namespace Go.Proofs.Ytmnbbnboaokgjaa
open Go.RowKit
theorem maxK_take {D : List Int} {q : Nat} (h : 1 ≤ q) : maxK (D.take q) q = maxK D q ∧ minK (D.take q) q = minK D q := by
  have e : (D.take q)[0]? = D[0]? := by rw [List.getElem?_take, if_pos (by omega)]
  unfold maxK minK
  rw [List.take_take, Nat.min_self, e]
  exact ⟨rfl, rfl⟩
set_option maxHeartbeats 1000000 in
theorem implIsStuck_any (A : Option Addr) (n c : Nat) (l : List Int) (m : Int) (w : World) (h : Sl ci 1 w A n l) (hc : n ≤ c) :
    Calls Try.prog 38 #[.slice A n c, .int .i64 m] w fun e w' => e = .returned (.tuple #[.bool (stuckR l m).1, .bool (stuckR l m).2]) ∧ Bl w w' := by
  have bn := h.le
  have HL := Lib.hid h.1
  have H1 := Lib.hid (isSeries_any A n c l w h)
  cases h1 : serOk l
  · have HR := Lib.hid (stuck_no (n := m) (.inl h1))
    go_enter Try.func38, Try.ntmps38
    go_wp2_with fail
    refine H1.out.mono ?_
    rintro e w1 ⟨rfl, hb⟩
    simp only [h1]
    go_wp2_with fail
    go_ret2
    exact ⟨by rw [HR.out]; rfl, hb⟩
  have H2 := Lib.hid (fun W => inside_any m 2 20 W)
  cases h2 : inB m 2 20
  · have HR := Lib.hid (stuck_no (l := l) (.inr h2))
    go_enter Try.func38, Try.ntmps38
    go_wp2_with fail
    refine H1.out.mono ?_
    rintro e w1 ⟨rfl, hb⟩
    simp only [h1]
    go_wp2_with fail
    refine (H2.out _).mono ?_
    rintro e w1 ⟨rfl, rfl⟩
    simp only [h2]
    go_wp2_with fail
    go_ret2
    exact ⟨by rw [HR.out]; rfl, hb⟩
  obtain ⟨m0, m1⟩ := inB_iff.1 h2
  obtain ⟨q, rfl⟩ := Int.eq_ofNat_of_zero_le (show 0 ≤ m by omega)
  have HR := Lib.hid (stuck_yes h1 h2)
  by_cases hq : n < q
  · have HS := Lib.hid (stuck_short (l := l) (n := q) (by rw [HL.out]; exact hq))
    rw [Int.toNat_natCast, HS.out] at HR
    go_enter Try.func38, Try.ntmps38
    go_wp2_with fail
    refine H1.out.mono ?_
    rintro e w1 ⟨rfl, hb⟩
    simp only [h1]
    go_wp2_with fail
    refine (H2.out _).mono ?_
    rintro e w1 ⟨rfl, rfl⟩
    simp only [h2]
    go_wp2_with fail
    go_ret2
    exact ⟨by rw [HR.out]; rfl, hb⟩
  · have HS := Lib.hid (stuck_spr (l := l) (n := q) (by omega) (by rw [HL.out]; omega))
    rw [Int.toNat_natCast, HS.out, HL.out] at HR
    obtain ⟨b1, o1, x, rfl, ex, c1⟩ := h.int (i := 0) (by omega)
    clear ex c1
    have HSU := Lib.hid (h.sub (k := n - q) (j := q) (by omega))
    have HMT := Lib.hid (maxK_take (D := l.drop (n - q)) (q := q) (by omega))
    have H3 := Lib.hid (fun c' W hW => max_any (some ⟨b1, o1 + (n - q), none⟩) q c' _ W (HSU.out.bl hW) (by omega))
    have H4 := Lib.hid (fun c' W hW => min_any (some ⟨b1, o1 + (n - q), none⟩) q c' _ W (HSU.out.bl hW) (by omega))
    rw [HMT.out.1] at H3
    rw [HMT.out.2] at H4
    generalize maxK (l.drop (n - q)) q = mx at *
    generalize minK (l.drop (n - q)) q = mn at *
    go_enter Try.func38, Try.ntmps38
    go_wp2_with fail
    refine H1.out.mono ?_
    rintro e w1 ⟨rfl, hb⟩
    simp only [h1]
    go_wp2_with fail
    refine (H2.out _).mono ?_
    rintro e w1 ⟨rfl, rfl⟩
    simp only [h2]
    have k1 : (0 : Int) ≤ (n : Int) - (q : Int) := by omega
    have k2 : (n : Int) - (q : Int) ≤ (n : Int) := by omega
    have k3 : ((n : Int) - (q : Int)).toNat = n - q := by omega
    have k4 : n - (n - q) = q := by omega
    go_wp2_with fail
    refine (H3.out _ _ hb).mono ?_
    rintro e w2 ⟨rfl, hb2⟩
    have hb := hb.trans hb2
    clear hb2
    go_wp2_with fail
    refine (H4.out _ _ hb).mono ?_
    rintro e w2 ⟨rfl, hb2⟩
    have hb := hb.trans hb2
    clear hb2
    by_cases hmm : mx = mn
    · subst hmm
      rw [decide_eq_true (rfl : mx = mx)] at HR
      go_wp2_with fail
      go_ret2
      exact ⟨by rw [HR.out]; first | rfl | simp, hb⟩
    · have hmq : (mx == mn) = false := by simpa using hmm
      rw [decide_eq_false hmm] at HR
      go_wp2_with fail
      go_ret2
      exact ⟨by rw [HR.out]; first | rfl | simp [hmq], hb⟩
set_option maxHeartbeats 1000000 in
theorem specIsStuck_any (A : Option Addr) (n c : Nat) (l : List Int) (m : Int) (w : World) (h : Sl ci 1 w A n l) :
    Calls Try.prog 39 #[.slice A n c, .int .i64 m] w fun e w' => e = .returned (.tuple #[.bool (stuckR l m).1, .bool (stuckR l m).2]) ∧ Bl w w' := by
  have bn := h.le
  have HL := Lib.hid h.1
  have H1 : Hid (Calls Try.prog 82 #[.slice A n c] w fun e w' => e = .returned (.bool (serOk l)) ∧ Bl w w') := l6Series_any A n c l w h
  cases h1 : serOk l
  · have HR := Lib.hid (stuck_no (n := m) (.inl h1))
    go_enter Try.func39, Try.ntmps39
    go_wp2_with fail
    refine H1.out.mono ?_
    rintro e w1 ⟨rfl, hb⟩
    simp only [h1]
    go_wp2_with fail
    go_ret2
    exact ⟨by rw [HR.out]; rfl, hb⟩
  have H2 := Lib.hid (fun W => l1In_any m 2 20 W)
  cases h2 : inB m 2 20
  · have HR := Lib.hid (stuck_no (l := l) (.inr h2))
    go_enter Try.func39, Try.ntmps39
    go_wp2_with fail
    refine H1.out.mono ?_
    rintro e w1 ⟨rfl, hb⟩
    simp only [h1]
    go_wp2_with fail
    refine (H2.out _).mono ?_
    rintro e w1 ⟨rfl, rfl⟩
    simp only [h2]
    go_wp2_with fail
    go_ret2
    exact ⟨by rw [HR.out]; rfl, hb⟩
  obtain ⟨m0, m1⟩ := inB_iff.1 h2
  obtain ⟨q, rfl⟩ := Int.eq_ofNat_of_zero_le (show 0 ≤ m by omega)
  have HR := Lib.hid (stuck_yes h1 h2)
  by_cases hq : n < q
  · have HS := Lib.hid (stuck_short (l := l) (n := q) (by rw [HL.out]; exact hq))
    rw [Int.toNat_natCast, HS.out] at HR
    go_enter Try.func39, Try.ntmps39
    go_wp2_with fail
    refine H1.out.mono ?_
    rintro e w1 ⟨rfl, hb⟩
    simp only [h1]
    go_wp2_with fail
    refine (H2.out _).mono ?_
    rintro e w1 ⟨rfl, rfl⟩
    simp only [h2]
    go_wp2_with fail
    refine wp_loop_rounds 1 ?_
    rw [rounds_succ]
    go_wp2_with fail
    go_ret2
    exact ⟨by rw [HR.out]; rfl, hb⟩
  · rw [Int.toNat_natCast] at HR
    obtain ⟨b2, o2, y, rfl, ey, c2⟩ := h.int (i := n - 1) (by omega)
    have HNO := Lib.hid (fun i x (hi : n - q ≤ i) (hx : l[i]? = some x) (hne : ¬ x = y) => stuck_not (l := l) (n := q) (i := i) (by rw [HL.out]; exact hi) hx (by rw [HL.out]; exact ey) hne)
    have HYES := Lib.hid (fun hall => stuck_all (l := l) (n := q) (by rw [HL.out]; omega) (by rw [HL.out]; exact ey) hall)
    rw [HL.out] at HYES
    clear ey
    go_enter Try.func39, Try.ntmps39
    go_wp2_with fail
    refine H1.out.mono ?_
    rintro e w1 ⟨rfl, hb⟩
    simp only [h1]
    go_wp2_with fail
    refine (H2.out _).mono ?_
    rintro e w1 ⟨rfl, rfl⟩
    simp only [h2]
    clear H1 H2 h1 h2
    go_wp2_with fail
    go_loopw [7] (fun i wr => ∃ k : Nat, n - q ≤ k ∧ k ≤ n ∧ i = .int .i64 k ∧ Bl w wr ∧ Hid (∀ (i : Nat) (x : Int), n - q ≤ i → i < k → l[i]? = some x → x = y)) (fun i _ => n - (intOf i).toNat)
    case atStart => exact ⟨n - q, Nat.le_refl _, by omega, by congr 1; omega, hb, fun i x h1 h2 => absurd h1 (by omega)⟩
    case round =>
      clear hb
      obtain ⟨k, hk0, hk, rfl, hb, HK⟩ := hrel
      by_cases hlt : k < n
      · obtain ⟨b1, o1, x, hA, ex, c1⟩ := h.int hlt
        injection hA with hA; injection hA with hA hA'; subst hA hA'
        have d1 : ∀ V, Bl wr V → V.cell? ⟨b2, o2 + k, none⟩ = some (.int .i64 x) := fun V hV => c1 V (hb.trans hV)
        have d2 : ∀ V, Bl wr V → V.cell? ⟨b2, o2 + (n - 1), none⟩ = some (.int .i64 y) := fun V hV => c2 V (hb.trans hV)
        have k1 : (0 : Int) ≤ (n : Int) - 1 := by omega
        have k2 : (n : Int) - 1 < (n : Int) := by omega
        have k3 : ((n : Int) - 1).toNat = n - 1 := by omega
        have k4 : n - 1 < n := by omega
        have k6 : 1 ≤ (n : Int) := by omega
        have k7 : (0 : Int) < (n : Int) := by omega
        have k8 : 0 < n := by omega
        have k9 : (q : Int) ≤ (n : Int) := by omega
        have E := Lib.hid ex
        clear ex c1
        by_cases hxy : x = y
        · subst hxy
          have HKN : Hid (∀ (i : Nat) (z : Int), n - q ≤ i → i < k + 1 → l[i]? = some z → z = x) := fun i z g1 g2 g3 => by
            by_cases e : i = k
            · subst e; rw [E.out] at g3; exact (Option.some.inj g3).symm
            · exact HK.out i z g1 (by omega) g3
          have hb0 := hb
          go_wp2_with fail
          refine region_bl (by kernel_rfl) (by kernel_rfl) (Bl.refl wr) ?_
          repeat' (first | go_big_quiet_skip | (go_big_quiet_want; go_simp; (try go_bits); first | (refine ⟨_, fun _ _ => rfl, ?_⟩; go_big_quiet_on) | (apply Exists.intro; refine ⟨fun W hW => ?_, ?_⟩; (· go_simp; (try go_bits); rfl); go_big_quiet_on)))
          apply wpQuiet_nil
          intro W hb
          have hb2 := hb0.trans hb
          go_wp2_with fail
          first | exact ⟨⟨k + 1, by omega, by omega, by go_num, hb2, HKN⟩, by simp [intOf]; omega⟩ | (refine ⟨?_, by simp [intOf]; omega⟩; (repeat apply Exists.intro); exact ⟨⟨k + 1, by omega, by omega, by go_num, hb2, HKN⟩, rfl⟩)
        · rw [HNO.out k x hk0 E.out hxy] at HR
          have hne : (x == y) = false := by simpa using hxy
          have hb0 := hb
          go_wp2_with fail
          refine region_bl (by kernel_rfl) (by kernel_rfl) (Bl.refl wr) ?_
          repeat' (first | go_big_quiet_skip | (go_big_quiet_want; go_simp; (try go_bits); first | (refine ⟨_, fun _ _ => rfl, ?_⟩; go_big_quiet_on) | (apply Exists.intro; refine ⟨fun W hW => ?_, ?_⟩; (· go_simp; (try go_bits); rfl); go_big_quiet_on)))
          apply wpQuiet_nil
          intro W hb
          have hb2 := hb0.trans hb
          go_wp2_with fail
          go_ret2
          exact ⟨by rw [HR.out]; rfl, hb2⟩
      · have e : k = n := by omega
        subst e
        have HT := Lib.hid (HYES.out (fun i x g1 g2 => HK.out i x g1 (by have := (List.getElem?_eq_some_iff.1 g2).1; rw [HL.out] at this; omega) g2))
        rw [HT.out] at HR
        have k9 : (q : Int) ≤ (k : Int) := by omega
        go_wp2_with fail
        go_ret2
        exact ⟨by rw [HR.out]; rfl, hb⟩
end Go.Proofs.Ytmnbbnboaokgjaa
