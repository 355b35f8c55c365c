/- FnSensors: the law returns true for all bytes. No condition. -/
import Derived.Test.YtmnbbnboaokgjaaD6t
import Derived.Test.YtmnbbnboaokgjaaQ6u
import Derived.Test.YtmnbbnboaokgjaaC6n
import Derived.Test.YtmnbbnboaokgjaaLB
import Derived.Deep.RegionHeld3
import Derived.Deep.CutRange
namespace Go.Proofs.Ytmnbbnboaokgjaa
open Go.ChangeShapes Go.WideShapes Go.ChangeAt Go.RowKit Go.Deep Go.Joins
set_option maxHeartbeats 400000 in
theorem rHas_any (A : Option Addr) (n c : Nat) (l : List Int) (x : Int) (w : World) (h : Sl ci 1 w A n l) :
    Calls Try.prog 58 #[.slice A n c, .int .i64 x] w fun e w' => e = .returned (.bool (hasB l x)) ∧ Bl w w' := by
  have bn := h.le
  have HL := Lib.hid h.1
  go_enter Try.func58, Try.ntmps58
  go_wp2
  go_loopw [5] (fun i wr => ∃ k : Nat, k ≤ n ∧ i = .int .i64 k ∧ Bl w wr ∧ Hid (hasB (l.take k) x = false)) (fun i _ => n - (intOf i).toNat)
  case atStart => exact ⟨0, Nat.zero_le _, rfl, Bl.refl _, rfl⟩
  case round =>
    obtain ⟨k, hk, rfl, hb, he⟩ := hrel
    by_cases hlt : k < n
    · obtain ⟨b1, o1, y, rfl, e1, c1⟩ := h.int hlt
      have q1 := c1 _ hb
      have E1 := Lib.hid e1; clear e1 c1
      by_cases hy : y = x
      · have HF := Lib.hid (has_at (by rw [← hy]; exact E1.out : l[k]? = some x))
        have ey : (y == x) = true := by simpa using hy
        clear hy
        go_wp2
        go_ret
        exact ⟨by rw [HF.out]; rfl, hb⟩
      · have HN := Lib.hid (has_more E1.out he.out hy)
        have ey : (y == x) = false := by simpa using hy
        clear hy
        go_wp2
        first | exact ⟨⟨k + 1, by omega, by go_num, hb, HN⟩, by simp [intOf]; omega⟩ | (refine ⟨?_, by simp [intOf]; omega⟩; (repeat apply Exists.intro); exact ⟨⟨k + 1, by omega, by go_num, hb, HN⟩, rfl⟩)
    · have e : k = n := by omega
      subst e
      have HF : Hid (hasB l x = false) := by show _ = _; have := he.out; rwa [take_all HL.out] at this
      go_wp2
      go_ret
      exact ⟨by rw [HF.out]; rfl, hb⟩
set_option maxRecDepth 100000 in
set_option maxHeartbeats 16000000 in
theorem walk_FnSensors (A : Option Addr) (n c : Nat) (code : List Int) (w : World) (s : Sl cb 1 w A n code ∧ Bytes code) :
    Calls Try.prog 11 #[.slice A n c] w fun e w' => e = .returned (.bool true) ∧ Bl w w' := by
  obtain ⟨hs, hby⟩ := s
  have HV := Lib.hid (rBig_any A n c w hs.le)
  by_cases hbig : 65536 < n
  · have e : decide (65536 < n) = true := by simpa using hbig
    rw [e] at HV
    go_enter Try.func11, Try.ntmps11
    go_wp2_with fail
    refine HV.out.mono ?_
    rintro e w' ⟨rfl, rfl⟩
    go_wp2_with fail
    go_ret
    exact ⟨rfl, Bl.refl _⟩
  have e : decide (65536 < n) = false := by simpa using hbig
  rw [e] at HV
  have HS := Lib.hid hs
  have HBY := Lib.hid hby
  clear e hs hby
  go_enter Try.func11, Try.ntmps11
  go_wp2_with fail
  refine HV.out.mono ?_
  rintro e w' ⟨rfl, rfl⟩
  go_wp2_with fail
  refine (drawVoted_any A n c code _ HS.out HBY.out).mono ?_
  rintro e w1 ⟨B, m, d, l, f, rfl, hsl, hm, hmd, hb1⟩
  have HSL := Lib.hid hsl
  have HBW := Lib.hid hb1
  have V1 := Lib.hid (implVoted_any B m d l f _ hsl)
  have V2 := Lib.hid (fun W hl => specVoted_any B m d l f W hl)
  have G1 := Lib.hid (fun W hl => implAgreeing_any B m d l f W hl)
  have G2 := Lib.hid (fun W hl => specAgreeing_any B m d l f W hl)
  have HP := Lib.hid (sens_parts l f)
  have HAV := Lib.hid (fun k hk ht => agree_val (l := l) (m := f) (k := k) ht hk)
  have HAL := Lib.hid (agreeK_len l f 3)
  generalize votedR l f = V at *
  generalize agreeR l f = G at *
  generalize agreeK l f 3 = K at *
  obtain ⟨lev, ok⟩ := V
  obtain ⟨ag, fine⟩ := G
  clear hsl hb1
  have hkk : (ok != ok) = false := by simp
  have hff : (fine != fine) = false := by simp
  go_wp2_with fail
  refine V1.out.mono ?_
  rintro e w2 ⟨rfl, hbn⟩
  have HSL := Lib.hid (HSL.out.bl hbn)
  have HBW := Lib.hid (HBW.out.trans hbn)
  clear hbn V1
  go_wp2_with fail
  refine (V2.out _ HSL.out).mono ?_
  rintro e w3 ⟨rfl, hbn⟩
  have HSL := Lib.hid (HSL.out.bl hbn)
  have HBW := Lib.hid (HBW.out.trans hbn)
  clear hbn V2
  go_wp2_with fail
  refine (G1.out _ HSL.out).mono ?_
  rintro e w4 ⟨C, p, q, rfl, ho, hl, hp, hbn⟩
  have HSL := Lib.hid (HSL.out.bl hbn)
  have HBW := Lib.hid (HBW.out.trans hbn)
  have HSA := Lib.hid (Sl.of_own ci_len ho hl (by omega))
  have HLA := Lib.hid hl
  clear hbn G1 ho hl
  go_wp2_with fail
  refine (G2.out _ HSL.out).mono ?_
  rintro e w5 ⟨C2, p2, q2, rfl, ho, hl, hp2, hbn⟩
  have HSL := Lib.hid (HSL.out.bl hbn)
  have HBW := Lib.hid (HBW.out.trans hbn)
  have HSA := Lib.hid (HSA.out.bl hbn)
  have HSB := Lib.hid (Sl.of_own ci_len ho hl (by omega))
  have HRI := Lib.hid (rInts_any C C2 p p2 q q2 ag ag _ HSA.out HSB.out)
  simp only [eqB_self] at HRI
  clear hbn G2 ho hl
  go_upto_region 10 with fail
  go_cut [89] from 71 to 89 (fun s wx => s = .bool false ∧ Bl w5 wx)
  case first =>
    rcases HP.out with ⟨hA, hV⟩ | ⟨ht, hA, h2, hV⟩ | ⟨ht, hA, h2, hV⟩
    · obtain ⟨rfl, rfl⟩ := Prod.mk.inj hA
      obtain ⟨rfl, rfl⟩ := Prod.mk.inj hV
      clear HP HAV HAL hA hV
      go_wp2_with fail
      refine HRI.out.mono ?_
      rintro e w6 ⟨rfl, hbn⟩
      go_wp2_with fail
      (first | (go_meet; exact ⟨by simp, hbn⟩) | ((repeat apply Exists.intro); exact ⟨⟨by simp, hbn⟩, rfl⟩))
    · obtain ⟨rfl, rfl⟩ := Prod.mk.inj hA
      obtain ⟨rfl, rfl⟩ := Prod.mk.inj hV
      have h9 : p < 2 := by rw [← HLA.out]; exact h2
      have hd : decide ((2 : Int) ≤ (p : Int)) = false := by simp; omega
      clear HP HAV HAL hA hV
      go_wp2_with fail
      refine HRI.out.mono ?_
      rintro e w6 ⟨rfl, hbn⟩
      go_wp2_with fail
      (first | (go_meet; exact ⟨by simp [h9], hbn⟩) | ((repeat apply Exists.intro); exact ⟨⟨by simp; omega, hbn⟩, rfl⟩))
    · obtain ⟨rfl, rfl⟩ := Prod.mk.inj hA
      obtain ⟨rfl, rfl⟩ := Prod.mk.inj hV
      have h9 : 2 ≤ p := by rw [← HLA.out]; exact h2
      have hd : decide ((2 : Int) ≤ (p : Int)) = true := by simp; omega
      clear HP HAV HAL hA hV
      go_wp2_with fail
      refine HRI.out.mono ?_
      rintro e w6 ⟨rfl, hbn⟩
      go_wp2_with fail
      (first | (go_meet; exact ⟨by first | (simp [h9]; done) | (simp; omega), hbn⟩) | ((repeat apply Exists.intro); exact ⟨⟨by first | (simp [h9]; done) | (simp; omega), hbn⟩, rfl⟩))
  case rest =>
  obtain ⟨rfl, hbc⟩ := hcut
  have HSL := Lib.hid (HSL.out.bl hbc)
  have HBW := Lib.hid (HBW.out.trans hbc)
  have HSA := Lib.hid (HSA.out.bl hbc)
  clear hbc HRI HSB
  go_upto_if 90 with fail
  go_cut [13, 14, 15, 16] from 91 to 131 (fun _ _ _ _ wx => Bl w wx)
  case first =>
    cases ok
    case false =>
      clear HP HAV HAL
      go_wp2_with fail
      (first | (go_meet; exact HBW.out) | ((repeat apply Exists.intro); exact ⟨HBW.out, rfl⟩))
    case true =>
      rcases HP.out with ⟨_, hV⟩ | ⟨_, _, _, hV⟩ | ⟨ht, hA, h2, hV⟩
      · exact absurd (Prod.mk.inj hV).2 (by simp)
      · exact absurd (Prod.mk.inj hV).2 (by simp)
      obtain ⟨hag, rfl⟩ := Prod.mk.inj hA
      have HLV := Lib.hid (Prod.mk.inj hV).1
      rw [← hag] at HAV HLV HAL h2
      have e3 : m = 3 := by rw [← HSL.out.1]; exact trip_len ht
      subst e3
      have hL3 : l.length = 3 := trip_len ht
      have HRG := Lib.hid (trip_rng ht)
      have HVAL := Lib.hid (fun k (hk : k < p) => HAV.out k (by rw [HLA.out]; exact hk) ht)
      have hp3 : p ≤ 3 := by have := HAL.out; rw [HLA.out] at this; exact this
      rw [HLA.out] at h2 HLV
      clear hA hV hag HP HAV HAL ht hff
      obtain ⟨i0, x0, hi0, hx0⟩ := HVAL.out 0 (by omega)
      obtain ⟨b1, o1, y1, rfl, e1, c1⟩ := HSA.out.int (i := 0) (by omega)
      rw [hi0] at e1
      obtain rfl := Option.some.inj e1
      have hi3 : i0 < 3 := by have := (List.getElem?_eq_some_iff.1 hx0).1; omega
      obtain ⟨b2, o2, y2, rfl, e2, c2⟩ := HSL.out.int (i := i0) hi3
      rw [hx0] at e2
      obtain rfl := Option.some.inj e2
      simp only [Nat.add_zero] at c1
      have k1 : 0 < p := by omega
      have k2 : (0 : Int) ≤ (i0 : Int) := by omega
      have k3 : (i0 : Int) < 3 := by omega
      clear e1 e2 hi0 hx0
      go_wp2_with fail
      refine region_bl (by kernel_rfl) (by kernel_rfl) (Bl.refl wc) ?_
      repeat' (first | go_big_quiet_skip | (go_big_quiet_want; go_simp; (try go_bits); first | (refine ⟨_, fun _ _ => rfl, ?_⟩; go_big_quiet_on) | (apply Exists.intro; refine ⟨fun W hW => ?_, ?_⟩; (· go_simp; (try go_bits); rfl); go_big_quiet_on)))
      apply wpQuiet_nil
      intro W hb
      have HBX := Lib.hid (HBW.out.trans hb)
      have hbq := hb
      clear c1 c2 k1 k2 k3
      have HSL := Lib.hid (HSL.out.bl hbq)
      have HSA := Lib.hid (HSA.out.bl hbq)
      clear hb hbq
      go_wp2_with fail
      go_loopw [13, 14, 15, 16] (fun u v i _ wx => ∃ (k : Nat) (lo hi : Int), k ≤ p ∧ i = .int .i64 k ∧ u = .int .i64 lo ∧ v = .int .i64 hi ∧ lo ≤ hi ∧ Bl W wx ∧ Hid (∀ j, j < k → ∃ (i : Nat) (x : Int), ag[j]? = some (i : Int) ∧ l[i]? = some x ∧ lo ≤ x ∧ x ≤ hi)) (fun _ _ i _ _ => p - (intOf i).toNat)
      case atStart => exact ⟨0, _, _, by omega, rfl, rfl, rfl, Int.le_refl _, Bl.refl _, fun j hj => absurd hj (by omega)⟩
      case round =>
        obtain ⟨k, lo, hi, hk, rfl, rfl, rfl, hlh, hbx, HA⟩ := hrel
        by_cases hlt : k < p
        · obtain ⟨i, x, hi1, hx1⟩ := HVAL.out k hlt
          obtain ⟨b3, o3, y3, hA3, e3, c3⟩ := HSA.out.int (i := k) hlt
          injection hA3 with hA3; injection hA3 with hA3 hA3'; subst hA3 hA3'
          rw [hi1] at e3
          obtain rfl := Option.some.inj e3
          have hi3 : i < 3 := by have := (List.getElem?_eq_some_iff.1 hx1).1; omega
          obtain ⟨b4, o4, y4, hA4, e4, c4⟩ := HSL.out.int (i := i) hi3
          injection hA4 with hA4; injection hA4 with hA4 hA4'; subst hA4 hA4'
          rw [hx1] at e4
          obtain rfl := Option.some.inj e4
          have q3 := c3 _ hbx
          have q4 := c4 _ hbx
          have k2 : (0 : Int) ≤ (i : Int) := by omega
          have k3 : (i : Int) < 3 := by omega
          have HN : Hid (∀ lo' hi' : Int, lo' ≤ lo → hi ≤ hi' → lo' ≤ x → x ≤ hi' → ∀ j, j < k + 1 → ∃ (i : Nat) (x : Int), ag[j]? = some (i : Int) ∧ l[i]? = some x ∧ lo' ≤ x ∧ x ≤ hi') := by
            intro lo' hi' h1 h2 h3 h4 j hj
            by_cases e : j = k
            · subst e; exact ⟨i, x, hi1, hx1, h3, h4⟩
            · obtain ⟨i', x', a1, a2, a3, a4⟩ := HA.out j (by omega)
              exact ⟨i', x', a1, a2, by omega, by omega⟩
          clear e3 e4 hi1 hx1 c3 c4 HA
          by_cases h1 : x < lo
          · have h2 : ¬ x > hi := by omega
            have HN := Lib.hid (HN.out x hi (by omega) (by omega) (by omega) (by omega))
            have hlh2 : x ≤ hi := by omega
            go_wp2_with fail
            first | exact ⟨⟨k + 1, x, hi, by omega, by go_num, rfl, rfl, hlh2, hbx, HN.out⟩, by simp [intOf]; omega⟩ | (refine ⟨?_, by simp [intOf]; omega⟩; (repeat apply Exists.intro); exact ⟨⟨k + 1, x, hi, by omega, by go_num, rfl, rfl, hlh2, hbx, HN.out⟩, rfl⟩)
          · by_cases h2 : x > hi
            · have HN := Lib.hid (HN.out lo x (by omega) (by omega) (by omega) (by omega))
              have hlh2 : lo ≤ x := by omega
              go_wp2_with fail
              first | exact ⟨⟨k + 1, lo, x, by omega, by go_num, rfl, rfl, hlh2, hbx, HN.out⟩, by simp [intOf]; omega⟩ | (refine ⟨?_, by simp [intOf]; omega⟩; (repeat apply Exists.intro); exact ⟨⟨k + 1, lo, x, by omega, by go_num, rfl, rfl, hlh2, hbx, HN.out⟩, rfl⟩)
            · have HN := Lib.hid (HN.out lo hi (by omega) (by omega) (by omega) (by omega))
              go_wp2_with fail
              first | exact ⟨⟨k + 1, lo, hi, by omega, by go_num, rfl, rfl, hlh, hbx, HN.out⟩, by simp [intOf]; omega⟩ | (refine ⟨?_, by simp [intOf]; omega⟩; (repeat apply Exists.intro); exact ⟨⟨k + 1, lo, hi, by omega, by go_num, rfl, rfl, hlh, hbx, HN.out⟩, rfl⟩)
        · have e : k = p := by omega
          subst e
          obtain ⟨s1, s2⟩ := sum_bd k HA.out
          obtain ⟨a1, a2⟩ := avg_bd (by omega : 0 < k) s1 s2
          rw [← HLV.out] at a1 a2
          have hd1 : decide (lev < lo) = false := by simp; omega
          have hd2 : decide (hi < lev) = false := by simp; omega
          have HBE := Lib.hid (HBX.out.trans hbx)
          clear s1 s2 HA HVAL HRG HLV
          go_wp2_with fail
          (first | (go_meet; exact HBE.out) | ((repeat apply Exists.intro); exact ⟨HBE.out, rfl⟩))
  case rest =>
  have HBW := Lib.hid hcut
  clear HSL HSA HP HAV HAL HLA hcut
  go_wp2_with fail
  refine (drawMedianOf_any A n c code _ (HS.out.bl HBW.out) HBY.out).mono ?_
  rintro e w7 ⟨B7, m7, d7, l7, rfl, hsl, hm7, hmd7, hbn⟩
  have HSL := Lib.hid hsl
  have HBW := Lib.hid (HBW.out.trans hbn)
  have M1 := Lib.hid (implMedianOf_any B7 m7 d7 l7 _ hsl)
  have M2 := Lib.hid (fun W hl => specMedianOf_any B7 m7 d7 l7 W hl)
  have HMP := Lib.hid (med_parts l7)
  generalize medianR l7 = R7 at *
  obtain ⟨mid, told⟩ := R7
  have htt : (told != told) = false := by simp
  (try simp only at M1 M2)
  clear hsl hbn
  go_wp2_with fail
  refine M1.out.mono ?_
  rintro e w8 ⟨rfl, hbn⟩
  have HSL := Lib.hid (HSL.out.bl hbn)
  have HBW := Lib.hid (HBW.out.trans hbn)
  clear hbn M1
  go_wp2_with fail
  refine (M2.out _ HSL.out).mono ?_
  rintro e w9 ⟨rfl, hbn⟩
  have HSL := Lib.hid (HSL.out.bl hbn)
  have HBW := Lib.hid (HBW.out.trans hbn)
  clear hbn M2
  go_upto_if 152 with fail
  go_cut [22, 23, 24, 25] from 153 to 202 (fun _ _ _ _ wx => Bl w wx)
  case first =>
    cases told
    case false =>
      clear HMP HSL
      go_wp2_with fail
      (first | (go_meet; exact HBW.out) | ((repeat apply Exists.intro); exact ⟨HBW.out, rfl⟩))
    case true =>
      rcases HMP.out with hM | ⟨a, b, cc, rfl, hM, hM1, hM2, hM3⟩
      · exact absurd (Prod.mk.inj hM).2 (by simp)
      obtain rfl : mid = medZ a b cc := (Prod.mk.inj hM).1
      have e3 : m7 = 3 := HSL.out.1.symm
      subst e3
      have K1 := Lib.hid (fun H c' W hl => implMedianOf_any (some ⟨H, 0, none⟩) 3 c' [cc, a, b] W hl)
      have K2 := Lib.hid (fun H c' W hl => implMedianOf_any (some ⟨H, 0, none⟩) 3 c' [b, a, cc] W hl)
      have K3 := Lib.hid (fun W hl => rHas_any B7 3 d7 [a, b, cc] (medZ a b cc) W hl)
      rw [hM1] at K1
      rw [hM2] at K2
      rw [hM3] at K3
      generalize medZ a b cc = mid at *
      clear hM hM1 hM2 hM3 HMP
      obtain ⟨b1, o1, y0, rfl, e0, c0⟩ := HSL.out.int (i := 0) (by omega)
      obtain ⟨b2, o2, y1, hA1, e1, c1⟩ := HSL.out.int (i := 1) (by omega)
      injection hA1 with hA1; injection hA1 with hA1 hA1'; subst hA1 hA1'
      obtain ⟨b2, o2, y2, hA2, e2, c2⟩ := HSL.out.int (i := 2) (by omega)
      injection hA2 with hA2; injection hA2 with hA2 hA2'; subst hA2 hA2'
      simp at e0 e1 e2
      subst e0 e1 e2
      simp only [Nat.add_zero] at c0
      have q0 := c0 _ (Bl.refl _)
      have q1 := c1 _ (Bl.refl _)
      have q2 := c2 _ (Bl.refl _)
      have HX := Lib.hid (show Sl ci 1 ((w9.alloc (.cells #[.int .i64 cc, .int .i64 a, .int .i64 b] 3)).drew) (some ⟨w9.heap.size, 0, none⟩) 3 [cc, a, b] from (three_sl (heap_alloc_new w9 (.cells #[.int .i64 cc, .int .i64 a, .int .i64 b] 3))).drew)
      have hbX : Bl w9 ((w9.alloc (.cells #[.int .i64 cc, .int .i64 a, .int .i64 b] 3)).drew) := ((Bl.refl w9).alloc _).drew
      go_wp2_with fail
      go_region_held3 (fun V => V.cell? ⟨b1, o1, none⟩ = some (.int .i64 a) ∧ V.cell? ⟨b1, o1 + 1, none⟩ = some (.int .i64 b) ∧ V.cell? ⟨b1, o1 + 2, none⟩ = some (.int .i64 cc)) (first | (with_reducible assumption) | exact ⟨c0 _ (by repeat (first | with_reducible assumption | with_reducible exact Bl.refl _ | with_reducible apply Bl.drew | with_reducible apply Bl.alloc)), c1 _ (by repeat (first | with_reducible assumption | with_reducible exact Bl.refl _ | with_reducible apply Bl.drew | with_reducible apply Bl.alloc)), c2 _ (by repeat (first | with_reducible assumption | with_reducible exact Bl.refl _ | with_reducible apply Bl.drew | with_reducible apply Bl.alloc))⟩) (first | (go_at_call 42; (with_reducible refine (K1.out _ _ _ HX.out).mono ?_); rintro e w10 ⟨rfl, hbn⟩; have hbO : Bl w9 w10 := hbX.trans hbn; clear hbn))
      all_goals
        have c0 := fun V (hV : Bl w10 V) => c0 V (hbO.trans hV)
        have c1 := fun V (hV : Bl w10 V) => c1 V (hbO.trans hV)
        have c2 := fun V (hV : Bl w10 V) => c2 V (hbO.trans hV)
        have HSL := Lib.hid (HSL.out.bl hbO)
        have HBW := Lib.hid (HBW.out.trans hbO)
        have q0 := c0 _ (Bl.refl _)
        have q1 := c1 _ (Bl.refl _)
        have q2 := c2 _ (Bl.refl _)
        clear hbO HX hbX
        have HX := Lib.hid (show Sl ci 1 ((w10.alloc (.cells #[.int .i64 b, .int .i64 a, .int .i64 cc] 3)).drew) (some ⟨w10.heap.size, 0, none⟩) 3 [b, a, cc] from (three_sl (heap_alloc_new w10 (.cells #[.int .i64 b, .int .i64 a, .int .i64 cc] 3))).drew)
        have hbX : Bl w10 ((w10.alloc (.cells #[.int .i64 b, .int .i64 a, .int .i64 cc] 3)).drew) := ((Bl.refl w10).alloc _).drew
        go_wp2_with fail
        go_region_held3 (fun V => V.cell? ⟨b1, o1, none⟩ = some (.int .i64 a) ∧ V.cell? ⟨b1, o1 + 1, none⟩ = some (.int .i64 b) ∧ V.cell? ⟨b1, o1 + 2, none⟩ = some (.int .i64 cc)) (first | (with_reducible assumption) | exact ⟨c0 _ (by repeat (first | with_reducible assumption | with_reducible exact Bl.refl _ | with_reducible apply Bl.drew | with_reducible apply Bl.alloc)), c1 _ (by repeat (first | with_reducible assumption | with_reducible exact Bl.refl _ | with_reducible apply Bl.drew | with_reducible apply Bl.alloc)), c2 _ (by repeat (first | with_reducible assumption | with_reducible exact Bl.refl _ | with_reducible apply Bl.drew | with_reducible apply Bl.alloc))⟩) (first | (go_at_call 42; (with_reducible refine (K2.out _ _ _ HX.out).mono ?_); rintro e w11 ⟨rfl, hbn⟩; have hbO : Bl w10 w11 := hbX.trans hbn; clear hbn))
        all_goals
          have HSL := Lib.hid (HSL.out.bl hbO)
          have HBW := Lib.hid (HBW.out.trans hbO)
          clear hbO HX hbX c0 c1 c2 q0 q1 q2
          go_wp2_with fail
          refine (K3.out _ HSL.out).mono ?_
          rintro e w12 ⟨rfl, hbn⟩
          have HBW := Lib.hid (HBW.out.trans hbn)
          go_wp2_with fail
          (first | (go_meet; exact HBW.out) | ((repeat apply Exists.intro); exact ⟨HBW.out, rfl⟩))
  case rest =>
  have HBW := Lib.hid hcut
  clear HSL HMP hcut
  go_wp2_with fail
  refine (drawSuspect_any A n c code _ (HS.out.bl HBW.out) HBY.out).mono ?_
  rintro e w13 ⟨B8, m8, d8, rs8, ls8, f8, rfl, hsl, hm8, hmd8, hbn⟩
  have HSL := Lib.hid hsl
  have HBW := Lib.hid (HBW.out.trans hbn)
  have S1 := Lib.hid (implSuspect_any B8 m8 d8 rs8 ls8 f8 _ hsl)
  have S2 := Lib.hid (fun W hl => specSuspect_any B8 m8 d8 rs8 ls8 f8 W hl)
  generalize suspR ls8 f8 = R8 at *
  obtain ⟨who, known⟩ := R8
  (try simp only at S1 S2)
  clear hsl hbn
  go_wp2_with fail
  refine S1.out.mono ?_
  rintro e w14 ⟨rfl, hbn⟩
  have HSL := Lib.hid (HSL.out.bl hbn)
  have HBW := Lib.hid (HBW.out.trans hbn)
  clear hbn S1
  go_wp2_with fail
  refine (S2.out _ HSL.out).mono ?_
  rintro e w15 ⟨rfl, hbn⟩
  have HBW := Lib.hid (HBW.out.trans hbn)
  clear hbn S2
  have hkw : (known == known) = true := by simp
  have hww : (who == who) = true := by simp
  go_wp2_with fail
  go_ret
  exact ⟨by first | rfl | simp, HBW.out⟩
namespace fnSensorsDone
set_option maxRecDepth 100000 in
theorem lifted (os : Os) (started : os.Started) (H : Type) (enc : TypeId × Value → H) :
    ReturnsInHanded {} Try.checked os 11 .any (Rows.fnSensorsSpec.pre6 enc Try.prog Try.f11 Rows.fnSensorsRow.domain false) (Rows.fnSensorsSpec.post enc Try.prog Try.f11 false true false false) := by
  refine returnsInHanded_of_change (C := Try.checked) seatOwn started (by kernel_rfl) Try.func11
    (ChangeSpec.witness6 (enc := enc) (C := Try.checked) false ⟨#[], #[.slice none 0 0], []⟩ 8 (by kernel_rfl) (by kernel_rfl) (by kernel_rfl) (by kernel_rfl)) ?_
  intro W base args ds gs before hval0 hW hcnd _
  have hval : ∀ (j : Nat) t v, Try.f11.params[j]? = some t → args[j]? = some v → Value.okWide Try.prog W .any base t v := hval0
  have hW' := hW
  obtain ⟨p, q, hA0, hV, rfl, hfz, hnd⟩ := hW
  have hA : DataW.TrodAll enc Try.prog W 0 (fun _ => true) true Try.f11.params.toList args.toList ds p := hA0
  rw [Try.params11] at hA hval
  obtain ⟨v0, vs0, d0, ds0, p0, q0, hargs, rfl, rfl, h0, r0⟩ := trodAll_cons hA
  obtain ⟨rfl, rfl, rfl⟩ := trodAll_nil r0
  obtain rfl : args = #[v0] := by cases args; simp_all
  obtain ⟨rfl, rfl⟩ := trodVars_none hV
  have k0 := h0
  have lt0 : ∀ x ∈ p0, x.block < W.heap.size := by obtain ⟨m, hm⟩ := k0; exact DataW.trod_lt m _ _ _ hm
  obtain ⟨A0, n0, c0, rfl⟩ := okWide_slice Try.underlying45 (hval 0 45 v0 rfl rfl)
  obtain ⟨l0, s0⟩ := sl_of_bytes Try.underlying45 Try.underlying5 (by kernel_rfl) h0
  clear hA0 hval0
  refine (walk_FnSensors A0 n0 c0 l0 W s0).mono fun e W' ⟨he, bel⟩ => ?_
  subst he
  exact ⟨_, rfl, _, _, _, [], _, [], hW', trodAll_mk1 (shut_bool Try.underlying4 _), (trodAll_cons_mk (Below.trod seatLaid (by kernel_rfl) (of_decide_eq_true (by kernel_rfl)) k0 bel lt0) trodAll_mk0), rfl, bel.frame _, fun h => by cases h⟩
theorem over : Rows.fnSensorsRow.holds Try.pinned (OpenSpec.ofChange Rows.fnSensorsSpec) :=
  OpenClaim.holds_of_wide 11 Try.f11 rfl rfl rfl rfl rfl rfl rfl ⟨rfl, rfl, rfl, rfl, rfl⟩ rfl rfl rfl rfl rfl (by kernel_rfl) Try.func11 (by kernel_rfl)
    (of_decide_eq_true (by kernel_rfl)) (by unfold Func.isWrapper; first | (rw [if_pos (by decide +kernel)]; kernel_rfl) | (rw [if_neg (by decide +kernel)]; exact ⟨rfl, rfl⟩))
    (fun os started H enc _ => lifted os started H enc)
theorem proved : Rows.FnSensorsSaid := over
#print axioms proved
end fnSensorsDone

end Go.Proofs.Ytmnbbnboaokgjaa
