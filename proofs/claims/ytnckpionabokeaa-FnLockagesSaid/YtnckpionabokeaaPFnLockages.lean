/- FnLockages: the law returns true for all bytes. No condition. -/
import Derived.Test.YtnckpionabokeaaC8i
import Derived.Test.YtnckpionabokeaaC8k
import Derived.Test.YtnckpionabokeaaD8c
import Derived.Test.YtnckpionabokeaaQ8g
import Derived.Test.YtnckpionabokeaaLB
namespace Go.Proofs.Ytnckpionabokeaa
open Go.ChangeShapes Go.WideShapes Go.ChangeAt Go.RowKit Go.Deep Go.Joins
set_option maxRecDepth 100000 in
set_option maxHeartbeats 16000000 in
theorem walk_FnLockages (A : Option Addr) (n c : Nat) (code : List Int) (w : World) (s : Sl cb 1 w A n code ∧ Bytes code) :
    Calls Try.prog 4 #[.slice A n c] w fun e w' => e = .returned (.bool true) ∧ Bl w w' := by
  obtain ⟨hs, hby⟩ := s
  have HV := Lib.hid (vBig_any A n c w hs.le)
  by_cases hbig : 65536 < n
  · have e : decide (65536 < n) = true := by simpa using hbig
    rw [e] at HV
    go_enter Try.func4, Try.ntmps4
    go_wp2_with fail
    refine HV.out.mono ?_
    rintro e w' ⟨rfl, rfl⟩
    go_wp2_with fail
    go_ret
    exact ⟨rfl, Bl.refl _⟩
  have e : decide (65536 < n) = false := by simpa using hbig
  rw [e] at HV
  have HS := Lib.hid hs
  have HBY := Lib.hid hby
  clear e hs hby
  go_enter Try.func4, Try.ntmps4
  go_wp2_with fail
  refine HV.out.mono ?_
  rintro e w' ⟨rfl, rfl⟩
  go_wp2_with fail
  refine (drawLockageDelay_any A n c code _ HS.out HBY.out).mono ?_
  rintro e w1 ⟨B, m, d, l, high, mi, C, p, f, o, rfl, hsl, hm, hmd, hso, hp, hpf, hb1⟩
  have hp := Nat.le_trans hp (show 9 ≤ 1048576 by decide)
  have HSL := Lib.hid hsl
  have HSO := Lib.hid hso
  have HLL := Lib.hid hsl.1
  have HLO := Lib.hid hso.1
  have HBW := Lib.hid hb1
  have hb := Bl.refl w1
  clear hsl hso hb1
  have H1 := Lib.hid (fun W hl ho => implLockageDelay_any B m d l high mi C p f o W hl ho hm hp hmd hpf)
  have H2 := Lib.hid (fun W hl ho => specLockageDelay_any B m d l high mi C p f o W hl ho hm hp hmd hpf)
  have H3 := Lib.hid (fun W hl => implBestLockages_any B m d l high mi W hl)
  have H4 := Lib.hid (fun W hl => specBestLockages_any B m d l high mi W hl)
  have H5 := Lib.hid (fun W hl ho => implLockageTimes_any B m d l high mi C p f o W hl ho hm hp hmd hpf)
  have H6 := Lib.hid (fun W hl ho => specLockageTimes_any B m d l high mi C p f o W hl ho hm hp hmd hpf)
  by_cases hq : implOrd l o = true ∧ inB mi 1 60 = true
  · obtain ⟨bo, dl, bt, F⟩ := lck_yes (high := high) hq
    obtain ⟨f1, f2, f3, f4, f5, f6, f7, f8, f9, f10, f11⟩ := F
    obtain ⟨m0, m1⟩ := inB_iff.1 hq.2
    have H7 := Lib.hid (fun Cb mb cb hmb hcb W hl ho => implLockageDelay_any B m d l high mi Cb mb cb bo W hl ho hm hmb hmd hcb)
    have H8 := Lib.hid (fun Cb mb cb hcb W hl ho => isLockageOrder_any B m d l Cb mb cb bo W hl ho hcb)
    rw [f1] at H1 H2
    rw [f2] at H3 H4
    rw [f3] at H5 H6
    rw [f4] at H7
    rw [f5] at H8
    rw [HLL.out] at f8 f9 f10 f11
    rw [HLO.out] at f8
    have HAT := Lib.hid (fun k hk => lock_at (high := high) hq.1 m0 m1 (k := k) hk)
    have HRG := Lib.hid (loss_rng (high := high) hq.1 m0 m1)
    have HWT := Lib.hid (fun i a (ha : l[i]? = some a) => (arr_bd (ord_parts hq.1).1 ha).2)
    have HSUM := Lib.hid f10
    have HTL := Lib.hid f9
    obtain rfl : p = m := f8
    rw [HLO.out] at HAT HRG
    generalize (runT l mi high o).out = ts at *
    clear f1 f2 f3 f4 f5 f6 f9 f10 hq
    go_wp2_with fail
    refine ((H1.out _ (HSL.out.bl hb) (HSO.out.bl hb))).mono ?_
    rintro e w' ⟨rfl, hbn⟩
    have hb := hb.trans hbn
    clear hbn
    go_wp2_with fail
    refine ((H2.out _ (HSL.out.bl hb) (HSO.out.bl hb))).mono ?_
    rintro e w' ⟨rfl, hbn⟩
    have hb := hb.trans hbn
    clear hbn
    go_wp2_with fail
    refine ((H3.out _ (HSL.out.bl hb))).mono ?_
    rintro e w' ⟨Ca, ma, da, rfl, hox, hlx, hHA1m, hbn⟩
    have HA1 := Lib.hid (Sl.of_own ci_len hox hlx (by omega))
    have hHA1c := own_cap hox
    have HA1L := Lib.hid hlx
    have HA1w := Lib.hid (Bl.refl w')
    have hb := hb.trans hbn
    clear hbn hox hlx
    have HBW := Lib.hid (HBW.out.trans hb)
    have HSL := Lib.hid (HSL.out.bl hb)
    have HSO := Lib.hid (HSO.out.bl hb)
    have hb := Bl.refl w'
    go_wp2_with fail
    refine ((H4.out _ (HSL.out.bl hb))).mono ?_
    rintro e w' ⟨Cb, mb, db, rfl, hox, hlx, hHA2m, hbn⟩
    have HA2 := Lib.hid (Sl.of_own ci_len hox hlx (by omega))
    have hHA2c := own_cap hox
    have HA2L := Lib.hid hlx
    have HA2w := Lib.hid (Bl.refl w')
    have hb := hb.trans hbn
    clear hbn hox hlx
    have HBW := Lib.hid (HBW.out.trans hb)
    have HSL := Lib.hid (HSL.out.bl hb)
    have HSO := Lib.hid (HSO.out.bl hb)
    have HA1 := Lib.hid (HA1.out.bl hb)
    have hb := Bl.refl w'
    go_wp2_with fail
    refine ((vInts_any Ca Cb ma mb da db bo bo _ (HA1.out.bl hb) (HA2.out.bl hb))).mono ?_
    rintro e w' ⟨rfl, hbn⟩
    have hb := hb.trans hbn
    clear hbn
    simp only [eqB_self]
    go_wp2_with fail
    refine ((H5.out _ (HSL.out.bl hb) (HSO.out.bl hb))).mono ?_
    rintro e w' ⟨Ct, mt, dt, rfl, hox, hlx, hHT1m, hbn⟩
    have HT1 := Lib.hid (Sl.of_own ci_len hox hlx (by omega))
    have hHT1c := own_cap hox
    have HT1L := Lib.hid hlx
    have HT1w := Lib.hid (Bl.refl w')
    have hb := hb.trans hbn
    clear hbn hox hlx
    have HBW := Lib.hid (HBW.out.trans hb)
    have HSL := Lib.hid (HSL.out.bl hb)
    have HSO := Lib.hid (HSO.out.bl hb)
    have HA1 := Lib.hid (HA1.out.bl hb)
    have hb := Bl.refl w'
    go_wp2_with fail
    refine ((H6.out _ (HSL.out.bl hb) (HSO.out.bl hb))).mono ?_
    rintro e w' ⟨Cu, mu, du, rfl, hox, hlx, hHT2m, hbn⟩
    have HT2 := Lib.hid (Sl.of_own ci_len hox hlx (by omega))
    have hHT2c := own_cap hox
    have HT2L := Lib.hid hlx
    have HT2w := Lib.hid (Bl.refl w')
    have hb := hb.trans hbn
    clear hbn hox hlx
    have HBW := Lib.hid (HBW.out.trans hb)
    have HSL := Lib.hid (HSL.out.bl hb)
    have HSO := Lib.hid (HSO.out.bl hb)
    have HA1 := Lib.hid (HA1.out.bl hb)
    have HT1 := Lib.hid (HT1.out.bl hb)
    have hb := Bl.refl w'
    go_wp2_with fail
    refine ((vInts_any Ct Cu mt mu dt du ts ts _ (HT1.out.bl hb) (HT2.out.bl hb))).mono ?_
    rintro e w' ⟨rfl, hbn⟩
    have hb := hb.trans hbn
    clear hbn
    simp only [eqB_self]
    go_wp2_with fail
    refine ((H7.out Ca ma da hHA1m hHA1c _ (HSL.out.bl hb) (HA1.out.bl hb))).mono ?_
    rintro e w' ⟨rfl, hbn⟩
    have hb := hb.trans hbn
    clear hbn
    go_wp2_with fail
    refine ((H8.out Ca ma da hHA1c _ (HSL.out.bl hb) (HA1.out.bl hb))).mono ?_
    rintro e w' ⟨rfl, hbn⟩
    have hb := hb.trans hbn
    clear hbn
    have HBW := Lib.hid (HBW.out.trans hb)
    have HSL := Lib.hid (HSL.out.bl hb)
    have HSO := Lib.hid (HSO.out.bl hb)
    have HT1 := Lib.hid (HT1.out.bl hb)
    have hb := Bl.refl w'
    have hmt : mt = p := by have := HT1L.out; rw [← this]; exact HTL.out
    subst hmt
    obtain ⟨wo, hwo⟩ : ∃ wo : World, wo = w' := ⟨_, rfl⟩
    subst hwo
    go_wp2_with fail
    go_loopw [23, 24] (fun u i wr => ∃ k : Nat, k ≤ mt ∧ i = .int .i64 k ∧ u = .int .i64 (lossK l o ts k) ∧ Bl wo wr) (fun _ i _ => mt - (intOf i).toNat)
    case atStart => exact ⟨0, Nat.zero_le _, rfl, rfl, Bl.refl _⟩
    case round =>
      obtain ⟨k, hk, rfl, rfl, hbx⟩ := hrel
      obtain ⟨lo, hi⟩ := HRG.out k hk
      by_cases hlt : k < mt
      · obtain ⟨i, a, t, e1, e2, e3, ta, t0, t1, hstep, hprev⟩ := HAT.out k hlt
        obtain ⟨b1, o1, x, rfl, ex, c1⟩ := HSO.out.int hlt
        obtain rfl : x = (i : Int) := Option.some.inj (ex.symm.trans e1)
        have hi' : i < mt := by have := (List.getElem?_eq_some_iff.1 e2).1; rw [HLL.out] at this; exact this
        obtain ⟨b2, o2, pa, rfl, ep, p1, p2, p3, p4⟩ := HSL.out.Arrival hi'
        obtain rfl : pa = a := Option.some.inj (ep.symm.trans e2)
        obtain ⟨b5, o5, t', rfl, et, c5⟩ := HT1.out.int hlt
        obtain rfl : t' = t := Option.some.inj (et.symm.trans e3)
        obtain ⟨⟨mv0, mv1⟩, mv2, mv3⟩ := HWT.out i pa e2
        obtain ⟨mu0, mu1⟩ := mul_abs (x := pa.Weight) (y := t' - pa.Minute) (by omega) mv3 (by omega) (by omega)
        have HN := Lib.hid hstep
        obtain ⟨lo2, hi2⟩ := HRG.out (k + 1) (by omega)
        rw [HN.out] at lo2 hi2
        have HPV := Lib.hid hprev
        have hd1 : decide (t' < pa.Minute) = false := by simp; omega
        have g0 := c1 _ hbx
        have g1 := p1 _ hbx
        have g2 := p2 _ hbx
        have g3 := p3 _ hbx
        have g4 := p4 _ hbx
        have hbq : Bl wo (wr.alloc (.cells #[.int .i64 pa.Id, .bool pa.Up, .int .i64 pa.Minute, .int .i64 pa.Weight] 43)) := hbx.alloc _
        have bq := Bl.refl (wr.alloc (.cells #[.int .i64 pa.Id, .bool pa.Up, .int .i64 pa.Minute, .int .i64 pa.Weight] 43))
        have X1 : ∀ W, Bl (wr.alloc (.cells #[.int .i64 pa.Id, .bool pa.Up, .int .i64 pa.Minute, .int .i64 pa.Weight] 43)) W → W.cell? ⟨wr.heap.size, 1, none⟩ = some (.bool pa.Up) := Bl.all (by go_simp)
        have X2 : ∀ W, Bl (wr.alloc (.cells #[.int .i64 pa.Id, .bool pa.Up, .int .i64 pa.Minute, .int .i64 pa.Weight] 43)) W → W.cell? ⟨wr.heap.size, 2, none⟩ = some (.int .i64 pa.Minute) := Bl.all (by go_simp)
        have X3 : ∀ W, Bl (wr.alloc (.cells #[.int .i64 pa.Id, .bool pa.Up, .int .i64 pa.Minute, .int .i64 pa.Weight] 43)) W → W.cell? ⟨wr.heap.size, 3, none⟩ = some (.int .i64 pa.Weight) := Bl.all (by go_simp)
        have X5 : ∀ W, Bl (wr.alloc (.cells #[.int .i64 pa.Id, .bool pa.Up, .int .i64 pa.Minute, .int .i64 pa.Weight] 43)) W → W.cell? ⟨b5, o5 + k, none⟩ = some (.int .i64 t') := fun W hW => c5 W (hbq.trans hW)
        clear hprev hstep e1 e2 e3 ex ep et c1 p1 p2 p3 p4 c5
        generalize lossK l o ts k = sm at *
        by_cases hk0 : k = 0
        · have k1 : decide ((0 : Int) < (k : Int)) = false := by simp; omega
          have k2 : decide (0 < k) = false := by simp; omega
          clear HPV hk0
          go_wp2_with fail
          refine region_bl (by kernel_rfl) (by kernel_rfl) bq ?_
          repeat' (first | go_big_quiet_skip | (go_big_quiet_want; go_simp; (try go_bits); first | (refine ⟨_, fun _ _ => rfl, ?_⟩; go_big_quiet_on) | (apply Exists.intro; refine ⟨fun W hW => ?_, ?_⟩; (· go_simp; (try go_bits); rfl); go_big_quiet_on)))
          apply wpQuiet_nil
          intro W hb
          go_wp2_with fail
          refine region_bl (by kernel_rfl) (by kernel_rfl) hb ?_
          repeat' (first | go_big_quiet_skip | (go_big_quiet_want; go_simp; (try go_bits); first | (refine ⟨_, fun _ _ => rfl, ?_⟩; go_big_quiet_on) | (apply Exists.intro; refine ⟨fun W hW => ?_, ?_⟩; (· go_simp; (try go_bits); rfl); go_big_quiet_on)))
          apply wpQuiet_nil
          intro W hb
          go_wp2_with fail
          first | exact ⟨⟨k + 1, by omega, by go_num, by rw [HN.out], hbq.trans hb⟩, by simp [intOf]; omega⟩ | (refine ⟨?_, by simp [intOf]; omega⟩; (repeat apply Exists.intro); exact ⟨⟨k + 1, by omega, by go_num, by rw [HN.out], hbq.trans hb⟩, rfl⟩)
        · obtain ⟨i2, a2, t2, h1, h2, h3, tt0, tt1, hmi, hup⟩ := HPV.out (by omega)
          obtain ⟨b6, o6, x2, hA6, ex2, c6⟩ := HSO.out.int (i := k - 1) (by omega)
          injection hA6 with hA6; injection hA6 with hA6 hA6'; subst hA6 hA6'
          obtain rfl : x2 = (i2 : Int) := Option.some.inj (ex2.symm.trans h1)
          have hi2' : i2 < mt := by have := (List.getElem?_eq_some_iff.1 h2).1; rw [HLL.out] at this; exact this
          obtain ⟨b7, o7, qa, hA7, eq7, q1, q2, q3, q4⟩ := HSL.out.Arrival hi2'
          injection hA7 with hA7; injection hA7 with hA7 hA7'; subst hA7 hA7'
          obtain rfl : qa = a2 := Option.some.inj (eq7.symm.trans h2)
          obtain ⟨b8, o8, t3, hA8, et8, c8⟩ := HT1.out.int (i := k - 1) (by omega)
          injection hA8 with hA8; injection hA8 with hA8 hA8'; subst hA8 hA8'
          obtain rfl : t3 = t2 := Option.some.inj (et8.symm.trans h3)
          have X6 : ∀ W, Bl (wr.alloc (.cells #[.int .i64 pa.Id, .bool pa.Up, .int .i64 pa.Minute, .int .i64 pa.Weight] 43)) W → W.cell? ⟨b1, o1 + (k - 1), none⟩ = some (.int .i64 (i2 : Int)) := fun W hW => c6 W (hbq.trans hW)
          have X7 : ∀ W, Bl (wr.alloc (.cells #[.int .i64 pa.Id, .bool pa.Up, .int .i64 pa.Minute, .int .i64 pa.Weight] 43)) W → W.cell? ⟨b2, o2 + i2 * 4 + 1, none⟩ = some (.bool qa.Up) := fun W hW => q2 W (hbq.trans hW)
          have X8 : ∀ W, Bl (wr.alloc (.cells #[.int .i64 pa.Id, .bool pa.Up, .int .i64 pa.Minute, .int .i64 pa.Weight] 43)) W → W.cell? ⟨b5, o5 + (k - 1), none⟩ = some (.int .i64 t3) := fun W hW => c8 W (hbq.trans hW)
          have k1 : (0 : Int) ≤ (k : Int) - 1 := by omega
          have k2 : (k : Int) - 1 < (mt : Int) := by omega
          have k3 : ((k : Int) - 1).toNat = k - 1 := by omega
          have k5 : k - 1 < mt := by omega
          have k6 : 1 ≤ (k : Int) := by omega
          have k7 : (0 : Int) < (k : Int) := by omega
          have k8 : 0 < k := by omega
          have k9 : t3 ≤ t' := by omega
          have hd2 : decide (t' < t3 + mi) = false := by simp; omega
          have hup := Lib.hid hup
          clear h1 h2 h3 ex2 eq7 et8 c6 q1 q2 q3 q4 c8 hk0 HPV
          by_cases hu : pa.Up = qa.Up
          · have hu1 : (pa.Up == qa.Up) = true := by simpa using hu
            have hm2 := hup.out hu
            have hd3 : decide (t' < t3 + 2 * mi) = false := by simp; omega
            clear hu
            go_wp2_with fail
            refine region_bl (by kernel_rfl) (by kernel_rfl) bq ?_
            repeat' (first | go_big_quiet_skip | (go_big_quiet_want; go_simp; (try go_bits); first | (refine ⟨_, fun _ _ => rfl, ?_⟩; go_big_quiet_on) | (apply Exists.intro; refine ⟨fun W hW => ?_, ?_⟩; (· go_simp; (try go_bits); rfl); go_big_quiet_on)))
            apply wpQuiet_nil
            intro W hb
            go_wp2_with fail
            refine region_bl (by kernel_rfl) (by kernel_rfl) hb ?_
            repeat' (first | go_big_quiet_skip | (go_big_quiet_want; go_simp; (try go_bits); first | (refine ⟨_, fun _ _ => rfl, ?_⟩; go_big_quiet_on) | (apply Exists.intro; refine ⟨fun W hW => ?_, ?_⟩; (· go_simp; (try go_bits); rfl); go_big_quiet_on)))
            apply wpQuiet_nil
            intro W hb
            go_wp2_with fail
            first | exact ⟨⟨k + 1, by omega, by go_num, by rw [HN.out], hbq.trans hb⟩, by simp [intOf]; omega⟩ | (refine ⟨?_, by simp [intOf]; omega⟩; (repeat apply Exists.intro); exact ⟨⟨k + 1, by omega, by go_num, by rw [HN.out], hbq.trans hb⟩, rfl⟩)
          · have hu1 : (pa.Up == qa.Up) = false := by simpa using hu
            clear hu
            go_wp2_with fail
            refine region_bl (by kernel_rfl) (by kernel_rfl) bq ?_
            repeat' (first | go_big_quiet_skip | (go_big_quiet_want; go_simp; (try go_bits); first | (refine ⟨_, fun _ _ => rfl, ?_⟩; go_big_quiet_on) | (apply Exists.intro; refine ⟨fun W hW => ?_, ?_⟩; (· go_simp; (try go_bits); rfl); go_big_quiet_on)))
            apply wpQuiet_nil
            intro W hb
            go_wp2_with fail
            refine region_bl (by kernel_rfl) (by kernel_rfl) hb ?_
            repeat' (first | go_big_quiet_skip | (go_big_quiet_want; go_simp; (try go_bits); first | (refine ⟨_, fun _ _ => rfl, ?_⟩; go_big_quiet_on) | (apply Exists.intro; refine ⟨fun W hW => ?_, ?_⟩; (· go_simp; (try go_bits); rfl); go_big_quiet_on)))
            apply wpQuiet_nil
            intro W hb
            go_wp2_with fail
            first | exact ⟨⟨k + 1, by omega, by go_num, by rw [HN.out], hbq.trans hb⟩, by simp [intOf]; omega⟩ | (refine ⟨?_, by simp [intOf]; omega⟩; (repeat apply Exists.intro); exact ⟨⟨k + 1, by omega, by go_num, by rw [HN.out], hbq.trans hb⟩, rfl⟩)
      · obtain rfl : k = mt := by omega
        rw [HSUM.out]
        have HBW := Lib.hid (HBW.out.trans hbx)
        go_wp2_with fail
        refine (drawFirstComeLockages_any A n c code _ (HS.out.bl HBW.out) HBY.out).mono ?_
        rintro e w2 ⟨B2, m2, d2, l2, rfl, hsl, hm2, hmd2, hbn⟩
        have HSL2 := Lib.hid hsl
        have HL2 := Lib.hid hsl.1
        have HBW := Lib.hid (HBW.out.trans hbn)
        have hb := Bl.refl w2
        clear hsl hbn
        have K1 := Lib.hid (fun W hl => implFirstCome_any B2 m2 d2 l2 W hl)
        have K2 := Lib.hid (fun W hl => specFirstCome_any B2 m2 d2 l2 W hl)
        have K3 := Lib.hid (fun W hl => areArrivals_any B2 m2 d2 l2 W hl)
        cases ha2 : arrOk l2
        · have f1 := firstR_no ha2
          rw [f1] at K1 K2
          rw [ha2] at K3
          clear f1 ha2
          go_wp2_with fail
          refine ((K1.out _ (HSL2.out.bl hb))).mono ?_
          rintro e w' ⟨Ca, ma, da, rfl, hox, hlx, hHA1m, hbn⟩
          have HA1 := Lib.hid (Sl.of_own ci_len hox hlx (by omega))
          have hHA1c := own_cap hox
          have HA1L := Lib.hid hlx
          have HA1w := Lib.hid (Bl.refl w')
          have hb := hb.trans hbn
          clear hbn hox hlx
          have HBW := Lib.hid (HBW.out.trans hb)
          have HSL2 := Lib.hid (HSL2.out.bl hb)
          have hb := Bl.refl w'
          go_wp2_with fail
          refine ((K2.out _ (HSL2.out.bl hb))).mono ?_
          rintro e w' ⟨Cb, mb, db, rfl, hox, hlx, hHA2m, hbn⟩
          have HA2 := Lib.hid (Sl.of_own ci_len hox hlx (by omega))
          have hHA2c := own_cap hox
          have HA2L := Lib.hid hlx
          have HA2w := Lib.hid (Bl.refl w')
          have hb := hb.trans hbn
          clear hbn hox hlx
          have HBW := Lib.hid (HBW.out.trans hb)
          have HSL2 := Lib.hid (HSL2.out.bl hb)
          have HA1 := Lib.hid (HA1.out.bl hb)
          have hb := Bl.refl w'
          go_wp2_with fail
          refine ((vInts_any Ca Cb ma mb da db [] [] _ (HA1.out.bl hb) (HA2.out.bl hb))).mono ?_
          rintro e w' ⟨rfl, hbn⟩
          have hb := hb.trans hbn
          clear hbn
          simp only [eqB_self]
          go_wp2_with fail
          refine ((K3.out _ (HSL2.out.bl hb))).mono ?_
          rintro e w' ⟨rfl, hbn⟩
          have hb := hb.trans hbn
          clear hbn
          go_wp2_with fail
          go_ret
          exact ⟨rfl, HBW.out.trans hb⟩
        · have f1 := firstR_yes ha2
          have hord := fc_ord ha2
          rw [f1] at K1 K2
          rw [ha2] at K3
          have K4 := Lib.hid (fun Cn mn dn hc W hl ho => isLockageOrder_any B2 m2 d2 l2 Cn mn dn (fcK l2 l2.length) W hl ho hc)
          rw [hord] at K4
          generalize fcK l2 l2.length = fc2 at *
          clear f1 ha2 hord
          go_wp2_with fail
          refine ((K1.out _ (HSL2.out.bl hb))).mono ?_
          rintro e w' ⟨Ca, ma, da, rfl, hox, hlx, hHA1m, hbn⟩
          have HA1 := Lib.hid (Sl.of_own ci_len hox hlx (by omega))
          have hHA1c := own_cap hox
          have HA1L := Lib.hid hlx
          have HA1w := Lib.hid (Bl.refl w')
          have hb := hb.trans hbn
          clear hbn hox hlx
          have HBW := Lib.hid (HBW.out.trans hb)
          have HSL2 := Lib.hid (HSL2.out.bl hb)
          have hb := Bl.refl w'
          go_wp2_with fail
          refine ((K2.out _ (HSL2.out.bl hb))).mono ?_
          rintro e w' ⟨Cb, mb, db, rfl, hox, hlx, hHA2m, hbn⟩
          have HA2 := Lib.hid (Sl.of_own ci_len hox hlx (by omega))
          have hHA2c := own_cap hox
          have HA2L := Lib.hid hlx
          have HA2w := Lib.hid (Bl.refl w')
          have hb := hb.trans hbn
          clear hbn hox hlx
          have HBW := Lib.hid (HBW.out.trans hb)
          have HSL2 := Lib.hid (HSL2.out.bl hb)
          have HA1 := Lib.hid (HA1.out.bl hb)
          have hb := Bl.refl w'
          go_wp2_with fail
          refine ((vInts_any Ca Cb ma mb da db fc2 fc2 _ (HA1.out.bl hb) (HA2.out.bl hb))).mono ?_
          rintro e w' ⟨rfl, hbn⟩
          have hb := hb.trans hbn
          clear hbn
          simp only [eqB_self]
          go_wp2_with fail
          refine ((K3.out _ (HSL2.out.bl hb))).mono ?_
          rintro e w' ⟨rfl, hbn⟩
          have hb := hb.trans hbn
          clear hbn
          go_wp2_with fail
          refine ((K4.out Ca ma da hHA1c _ (HSL2.out.bl hb) (HA1.out.bl hb))).mono ?_
          rintro e w' ⟨rfl, hbn⟩
          have hb := hb.trans hbn
          clear hbn
          go_wp2_with fail
          go_ret
          exact ⟨rfl, HBW.out.trans hb⟩
  · obtain ⟨f1, f2⟩ := lck_no (high := high) hq
    rw [f1] at H1 H2
    rw [f2] at H5 H6
    generalize bestR l high mi = R at *
    obtain ⟨⟨rb, rz⟩, rok⟩ := R
    clear f1 f2 hq
    go_wp2_with fail
    refine ((H1.out _ (HSL.out.bl hb) (HSO.out.bl hb))).mono ?_
    rintro e w' ⟨rfl, hbn⟩
    have hb := hb.trans hbn
    clear hbn
    go_wp2_with fail
    refine ((H2.out _ (HSL.out.bl hb) (HSO.out.bl hb))).mono ?_
    rintro e w' ⟨rfl, hbn⟩
    have hb := hb.trans hbn
    clear hbn
    go_wp2_with fail
    refine ((H3.out _ (HSL.out.bl hb))).mono ?_
    rintro e w' ⟨Ca, ma, da, rfl, hox, hlx, hHA1m, hbn⟩
    have HA1 := Lib.hid (Sl.of_own ci_len hox hlx (by omega))
    have hHA1c := own_cap hox
    have HA1L := Lib.hid hlx
    have HA1w := Lib.hid (Bl.refl w')
    have hb := hb.trans hbn
    clear hbn hox hlx
    have HBW := Lib.hid (HBW.out.trans hb)
    have HSL := Lib.hid (HSL.out.bl hb)
    have HSO := Lib.hid (HSO.out.bl hb)
    have hb := Bl.refl w'
    go_wp2_with fail
    refine ((H4.out _ (HSL.out.bl hb))).mono ?_
    rintro e w' ⟨Cb, mb, db, rfl, hox, hlx, hHA2m, hbn⟩
    have HA2 := Lib.hid (Sl.of_own ci_len hox hlx (by omega))
    have hHA2c := own_cap hox
    have HA2L := Lib.hid hlx
    have HA2w := Lib.hid (Bl.refl w')
    have hb := hb.trans hbn
    clear hbn hox hlx
    have HBW := Lib.hid (HBW.out.trans hb)
    have HSL := Lib.hid (HSL.out.bl hb)
    have HSO := Lib.hid (HSO.out.bl hb)
    have HA1 := Lib.hid (HA1.out.bl hb)
    have hb := Bl.refl w'
    go_wp2_with fail
    refine ((vInts_any Ca Cb ma mb da db rb rb _ (HA1.out.bl hb) (HA2.out.bl hb))).mono ?_
    rintro e w' ⟨rfl, hbn⟩
    have hb := hb.trans hbn
    clear hbn
    simp only [eqB_self]
    go_wp2_with fail
    refine ((H5.out _ (HSL.out.bl hb) (HSO.out.bl hb))).mono ?_
    rintro e w' ⟨Ct, mt, dt, rfl, hox, hlx, hHT1m, hbn⟩
    have HT1 := Lib.hid (Sl.of_own ci_len hox hlx (by omega))
    have hHT1c := own_cap hox
    have HT1L := Lib.hid hlx
    have HT1w := Lib.hid (Bl.refl w')
    have hb := hb.trans hbn
    clear hbn hox hlx
    have HBW := Lib.hid (HBW.out.trans hb)
    have HSL := Lib.hid (HSL.out.bl hb)
    have HSO := Lib.hid (HSO.out.bl hb)
    have hb := Bl.refl w'
    go_wp2_with fail
    refine ((H6.out _ (HSL.out.bl hb) (HSO.out.bl hb))).mono ?_
    rintro e w' ⟨Cu, mu, du, rfl, hox, hlx, hHT2m, hbn⟩
    have HT2 := Lib.hid (Sl.of_own ci_len hox hlx (by omega))
    have hHT2c := own_cap hox
    have HT2L := Lib.hid hlx
    have HT2w := Lib.hid (Bl.refl w')
    have hb := hb.trans hbn
    clear hbn hox hlx
    have HBW := Lib.hid (HBW.out.trans hb)
    have HSL := Lib.hid (HSL.out.bl hb)
    have HSO := Lib.hid (HSO.out.bl hb)
    have HT1 := Lib.hid (HT1.out.bl hb)
    have hb := Bl.refl w'
    go_wp2_with fail
    refine ((vInts_any Ct Cu mt mu dt du [] [] _ (HT1.out.bl hb) (HT2.out.bl hb))).mono ?_
    rintro e w' ⟨rfl, hbn⟩
    have hb := hb.trans hbn
    clear hbn
    simp only [eqB_self]
    have HBW := Lib.hid (HBW.out.trans hb)
    go_wp2_with fail
    refine (drawFirstComeLockages_any A n c code _ (HS.out.bl HBW.out) HBY.out).mono ?_
    rintro e w2 ⟨B2, m2, d2, l2, rfl, hsl, hm2, hmd2, hbn⟩
    have HSL2 := Lib.hid hsl
    have HL2 := Lib.hid hsl.1
    have HBW := Lib.hid (HBW.out.trans hbn)
    have hb := Bl.refl w2
    clear hsl hbn
    have K1 := Lib.hid (fun W hl => implFirstCome_any B2 m2 d2 l2 W hl)
    have K2 := Lib.hid (fun W hl => specFirstCome_any B2 m2 d2 l2 W hl)
    have K3 := Lib.hid (fun W hl => areArrivals_any B2 m2 d2 l2 W hl)
    cases ha2 : arrOk l2
    · have f1 := firstR_no ha2
      rw [f1] at K1 K2
      rw [ha2] at K3
      clear f1 ha2
      go_wp2_with fail
      refine ((K1.out _ (HSL2.out.bl hb))).mono ?_
      rintro e w' ⟨Ca, ma, da, rfl, hox, hlx, hHA1m, hbn⟩
      have HA1 := Lib.hid (Sl.of_own ci_len hox hlx (by omega))
      have hHA1c := own_cap hox
      have HA1L := Lib.hid hlx
      have HA1w := Lib.hid (Bl.refl w')
      have hb := hb.trans hbn
      clear hbn hox hlx
      have HBW := Lib.hid (HBW.out.trans hb)
      have HSL2 := Lib.hid (HSL2.out.bl hb)
      have hb := Bl.refl w'
      go_wp2_with fail
      refine ((K2.out _ (HSL2.out.bl hb))).mono ?_
      rintro e w' ⟨Cb, mb, db, rfl, hox, hlx, hHA2m, hbn⟩
      have HA2 := Lib.hid (Sl.of_own ci_len hox hlx (by omega))
      have hHA2c := own_cap hox
      have HA2L := Lib.hid hlx
      have HA2w := Lib.hid (Bl.refl w')
      have hb := hb.trans hbn
      clear hbn hox hlx
      have HBW := Lib.hid (HBW.out.trans hb)
      have HSL2 := Lib.hid (HSL2.out.bl hb)
      have HA1 := Lib.hid (HA1.out.bl hb)
      have hb := Bl.refl w'
      go_wp2_with fail
      refine ((vInts_any Ca Cb ma mb da db [] [] _ (HA1.out.bl hb) (HA2.out.bl hb))).mono ?_
      rintro e w' ⟨rfl, hbn⟩
      have hb := hb.trans hbn
      clear hbn
      simp only [eqB_self]
      go_wp2_with fail
      refine ((K3.out _ (HSL2.out.bl hb))).mono ?_
      rintro e w' ⟨rfl, hbn⟩
      have hb := hb.trans hbn
      clear hbn
      go_wp2_with fail
      go_ret
      exact ⟨rfl, HBW.out.trans hb⟩
    · have f1 := firstR_yes ha2
      have hord := fc_ord ha2
      rw [f1] at K1 K2
      rw [ha2] at K3
      have K4 := Lib.hid (fun Cn mn dn hc W hl ho => isLockageOrder_any B2 m2 d2 l2 Cn mn dn (fcK l2 l2.length) W hl ho hc)
      rw [hord] at K4
      generalize fcK l2 l2.length = fc2 at *
      clear f1 ha2 hord
      go_wp2_with fail
      refine ((K1.out _ (HSL2.out.bl hb))).mono ?_
      rintro e w' ⟨Ca, ma, da, rfl, hox, hlx, hHA1m, hbn⟩
      have HA1 := Lib.hid (Sl.of_own ci_len hox hlx (by omega))
      have hHA1c := own_cap hox
      have HA1L := Lib.hid hlx
      have HA1w := Lib.hid (Bl.refl w')
      have hb := hb.trans hbn
      clear hbn hox hlx
      have HBW := Lib.hid (HBW.out.trans hb)
      have HSL2 := Lib.hid (HSL2.out.bl hb)
      have hb := Bl.refl w'
      go_wp2_with fail
      refine ((K2.out _ (HSL2.out.bl hb))).mono ?_
      rintro e w' ⟨Cb, mb, db, rfl, hox, hlx, hHA2m, hbn⟩
      have HA2 := Lib.hid (Sl.of_own ci_len hox hlx (by omega))
      have hHA2c := own_cap hox
      have HA2L := Lib.hid hlx
      have HA2w := Lib.hid (Bl.refl w')
      have hb := hb.trans hbn
      clear hbn hox hlx
      have HBW := Lib.hid (HBW.out.trans hb)
      have HSL2 := Lib.hid (HSL2.out.bl hb)
      have HA1 := Lib.hid (HA1.out.bl hb)
      have hb := Bl.refl w'
      go_wp2_with fail
      refine ((vInts_any Ca Cb ma mb da db fc2 fc2 _ (HA1.out.bl hb) (HA2.out.bl hb))).mono ?_
      rintro e w' ⟨rfl, hbn⟩
      have hb := hb.trans hbn
      clear hbn
      simp only [eqB_self]
      go_wp2_with fail
      refine ((K3.out _ (HSL2.out.bl hb))).mono ?_
      rintro e w' ⟨rfl, hbn⟩
      have hb := hb.trans hbn
      clear hbn
      go_wp2_with fail
      refine ((K4.out Ca ma da hHA1c _ (HSL2.out.bl hb) (HA1.out.bl hb))).mono ?_
      rintro e w' ⟨rfl, hbn⟩
      have hb := hb.trans hbn
      clear hbn
      go_wp2_with fail
      go_ret
      exact ⟨rfl, HBW.out.trans hb⟩
namespace fnLockagesDone
set_option maxRecDepth 100000 in
theorem lifted (os : Os) (started : os.Started) (H : Type) (enc : TypeId × Value → H) :
    ReturnsInHanded {} Try.checked os 4 .any (Rows.fnLockagesSpec.pre6 enc Try.prog Try.f4 Rows.fnLockagesRow.domain false) (Rows.fnLockagesSpec.post enc Try.prog Try.f4 false true false false) := by
  refine returnsInHanded_of_change (C := Try.checked) seatOwn started (by kernel_rfl) Try.func4
    (ChangeSpec.witness6 (enc := enc) (C := Try.checked) false ⟨#[], #[.slice none 0 0], []⟩ 8 (by kernel_rfl) (by kernel_rfl) (by kernel_rfl) (by kernel_rfl)) ?_
  intro W base args ds gs before hval0 hW hcnd _
  have hval : ∀ (j : Nat) t v, Try.f4.params[j]? = some t → args[j]? = some v → Value.okWide Try.prog W .any base t v := hval0
  have hW' := hW
  obtain ⟨p, q, hA0, hV, rfl, hfz, hnd⟩ := hW
  have hA : DataW.TrodAll enc Try.prog W 0 (fun _ => true) true Try.f4.params.toList args.toList ds p := hA0
  rw [Try.params4] at hA hval
  obtain ⟨v0, vs0, d0, ds0, p0, q0, hargs, rfl, rfl, h0, r0⟩ := trodAll_cons hA
  obtain ⟨rfl, rfl, rfl⟩ := trodAll_nil r0
  obtain rfl : args = #[v0] := by cases args; simp_all
  obtain ⟨rfl, rfl⟩ := trodVars_none hV
  have k0 := h0
  have lt0 : ∀ x ∈ p0, x.block < W.heap.size := by obtain ⟨m, hm⟩ := k0; exact DataW.trod_lt m _ _ _ hm
  obtain ⟨A0, n0, c0, rfl⟩ := okWide_slice Try.underlying29 (hval 0 29 v0 rfl rfl)
  obtain ⟨l0, s0⟩ := sl_of_bytes Try.underlying29 Try.underlying5 (by kernel_rfl) h0
  clear hA0 hval0
  refine (walk_FnLockages A0 n0 c0 l0 W s0).mono fun e W' ⟨he, bel⟩ => ?_
  subst he
  exact ⟨_, rfl, _, _, _, [], _, [], hW', trodAll_mk1 (shut_bool Try.underlying4 _), (trodAll_cons_mk (Below.trod seatLaid (by kernel_rfl) (of_decide_eq_true (by kernel_rfl)) k0 bel lt0) trodAll_mk0), rfl, bel.frame _, fun h => by cases h⟩
theorem over : Rows.fnLockagesRow.holds Try.pinned (OpenSpec.ofChange Rows.fnLockagesSpec) :=
  OpenClaim.holds_of_wide 4 Try.f4 rfl rfl rfl rfl rfl rfl rfl ⟨rfl, rfl, rfl, rfl, rfl⟩ rfl rfl rfl rfl rfl (by kernel_rfl) Try.func4 (by kernel_rfl)
    (of_decide_eq_true (by kernel_rfl)) (by unfold Func.isWrapper; first | (rw [if_pos (by decide +kernel)]; kernel_rfl) | (rw [if_neg (by decide +kernel)]; exact ⟨rfl, rfl⟩))
    (fun os started H enc _ => lifted os started H enc)
theorem proved : Rows.FnLockagesSaid := over
#print axioms proved
end fnLockagesDone

end Go.Proofs.Ytnckpionabokeaa
