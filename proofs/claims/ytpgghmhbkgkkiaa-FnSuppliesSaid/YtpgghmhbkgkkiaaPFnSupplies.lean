/- FnSupplies: the law returns true for all bytes. No condition. -/
import Derived.Test.YtpgghmhbkgkkiaaQ10e
import Derived.Test.YtpgghmhbkgkkiaaD10b
import Derived.Test.YtpgghmhbkgkkiaaC10f
import Derived.Test.YtpgghmhbkgkkiaaC10g
import Derived.Test.YtpgghmhbkgkkiaaC10h
import Derived.Test.YtpgghmhbkgkkiaaBaseZ
import Derived.Deep.RegionHeld3
import Derived.Deep.CutRange
import Derived.Test.YtpgghmhbkgkkiaaR10
import Derived.Test.YtpgghmhbkgkkiaaLB
namespace Go.Proofs.Ytpgghmhbkgkkiaa
open Go.ChangeShapes Go.WideShapes Go.ChangeAt Go.RowKit Go.Deep Go.Joins
set_option maxRecDepth 100000 in
set_option maxHeartbeats 8000000 in
theorem walk_FnSupplies (A : Option Addr) (n c : Nat) (code : List Int) (w : World) (s : Sl cb 1 w A n code ∧ Bytes code) :
    Calls Try.prog 13 #[.slice A n c] w fun e w' => e = .returned (.bool true) ∧ Bl w w' := by
  obtain ⟨hs, hby⟩ := s
  have HV := Lib.hid (vBig_any A n c w hs.le)
  by_cases hbig : 65536 < n
  · have e : decide (65536 < n) = true := by simpa using hbig
    rw [e] at HV
    go_enter Try.func13, Try.ntmps13
    go_wp2_with fail
    refine HV.out.mono ?_
    rintro e w' ⟨rfl, rfl⟩
    go_wp2_with fail
    go_ret
    exact ⟨rfl, Bl.refl _⟩
  have e : decide (65536 < n) = false := by simpa using hbig
  rw [e] at HV
  have HS := Lib.hid hs
  have HBY := Lib.hid hby
  clear e hs hby
  go_enter Try.func13, Try.ntmps13
  go_wp2_with fail
  refine HV.out.mono ?_
  rintro e w' ⟨rfl, rfl⟩
  go_wp2_with fail
  refine (drawMostLockages_any A n c code _ HS.out HBY.out).mono ?_
  rintro e w1 ⟨B, m, d, l, x, y, t, rfl, hsl, hm, hmd, hb1⟩
  have HSL := Lib.hid hsl
  have HBW := Lib.hid hb1
  clear hsl hb1
  have K1 := Lib.hid (fun W hl => implMostLockages_any B m d l x y t W hl)
  have K2 := Lib.hid (fun W hl => specMostLockages_any B m d l x y t W hl)
  have K3 := Lib.hid (fun q W hl => implMoveWater_any B m d l q W hl (by omega))
  have HF := Lib.hid (fun v (h : mostLockages l x y t = (v, true)) => supply_most h)
  generalize mostLockages l x y t = R at *
  obtain ⟨nv, ok⟩ := R
  (try simp only at K1)
  (try simp only at K2)
  have hb := Bl.refl w1
  go_wp2_with fail
  refine ((K1.out _ (HSL.out.bl hb))).mono ?_
  rintro e w' ⟨rfl, hbn⟩
  have hb := hb.trans hbn
  clear hbn
  go_wp2_with fail
  refine ((K2.out _ (HSL.out.bl hb))).mono ?_
  rintro e w' ⟨rfl, hbn⟩
  have hb := hb.trans hbn
  clear hbn
  have HSL := Lib.hid (HSL.out.bl hb)
  have HBW := Lib.hid (HBW.out.trans hb)
  clear hb K1 K2
  have HBB := Lib.hid (Bl.refl w')
  go_upto_region 8 with fail
  go_cut [79] from 74 to 79 (fun s wx => s = .bool (ok && decide (nv * t < 100000)) ∧ wx = w')
  case first =>
    cases ok
    · go_wp2_with fail
      (first | (go_meet; exact ⟨rfl, rfl⟩) | ((repeat apply Exists.intro); exact ⟨⟨rfl, rfl⟩, rfl⟩))
    · obtain ⟨⟨n0, n1⟩, ⟨t0, t1⟩, hmv⟩ := HF.out nv rfl
      have hm1 := mul_bd' n0 n1 (Int.le_trans (by decide) t0) t1
      obtain ⟨hm11, hm12⟩ := hm1
      clear hmv HF
      go_wp2_with fail
      (first | (go_meet; exact ⟨by simp, rfl⟩) | ((repeat apply Exists.intro); exact ⟨⟨by simp, rfl⟩, rfl⟩))
  case rest =>
  obtain ⟨hs79, rfl⟩ := hcut
  obtain ⟨be, hbe⟩ : ∃ be, (ok && decide (nv * t < 100000)) = be := ⟨_, rfl⟩
  rw [hbe] at hs79
  subst hs79
  have HBE := Lib.hid hbe
  clear hbe
  go_upto_if 79 with fail
  go_cut [] from 80 to 112 (fun wx => Bl w wx)
  case first =>
    cases be
    case true =>
      have hbb := HBE.out
      simp only [Bool.and_eq_true, decide_eq_true_eq] at hbb
      obtain ⟨rfl, hlt⟩ := hbb
      obtain ⟨⟨n0, n1⟩, ⟨t0, t1⟩, hmv⟩ := HF.out nv rfl
      have hm1 := mul_bd' n0 n1 (Int.le_trans (by decide) t0) t1
      have hm2 := mul_bd' (x := nv + 1) (X := 100001) (by omega) (by omega) (Int.le_trans (by decide) t0) t1
      have KA := Lib.hid (K3.out ⟨x, y, nv * t⟩)
      have KB := Lib.hid (K3.out ⟨x, y, (nv + 1) * t⟩)
      generalize moveWaterR l ⟨x, y, nv * t⟩ = RA at *
      generalize moveWaterR l ⟨x, y, (nv + 1) * t⟩ = RB at *
      obtain ⟨ya, ba⟩ := RA
      obtain ⟨yb, bb⟩ := RB
      simp only at KA KB hmv
      obtain ⟨hm11, hm12⟩ := hm1
      obtain ⟨hm21, hm22⟩ := hm2
      have HMV := Lib.hid hmv
      clear hmv K3 HF
      obtain ⟨h1, rfl⟩ := HMV.out hlt
      have F00 : ∀ W, Bl (wc.alloc (.cells #[.int .i64 x, .int .i64 y, .int .i64 (nv * t)] 32)) W → W.cell? ⟨wc.heap.size, 0, none⟩ = some (.int .i64 x) := Bl.all (by go_simp)
      go_wp2_with fail
      refine (KA.out _ (HSL.out.bl ((Bl.refl wc).alloc _))).mono ?_
      rintro e w4 ⟨C4, m4, d4, rfl, ho4, hl4, hm4, hbn⟩
      have HSL := Lib.hid ((HSL.out.bl ((Bl.refl wc).alloc _)).bl hbn)
      have HBW := Lib.hid ((HBW.out.alloc _).trans hbn)
      clear ho4 hl4 hbn F00
      go_wp2_with fail
      refine (KB.out _ HSL.out).mono ?_
      rintro e w5 ⟨C5, m5, d5, rfl, ho5, hl5, hm5, hbn⟩
      have HBW := Lib.hid (HBW.out.trans hbn)
      clear ho5 hl5 hbn
      have hor : (0 < nv ∧ ba = true) ∨ ¬ 0 < nv := by
        by_cases h0 : 0 < nv
        · exact .inl ⟨h0, h1 h0⟩
        · exact .inr h0
      clear h1 HMV
      rcases hor with ⟨h0, rfl⟩ | h0
      all_goals
        go_wp2_with fail
        (first | (go_meet; exact HBW.out) | ((repeat apply Exists.intro); exact ⟨HBW.out, rfl⟩))
    case false =>
      go_wp2_with fail
      (first | (go_meet; exact HBW.out) | ((repeat apply Exists.intro); exact ⟨HBW.out, rfl⟩))
  case rest =>
  have HBW := Lib.hid hcut
  clear HSL K3 HF hcut
  go_wp2_with fail
  refine (drawLevelOut_any A n c code _ (HS.out.bl HBW.out) HBY.out).mono ?_
  rintro e w6 ⟨B6, m6, d6, l6, rfl, hsl6, hm6, hmd6, hbn⟩
  have HSL := Lib.hid hsl6
  have HBW := Lib.hid (HBW.out.trans hbn)
  clear hbn hsl6
  have K1 := Lib.hid (fun W hl => implLevelOut_any B6 m6 d6 l6 W hl (by omega))
  have K2 := Lib.hid (fun W hl => specLevelOut_any B6 m6 d6 l6 W hl (by omega))
  have HF := Lib.hid (fun Y (h : levelR l6 = (Y, true)) => supply_level h)
  generalize levelR l6 = R at *
  obtain ⟨Y, told⟩ := R
  (try simp only at K1)
  (try simp only at K2)
  go_wp2_with fail
  refine (K1.out _ HSL.out).mono ?_
  rintro e w7 ⟨C7, m7, d7, rfl, ho7, hl7, hm7, hbn⟩
  have HS7 := Lib.hid (Sl.of_own Basin.cs_len ho7 hl7 (by omega))
  have HSL := Lib.hid (HSL.out.bl hbn)
  have HBW := Lib.hid (HBW.out.trans hbn)
  clear hbn ho7 hl7
  go_wp2_with fail
  refine (K2.out _ HSL.out).mono ?_
  rintro e w8 ⟨C8, m8, d8, rfl, ho8, hl8, hm8, hbn⟩
  have HS8 := Lib.hid (Sl.of_own Basin.cs_len ho8 hl8 (by omega))
  have HS7 := Lib.hid (HS7.out.bl hbn)
  have HSL := Lib.hid (HSL.out.bl hbn)
  have HBW := Lib.hid (HBW.out.trans hbn)
  clear hbn ho8 hl8
  have hb := Bl.refl w8
  go_wp2_with fail
  refine ((vBasins_any C7 C8 m7 m8 d7 d8 Y Y _ HS7.out HS8.out)).mono ?_
  rintro e w' ⟨rfl, hbn⟩
  have hb := hb.trans hbn
  clear hbn
  simp only [eqB_self]
  have HSL := Lib.hid (HSL.out.bl hb)
  have HS7 := Lib.hid (HS7.out.bl hb)
  have HBW := Lib.hid (HBW.out.trans hb)
  clear hb HS8 K1 K2
  go_upto_if 134 with fail
  go_cut [] from 135 to 175 (fun wx => Bl w wx)
  case first =>
    cases told
    case true =>
      obtain ⟨ht1, ht2, hlv, hyok⟩ := HF.out Y rfl
      have K1 := Lib.hid (fun W hl => implTotalWater_any B6 m6 d6 l6 W hl)
      have K2 := Lib.hid (fun W hl => implTotalWater_any C7 m7 d7 Y W hl)
      have K3 := Lib.hid (fun W hl => implLevelOut_any C7 m7 d7 Y W hl (by omega))
      have K4 := Lib.hid (fun W hl => areBasins_any C7 m7 d7 Y W hl)
      rw [ht1] at K1
      rw [ht2] at K2
      rw [hlv] at K3
      rw [hyok] at K4
      clear ht1 ht2 hlv hyok HF
      generalize totalOf l6 = T1 at *
      have hb := Bl.refl w'
      go_wp2_with fail
      refine ((K1.out _ (HSL.out.bl hb))).mono ?_
      rintro e w' ⟨rfl, hbn⟩
      have hb := hb.trans hbn
      clear hbn
      go_wp2_with fail
      refine ((K2.out _ (HS7.out.bl hb))).mono ?_
      rintro e w' ⟨rfl, hbn⟩
      have hb := hb.trans hbn
      clear hbn
      have HS7 := Lib.hid (HS7.out.bl hb)
      have HBW := Lib.hid (HBW.out.trans hb)
      clear hb K1 K2
      go_wp2_with fail
      refine (K3.out _ HS7.out).mono ?_
      rintro e w9 ⟨C9, m9, d9, rfl, ho9, hl9, hm9, hbn⟩
      have HS9 := Lib.hid (Sl.of_own Basin.cs_len ho9 hl9 (by omega))
      have HS7 := Lib.hid (HS7.out.bl hbn)
      have HBW := Lib.hid (HBW.out.trans hbn)
      clear hbn ho9 hl9 K3
      have hb := Bl.refl w9
      go_wp2_with fail
      refine ((vBasins_any C9 C7 m9 m7 d9 d7 Y Y _ HS9.out HS7.out)).mono ?_
      rintro e w' ⟨rfl, hbn⟩
      have hb := hb.trans hbn
      clear hbn
      simp only [eqB_self]
      go_wp2_with fail
      refine ((K4.out _ (HS7.out.bl hb))).mono ?_
      rintro e w' ⟨rfl, hbn⟩
      have hb := hb.trans hbn
      clear hbn
      have HBW := Lib.hid (HBW.out.trans hb)
      clear hb HS9 HS7 K4
      go_wp2_with fail
      (first | (go_meet; exact HBW.out) | ((repeat apply Exists.intro); exact ⟨HBW.out, rfl⟩))
    case false =>
      clear HF HS7
      go_wp2_with fail
      (first | (go_meet; exact HBW.out) | ((repeat apply Exists.intro); exact ⟨HBW.out, rfl⟩))
  case rest =>
  have HBW := Lib.hid hcut
  clear hcut
  go_wp2_with fail
  refine (drawRefillNeeded_any A n c code _ (HS.out.bl HBW.out) HBY.out).mono ?_
  rintro e w10 ⟨B, m, d, l, C, p, f, fs, rfl, hsl, hm, hmd, hso, hp, hpf, hbn⟩
  have HBW := Lib.hid (HBW.out.trans hbn)
  have HSL := Lib.hid hsl
  have HSF := Lib.hid hso
  have HLL := Lib.hid hsl.1
  have HLF := Lib.hid hso.1
  clear hbn hsl hso
  have K1 := Lib.hid (fun W hl hf => implRefillNeeded_any B m d l C p f fs W hl hf (by omega) (by omega))
  have K2 := Lib.hid (fun W hl hf => specRefillNeeded_any B m d l C p f fs W hl hf (by omega) (by omega))
  have K3 := Lib.hid (fun W hl hf => implRunFlows_any B m d l C p f fs W hl hf (by omega) (by omega))
  have HF := Lib.hid (fun N (h : refillR l fs = (N, true)) => supply_refill h)
  generalize refillR l fs = R at *
  obtain ⟨N, fine⟩ := R
  (try simp only at K1)
  (try simp only at K2)
  go_wp2_with fail
  refine (K1.out _ HSL.out HSF.out).mono ?_
  rintro e w11 ⟨C1, m1, d1, rfl, ho1, hl1, hm1, hbn⟩
  have HSN := Lib.hid (Sl.of_own ci_len ho1 hl1 (by omega))
  have HSL := Lib.hid (HSL.out.bl hbn)
  have HSF := Lib.hid (HSF.out.bl hbn)
  have HBW := Lib.hid (HBW.out.trans hbn)
  have HLN := Lib.hid hl1
  clear hbn ho1 hl1
  go_wp2_with fail
  refine (K2.out _ HSL.out HSF.out).mono ?_
  rintro e w12 ⟨C2, m2, d2, rfl, ho2, hl2, hm2, hbn⟩
  have HS2 := Lib.hid (Sl.of_own ci_len ho2 hl2 (by omega))
  have HSN := Lib.hid (HSN.out.bl hbn)
  have HSL := Lib.hid (HSL.out.bl hbn)
  have HSF := Lib.hid (HSF.out.bl hbn)
  have HBW := Lib.hid (HBW.out.trans hbn)
  clear hbn ho2 hl2
  have hb := Bl.refl w12
  go_wp2_with fail
  refine ((vInts_any C1 C2 m1 m2 d1 d2 N N _ HSN.out HS2.out)).mono ?_
  rintro e w' ⟨rfl, hbn⟩
  have hb := hb.trans hbn
  clear hbn
  simp only [eqB_self]
  have HSN := Lib.hid (HSN.out.bl hb)
  have HSL := Lib.hid (HSL.out.bl hb)
  have HSF := Lib.hid (HSF.out.bl hb)
  have HBW := Lib.hid (HBW.out.trans hb)
  clear hb HS2 K1 K2
  cases fine
  · go_wp2_with fail
    go_ret
    exact ⟨rfl, HBW.out⟩
  obtain ⟨hN, hlok, ⟨k, hrun, hkz⟩, hNb, hroom⟩ := HF.out N rfl
  have hm1m : m1 = m := by rw [HLN.out, HLL.out] at hN; exact hN
  subst hm1m
  rw [hrun] at K3
  simp only at K3
  have HKZ := Lib.hid hkz
  have HNB := Lib.hid hNb
  have HROOM := Lib.hid hroom
  have HLO := Lib.hid hlok
  have HRL : Hid ((roomyL l N).length = m1) := (roomy_len l N).trans HLL.out
  clear HF hkz hNb hroom hlok hrun hN
  go_wp2_with fail
  refine (K3.out _ HSL.out HSF.out).mono ?_
  rintro e w13 ⟨C3, m3, d3, rfl, ho3, hl3, hm3, hbn⟩
  have HSN := Lib.hid (HSN.out.bl hbn)
  have HSL := Lib.hid (HSL.out.bl hbn)
  have HSF := Lib.hid (HSF.out.bl hbn)
  have HBW := Lib.hid (HBW.out.trans hbn)
  clear hbn ho3 hl3 K3
  go_upto_region 32 with fail
  go_cut [222] from 210 to 222 (fun s wx => s = .bool false ∧ Bl w13 wx)
  case first =>
    by_cases hkp : k = p
    · have hk' : ((k : Int) == (p : Int)) = true := by simp [hkp]
      have hb := Bl.refl w13
      have hkf := HKZ.out (by rw [HLF.out]; exact hkp)
      clear hkp
      go_wp2_with fail
      refine ((vSum_zero C1 m1 d1 N _ HSN.out hkf)).mono ?_
      rintro e w' ⟨rfl, hbn⟩
      have hb := hb.trans hbn
      clear hbn
      clear HKZ hkf
      go_wp2_with fail
      (first | (go_meet; exact ⟨by simp, hb⟩) | ((repeat apply Exists.intro); exact ⟨⟨by simp, hb⟩, rfl⟩))
    · have hk' : ¬ (k : Int) = (p : Int) := by omega
      clear HKZ hkp
      go_wp2_with fail
      (first | (go_meet; exact ⟨by simp, Bl.refl _⟩) | ((repeat apply Exists.intro); exact ⟨⟨by simp, Bl.refl _⟩, rfl⟩))
  case rest =>
  obtain ⟨rfl, hbc⟩ := hcut
  have HSN := Lib.hid (HSN.out.bl hbc)
  have HSL := Lib.hid (HSL.out.bl hbc)
  have HSF := Lib.hid (HSF.out.bl hbc)
  have HBW := Lib.hid (HBW.out.trans hbc)
  clear hbc HKZ
  have HMR := Lib.hid (made_at Basin.cs 3 wc 69 wc.heap.size _ rfl (Nat.le_refl _))
  have hbm := (Bl.refl wc).alloc (.cells #[] 69)
  obtain ⟨wz, hwz⟩ : ∃ wz, wz = wc := ⟨_, rfl⟩
  rw [← hwz] at HSN HSL HSF HBW HMR hbm
  go_wp2_with fail
  go_loopw [36, 37] (fun u v wr => ∃ (j : Nat) (D : Option Addr) (e : Nat), j ≤ m1 ∧ v = .int .i64 j ∧ u = .slice D j e ∧ Bl wz wr ∧ Hid (wr.ownsRow wz.heap.size 69 3 (.slice D j e) j (((roomyL l N).take j).flatMap Basin.cs))) (fun _ v _ => m1 - (intOf v).toNat)
  case atStart =>
    subst hwz
    exact ⟨0, _, 0, Nat.zero_le _, rfl, rfl, hbm, HMR.out⟩
  case round =>
    clear HMR hbm hwz
    obtain ⟨j, D, e, hj, rfl, rfl, hwr, HOR⟩ := hrel
    by_cases hlt : j < m1
    · obtain ⟨b1, o1, q, rfl, eq, q1, q2, q3⟩ := HSL.out.Basin hlt
      obtain ⟨b2, o2, x, rfl, ex, c1⟩ := HSN.out.int hlt
      obtain ⟨g0, g1, g2, g3⟩ := bas_at HLO.out eq
      obtain ⟨x0, x1⟩ := HNB.out j x ex
      have HN := Lib.hid (take_one (roomy_at eq ex))
      obtain ⟨qa, qb, qc⟩ := q
      simp only at q1 q2 q3 g0 g1 g2 g3 HN
      have kw : IntKind.i64.wrap (qa + x) = qa + x := IntWalk.i64_in _ (by omega)
      have kw0 : -9223372036854775808 ≤ qa + x := by omega
      have kw1 : qa + x ≤ 9223372036854775807 := by omega
      have F0 : ∀ V, Bl wz V → V.cell? ⟨b1, o1 + j * 3, none⟩ = _ := q1
      have F1 : ∀ V, Bl wz V → V.cell? ⟨b1, o1 + j * 3 + 1, none⟩ = _ := q2
      have F2 : ∀ V, Bl wz V → V.cell? ⟨b2, o2 + j, none⟩ = _ := c1
      have y0 := F0 _ hwr
      have y1 := F1 _ hwr
      have y2 := F2 _ hwr
      have r1 : (0 : Int) ≤ (j : Int) := by omega
      have r2 : (j : Int) < (m1 : Int) := by omega
      have hbz := hwr.le
      have XOA : Hid (World.ownsRow ((wr.alloc (.cells #[.int .i64 (qa + x), .int .i64 qb, .int .i64 100000] 69)).drew) wz.heap.size 69 3 (.slice D j e) j (((roomyL l N).take j).flatMap Basin.cs)) := (World.ownsRow.alloc HOR.out _).drew
      have XBA : Hid (Bl wr ((wr.alloc (.cells #[.int .i64 (qa + x), .int .i64 qb, .int .i64 100000] 69)).drew)) := ((Bl.refl wr).alloc _).drew
      have XZA := Lib.hid (Nat.le_trans hbz XBA.out.le)
      have XIA : Hid (Sl Basin.cs 3 ((wr.alloc (.cells #[.int .i64 (qa + x), .int .i64 qb, .int .i64 100000] 69)).drew) (some ⟨wr.heap.size, 0, none⟩) 1 [(⟨qa + x, qb, 100000⟩ : Basin)]) := (slOneG Basin.cs 3 Basin.cs_len wr 69 ⟨qa + x, qb, 100000⟩ _ rfl wr.heap.size rfl).drew
      clear q1 q2 q3 c1 eq ex
      obtain ⟨i0, hi0, hz0, hz1, hz2⟩ := info_parts infoBasin
      go_wp2_with fail
      go_region_held3 (fun V => V.cell? ⟨b1, o1 + j * 3, none⟩ = some (.int .i64 qa) ∧ V.cell? ⟨b1, o1 + j * 3 + 1, none⟩ = some (.int .i64 qb) ∧ V.cell? ⟨b2, o2 + j, none⟩ = some (.int .i64 x)) (first | (with_reducible assumption) | exact ⟨F0 _ (by repeat (first | with_reducible assumption | with_reducible exact Bl.refl _ | with_reducible apply Bl.drew | with_reducible apply Bl.alloc)), F1 _ (by repeat (first | with_reducible assumption | with_reducible exact Bl.refl _ | with_reducible apply Bl.drew | with_reducible apply Bl.alloc)), F2 _ (by repeat (first | with_reducible assumption | with_reducible exact Bl.refl _ | with_reducible apply Bl.drew | with_reducible apply Bl.alloc))⟩) (first | (refine step_append_at (f := Basin.cs) (by rfl) _ _ _ (by rfl) wz.heap.size 69 i0 _ 3 24 Try.underlying25 hi0 hz0 hz1 hz2 rfl (by omega) Basin.cs_len Basin.one _ j ((roomyL l N).take j) XOA.out _ 1 _ [(⟨qa + x, qb, 100000⟩ : Basin)] XIA.out (by rfl) (by rfl) (by unfold maxLen; omega) (by omega) XZA.out ?_; intro CX dX NX wX hN hoX hgX hlX; obtain rfl : j + 1 = NX := (by omega); clear hN; have hbx := Bl.row (hwr.trans XBA.out) (Nat.le_refl _) XOA.out hgX; have HOX := Lib.hid hoX; clear hoX hlX hgX))
      have HOR2 : Hid (wX.ownsRow wz.heap.size 69 3 (.slice CX (j + 1) dX) (j + 1) (((roomyL l N).take (j + 1)).flatMap Basin.cs)) := by
        show World.ownsRow _ _ _ _ _ _ _
        rw [HN.out]
        exact HOX.out
      clear F0 F1 F2 y0 y1 y2 XOA XBA XZA XIA HOX HN hi0 hz0 hz1 hz2
      go_wp2_with fail
      first | exact ⟨⟨j + 1, CX, dX, by omega, by go_num, rfl, hbx, HOR2⟩, by simp [intOf]; omega⟩ | (refine ⟨?_, by simp [intOf]; omega⟩; (repeat apply Exists.intro); exact ⟨⟨j + 1, CX, dX, by omega, by go_num, rfl, hbx, HOR2⟩, rfl⟩)
    · have e : j = m1 := by omega
      subst e
      rw [take_all HRL.out] at HOR
      have hc9 := own_cap HOR.out
      have HSR := Lib.hid (Sl.of_own Basin.cs_len HOR.out HRL.out (by omega))
      have HSF := Lib.hid (HSF.out.bl hwr)
      have HBW := Lib.hid (HBW.out.trans hwr)
      have K4 := Lib.hid (fun W hl => areBasins_any D j e (roomyL l N) W hl)
      have K5 := Lib.hid (fun W hl hf => implRefillNeeded_any D j e (roomyL l N) C p f fs W hl hf (by omega) (by omega))
      clear HOR HSL HSN
      have hb := Bl.refl wr
      go_wp2_with fail
      refine ((K4.out _ (HSR.out.bl hb))).mono ?_
      rintro e w' ⟨rfl, hbn⟩
      have hb := hb.trans hbn
      clear hbn
      have HSR := Lib.hid (HSR.out.bl hb)
      have HSF := Lib.hid (HSF.out.bl hb)
      have HBW := Lib.hid (HBW.out.trans hb)
      clear hb K4
      cases hrm : basinsOk (roomyL l N)
      · go_wp2_with fail
        go_ret
        exact ⟨rfl, HBW.out⟩
      · obtain ⟨Z, hZ, hz0⟩ := HROOM.out hrm
        rw [hZ] at K5
        simp only at K5
        have HZZ := Lib.hid hz0
        clear hZ hz0
        go_wp2_with fail
        refine (K5.out _ HSR.out HSF.out).mono ?_
        rintro e w20 ⟨C9, m9, d9, rfl, ho9, hl9, hm9, hbn⟩
        have HS9 := Lib.hid (Sl.of_own ci_len ho9 hl9 (by omega))
        have HBW := Lib.hid (HBW.out.trans hbn)
        clear ho9 hl9 hbn
        have hb := Bl.refl w20
        go_wp2_with fail
        refine ((vSum_zero C9 m9 d9 Z _ HS9.out HZZ.out)).mono ?_
        rintro e w' ⟨rfl, hbn⟩
        have hb := hb.trans hbn
        clear hbn
        have HBW := Lib.hid (HBW.out.trans hb)
        go_wp2_with fail
        go_ret
        exact ⟨by first | rfl | simp, HBW.out⟩
namespace fnSuppliesDone
set_option maxRecDepth 100000 in
theorem lifted (os : Os) (started : os.Started) (H : Type) (enc : TypeId × Value → H) :
    ReturnsInHanded {} Try.checked os 13 .any (Rows.fnSuppliesSpec.pre6 enc Try.prog Try.f13 Rows.fnSuppliesRow.domain false) (Rows.fnSuppliesSpec.post enc Try.prog Try.f13 false true false false) := by
  refine returnsInHanded_of_change (C := Try.checked) seatOwn started (by kernel_rfl) Try.func13
    (ChangeSpec.witness6 (enc := enc) (C := Try.checked) false ⟨#[], #[.slice none 0 0], []⟩ 8 (by kernel_rfl) (by kernel_rfl) (by kernel_rfl) (by kernel_rfl)) ?_
  intro W base args ds gs before hval0 hW hcnd _
  have hval : ∀ (j : Nat) t v, Try.f13.params[j]? = some t → args[j]? = some v → Value.okWide Try.prog W .any base t v := hval0
  have hW' := hW
  obtain ⟨p, q, hA0, hV, rfl, hfz, hnd⟩ := hW
  have hA : DataW.TrodAll enc Try.prog W 0 (fun _ => true) true Try.f13.params.toList args.toList ds p := hA0
  rw [Try.params13] at hA hval
  obtain ⟨v0, vs0, d0, ds0, p0, q0, hargs, rfl, rfl, h0, r0⟩ := trodAll_cons hA
  obtain ⟨rfl, rfl, rfl⟩ := trodAll_nil r0
  obtain rfl : args = #[v0] := by cases args; simp_all
  obtain ⟨rfl, rfl⟩ := trodVars_none hV
  have k0 := h0
  have lt0 : ∀ x ∈ p0, x.block < W.heap.size := by obtain ⟨m, hm⟩ := k0; exact DataW.trod_lt m _ _ _ hm
  obtain ⟨A0, n0, c0, rfl⟩ := okWide_slice Try.underlying58 (hval 0 58 v0 rfl rfl)
  obtain ⟨l0, s0⟩ := sl_of_bytes Try.underlying58 Try.underlying5 (by kernel_rfl) h0
  clear hA0 hval0
  refine (walk_FnSupplies A0 n0 c0 l0 W s0).mono fun e W' ⟨he, bel⟩ => ?_
  subst he
  exact ⟨_, rfl, _, _, _, [], _, [], hW', trodAll_mk1 (shut_bool Try.underlying4 _), (trodAll_cons_mk (Below.trod seatLaid (by kernel_rfl) (of_decide_eq_true (by kernel_rfl)) k0 bel lt0) trodAll_mk0), rfl, bel.frame _, fun h => by cases h⟩
theorem over : Rows.fnSuppliesRow.holds Try.pinned (OpenSpec.ofChange Rows.fnSuppliesSpec) :=
  OpenClaim.holds_of_wide 13 Try.f13 rfl rfl rfl rfl rfl rfl rfl ⟨rfl, rfl, rfl, rfl, rfl⟩ rfl rfl rfl rfl rfl (by kernel_rfl) Try.func13 (by kernel_rfl)
    (of_decide_eq_true (by kernel_rfl)) (by unfold Func.isWrapper; first | (rw [if_pos (by decide +kernel)]; kernel_rfl) | (rw [if_neg (by decide +kernel)]; exact ⟨rfl, rfl⟩))
    (fun os started H enc _ => lifted os started H enc)
theorem proved : Rows.FnSuppliesSaid := over
#print axioms proved
end fnSuppliesDone

end Go.Proofs.Ytpgghmhbkgkkiaa
