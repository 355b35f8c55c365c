/- FnLocalOrders: the law returns true for all bytes. No condition. -/
import Derived.Test.YtcmlphikdgfilaaC9f
import Derived.Test.YtcmlphikdgfilaaC8i
import Derived.Test.YtcmlphikdgfilaaC8k
import Derived.Test.YtcmlphikdgfilaaD8c
import Derived.Test.YtcmlphikdgfilaaQ9f
import Derived.Test.YtcmlphikdgfilaaLB
namespace Go.Proofs.Ytcmlphikdgfilaa
open Go.ChangeShapes Go.WideShapes Go.ChangeAt Go.RowKit Go.Deep Go.Joins
set_option maxRecDepth 100000 in
set_option maxHeartbeats 16000000 in
theorem walk_FnLocalOrders (A : Option Addr) (n c : Nat) (code : List Int) (w : World) (s : Sl cb 1 w A n code ∧ Bytes code) :
    Calls Try.prog 11 #[.slice A n c] w fun e w' => e = .returned (.bool true) ∧ Bl w w' := by
  obtain ⟨hs, hby⟩ := s
  have HV := Lib.hid (vBig_any A n c w hs.le)
  by_cases hbig : 65536 < n
  · have e : decide (65536 < n) = true := by simpa using hbig
    rw [e] at HV
    go_enter Try.func11, Try.ntmps11
    go_wp2_with fail
    refine HV.out.mono ?_
    rintro e w' ⟨rfl, rfl⟩
    go_wp2_with fail
    go_ret
    exact ⟨rfl, Bl.refl _⟩
  have e : decide (65536 < n) = false := by simpa using hbig
  rw [e] at HV
  have HS := Lib.hid hs
  have HBY := Lib.hid hby
  clear e hs hby
  go_enter Try.func11, Try.ntmps11
  go_wp2_with fail
  refine HV.out.mono ?_
  rintro e w' ⟨rfl, rfl⟩
  go_wp2_with fail
  refine (drawLocalOrder_any A n c code _ HS.out HBY.out).mono ?_
  rintro e w1 ⟨B, m, d, l, high, mi, rfl, hsl, hm, hmd, hb1⟩
  have HSL := Lib.hid hsl
  have HLL := Lib.hid hsl.1
  have HBW := Lib.hid hb1
  have hb := Bl.refl w1
  clear hsl hb1
  have H1 := Lib.hid (fun W hl => implLocalOrder_any B m d l high mi W hl)
  have H2 := Lib.hid (fun W hl => specLocalOrder_any B m d l high mi W hl)
  by_cases hq : arrOk l = true ∧ inB mi 1 60 = true
  · obtain ⟨lo, fc, bo, dl, df, bt, F⟩ := loc_yes (high := high) hq
    obtain ⟨f1, f2, f3, f4, f5, f6, f7, f8, f9⟩ := F
    have H3 := Lib.hid (fun W hl => implFirstCome_any B m d l W hl)
    have H4 := Lib.hid (fun Cb mb cb hmb hcb W hl ho => implLockageDelay_any B m d l high mi Cb mb cb fc W hl ho hm hmb hmd hcb)
    have H5 := Lib.hid (fun Cb mb cb hmb hcb W hl ho => implLockageDelay_any B m d l high mi Cb mb cb lo W hl ho hm hmb hmd hcb)
    have H6 := Lib.hid (fun W hl => implBestLockages_any B m d l high mi W hl)
    have H7 := Lib.hid (fun k Cb mb cb hcb W hl ho => implSwapGain_any B m d l high mi Cb mb cb lo k W hl ho hmd hcb)
    rw [f1] at H1 H2
    rw [f2] at H3
    rw [f3] at H4
    rw [f4] at H5
    rw [f5] at H6
    rw [HLL.out] at f8 f9
    have HLO := Lib.hid f8
    have HGN := Lib.hid f9
    clear f1 f2 f3 f4 f5 f8 f9 hq
    go_wp2_with fail
    refine ((H1.out _ (HSL.out.bl hb))).mono ?_
    rintro e w' ⟨Ca, ma, da, rfl, hox, hlx, hHA1m, hbn⟩
    have HA1 := Lib.hid (Sl.of_own ci_len hox hlx (by omega))
    have hHA1c := own_cap hox
    have HA1L := Lib.hid hlx
    have HA1w := Lib.hid (Bl.refl w')
    have hb := hb.trans hbn
    clear hbn hox hlx
    have HBW := Lib.hid (HBW.out.trans hb)
    have HSL := Lib.hid (HSL.out.bl hb)
    have hb := Bl.refl w'
    go_wp2_with fail
    refine ((H2.out _ (HSL.out.bl hb))).mono ?_
    rintro e w' ⟨Cb, mb, db, rfl, hox, hlx, hHA2m, hbn⟩
    have HA2 := Lib.hid (Sl.of_own ci_len hox hlx (by omega))
    have hHA2c := own_cap hox
    have HA2L := Lib.hid hlx
    have HA2w := Lib.hid (Bl.refl w')
    have hb := hb.trans hbn
    clear hbn hox hlx
    have HBW := Lib.hid (HBW.out.trans hb)
    have HSL := Lib.hid (HSL.out.bl hb)
    have HA1 := Lib.hid (HA1.out.bl hb)
    have hb := Bl.refl w'
    go_wp2_with fail
    refine ((vInts_any Ca Cb ma mb da db lo lo _ (HA1.out.bl hb) (HA2.out.bl hb))).mono ?_
    rintro e w' ⟨rfl, hbn⟩
    have hb := hb.trans hbn
    clear hbn
    simp only [eqB_self]
    go_wp2_with fail
    refine ((H3.out _ (HSL.out.bl hb))).mono ?_
    rintro e w' ⟨Cf, mf, df0, rfl, hox, hlx, hHF1m, hbn⟩
    have HF1 := Lib.hid (Sl.of_own ci_len hox hlx (by omega))
    have hHF1c := own_cap hox
    have HF1L := Lib.hid hlx
    have HF1w := Lib.hid (Bl.refl w')
    have hb := hb.trans hbn
    clear hbn hox hlx
    have HBW := Lib.hid (HBW.out.trans hb)
    have HSL := Lib.hid (HSL.out.bl hb)
    have HA1 := Lib.hid (HA1.out.bl hb)
    have hb := Bl.refl w'
    go_wp2_with fail
    refine ((H4.out Cf mf df0 hHF1m hHF1c _ (HSL.out.bl hb) (HF1.out.bl hb))).mono ?_
    rintro e w' ⟨rfl, hbn⟩
    have hb := hb.trans hbn
    clear hbn
    go_wp2_with fail
    refine ((H5.out Ca ma da hHA1m hHA1c _ (HSL.out.bl hb) (HA1.out.bl hb))).mono ?_
    rintro e w' ⟨rfl, hbn⟩
    have hb := hb.trans hbn
    clear hbn
    go_wp2_with fail
    refine ((H6.out _ (HSL.out.bl hb))).mono ?_
    rintro e w' ⟨Cx, mx, dx, rfl, hox, hlx, hHXm, hbn⟩
    have HX := Lib.hid (Sl.of_own ci_len hox hlx (by omega))
    have hHXc := own_cap hox
    have HXL := Lib.hid hlx
    have HXw := Lib.hid (Bl.refl w')
    have hb := hb.trans hbn
    clear hbn hox hlx
    have HBW := Lib.hid (HBW.out.trans hb)
    have HSL := Lib.hid (HSL.out.bl hb)
    have HA1 := Lib.hid (HA1.out.bl hb)
    have hb := Bl.refl w'
    have hma : ma = m := by have := HA1L.out; rw [← this]; exact HLO.out
    subst hma
    obtain ⟨wo, hwo⟩ : ∃ wo : World, wo = w' := ⟨_, rfl⟩
    subst hwo
    go_wp2_with fail
    go_loopw [21] (fun i wr => ∃ k : Nat, k ≤ ma ∧ i = .int .i64 k ∧ Bl wo wr) (fun i _ => ma - (intOf i).toNat)
    case atStart => exact ⟨0, Nat.zero_le _, rfl, Bl.refl _⟩
    case round =>
      obtain ⟨k, hk, rfl, hbx⟩ := hrel
      by_cases hlt : k + 1 < ma
      · have k1 : (k : Int) + 1 < (ma : Int) := by omega
        have HG := Lib.hid (HGN.out k hlt)
        have H8 := Lib.hid (H7.out (k : Int) Ca ma da hHA1c wr (HSL.out.bl hbx) (HA1.out.bl hbx))
        generalize swapGainR l high mi lo (k : Int) = G at *
        obtain ⟨gz, gb⟩ := G
        cases gb
        · go_wp2_with fail
          refine H8.out.mono ?_
          rintro e w5 ⟨rfl, hb5⟩
          go_wp2_with fail
          first | exact ⟨⟨k + 1, by omega, by go_num, hbx.trans hb5⟩, by simp [intOf]; omega⟩ | (refine ⟨?_, by simp [intOf]; omega⟩; (repeat apply Exists.intro); exact ⟨⟨k + 1, by omega, by go_num, hbx.trans hb5⟩, rfl⟩)
        · have hgz : gz ≤ 0 := HG.out rfl
          go_wp2_with fail
          refine H8.out.mono ?_
          rintro e w5 ⟨rfl, hb5⟩
          go_wp2_with fail
          first | exact ⟨⟨k + 1, by omega, by go_num, hbx.trans hb5⟩, by simp [intOf]; omega⟩ | (refine ⟨?_, by simp [intOf]; omega⟩; (repeat apply Exists.intro); exact ⟨⟨k + 1, by omega, by go_num, hbx.trans hb5⟩, rfl⟩)
      · have k1 : ¬ (k : Int) + 1 < (ma : Int) := by omega
        have HBW := Lib.hid (HBW.out.trans hbx)
        go_wp2_with fail
        refine (drawSwapGain_any A n c code _ (HS.out.bl HBW.out) HBY.out).mono ?_
        rintro e w2 ⟨B2, m2, d2, l2, h2, mi2, C2, p2, f2, o2, x2, rfl, hsl, hm2, hmd2, hso, hp2, hpf2, hbn⟩
        have HSL2 := Lib.hid hsl
        have HSO2 := Lib.hid hso
        have HBW := Lib.hid (HBW.out.trans hbn)
        have hb := Bl.refl w2
        have HOL := Lib.hid hso.1
        clear hsl hso hbn
        have K1 := Lib.hid (fun W hl ho => implSwapGain_any B2 m2 d2 l2 h2 mi2 C2 p2 f2 o2 x2 W hl ho hmd2 hpf2)
        have K2 := Lib.hid (fun W hl ho => specSwapGain_any B2 m2 d2 l2 h2 mi2 C2 p2 f2 o2 x2 W hl ho hmd2 hpf2)
        have HSB := Lib.hid (swap_back (l := l2) (high := h2) (mi := mi2) (o := o2) (x := x2))
        have HK3 := Lib.hid (fun (k : Nat) Cn cn hcn W hl ho => implSwapGain_any B2 m2 d2 l2 h2 mi2 Cn p2 cn (swapL o2 k) (k : Int) W hl ho hmd2 hcn)
        generalize swapGainR l2 h2 mi2 o2 x2 = G at *
        obtain ⟨gz, gb⟩ := G
        cases gb
        · go_wp2_with fail
          refine ((K1.out _ (HSL2.out.bl hb) (HSO2.out.bl hb))).mono ?_
          rintro e w' ⟨rfl, hbn⟩
          have hb := hb.trans hbn
          clear hbn
          go_wp2_with fail
          refine ((K2.out _ (HSL2.out.bl hb) (HSO2.out.bl hb))).mono ?_
          rintro e w' ⟨rfl, hbn⟩
          have hb := hb.trans hbn
          clear hbn
          go_wp2_with fail
          go_ret
          exact ⟨rfl, HBW.out.trans hb⟩
        · obtain ⟨k, rfl, hk, hl6, HE, gb0, gb1⟩ := HSB.out rfl
          have K3 := Lib.hid (HK3.out k)
          rw [HE] at K3
          rw [HOL.out] at hk hl6
          simp only at gb0 gb1
          have HSB2 := Lib.hid HE
          clear HE HSB HK3
          go_wp2_with fail
          refine ((K1.out _ (HSL2.out.bl hb) (HSO2.out.bl hb))).mono ?_
          rintro e w' ⟨rfl, hbn⟩
          have hb := hb.trans hbn
          clear hbn
          go_wp2_with fail
          refine ((K2.out _ (HSL2.out.bl hb) (HSO2.out.bl hb))).mono ?_
          rintro e w' ⟨rfl, hbn⟩
          have hb := hb.trans hbn
          clear hbn
          have HBW := Lib.hid (HBW.out.trans hb)
          have HSL2 := Lib.hid (HSL2.out.bl hb)
          have HSO2 := Lib.hid (HSO2.out.bl hb)
          have hb := Bl.refl w'
          have hso2 := HSO2.out
          obtain ⟨i0, hi0, hz0, hz1, hz2⟩ := info_parts infoInt
          go_wp2_with (at_builtin; refine wpList_append_new _ rfl _ _ _ rfl 3 i0 _ 1 8 Try.underlying30 hi0 hz0 hz1 hz2 rfl (by omega) ci_len ci_one _ rfl (by first | rfl | simp) C2 p2 f2 o2 rfl (hso2) (by unfold maxLen; omega) (by omega) ?_)
          clear hi0 hz0 hz1 hz2
          intro B6 d6 w6 ho6 hbn6
          have hcap6 := own_cap ho6
          rcases own_forms ho6 with ⟨rfl, h0, _, _⟩ | ⟨g1, rfl⟩
          · omega
          have hgl := ((own_lt ho6).out g1 rfl).1
          obtain ⟨b3, o3, y3, rfl, e3, c3⟩ := hso2.int (i := k) (by omega)
          obtain ⟨b4, o4, y4, hA4, e4, c4⟩ := hso2.int (i := k + 1) (by omega)
          injection hA4 with hA4; injection hA4 with hA4 hA4'; subst hA4 hA4'
          have hblk := World.block_lt_of_cell? _ _ (c3 _ (Bl.refl _))
          simp only at hblk
          have d3 := c3 _ hbn6
          have d4 := c4 _ hbn6
          have HSW := Lib.hid (swapL_eq e3 e4)
          have hkl : k < o2.length := by rw [HOL.out]; omega
          have hkl1 : k + 1 < (o2.set k y4).length := by rw [List.length_set, HOL.out]; omega
          have HOWN := Lib.hid (ints_put (j := k + 1) (ints_put (j := k) ho6 hkl y4) hkl1 y3)
          have HB8 := Lib.hid ((hbn6.setCell (p := ⟨g1, k, none⟩) hgl (.int .i64 y4)).setCell (p := ⟨g1, k + 1, none⟩) hgl (.int .i64 y3))
          have ng1 : ¬ b3 = g1 := by omega
          have ng2 : ¬ g1 = b3 := by omega
          have fz := World.ownsRow.frozenAt ho6
          obtain ⟨v0, y0⟩ := own_some ho6 (j := k) (by omega)
          obtain ⟨v1, y1⟩ := own_some ho6 (j := k + 1) (by omega)
          have k1 : (0 : Int) ≤ (k : Int) + 1 := by omega
          have k2 : (k : Int) + 1 < (p2 : Int) := by omega
          have k3 : ((k : Int) + 1).toNat = k + 1 := by omega
          have k4 : k < p2 := by omega
          clear c3 c4 e3 e4 hso2 ho6 hkl hkl1
          go_wp2_with fail
          refine (K3.out (some ⟨g1, 0, none⟩) d6 hcap6 _ (HSL2.out.bl HB8.out) (Sl.of_own ci_len (by rw [HSW.out]; exact HOWN.out) (by rw [swapL_len]; exact HOL.out) (by omega))).mono ?_
          rintro e w7 ⟨rfl, hb7⟩
          go_wp2_with fail
          go_ret
          exact ⟨by first | rfl | simp, (HBW.out.trans HB8.out).trans hb7⟩
  · have f1 : localR l high mi = (([], 0), false) := if_neg hq
    rw [f1] at H1 H2
    clear f1 hq
    go_wp2_with fail
    refine ((H1.out _ (HSL.out.bl hb))).mono ?_
    rintro e w' ⟨Ca, ma, da, rfl, hox, hlx, hHA1m, hbn⟩
    have HA1 := Lib.hid (Sl.of_own ci_len hox hlx (by omega))
    have hHA1c := own_cap hox
    have HA1L := Lib.hid hlx
    have HA1w := Lib.hid (Bl.refl w')
    have hb := hb.trans hbn
    clear hbn hox hlx
    have HBW := Lib.hid (HBW.out.trans hb)
    have HSL := Lib.hid (HSL.out.bl hb)
    have hb := Bl.refl w'
    go_wp2_with fail
    refine ((H2.out _ (HSL.out.bl hb))).mono ?_
    rintro e w' ⟨Cb, mb, db, rfl, hox, hlx, hHA2m, hbn⟩
    have HA2 := Lib.hid (Sl.of_own ci_len hox hlx (by omega))
    have hHA2c := own_cap hox
    have HA2L := Lib.hid hlx
    have HA2w := Lib.hid (Bl.refl w')
    have hb := hb.trans hbn
    clear hbn hox hlx
    have HBW := Lib.hid (HBW.out.trans hb)
    have HSL := Lib.hid (HSL.out.bl hb)
    have HA1 := Lib.hid (HA1.out.bl hb)
    have hb := Bl.refl w'
    go_wp2_with fail
    refine ((vInts_any Ca Cb ma mb da db [] [] _ (HA1.out.bl hb) (HA2.out.bl hb))).mono ?_
    rintro e w' ⟨rfl, hbn⟩
    have hb := hb.trans hbn
    clear hbn
    simp only [eqB_self]
    have HBW := Lib.hid (HBW.out.trans hb)
    go_wp2_with fail
    refine (drawSwapGain_any A n c code _ (HS.out.bl HBW.out) HBY.out).mono ?_
    rintro e w2 ⟨B2, m2, d2, l2, h2, mi2, C2, p2, f2, o2, x2, rfl, hsl, hm2, hmd2, hso, hp2, hpf2, hbn⟩
    have HSL2 := Lib.hid hsl
    have HSO2 := Lib.hid hso
    have HBW := Lib.hid (HBW.out.trans hbn)
    have hb := Bl.refl w2
    have HOL := Lib.hid hso.1
    clear hsl hso hbn
    have K1 := Lib.hid (fun W hl ho => implSwapGain_any B2 m2 d2 l2 h2 mi2 C2 p2 f2 o2 x2 W hl ho hmd2 hpf2)
    have K2 := Lib.hid (fun W hl ho => specSwapGain_any B2 m2 d2 l2 h2 mi2 C2 p2 f2 o2 x2 W hl ho hmd2 hpf2)
    have HSB := Lib.hid (swap_back (l := l2) (high := h2) (mi := mi2) (o := o2) (x := x2))
    have HK3 := Lib.hid (fun (k : Nat) Cn cn hcn W hl ho => implSwapGain_any B2 m2 d2 l2 h2 mi2 Cn p2 cn (swapL o2 k) (k : Int) W hl ho hmd2 hcn)
    generalize swapGainR l2 h2 mi2 o2 x2 = G at *
    obtain ⟨gz, gb⟩ := G
    cases gb
    · go_wp2_with fail
      refine ((K1.out _ (HSL2.out.bl hb) (HSO2.out.bl hb))).mono ?_
      rintro e w' ⟨rfl, hbn⟩
      have hb := hb.trans hbn
      clear hbn
      go_wp2_with fail
      refine ((K2.out _ (HSL2.out.bl hb) (HSO2.out.bl hb))).mono ?_
      rintro e w' ⟨rfl, hbn⟩
      have hb := hb.trans hbn
      clear hbn
      go_wp2_with fail
      go_ret
      exact ⟨rfl, HBW.out.trans hb⟩
    · obtain ⟨k, rfl, hk, hl6, HE, gb0, gb1⟩ := HSB.out rfl
      have K3 := Lib.hid (HK3.out k)
      rw [HE] at K3
      rw [HOL.out] at hk hl6
      simp only at gb0 gb1
      have HSB2 := Lib.hid HE
      clear HE HSB HK3
      go_wp2_with fail
      refine ((K1.out _ (HSL2.out.bl hb) (HSO2.out.bl hb))).mono ?_
      rintro e w' ⟨rfl, hbn⟩
      have hb := hb.trans hbn
      clear hbn
      go_wp2_with fail
      refine ((K2.out _ (HSL2.out.bl hb) (HSO2.out.bl hb))).mono ?_
      rintro e w' ⟨rfl, hbn⟩
      have hb := hb.trans hbn
      clear hbn
      have HBW := Lib.hid (HBW.out.trans hb)
      have HSL2 := Lib.hid (HSL2.out.bl hb)
      have HSO2 := Lib.hid (HSO2.out.bl hb)
      have hb := Bl.refl w'
      have hso2 := HSO2.out
      obtain ⟨i0, hi0, hz0, hz1, hz2⟩ := info_parts infoInt
      go_wp2_with (at_builtin; refine wpList_append_new _ rfl _ _ _ rfl 3 i0 _ 1 8 Try.underlying30 hi0 hz0 hz1 hz2 rfl (by omega) ci_len ci_one _ rfl (by first | rfl | simp) C2 p2 f2 o2 rfl (hso2) (by unfold maxLen; omega) (by omega) ?_)
      clear hi0 hz0 hz1 hz2
      intro B6 d6 w6 ho6 hbn6
      have hcap6 := own_cap ho6
      rcases own_forms ho6 with ⟨rfl, h0, _, _⟩ | ⟨g1, rfl⟩
      · omega
      have hgl := ((own_lt ho6).out g1 rfl).1
      obtain ⟨b3, o3, y3, rfl, e3, c3⟩ := hso2.int (i := k) (by omega)
      obtain ⟨b4, o4, y4, hA4, e4, c4⟩ := hso2.int (i := k + 1) (by omega)
      injection hA4 with hA4; injection hA4 with hA4 hA4'; subst hA4 hA4'
      have hblk := World.block_lt_of_cell? _ _ (c3 _ (Bl.refl _))
      simp only at hblk
      have d3 := c3 _ hbn6
      have d4 := c4 _ hbn6
      have HSW := Lib.hid (swapL_eq e3 e4)
      have hkl : k < o2.length := by rw [HOL.out]; omega
      have hkl1 : k + 1 < (o2.set k y4).length := by rw [List.length_set, HOL.out]; omega
      have HOWN := Lib.hid (ints_put (j := k + 1) (ints_put (j := k) ho6 hkl y4) hkl1 y3)
      have HB8 := Lib.hid ((hbn6.setCell (p := ⟨g1, k, none⟩) hgl (.int .i64 y4)).setCell (p := ⟨g1, k + 1, none⟩) hgl (.int .i64 y3))
      have ng1 : ¬ b3 = g1 := by omega
      have ng2 : ¬ g1 = b3 := by omega
      have fz := World.ownsRow.frozenAt ho6
      obtain ⟨v0, y0⟩ := own_some ho6 (j := k) (by omega)
      obtain ⟨v1, y1⟩ := own_some ho6 (j := k + 1) (by omega)
      have k1 : (0 : Int) ≤ (k : Int) + 1 := by omega
      have k2 : (k : Int) + 1 < (p2 : Int) := by omega
      have k3 : ((k : Int) + 1).toNat = k + 1 := by omega
      have k4 : k < p2 := by omega
      clear c3 c4 e3 e4 hso2 ho6 hkl hkl1
      go_wp2_with fail
      refine (K3.out (some ⟨g1, 0, none⟩) d6 hcap6 _ (HSL2.out.bl HB8.out) (Sl.of_own ci_len (by rw [HSW.out]; exact HOWN.out) (by rw [swapL_len]; exact HOL.out) (by omega))).mono ?_
      rintro e w7 ⟨rfl, hb7⟩
      go_wp2_with fail
      go_ret
      exact ⟨by first | rfl | simp, (HBW.out.trans HB8.out).trans hb7⟩
namespace fnLocalOrdersDone
set_option maxRecDepth 100000 in
theorem lifted (os : Os) (started : os.Started) (H : Type) (enc : TypeId × Value → H) :
    ReturnsInHanded {} Try.checked os 11 .any (Rows.fnLocalOrdersSpec.pre6 enc Try.prog Try.f11 Rows.fnLocalOrdersRow.domain false) (Rows.fnLocalOrdersSpec.post enc Try.prog Try.f11 false true false false) := by
  refine returnsInHanded_of_change (C := Try.checked) seatOwn started (by kernel_rfl) Try.func11
    (ChangeSpec.witness6 (enc := enc) (C := Try.checked) false ⟨#[], #[.slice none 0 0], []⟩ 8 (by kernel_rfl) (by kernel_rfl) (by kernel_rfl) (by kernel_rfl)) ?_
  intro W base args ds gs before hval0 hW hcnd _
  have hval : ∀ (j : Nat) t v, Try.f11.params[j]? = some t → args[j]? = some v → Value.okWide Try.prog W .any base t v := hval0
  have hW' := hW
  obtain ⟨p, q, hA0, hV, rfl, hfz, hnd⟩ := hW
  have hA : DataW.TrodAll enc Try.prog W 0 (fun _ => true) true Try.f11.params.toList args.toList ds p := hA0
  rw [Try.params11] at hA hval
  obtain ⟨v0, vs0, d0, ds0, p0, q0, hargs, rfl, rfl, h0, r0⟩ := trodAll_cons hA
  obtain ⟨rfl, rfl, rfl⟩ := trodAll_nil r0
  obtain rfl : args = #[v0] := by cases args; simp_all
  obtain ⟨rfl, rfl⟩ := trodVars_none hV
  have k0 := h0
  have lt0 : ∀ x ∈ p0, x.block < W.heap.size := by obtain ⟨m, hm⟩ := k0; exact DataW.trod_lt m _ _ _ hm
  obtain ⟨A0, n0, c0, rfl⟩ := okWide_slice Try.underlying22 (hval 0 22 v0 rfl rfl)
  obtain ⟨l0, s0⟩ := sl_of_bytes Try.underlying22 Try.underlying5 (by kernel_rfl) h0
  clear hA0 hval0
  refine (walk_FnLocalOrders A0 n0 c0 l0 W s0).mono fun e W' ⟨he, bel⟩ => ?_
  subst he
  exact ⟨_, rfl, _, _, _, [], _, [], hW', trodAll_mk1 (shut_bool Try.underlying4 _), (trodAll_cons_mk (Below.trod seatLaid (by kernel_rfl) (of_decide_eq_true (by kernel_rfl)) k0 bel lt0) trodAll_mk0), rfl, bel.frame _, fun h => by cases h⟩
theorem over : Rows.fnLocalOrdersRow.holds Try.pinned (OpenSpec.ofChange Rows.fnLocalOrdersSpec) :=
  OpenClaim.holds_of_wide 11 Try.f11 rfl rfl rfl rfl rfl rfl rfl ⟨rfl, rfl, rfl, rfl, rfl⟩ rfl rfl rfl rfl rfl (by kernel_rfl) Try.func11 (by kernel_rfl)
    (of_decide_eq_true (by kernel_rfl)) (by unfold Func.isWrapper; first | (rw [if_pos (by decide +kernel)]; kernel_rfl) | (rw [if_neg (by decide +kernel)]; exact ⟨rfl, rfl⟩))
    (fun os started H enc _ => lifted os started H enc)
theorem proved : Rows.FnLocalOrdersSaid := over
#print axioms proved
end fnLocalOrdersDone

end Go.Proofs.Ytcmlphikdgfilaa
