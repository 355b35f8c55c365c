/- The contract of LocalOrder in the program. -/
import Derived.Test.YtcmlphikdgfilaaC9d
namespace Go.Proofs.Ytcmlphikdgfilaa
open Go.RowKit
set_option maxHeartbeats 2000000 in
theorem implLocalOrder_any (A : Option Addr) (n c : Nat) (l : List Arrival) (high : Bool) (mi : Int) (w : World) (h : Sl Arrival.cs 4 w A n l) :
    Calls Try.prog 36 #[.slice A n c, .bool high, .int .i64 mi] w (NewRes ci 1 3 (localR l high mi).1.1 (fun v => .tuple #[v, .int .i64 (localR l high mi).1.2, .bool (localR l high mi).2]) w) := by
  have HL := Lib.hid h.1
  have H1 := Lib.hid (areArrivals_any A n c l w h)
  have H2m := Lib.hid (fun w => same_bl (areMinutes_any mi w))
  cases h1 : arrOk l
  · have HR := Lib.hid (show localR l high mi = (([], 0), false) by rw [localR, if_neg (by simp [h1])])
    go_enter Try.func36, Try.ntmps36
    go_wp2_with fail
    refine H1.out.mono ?_
    rintro e w1 ⟨rfl, hb⟩
    simp only [h1]
    go_wp2_with fail
    go_ret3
    rw [HR.out]
    exact NewRes.nil (F := fun v => .tuple #[v, _, _]) hb
  cases h2 : inB mi 1 60
  · have HR := Lib.hid (show localR l high mi = (([], 0), false) by rw [localR, if_neg (by simp [h2])])
    go_enter Try.func36, Try.ntmps36
    go_wp2_with fail
    refine H1.out.mono ?_
    rintro e w1 ⟨rfl, hb⟩
    simp only [h1]
    go_wp2_with fail
    refine (H2m.out _).mono ?_
    rintro e w' ⟨rfl, hbn⟩
    have hb := hb.trans hbn
    clear hbn
    simp only [h2]
    go_wp2_with fail
    go_ret3
    rw [HR.out]
    exact NewRes.nil (F := fun v => .tuple #[v, _, _]) hb
  obtain ⟨m0, m1⟩ := inB_iff.1 h2
  have h6 := arr_len h1
  rw [HL.out] at h6
  have HR := Lib.hid (show localR l high mi = ((locO l high mi (fcK l n), delayZ l high mi (locO l high mi (fcK l n))), true) by rw [localR, if_pos ⟨h1, h2⟩, HL.out])
  have HF := Lib.hid (show implOrd l (fcK l n) = true by have := fc_ord h1; rwa [HL.out] at this)
  have HFL := Lib.hid (fcK_len l n)
  have HAV := Lib.hid (fun (i : Nat) (a : Arrival) (ha : l[i]? = some a) => (show 0 ≤ a.Minute ∧ a.Minute ≤ 9999 ∧ 0 ≤ a.Weight ∧ a.Weight ≤ 9 by have := arr_bd h1 ha; omega))
  have H2 := Lib.hid (fun W h => firstCome_any A n c l W h h6)
  go_enter Try.func36, Try.ntmps36
  go_wp2_with fail
  refine H1.out.mono ?_
  rintro e w1 ⟨rfl, hb⟩
  simp only [h1]
  go_wp2_with fail
  refine (H2m.out _).mono ?_
  rintro e w' ⟨rfl, hbn⟩
  have hb := hb.trans hbn
  clear hbn
  simp only [h2]
  go_wp2_with fail
  refine (H2.out _ (h.bl hb)).mono ?_
  rintro e w2 ⟨C, m, c4, rfl, ho4, hl4, hm4, hbn⟩
  have ho4 := own_mono ho4 hb.le
  have hb := hb.trans hbn
  have hm4' : m = n := by rw [← hl4]; exact HFL.out
  subst hm4'
  clear hbn hl4 H1 H2 H2m
  generalize fcK l m = fc at *
  go_wp2_with fail
  go_loopw [9] (fun u wr => ∃ (C : Option Addr) (c2 : Nat) (o : List Int), u = .slice C m c2 ∧ Bl w wr ∧ wr.ownsRow w.heap.size 3 1 (.slice C m c2) m (o.flatMap ci) ∧ Hid (implOrd l o = true) ∧ Hid (locO l high mi fc = locO l high mi o)) (fun u wr => potO l high mi (rowW wr u))
  case atStart => exact ⟨C, c4, fc, rfl, hb, ho4, HF, rfl⟩
  case round =>
    clear hb ho4
    obtain ⟨C, c2, o, rfl, hb, hor, hok, hlo⟩ := hrel
    obtain ⟨_, hlen, hrng⟩ := ord_parts hok.out
    rw [HL.out] at hlen hrng
    have hcap := own_cap hor
    have hS := Sl.of_own ci_len hor hlen (by omega)
    have HP := Lib.hid (rowW_eq (c := c2) hS)
    have HLEN := Lib.hid hlen
    have HD := Lib.hid (fun W h ho => lockageDelay_any A m c l high mi C m c2 o W h ho hrng HAV.out m0 m1 (by omega))
    have HG := Lib.hid (fun k W (hk : k + 1 < m) h ho => swapGain_any A m c l high mi C m c2 o k W h ho hok.out m0 m1 hk)
    obtain ⟨dl0, dl1⟩ := delay_bd (high := high) hok.out m0 m1
    have HGO := Lib.hid (fun hz => scan_go (high := high) hok.out m0 m1 hz)
    have HLG := Lib.hid (fun hz => hlo.out.trans (loc_go (high := high) hok.out m0 m1 hz))
    have HLE := Lib.hid (fun hz => hlo.out.trans (loc_end (l := l) (high := high) (mi := mi) (o := o) hz))
    have HSC : Hid (scanL l high mi o = bestK l high mi o (m - 1)) := by show _ = _; rw [scanL, hlen]
    clear hlen hrng
    obtain ⟨wo, hwo⟩ : ∃ wo : World, wo = wr := ⟨_, rfl⟩
    subst hwo
    have HOR := Lib.hid hor
    go_wp2_with fail
    go_loopw [10, 11, 12] (fun b z i wx => ∃ (k : Nat) (Cb : Option Addr) (cb : Nat), k ≤ m ∧ (k = 0 ∨ k + 1 ≤ m) ∧ i = .int .i64 k ∧ b = .slice Cb m cb ∧ z = .int .i64 (bestK l high mi o k).2 ∧ Bl wo wx ∧ wx.ownsRow w.heap.size 3 1 (.slice Cb m cb) m ((pickO l high mi o k).flatMap ci)) (fun _ _ i _ => m - (intOf i).toNat)
    case atStart => exact ⟨0, C, c2, Nat.zero_le _, .inl rfl, rfl, rfl, rfl, Bl.refl _, hor⟩
    case round =>
      obtain ⟨k, Cb, cb, hk, hk1, rfl, rfl, rfl, hbx, hob⟩ := hrel
      have HOB := Lib.hid hob
      clear hob hor
      have hbk := (bestK_of (l := l) (high := high) (mi := mi) (o := o) k).2.1
      by_cases hlt : k + 1 < m
      · have HY := Lib.hid (bestK_yes (l := l) (high := high) (mi := mi) (o := o) (k := k))
        have HBD := Lib.hid (bestK_bad (l := l) (high := high) (mi := mi) (o := o) (k := k))
        have HLS := Lib.hid (bestK_less (l := l) (high := high) (mi := mi) (o := o) (k := k))
        have HPY := Lib.hid (pickO_yes (l := l) (high := high) (mi := mi) (o := o) (k := k))
        have HPK := Lib.hid (pickO_keep (l := l) (high := high) (mi := mi) (o := o) (k := k))
        have HG2 := Lib.hid (HG.out k wr hlt (h.bl (hb.trans hbx)) (hS.bl hbx))
        have k1 : (k : Int) + 1 < (m : Int) := by omega
        have hbwx := Lib.hid (hb.trans hbx).le
        clear HG
        generalize pickO l high mi o k = pk at *
        generalize gainR l high mi o k = G at *
        generalize bestK l high mi o k = bk at *
        obtain ⟨g, ok⟩ := G
        obtain ⟨bi, bz⟩ := bk
        go_wp2_with fail
        refine HG2.out.mono ?_
        rintro e w5 ⟨⟨v, rfl, hsw⟩, hb5⟩
        have HSW := Lib.hid hsw
        clear hsw
        have hbx5 := hbx.trans hb5
        have HOB5 := Lib.hid (hb5.own HOB.out)
        clear hb5
        cases ok
        · have HN := Lib.hid (HBD.out rfl)
          have HNP := Lib.hid (HPK.out HN.out)
          go_wp2_with fail
          first | exact ⟨⟨k + 1, Cb, cb, by omega, by omega, by go_num, rfl, by rw [HN.out], hbx5, by rw [HNP.out]; exact HOB5.out⟩, by simp [intOf]; omega⟩ | (refine ⟨?_, by simp [intOf]; omega⟩; (repeat apply Exists.intro); exact ⟨⟨k + 1, Cb, cb, by omega, by omega, by go_num, rfl, by rw [HN.out], hbx5, by rw [HNP.out]; exact HOB5.out⟩, rfl⟩)
        · by_cases hgt : bz < g
          · have HN := Lib.hid (HY.out rfl hgt)
            have HNP := Lib.hid (HPY.out rfl hgt)
            obtain ⟨C5, c5, rfl, ho5⟩ := HSW.out rfl
            have HO5 := Lib.hid (own_mono ho5 hbwx.out)
            clear ho5
            go_wp2_with fail
            first | exact ⟨⟨k + 1, C5, c5, by omega, by omega, by go_num, rfl, by rw [HN.out], hbx5, by rw [HNP.out]; exact HO5.out⟩, by simp [intOf]; omega⟩ | (refine ⟨?_, by simp [intOf]; omega⟩; (repeat apply Exists.intro); exact ⟨⟨k + 1, C5, c5, by omega, by omega, by go_num, rfl, by rw [HN.out], hbx5, by rw [HNP.out]; exact HO5.out⟩, rfl⟩)
          · have HN := Lib.hid (HLS.out (by first | exact hgt | omega))
            have HNP := Lib.hid (HPK.out HN.out)
            go_wp2_with fail
            first | exact ⟨⟨k + 1, Cb, cb, by omega, by omega, by go_num, rfl, by rw [HN.out], hbx5, by rw [HNP.out]; exact HOB5.out⟩, by simp [intOf]; omega⟩ | (refine ⟨?_, by simp [intOf]; omega⟩; (repeat apply Exists.intro); exact ⟨⟨k + 1, Cb, cb, by omega, by omega, by go_num, rfl, by rw [HN.out], hbx5, by rw [HNP.out]; exact HOB5.out⟩, rfl⟩)
      · have hkm : k = m - 1 := by omega
        have HSC2 : Hid (scanL l high mi o = bestK l high mi o k) := by show _ = _; rw [HSC.out, hkm]
        have hbw := hb.trans hbx
        have k1 : ¬ (k : Int) + 1 < (m : Int) := by omega
        clear hkm HG HSC
        by_cases hz : (bestK l high mi o k).2 = 0
        · have HE := Lib.hid (HLE.out (by rw [HSC2.out]; exact hz))
          have HOR2 := Lib.hid (hbx.own HOR.out)
          generalize pickO l high mi o k = pk at *
          generalize bestK l high mi o k = bk at *
          obtain ⟨bi, bz⟩ := bk
          subst hz
          go_wp2_with fail
          refine (HD.out _ (h.bl hbw) (hS.bl hbx)).mono ?_
          rintro e w5 ⟨rfl, hb5⟩
          go_wp2_with fail
          go_ret3
          rw [HR.out, HE.out]
          exact NewRes.of_own (F := fun v => .tuple #[v, _, _]) (hb5.own HOR2.out) HLEN.out (by omega) (hbw.trans hb5)
        · obtain ⟨g1, g2, g3⟩ := HGO.out (by rw [HSC2.out]; exact hz)
          have HPE := Lib.hid (pickO_end hz)
          rw [HSC2.out] at g1 g2 g3
          have HLG2 := Lib.hid (HLG.out (by rw [HSC2.out]; exact hz))
          have HG1 := Lib.hid g1
          have HG2 := Lib.hid g2
          rw [HSC2.out] at HLG2
          rw [HPE.out] at HOB
          have HSL := Lib.hid (swapL_len o (bestK l high mi o k).1)
          have HPOT := Lib.hid (show potO l high mi (rowW wr (.slice Cb m cb)) < potO l high mi (rowW wo (.slice C m c2)) by rw [HP.out, rowW_eq (Sl.of_own ci_len HOB.out (by rw [HSL.out]; exact HLEN.out) (by omega))]; exact HG2.out)
          clear g1 g2 HGO HLG HLE HSC2 HPE
          generalize bestK l high mi o k = bk at *
          obtain ⟨bi, bz⟩ := bk
          have hz' : ¬ bz = 0 := hz
          clear hz
          go_wp2_with fail
          exact ⟨⟨Cb, cb, _, rfl, hbw, HOB.out, HG1, HLG2⟩, HPOT.out⟩
end Go.Proofs.Ytcmlphikdgfilaa
