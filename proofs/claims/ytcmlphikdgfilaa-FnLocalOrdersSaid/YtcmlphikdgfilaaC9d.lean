/- The contracts of LocalOrder in both programs. -/
import Derived.Test.YtcmlphikdgfilaaQ9c
import Derived.Test.YtcmlphikdgfilaaQ8d
import Derived.Test.YtcmlphikdgfilaaC9b
namespace Go.Proofs.Ytcmlphikdgfilaa
open Go.RowKit
set_option maxHeartbeats 2000000 in
theorem specLocalOrder_any (A : Option Addr) (n c : Nat) (l : List Arrival) (high : Bool) (mi : Int) (w : World) (h : Sl Arrival.cs 4 w A n l) :
    Calls Try.prog 35 #[.slice A n c, .bool high, .int .i64 mi] w (NewRes ci 1 3 (localR l high mi).1.1 (fun v => .tuple #[v, .int .i64 (localR l high mi).1.2, .bool (localR l high mi).2]) w) := by
  have HL := Lib.hid h.1
  have H1 := Lib.hid (l9Asked_any A n c l mi w h)
  by_cases h0 : arrOk l = true ∧ inB mi 1 60 = true
  case neg =>
    have HR := Lib.hid (show localR l high mi = (([], 0), false) by rw [localR, if_neg h0])
    have h2 : (arrOk l && inB mi 1 60) = false := by rw [Bool.eq_false_iff, ne_eq, Bool.and_eq_true]; exact h0
    clear h0
    go_enter Try.func35, Try.ntmps35
    go_wp2_with fail
    refine H1.out.mono ?_
    rintro e w1 ⟨rfl, hb⟩
    simp only [h2]
    go_wp2_with fail
    go_ret3
    rw [HR.out]
    exact NewRes.empty hb
  obtain ⟨h1, h2⟩ := h0
  obtain ⟨m0, m1⟩ := inB_iff.1 h2
  have h6 := arr_len h1
  rw [HL.out] at h6
  have HR := Lib.hid (show localR l high mi = ((locO l high mi (fcK l n), delayZ l high mi (locO l high mi (fcK l n))), true) by rw [localR, if_pos ⟨h1, h2⟩, HL.out])
  have HF := Lib.hid (show implOrd l (fcK l n) = true by have := fc_ord h1; rwa [HL.out] at this)
  have HFL := Lib.hid (fcK_len l n)
  have HAV := Lib.hid (fun (i : Nat) (a : Arrival) (ha : l[i]? = some a) => (show 0 ≤ a.Minute ∧ a.Minute ≤ 9999 ∧ 0 ≤ a.Weight ∧ a.Weight ≤ 9 by have := arr_bd h1 ha; omega))
  have H2 := Lib.hid (fun W h => l8FirstCome_any A n c l W h h6)
  go_enter Try.func35, Try.ntmps35
  go_wp2_with fail
  refine H1.out.mono ?_
  rintro e w1 ⟨rfl, hb⟩
  simp only [h1, h2, Bool.and_self]
  go_wp2_with fail
  refine (H2.out _ (h.bl hb)).mono ?_
  rintro e w2 ⟨C, m, c4, rfl, ho4, hl4, hm4, hbn⟩
  have ho4 := own_mono ho4 hb.le
  have hb := hb.trans hbn
  have hm4' : m = n := by rw [← hl4]; exact HFL.out
  subst hm4'
  clear hbn hl4 H1 H2
  generalize fcK l m = fc at *
  go_wp2_with fail
  go_loopw [9] (fun u wr => ∃ (C : Option Addr) (c2 : Nat) (o : List Int), u = .slice C m c2 ∧ Bl w wr ∧ wr.ownsRow w.heap.size 3 1 (.slice C m c2) m (o.flatMap ci) ∧ Hid (implOrd l o = true) ∧ Hid (locO l high mi fc = locO l high mi o)) (fun u wr => potO l high mi (rowW wr u))
  case atStart => exact ⟨C, c4, fc, rfl, hb, ho4, HF, rfl⟩
  case round =>
    clear hb ho4
    obtain ⟨C, c2, o, rfl, hb, hor, hok, hlo⟩ := hrel
    obtain ⟨_, hlen, hrng⟩ := ord_parts hok.out
    rw [HL.out] at hlen hrng
    have hcap := own_cap hor
    have hS := Sl.of_own ci_len hor hlen (by omega)
    have HP := Lib.hid (rowW_eq (c := c2) hS)
    have HLEN := Lib.hid hlen
    have HD := Lib.hid (fun W h ho => l8Delay_any A m c l high mi C m c2 o W h ho hrng HAV.out m0 m1 (by omega))
    have HG := Lib.hid (fun k W (hk : k + 1 < m) h ho => l9Gain_any A m c l high mi C m c2 o k W h ho hok.out m0 m1 hk)
    have HSW := Lib.hid (fun k W (hk : k + 1 < m) ho => l9Swap_any C m c2 o k W ho (by omega) hk)
    obtain ⟨dl0, dl1⟩ := delay_bd (high := high) hok.out m0 m1
    have HGO := Lib.hid (fun hz => scan_go (high := high) hok.out m0 m1 hz)
    have HLG := Lib.hid (fun hz => hlo.out.trans (loc_go (high := high) hok.out m0 m1 hz))
    have HLE := Lib.hid (fun hz => hlo.out.trans (loc_end (l := l) (high := high) (mi := mi) (o := o) hz))
    have HSC : Hid (scanL l high mi o = bestK l high mi o (m - 1)) := by show _ = _; rw [scanL, hlen]
    clear hlen hrng
    obtain ⟨wo, hwo⟩ : ∃ wo : World, wo = wr := ⟨_, rfl⟩
    subst hwo
    go_wp2_with fail
    go_loopw [10, 11, 12] (fun b z i wx => ∃ k : Nat, k ≤ m ∧ (k = 0 ∨ k + 1 ≤ m) ∧ i = .int .i64 k ∧ b = .int .i64 ((bestK l high mi o k).1 : Nat) ∧ z = .int .i64 (bestK l high mi o k).2 ∧ Bl wo wx) (fun _ _ i _ => m - (intOf i).toNat)
    case atStart => exact ⟨0, Nat.zero_le _, .inl rfl, rfl, rfl, rfl, Bl.refl _⟩
    case round =>
      obtain ⟨k, hk, hk1, rfl, rfl, rfl, hbx⟩ := hrel
      have hbk := (bestK_of (l := l) (high := high) (mi := mi) (o := o) k).2.1
      by_cases hlt : k + 1 < m
      · have HY := Lib.hid (bestK_yes (l := l) (high := high) (mi := mi) (o := o) (k := k))
        have HBD := Lib.hid (bestK_bad (l := l) (high := high) (mi := mi) (o := o) (k := k))
        have HLS := Lib.hid (bestK_less (l := l) (high := high) (mi := mi) (o := o) (k := k))
        have HG2 := Lib.hid (HG.out k wr hlt (h.bl (hb.trans hbx)) (hS.bl hbx))
        have k1 : (k : Int) + 1 < (m : Int) := by omega
        clear HG
        generalize gainR l high mi o k = G at *
        generalize bestK l high mi o k = bk at *
        obtain ⟨g, ok⟩ := G
        obtain ⟨bi, bz⟩ := bk
        go_wp2_with fail
        refine HG2.out.mono ?_
        rintro e w5 ⟨rfl, hb5⟩
        have hbx5 := hbx.trans hb5
        clear hb5
        cases ok
        · have HN := Lib.hid (HBD.out rfl)
          go_wp2_with fail
          first | exact ⟨⟨k + 1, by omega, by omega, by go_num, by rw [HN.out], by rw [HN.out], hbx5⟩, by simp [intOf]; omega⟩ | (refine ⟨?_, by simp [intOf]; omega⟩; (repeat apply Exists.intro); exact ⟨⟨k + 1, by omega, by omega, by go_num, by rw [HN.out], by rw [HN.out], hbx5⟩, rfl⟩)
        · by_cases hgt : bz < g
          · have HN := Lib.hid (HY.out rfl hgt)
            go_wp2_with fail
            first | exact ⟨⟨k + 1, by omega, by omega, by go_num, by rw [HN.out], by rw [HN.out], hbx5⟩, by simp [intOf]; omega⟩ | (refine ⟨?_, by simp [intOf]; omega⟩; (repeat apply Exists.intro); exact ⟨⟨k + 1, by omega, by omega, by go_num, by rw [HN.out], by rw [HN.out], hbx5⟩, rfl⟩)
          · have HN := Lib.hid (HLS.out (by first | exact hgt | omega))
            go_wp2_with fail
            first | exact ⟨⟨k + 1, by omega, by omega, by go_num, by rw [HN.out], by rw [HN.out], hbx5⟩, by simp [intOf]; omega⟩ | (refine ⟨?_, by simp [intOf]; omega⟩; (repeat apply Exists.intro); exact ⟨⟨k + 1, by omega, by omega, by go_num, by rw [HN.out], by rw [HN.out], hbx5⟩, rfl⟩)
      · have hkm : k = m - 1 := by omega
        have HSC2 : Hid (scanL l high mi o = bestK l high mi o k) := by show _ = _; rw [HSC.out, hkm]
        have hbw := hb.trans hbx
        have k1 : ¬ (k : Int) + 1 < (m : Int) := by omega
        clear hkm HG HSC
        by_cases hz : (bestK l high mi o k).2 = 0
        · have HE := Lib.hid (HLE.out (by rw [HSC2.out]; exact hz))
          have hor2 := hbx.own hor
          generalize bestK l high mi o k = bk at *
          obtain ⟨bi, bz⟩ := bk
          subst hz
          go_wp2_with fail
          refine (HD.out _ (h.bl hbw) (hS.bl hbx)).mono ?_
          rintro e w5 ⟨rfl, hb5⟩
          go_wp2_with fail
          go_ret3
          rw [HR.out, HE.out]
          exact NewRes.of_own (F := fun v => .tuple #[v, _, _]) (hb5.own hor2) HLEN.out (by omega) (hbw.trans hb5)
        · obtain ⟨g1, g2, g3⟩ := HGO.out (by rw [HSC2.out]; exact hz)
          rw [HSC2.out] at g1 g2 g3
          rw [HLEN.out] at g3
          have HLG2 := Lib.hid (HLG.out (by rw [HSC2.out]; exact hz))
          have HSW2 := Lib.hid (HSW.out (bestK l high mi o k).1 wr g3 (hS.bl hbx))
          have HG1 := Lib.hid g1
          have HG2 := Lib.hid g2
          rw [HSC2.out] at HLG2
          have HSL := Lib.hid (swapL_len o (bestK l high mi o k).1)
          clear g1 g2 HGO HLG HLE HSC2 HSW
          generalize bestK l high mi o k = bk at *
          obtain ⟨bi, bz⟩ := bk
          have hz' : ¬ bz = 0 := hz
          clear hz
          go_wp2_with fail
          refine HSW2.out.mono ?_
          rintro e w5 ⟨C5, m5, c5, rfl, ho5, hl5, hm5, hb5⟩
          have hm5' : m5 = m := by rw [← hl5, HSL.out]; exact HLEN.out
          subst hm5'
          have HO5 := Lib.hid (own_mono ho5 hbw.le)
          have HPOT := Lib.hid (show potO l high mi (rowW w5 (.slice C5 m5 c5)) < potO l high mi (rowW wo (.slice C m5 c2)) by rw [HP.out, rowW_eq (Sl.of_own ci_len ho5 hl5 (by omega))]; exact HG2.out)
          clear ho5 hl5
          go_wp2_with fail
          exact ⟨⟨C5, c5, _, rfl, hbw.trans hb5, HO5.out, HG1, HLG2⟩, HPOT.out⟩
end Go.Proofs.Ytcmlphikdgfilaa
