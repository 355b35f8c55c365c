/- FnBounds: the law returns true for all bytes. No condition. -/
import Derived.Test.YtcmlphikdgfilaaC9e
import Derived.Test.YtcmlphikdgfilaaC8k
import Derived.Test.YtcmlphikdgfilaaD9
import Derived.Test.YtcmlphikdgfilaaQ9e
import Derived.Test.YtcmlphikdgfilaaLB
namespace Go.Proofs.Ytcmlphikdgfilaa
open Go.ChangeShapes Go.WideShapes Go.ChangeAt Go.RowKit Go.Deep Go.Joins
set_option maxRecDepth 100000 in
set_option maxHeartbeats 16000000 in
theorem walk_FnBounds (A : Option Addr) (n c : Nat) (code : List Int) (w : World) (s : Sl cb 1 w A n code ∧ Bytes code) :
    Calls Try.prog 3 #[.slice A n c] w fun e w' => e = .returned (.bool true) ∧ Bl w w' := by
  obtain ⟨hs, hby⟩ := s
  have HV := Lib.hid (vBig_any A n c w hs.le)
  by_cases hbig : 65536 < n
  · have e : decide (65536 < n) = true := by simpa using hbig
    rw [e] at HV
    go_enter Try.func3, Try.ntmps3
    go_wp2_with fail
    refine HV.out.mono ?_
    rintro e w' ⟨rfl, rfl⟩
    go_wp2_with fail
    go_ret
    exact ⟨rfl, Bl.refl _⟩
  have e : decide (65536 < n) = false := by simpa using hbig
  rw [e] at HV
  have HS := Lib.hid hs
  have HBY := Lib.hid hby
  clear e hs hby
  go_enter Try.func3, Try.ntmps3
  go_wp2_with fail
  refine HV.out.mono ?_
  rintro e w' ⟨rfl, rfl⟩
  go_wp2_with fail
  refine (drawLowerBound_any A n c code _ HS.out HBY.out).mono ?_
  rintro e w1 ⟨B, m, d, l, high, mi, rfl, hsl, hm, hmd, hb1⟩
  have HSL := Lib.hid hsl
  have HB1 := Lib.hid hb1
  have hb := Bl.refl w1
  clear hsl hb1
  have HF := Lib.hid (asked_cases l mi)
  have H1 := Lib.hid (fun W hl => implLowerBound_any B m d l high mi W hl hmd)
  have H2 := Lib.hid (fun W hl => specLowerBound_any B m d l high mi W hl hmd)
  have H3 := Lib.hid (fun W hl => implAloneBound_any B m d l high mi W hl hmd)
  have H4 := Lib.hid (fun W hl => implQueueBound_any B m d l mi W hl)
  have H5 := Lib.hid (fun W hl => specAloneBound_any B m d l high mi W hl hmd)
  have H6 := Lib.hid (fun W hl => specQueueBound_any B m d l mi W hl)
  have H7 := Lib.hid (fun W hl => implBestLockages_any B m d l high mi W hl)
  rcases HF.out with hq | hq
  · obtain ⟨lo, al, qu, bt, bo, F⟩ := bnd_yes (high := high) hq
    obtain ⟨f1, f2, f3, f4, f5, f6, f7, f8, f9, f10, f11, f12, f13⟩ := F
    rw [f1] at H1 H2
    rw [f2] at H3 H5
    rw [f3] at H4 H6
    rw [f4] at H7
    have H8 := Lib.hid (fun Cb mb cb hmb hcb W hl ho => implGapOf_any B m d l high mi Cb mb cb bo W hl ho hm hmb hmd hcb)
    have H9 := Lib.hid (fun Cb mb cb hmb hcb W hl ho => implIsProven_any B m d l high mi Cb mb cb bo W hl ho hm hmb hmd hcb)
    rw [f5] at H8
    rw [f6] at H9
    clear f1 f2 f3 f4 f5 f6 f7 hq HF
    obtain ⟨gb0, hgb, hgd⟩ : ∃ b : Bool, (bt - lo == 0) = b ∧ decide (bt - lo = 0) = b := ⟨bt - lo == 0, rfl, rfl⟩
    rw [hgd] at H9
    have HQ := Lib.hid f11
    clear f11 hgd
    have HGB := Lib.hid hgb
    clear hgb
    have HE2 : Hid (lo = al ∨ (¬ lo = al ∧ lo = qu)) := by
      rcases HQ.out with h | h
      · exact .inl h
      · by_cases h' : lo = al
        · exact .inl h'
        · exact .inr ⟨h', h⟩
    cases gb0
    case' true =>
      obtain rfl : bt = lo := by have := HGB.out; simp at this; omega
    case' false =>
      have hgb := HGB.out
    all_goals
      rcases HE2.out with hq | ⟨hq0, hq⟩
    all_goals
      subst hq
      go_wp2_with fail
      refine ((H1.out _ (HSL.out.bl hb))).mono ?_
      rintro e w' ⟨rfl, hbn⟩
      have hb := hb.trans hbn
      clear hbn
      go_wp2_with fail
      refine ((H2.out _ (HSL.out.bl hb))).mono ?_
      rintro e w' ⟨rfl, hbn⟩
      have hb := hb.trans hbn
      clear hbn
      go_wp2_with fail
      refine ((H3.out _ (HSL.out.bl hb))).mono ?_
      rintro e w' ⟨rfl, hbn⟩
      have hb := hb.trans hbn
      clear hbn
      go_wp2_with fail
      refine ((H4.out _ (HSL.out.bl hb))).mono ?_
      rintro e w' ⟨rfl, hbn⟩
      have hb := hb.trans hbn
      clear hbn
      go_wp2_with fail
      refine ((H5.out _ (HSL.out.bl hb))).mono ?_
      rintro e w' ⟨rfl, hbn⟩
      have hb := hb.trans hbn
      clear hbn
      go_wp2_with fail
      refine ((H6.out _ (HSL.out.bl hb))).mono ?_
      rintro e w' ⟨rfl, hbn⟩
      have hb := hb.trans hbn
      clear hbn
      go_wp2_with fail
      refine ((H7.out _ (HSL.out.bl hb))).mono ?_
      rintro e w' ⟨Cb, mb, cb, rfl, hox, hlx, hHBOm, hbn⟩
      have HBO := Lib.hid (Sl.of_own ci_len hox hlx (by omega))
      have hHBOc := own_cap hox
      have HBOL := Lib.hid hlx
      have HBOw := Lib.hid (Bl.refl w')
      have hb := hb.trans hbn
      clear hbn hox hlx
      have HBW := Lib.hid (HB1.out.trans hb)
      have HSL := Lib.hid (HSL.out.bl hb)
      have hb := Bl.refl w'
      go_wp2_with fail
      refine ((H8.out Cb mb cb hHBOm hHBOc _ (HSL.out.bl hb) (HBO.out.bl hb))).mono ?_
      rintro e w' ⟨rfl, hbn⟩
      have hb := hb.trans hbn
      clear hbn
      go_wp2_with fail
      refine ((H9.out Cb mb cb hHBOm hHBOc _ (HSL.out.bl hb) (HBO.out.bl hb))).mono ?_
      rintro e w' ⟨rfl, hbn⟩
      have hb := hb.trans hbn
      clear hbn
      have HBW := Lib.hid (HBW.out.trans hb)
      go_wp2_with fail
      refine (drawIsProven_any A n c code _ (HS.out.bl HBW.out) HBY.out).mono ?_
      rintro e w2 ⟨B2, m2, d2, l2, h2, mi2, C2, p2, f2, o2, rfl, hsl, hm2, hmd2, hso, hp2, hpf2, hbn⟩
      have HSL2 := Lib.hid hsl
      have HSO2 := Lib.hid hso
      have HBW := Lib.hid (HBW.out.trans hbn)
      have hb := Bl.refl w2
      clear hsl hso hbn
      have K1 := Lib.hid (fun W hl ho => implIsProven_any B2 m2 d2 l2 h2 mi2 C2 p2 f2 o2 W hl ho hm2 hp2 hmd2 hpf2)
      have K2 := Lib.hid (fun W hl ho => specIsProven_any B2 m2 d2 l2 h2 mi2 C2 p2 f2 o2 W hl ho hm2 hp2 hmd2 hpf2)
      have K3 := Lib.hid (fun W hl ho => implLockageDelay_any B2 m2 d2 l2 h2 mi2 C2 p2 f2 o2 W hl ho hm2 hp2 hmd2 hpf2)
      have K4 := Lib.hid (fun W hl => implBestLockages_any B2 m2 d2 l2 h2 mi2 W hl)
      have HPF := Lib.hid (proven_facts (l := l2) (high := h2) (mi := mi2) (o := o2))
      generalize provenR l2 h2 mi2 o2 = P at *
      generalize delayR l2 h2 mi2 o2 = D at *
      generalize bestR l2 h2 mi2 = R at *
      obtain ⟨pb, pf⟩ := P
      cases pb
      case' true =>
        obtain ⟨z2, bo2, hD, hR⟩ := HPF.out rfl
        subst hD hR
        go_wp2_with fail
        refine ((K1.out _ (HSL2.out.bl hb) (HSO2.out.bl hb))).mono ?_
        rintro e w' ⟨rfl, hbn⟩
        have hb := hb.trans hbn
        clear hbn
        go_wp2_with fail
        refine ((K2.out _ (HSL2.out.bl hb) (HSO2.out.bl hb))).mono ?_
        rintro e w' ⟨rfl, hbn⟩
        have hb := hb.trans hbn
        clear hbn
        go_wp2_with fail
        refine ((K3.out _ (HSL2.out.bl hb) (HSO2.out.bl hb))).mono ?_
        rintro e w' ⟨rfl, hbn⟩
        have hb := hb.trans hbn
        clear hbn
        go_wp2_with fail
        refine ((K4.out _ (HSL2.out.bl hb))).mono ?_
        rintro e w' ⟨Cx, mx, dx, rfl, hox, hlx, hHXm, hbn⟩
        have HX := Lib.hid (Sl.of_own ci_len hox hlx (by omega))
        have hHXc := own_cap hox
        have HXL := Lib.hid hlx
        have HXw := Lib.hid (Bl.refl w')
        have hb := hb.trans hbn
        clear hbn hox hlx
        have HBW := Lib.hid (HBW.out.trans hb)
      case' false =>
        go_wp2_with fail
        refine ((K1.out _ (HSL2.out.bl hb) (HSO2.out.bl hb))).mono ?_
        rintro e w' ⟨rfl, hbn⟩
        have hb := hb.trans hbn
        clear hbn
        go_wp2_with fail
        refine ((K2.out _ (HSL2.out.bl hb) (HSO2.out.bl hb))).mono ?_
        rintro e w' ⟨rfl, hbn⟩
        have hb := hb.trans hbn
        clear hbn
        have HBW := Lib.hid (HBW.out.trans hb)
      all_goals
        go_wp2_with fail
        refine (drawGapOf_any A n c code _ (HS.out.bl HBW.out) HBY.out).mono ?_
        rintro e w3 ⟨B3, m3, d3, l3, h3, mi3, C3, p3, f3, o3, rfl, hsl3, hm3, hmd3, hso3, hp3, hpf3, hbn3⟩
        have HSL3 := Lib.hid hsl3
        have HSO3 := Lib.hid hso3
        have HBW3 := Lib.hid (HBW.out.trans hbn3)
        have hb3 := Bl.refl w3
        clear hsl3 hso3 hbn3
        have J1 := Lib.hid (fun W hl ho => implGapOf_any B3 m3 d3 l3 h3 mi3 C3 p3 f3 o3 W hl ho hm3 (Nat.le_trans hp3 (by decide)) hmd3 hpf3)
        have J2 := Lib.hid (fun W hl ho => specGapOf_any B3 m3 d3 l3 h3 mi3 C3 p3 f3 o3 W hl ho hm3 (Nat.le_trans hp3 (by decide)) hmd3 hpf3)
        have hgp := gap_pos l3 h3 mi3 o3
        generalize gapR l3 h3 mi3 o3 = G at *
        obtain ⟨gz, gb⟩ := G
        simp only at hgp
        go_wp2_with fail
        refine ((J1.out _ (HSL3.out.bl hb3) (HSO3.out.bl hb3))).mono ?_
        rintro e w' ⟨rfl, hbn⟩
        have hb3 := hb3.trans hbn
        clear hbn
        go_wp2_with fail
        refine ((J2.out _ (HSL3.out.bl hb3) (HSO3.out.bl hb3))).mono ?_
        rintro e w' ⟨rfl, hbn⟩
        have hb3 := hb3.trans hbn
        clear hbn
        go_wp2_with fail
        go_ret
        exact ⟨by first | rfl | simp, HBW3.out.trans hb3⟩
  · obtain ⟨f1, f2, f3, f4⟩ := bnd_no (high := high) hq
    rw [f1] at H1 H2
    rw [f2] at H3 H5
    rw [f3] at H4 H6
    rw [f4] at H7
    clear f1 f2 f3 f4 hq HF
    go_wp2_with fail
    refine ((H1.out _ (HSL.out.bl hb))).mono ?_
    rintro e w' ⟨rfl, hbn⟩
    have hb := hb.trans hbn
    clear hbn
    go_wp2_with fail
    refine ((H2.out _ (HSL.out.bl hb))).mono ?_
    rintro e w' ⟨rfl, hbn⟩
    have hb := hb.trans hbn
    clear hbn
    go_wp2_with fail
    refine ((H3.out _ (HSL.out.bl hb))).mono ?_
    rintro e w' ⟨rfl, hbn⟩
    have hb := hb.trans hbn
    clear hbn
    go_wp2_with fail
    refine ((H4.out _ (HSL.out.bl hb))).mono ?_
    rintro e w' ⟨rfl, hbn⟩
    have hb := hb.trans hbn
    clear hbn
    go_wp2_with fail
    refine ((H5.out _ (HSL.out.bl hb))).mono ?_
    rintro e w' ⟨rfl, hbn⟩
    have hb := hb.trans hbn
    clear hbn
    go_wp2_with fail
    refine ((H6.out _ (HSL.out.bl hb))).mono ?_
    rintro e w' ⟨rfl, hbn⟩
    have hb := hb.trans hbn
    clear hbn
    go_wp2_with fail
    refine ((H7.out _ (HSL.out.bl hb))).mono ?_
    rintro e w' ⟨Cb, mb, cb, rfl, hox, hlx, hHBOm, hbn⟩
    have HBO := Lib.hid (Sl.of_own ci_len hox hlx (by omega))
    have hHBOc := own_cap hox
    have HBOL := Lib.hid hlx
    have HBOw := Lib.hid (Bl.refl w')
    have hb := hb.trans hbn
    clear hbn hox hlx
    have HBW := Lib.hid (HB1.out.trans hb)
    go_wp2_with fail
    refine (drawIsProven_any A n c code _ (HS.out.bl HBW.out) HBY.out).mono ?_
    rintro e w2 ⟨B2, m2, d2, l2, h2, mi2, C2, p2, f2, o2, rfl, hsl, hm2, hmd2, hso, hp2, hpf2, hbn⟩
    have HSL2 := Lib.hid hsl
    have HSO2 := Lib.hid hso
    have HBW := Lib.hid (HBW.out.trans hbn)
    have hb := Bl.refl w2
    clear hsl hso hbn
    have K1 := Lib.hid (fun W hl ho => implIsProven_any B2 m2 d2 l2 h2 mi2 C2 p2 f2 o2 W hl ho hm2 hp2 hmd2 hpf2)
    have K2 := Lib.hid (fun W hl ho => specIsProven_any B2 m2 d2 l2 h2 mi2 C2 p2 f2 o2 W hl ho hm2 hp2 hmd2 hpf2)
    have K3 := Lib.hid (fun W hl ho => implLockageDelay_any B2 m2 d2 l2 h2 mi2 C2 p2 f2 o2 W hl ho hm2 hp2 hmd2 hpf2)
    have K4 := Lib.hid (fun W hl => implBestLockages_any B2 m2 d2 l2 h2 mi2 W hl)
    have HPF := Lib.hid (proven_facts (l := l2) (high := h2) (mi := mi2) (o := o2))
    generalize provenR l2 h2 mi2 o2 = P at *
    generalize delayR l2 h2 mi2 o2 = D at *
    generalize bestR l2 h2 mi2 = R at *
    obtain ⟨pb, pf⟩ := P
    cases pb
    case' true =>
      obtain ⟨z2, bo2, hD, hR⟩ := HPF.out rfl
      subst hD hR
      go_wp2_with fail
      refine ((K1.out _ (HSL2.out.bl hb) (HSO2.out.bl hb))).mono ?_
      rintro e w' ⟨rfl, hbn⟩
      have hb := hb.trans hbn
      clear hbn
      go_wp2_with fail
      refine ((K2.out _ (HSL2.out.bl hb) (HSO2.out.bl hb))).mono ?_
      rintro e w' ⟨rfl, hbn⟩
      have hb := hb.trans hbn
      clear hbn
      go_wp2_with fail
      refine ((K3.out _ (HSL2.out.bl hb) (HSO2.out.bl hb))).mono ?_
      rintro e w' ⟨rfl, hbn⟩
      have hb := hb.trans hbn
      clear hbn
      go_wp2_with fail
      refine ((K4.out _ (HSL2.out.bl hb))).mono ?_
      rintro e w' ⟨Cx, mx, dx, rfl, hox, hlx, hHXm, hbn⟩
      have HX := Lib.hid (Sl.of_own ci_len hox hlx (by omega))
      have hHXc := own_cap hox
      have HXL := Lib.hid hlx
      have HXw := Lib.hid (Bl.refl w')
      have hb := hb.trans hbn
      clear hbn hox hlx
      have HBW := Lib.hid (HBW.out.trans hb)
    case' false =>
      go_wp2_with fail
      refine ((K1.out _ (HSL2.out.bl hb) (HSO2.out.bl hb))).mono ?_
      rintro e w' ⟨rfl, hbn⟩
      have hb := hb.trans hbn
      clear hbn
      go_wp2_with fail
      refine ((K2.out _ (HSL2.out.bl hb) (HSO2.out.bl hb))).mono ?_
      rintro e w' ⟨rfl, hbn⟩
      have hb := hb.trans hbn
      clear hbn
      have HBW := Lib.hid (HBW.out.trans hb)
    all_goals
      go_wp2_with fail
      refine (drawGapOf_any A n c code _ (HS.out.bl HBW.out) HBY.out).mono ?_
      rintro e w3 ⟨B3, m3, d3, l3, h3, mi3, C3, p3, f3, o3, rfl, hsl3, hm3, hmd3, hso3, hp3, hpf3, hbn3⟩
      have HSL3 := Lib.hid hsl3
      have HSO3 := Lib.hid hso3
      have HBW3 := Lib.hid (HBW.out.trans hbn3)
      have hb3 := Bl.refl w3
      clear hsl3 hso3 hbn3
      have J1 := Lib.hid (fun W hl ho => implGapOf_any B3 m3 d3 l3 h3 mi3 C3 p3 f3 o3 W hl ho hm3 (Nat.le_trans hp3 (by decide)) hmd3 hpf3)
      have J2 := Lib.hid (fun W hl ho => specGapOf_any B3 m3 d3 l3 h3 mi3 C3 p3 f3 o3 W hl ho hm3 (Nat.le_trans hp3 (by decide)) hmd3 hpf3)
      have hgp := gap_pos l3 h3 mi3 o3
      generalize gapR l3 h3 mi3 o3 = G at *
      obtain ⟨gz, gb⟩ := G
      simp only at hgp
      go_wp2_with fail
      refine ((J1.out _ (HSL3.out.bl hb3) (HSO3.out.bl hb3))).mono ?_
      rintro e w' ⟨rfl, hbn⟩
      have hb3 := hb3.trans hbn
      clear hbn
      go_wp2_with fail
      refine ((J2.out _ (HSL3.out.bl hb3) (HSO3.out.bl hb3))).mono ?_
      rintro e w' ⟨rfl, hbn⟩
      have hb3 := hb3.trans hbn
      clear hbn
      go_wp2_with fail
      go_ret
      exact ⟨by first | rfl | simp, HBW3.out.trans hb3⟩
namespace fnBoundsDone
set_option maxRecDepth 100000 in
theorem lifted (os : Os) (started : os.Started) (H : Type) (enc : TypeId × Value → H) :
    ReturnsInHanded {} Try.checked os 3 .any (Rows.fnBoundsSpec.pre6 enc Try.prog Try.f3 Rows.fnBoundsRow.domain false) (Rows.fnBoundsSpec.post enc Try.prog Try.f3 false true false false) := by
  refine returnsInHanded_of_change (C := Try.checked) seatOwn started (by kernel_rfl) Try.func3
    (ChangeSpec.witness6 (enc := enc) (C := Try.checked) false ⟨#[], #[.slice none 0 0], []⟩ 8 (by kernel_rfl) (by kernel_rfl) (by kernel_rfl) (by kernel_rfl)) ?_
  intro W base args ds gs before hval0 hW hcnd _
  have hval : ∀ (j : Nat) t v, Try.f3.params[j]? = some t → args[j]? = some v → Value.okWide Try.prog W .any base t v := hval0
  have hW' := hW
  obtain ⟨p, q, hA0, hV, rfl, hfz, hnd⟩ := hW
  have hA : DataW.TrodAll enc Try.prog W 0 (fun _ => true) true Try.f3.params.toList args.toList ds p := hA0
  rw [Try.params3] at hA hval
  obtain ⟨v0, vs0, d0, ds0, p0, q0, hargs, rfl, rfl, h0, r0⟩ := trodAll_cons hA
  obtain ⟨rfl, rfl, rfl⟩ := trodAll_nil r0
  obtain rfl : args = #[v0] := by cases args; simp_all
  obtain ⟨rfl, rfl⟩ := trodVars_none hV
  have k0 := h0
  have lt0 : ∀ x ∈ p0, x.block < W.heap.size := by obtain ⟨m, hm⟩ := k0; exact DataW.trod_lt m _ _ _ hm
  obtain ⟨A0, n0, c0, rfl⟩ := okWide_slice Try.underlying22 (hval 0 22 v0 rfl rfl)
  obtain ⟨l0, s0⟩ := sl_of_bytes Try.underlying22 Try.underlying5 (by kernel_rfl) h0
  clear hA0 hval0
  refine (walk_FnBounds A0 n0 c0 l0 W s0).mono fun e W' ⟨he, bel⟩ => ?_
  subst he
  exact ⟨_, rfl, _, _, _, [], _, [], hW', trodAll_mk1 (shut_bool Try.underlying4 _), (trodAll_cons_mk (Below.trod seatLaid (by kernel_rfl) (of_decide_eq_true (by kernel_rfl)) k0 bel lt0) trodAll_mk0), rfl, bel.frame _, fun h => by cases h⟩
theorem over : Rows.fnBoundsRow.holds Try.pinned (OpenSpec.ofChange Rows.fnBoundsSpec) :=
  OpenClaim.holds_of_wide 3 Try.f3 rfl rfl rfl rfl rfl rfl rfl ⟨rfl, rfl, rfl, rfl, rfl⟩ rfl rfl rfl rfl rfl (by kernel_rfl) Try.func3 (by kernel_rfl)
    (of_decide_eq_true (by kernel_rfl)) (by unfold Func.isWrapper; first | (rw [if_pos (by decide +kernel)]; kernel_rfl) | (rw [if_neg (by decide +kernel)]; exact ⟨rfl, rfl⟩))
    (fun os started H enc _ => lifted os started H enc)
theorem proved : Rows.FnBoundsSaid := over
#print axioms proved
end fnBoundsDone

end Go.Proofs.Ytcmlphikdgfilaa
