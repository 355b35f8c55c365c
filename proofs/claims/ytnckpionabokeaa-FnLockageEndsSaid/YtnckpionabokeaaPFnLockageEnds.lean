/- FnLockageEnds: the law returns true for all bytes. No condition. -/
import Derived.Test.YtnckpionabokeaaC8f
import Derived.Test.YtnckpionabokeaaD8c
import Derived.Test.YtnckpionabokeaaQ8h
import Derived.Test.YtnckpionabokeaaLB
namespace Go.Proofs.Ytnckpionabokeaa
open Go.ChangeShapes Go.WideShapes Go.ChangeAt Go.RowKit Go.Deep Go.Joins
set_option maxRecDepth 100000 in
set_option maxHeartbeats 16000000 in
theorem walk_FnLockageEnds (A : Option Addr) (n c : Nat) (code : List Int) (w : World) (s : Sl cb 1 w A n code ∧ Bytes code) :
    Calls Try.prog 12 #[.slice A n c] w fun e w' => e = .returned (.bool true) ∧ Bl w w' := by
  obtain ⟨hs, hby⟩ := s
  have HV := Lib.hid (vBig_any A n c w hs.le)
  by_cases hbig : 65536 < n
  · have e : decide (65536 < n) = true := by simpa using hbig
    rw [e] at HV
    go_enter Try.func12, Try.ntmps12
    go_wp2_with fail
    refine HV.out.mono ?_
    rintro e w' ⟨rfl, rfl⟩
    go_wp2_with fail
    go_ret
    exact ⟨rfl, Bl.refl _⟩
  have e : decide (65536 < n) = false := by simpa using hbig
  rw [e] at HV
  have HS := Lib.hid hs
  have HBY := Lib.hid hby
  clear e hs hby
  go_enter Try.func12, Try.ntmps12
  go_wp2_with fail
  refine HV.out.mono ?_
  rintro e w' ⟨rfl, rfl⟩
  go_wp2_with fail
  refine (drawLastLockage_any A n c code _ HS.out HBY.out).mono ?_
  rintro e w1 ⟨B, m, d, l, high, mi, C, p, f, o, rfl, hsl, hm, hmd, hso, hp, hpf, hb1⟩
  have hp := Nat.le_trans hp (show 9 ≤ 1048576 by decide)
  have HSL := Lib.hid hsl
  have HSO := Lib.hid hso
  have HLL := Lib.hid hsl.1
  have HBW := Lib.hid hb1
  have hb := Bl.refl w1
  clear hsl hso hb1
  have H1 := Lib.hid (fun W hl ho => implLastLockage_any B m d l high mi C p f o W hl ho hm hp hmd hpf)
  have H2 := Lib.hid (fun W hl ho => specLastLockage_any B m d l high mi C p f o W hl ho hm hp hmd hpf)
  have H3 := Lib.hid (fun W hl ho => implEmptyTurns_any B m d l high C p f o W hl ho hm hp hmd hpf)
  have H4 := Lib.hid (fun W hl ho => specEmptyTurns_any B m d l high C p f o W hl ho hm hp hmd hpf)
  have H5 := Lib.hid (fun W hl ho => isLockageOrder_any B m d l C p f o W hl ho hpf)
  have H6 := Lib.hid (fun W hl ho => implLongestWait_any B m d l high mi C p f o W hl ho hm hp hmd hpf)
  have H7 := Lib.hid (fun W hl ho => specLongestWait_any B m d l high mi C p f o W hl ho hm hp hmd hpf)
  by_cases hq : implOrd l o = true ∧ inB mi 1 60 = true
  · by_cases hl0 : l.length = 0
    · obtain ⟨f1, f2⟩ := end_nil (high := high) hq hl0
      have f3 := turns_ord l high o
      rw [hq.1] at f3 H5
      rw [f1] at H1 H2
      rw [f2] at H6 H7
      rw [HLL.out] at hl0
      subst hl0
      generalize turnsR l high o = T at *
      obtain ⟨tz, tb⟩ := T
      simp only at f3
      subst f3
      clear f1 f2 hq
      go_wp2_with fail
      refine ((H1.out _ (HSL.out.bl hb) (HSO.out.bl hb))).mono ?_
      rintro e w' ⟨rfl, hbn⟩
      have hb := hb.trans hbn
      clear hbn
      go_wp2_with fail
      refine ((H2.out _ (HSL.out.bl hb) (HSO.out.bl hb))).mono ?_
      rintro e w' ⟨rfl, hbn⟩
      have hb := hb.trans hbn
      clear hbn
      go_wp2_with fail
      refine ((H3.out _ (HSL.out.bl hb) (HSO.out.bl hb))).mono ?_
      rintro e w' ⟨rfl, hbn⟩
      have hb := hb.trans hbn
      clear hbn
      go_wp2_with fail
      refine ((H4.out _ (HSL.out.bl hb) (HSO.out.bl hb))).mono ?_
      rintro e w' ⟨rfl, hbn⟩
      have hb := hb.trans hbn
      clear hbn
      go_wp2_with fail
      refine ((H5.out _ (HSL.out.bl hb) (HSO.out.bl hb))).mono ?_
      rintro e w' ⟨rfl, hbn⟩
      have hb := hb.trans hbn
      clear hbn
      go_wp2_with fail
      refine ((H6.out _ (HSL.out.bl hb) (HSO.out.bl hb))).mono ?_
      rintro e w' ⟨rfl, hbn⟩
      have hb := hb.trans hbn
      clear hbn
      go_wp2_with fail
      refine ((H7.out _ (HSL.out.bl hb) (HSO.out.bl hb))).mono ?_
      rintro e w' ⟨rfl, hbn⟩
      have hb := hb.trans hbn
      clear hbn
      have HBW := Lib.hid (HBW.out.trans hb)
      go_wp2_with fail
      refine (drawIsLockageOrder_any A n c code _ (HS.out.bl HBW.out) HBY.out).mono ?_
      rintro e w2 ⟨B2, m2, d2, l2, C2, p2, f2, o2, rfl, hsl2, hm2, hmd2, hso2, hp2, hpf2, hbn2⟩
      have HSL2 := Lib.hid hsl2
      have HSO2 := Lib.hid hso2
      have HBW2 := Lib.hid (HBW.out.trans hbn2)
      have hb2 := Bl.refl w2
      clear hsl2 hso2 hbn2
      have K1 := Lib.hid (fun W hl ho => isLockageOrder_any B2 m2 d2 l2 C2 p2 f2 o2 W hl ho hpf2)
      have K2 := Lib.hid (fun W hl ho => specIsLockageOrder_any B2 m2 d2 l2 C2 p2 f2 o2 W hl ho hmd2 hpf2)
      generalize implOrd l2 o2 = b2 at *
      go_wp2_with fail
      refine ((K1.out _ (HSL2.out.bl hb2) (HSO2.out.bl hb2))).mono ?_
      rintro e w' ⟨rfl, hbn⟩
      have hb2 := hb2.trans hbn
      clear hbn
      go_wp2_with fail
      refine ((K2.out _ (HSL2.out.bl hb2) (HSO2.out.bl hb2))).mono ?_
      rintro e w' ⟨rfl, hbn⟩
      have hb2 := hb2.trans hbn
      clear hbn
      go_wp2_with fail
      go_ret
      exact ⟨by first | rfl | simp, HBW2.out.trans hb2⟩
    · obtain ⟨en, tu, bw, dl, i, a, F⟩ := end_yes (high := high) hq hl0
      obtain ⟨f1, f2, f3, f4, f5, f6, f7, f8, f9, f10, f11, f12, f13, f14, f15, f16⟩ := F
      have H8 := Lib.hid (fun W hl ho => implLockageDelay_any B m d l high mi C p f o W hl ho hm hp hmd hpf)
      have HWR := Lib.hid (wsK_rng (ord_parts hq.1).1)
      obtain ⟨m0, m1⟩ := inB_iff.1 hq.2
      obtain ⟨⟨av0, av1⟩, aw0, aw1⟩ := (arr_bd (ord_parts hq.1).1 f5).2
      have HWO := Lib.hid (fun k b (hk : l[k]? = some b) => wsK_one hk)
      have HWB := Lib.hid (fun k b (hk : l[k]? = some b) => (arr_bd (ord_parts hq.1).1 hk).2.2)
      rw [hq.1] at H5
      rw [f1] at H1 H2
      rw [f2] at H3 H4
      rw [f3] at H6 H7
      rw [f4] at H8
      rw [HLL.out] at f6 f8 f16 hl0 HWR
      have hi : i < m := by have := (List.getElem?_eq_some_iff.1 f5).1; rwa [HLL.out] at this
      have HAT := Lib.hid f5
      have hm0 : ¬ (m : Int) = 0 := by omega
      have hm1 : (0 : Int) < (m : Int) := by omega
      have hm2 : 0 < m := by omega
      have r1 : 0 ≤ bw * a.Weight := Int.mul_nonneg f10 (by omega)
      have r3 : 0 ≤ (tu + (m : Int)) * mi := Int.mul_nonneg (by omega) (by omega)
      have hws := HWR.out m (Nat.le_refl _)
      have r2 : 0 ≤ bw * wsK l m := Int.mul_nonneg f10 hws.1
      have r4 : bw * wsK l m ≤ 20000 * 54 := Int.mul_le_mul f11 (by omega) hws.1 (by omega)
      clear f1 f2 f3 f4 f5 hq hl0
      go_wp2_with fail
      refine ((H1.out _ (HSL.out.bl hb) (HSO.out.bl hb))).mono ?_
      rintro e w' ⟨rfl, hbn⟩
      have hb := hb.trans hbn
      clear hbn
      go_wp2_with fail
      refine ((H2.out _ (HSL.out.bl hb) (HSO.out.bl hb))).mono ?_
      rintro e w' ⟨rfl, hbn⟩
      have hb := hb.trans hbn
      clear hbn
      go_wp2_with fail
      refine ((H3.out _ (HSL.out.bl hb) (HSO.out.bl hb))).mono ?_
      rintro e w' ⟨rfl, hbn⟩
      have hb := hb.trans hbn
      clear hbn
      go_wp2_with fail
      refine ((H4.out _ (HSL.out.bl hb) (HSO.out.bl hb))).mono ?_
      rintro e w' ⟨rfl, hbn⟩
      have hb := hb.trans hbn
      clear hbn
      go_wp2_with fail
      refine ((H5.out _ (HSL.out.bl hb) (HSO.out.bl hb))).mono ?_
      rintro e w' ⟨rfl, hbn⟩
      have hb := hb.trans hbn
      clear hbn
      go_wp2_with fail
      refine ((H6.out _ (HSL.out.bl hb) (HSO.out.bl hb))).mono ?_
      rintro e w' ⟨rfl, hbn⟩
      have hb := hb.trans hbn
      clear hbn
      go_wp2_with fail
      refine ((H7.out _ (HSL.out.bl hb) (HSO.out.bl hb))).mono ?_
      rintro e w' ⟨rfl, hbn⟩
      have hb := hb.trans hbn
      clear hbn
      go_wp2_with fail
      refine ((H8.out _ (HSL.out.bl hb) (HSO.out.bl hb))).mono ?_
      rintro e w' ⟨rfl, hbn⟩
      have hb := hb.trans hbn
      clear hbn
      have HBW := Lib.hid (HBW.out.trans hb)
      have HSL := Lib.hid (HSL.out.bl hb)
      have hb := Bl.refl w'
      obtain ⟨wo, hwo⟩ : ∃ wo : World, wo = w' := ⟨_, rfl⟩
      subst hwo
      go_wp2_with fail
      go_loopw [23, 24] (fun u i wr => ∃ k : Nat, k ≤ m ∧ i = .int .i64 k ∧ u = .int .i64 (wsK l k) ∧ Bl wo wr) (fun _ i _ => m - (intOf i).toNat)
      case atStart => exact ⟨0, Nat.zero_le _, rfl, rfl, Bl.refl _⟩
      case round =>
        obtain ⟨k, hk, rfl, rfl, hbx⟩ := hrel
        obtain ⟨ws0, ws1⟩ := HWR.out k hk
        by_cases hlt : k < m
        · obtain ⟨b1, o1, pa, rfl, ep, p1, p2, p3, p4⟩ := HSL.out.Arrival hlt
          have g4 := p4 _ hbx
          have HN := Lib.hid (HWO.out k pa ep)
          obtain ⟨w0, w1⟩ := HWB.out k pa ep
          clear ep p1 p2 p3 p4
          go_wp2_with fail
          first | exact ⟨⟨k + 1, by omega, by go_num, by rw [HN.out], hbx⟩, by simp [intOf]; omega⟩ | (refine ⟨?_, by simp [intOf]; omega⟩; (repeat apply Exists.intro); exact ⟨⟨k + 1, by omega, by go_num, by rw [HN.out], hbx⟩, rfl⟩)
        · obtain rfl : k = m := by omega
          obtain ⟨b1, o1, pa, rfl, ep, p1, p2, p3, p4⟩ := HSL.out.Arrival hi
          obtain rfl : pa = a := Option.some.inj (ep.symm.trans HAT.out)
          have g3 := p3 _ hbx
          have g4 := p4 _ hbx
          have hi0 : (0 : Int) ≤ (i : Int) := by omega
          have hi1 : (i : Int) < (k : Int) := by omega
          generalize wsK l k = ws at *
          clear ep p1 p2 p3 p4
          have HBW := Lib.hid (HBW.out.trans hbx)
          go_wp2_with fail
          refine (drawIsLockageOrder_any A n c code _ (HS.out.bl HBW.out) HBY.out).mono ?_
          rintro e w2 ⟨B2, m2, d2, l2, C2, p2, f2, o2, rfl, hsl2, hm2, hmd2, hso2, hp2, hpf2, hbn2⟩
          have HSL2 := Lib.hid hsl2
          have HSO2 := Lib.hid hso2
          have HBW2 := Lib.hid (HBW.out.trans hbn2)
          have hb2 := Bl.refl w2
          clear hsl2 hso2 hbn2
          have K1 := Lib.hid (fun W hl ho => isLockageOrder_any B2 m2 d2 l2 C2 p2 f2 o2 W hl ho hpf2)
          have K2 := Lib.hid (fun W hl ho => specIsLockageOrder_any B2 m2 d2 l2 C2 p2 f2 o2 W hl ho hmd2 hpf2)
          generalize implOrd l2 o2 = b2 at *
          go_wp2_with fail
          refine ((K1.out _ (HSL2.out.bl hb2) (HSO2.out.bl hb2))).mono ?_
          rintro e w' ⟨rfl, hbn⟩
          have hb2 := hb2.trans hbn
          clear hbn
          go_wp2_with fail
          refine ((K2.out _ (HSL2.out.bl hb2) (HSO2.out.bl hb2))).mono ?_
          rintro e w' ⟨rfl, hbn⟩
          have hb2 := hb2.trans hbn
          clear hbn
          go_wp2_with fail
          go_ret
          exact ⟨by first | rfl | simp, HBW2.out.trans hb2⟩
  · obtain ⟨f1, f2⟩ := end_no (high := high) hq
    have f3 := turns_ord l high o
    rw [f1] at H1 H2
    rw [f2] at H6 H7
    rw [← f3] at H5
    generalize turnsR l high o = T at *
    obtain ⟨tz, tb⟩ := T
    clear f1 f2 f3 hq
    go_wp2_with fail
    refine ((H1.out _ (HSL.out.bl hb) (HSO.out.bl hb))).mono ?_
    rintro e w' ⟨rfl, hbn⟩
    have hb := hb.trans hbn
    clear hbn
    go_wp2_with fail
    refine ((H2.out _ (HSL.out.bl hb) (HSO.out.bl hb))).mono ?_
    rintro e w' ⟨rfl, hbn⟩
    have hb := hb.trans hbn
    clear hbn
    go_wp2_with fail
    refine ((H3.out _ (HSL.out.bl hb) (HSO.out.bl hb))).mono ?_
    rintro e w' ⟨rfl, hbn⟩
    have hb := hb.trans hbn
    clear hbn
    go_wp2_with fail
    refine ((H4.out _ (HSL.out.bl hb) (HSO.out.bl hb))).mono ?_
    rintro e w' ⟨rfl, hbn⟩
    have hb := hb.trans hbn
    clear hbn
    go_wp2_with fail
    refine ((H5.out _ (HSL.out.bl hb) (HSO.out.bl hb))).mono ?_
    rintro e w' ⟨rfl, hbn⟩
    have hb := hb.trans hbn
    clear hbn
    go_wp2_with fail
    refine ((H6.out _ (HSL.out.bl hb) (HSO.out.bl hb))).mono ?_
    rintro e w' ⟨rfl, hbn⟩
    have hb := hb.trans hbn
    clear hbn
    go_wp2_with fail
    refine ((H7.out _ (HSL.out.bl hb) (HSO.out.bl hb))).mono ?_
    rintro e w' ⟨rfl, hbn⟩
    have hb := hb.trans hbn
    clear hbn
    have HBW := Lib.hid (HBW.out.trans hb)
    go_wp2_with fail
    refine (drawIsLockageOrder_any A n c code _ (HS.out.bl HBW.out) HBY.out).mono ?_
    rintro e w2 ⟨B2, m2, d2, l2, C2, p2, f2, o2, rfl, hsl2, hm2, hmd2, hso2, hp2, hpf2, hbn2⟩
    have HSL2 := Lib.hid hsl2
    have HSO2 := Lib.hid hso2
    have HBW2 := Lib.hid (HBW.out.trans hbn2)
    have hb2 := Bl.refl w2
    clear hsl2 hso2 hbn2
    have K1 := Lib.hid (fun W hl ho => isLockageOrder_any B2 m2 d2 l2 C2 p2 f2 o2 W hl ho hpf2)
    have K2 := Lib.hid (fun W hl ho => specIsLockageOrder_any B2 m2 d2 l2 C2 p2 f2 o2 W hl ho hmd2 hpf2)
    generalize implOrd l2 o2 = b2 at *
    go_wp2_with fail
    refine ((K1.out _ (HSL2.out.bl hb2) (HSO2.out.bl hb2))).mono ?_
    rintro e w' ⟨rfl, hbn⟩
    have hb2 := hb2.trans hbn
    clear hbn
    go_wp2_with fail
    refine ((K2.out _ (HSL2.out.bl hb2) (HSO2.out.bl hb2))).mono ?_
    rintro e w' ⟨rfl, hbn⟩
    have hb2 := hb2.trans hbn
    clear hbn
    go_wp2_with fail
    go_ret
    exact ⟨by first | rfl | simp, HBW2.out.trans hb2⟩
namespace fnLockageEndsDone
set_option maxRecDepth 100000 in
theorem lifted (os : Os) (started : os.Started) (H : Type) (enc : TypeId × Value → H) :
    ReturnsInHanded {} Try.checked os 12 .any (Rows.fnLockageEndsSpec.pre6 enc Try.prog Try.f12 Rows.fnLockageEndsRow.domain false) (Rows.fnLockageEndsSpec.post enc Try.prog Try.f12 false true false false) := by
  refine returnsInHanded_of_change (C := Try.checked) seatOwn started (by kernel_rfl) Try.func12
    (ChangeSpec.witness6 (enc := enc) (C := Try.checked) false ⟨#[], #[.slice none 0 0], []⟩ 8 (by kernel_rfl) (by kernel_rfl) (by kernel_rfl) (by kernel_rfl)) ?_
  intro W base args ds gs before hval0 hW hcnd _
  have hval : ∀ (j : Nat) t v, Try.f12.params[j]? = some t → args[j]? = some v → Value.okWide Try.prog W .any base t v := hval0
  have hW' := hW
  obtain ⟨p, q, hA0, hV, rfl, hfz, hnd⟩ := hW
  have hA : DataW.TrodAll enc Try.prog W 0 (fun _ => true) true Try.f12.params.toList args.toList ds p := hA0
  rw [Try.params12] at hA hval
  obtain ⟨v0, vs0, d0, ds0, p0, q0, hargs, rfl, rfl, h0, r0⟩ := trodAll_cons hA
  obtain ⟨rfl, rfl, rfl⟩ := trodAll_nil r0
  obtain rfl : args = #[v0] := by cases args; simp_all
  obtain ⟨rfl, rfl⟩ := trodVars_none hV
  have k0 := h0
  have lt0 : ∀ x ∈ p0, x.block < W.heap.size := by obtain ⟨m, hm⟩ := k0; exact DataW.trod_lt m _ _ _ hm
  obtain ⟨A0, n0, c0, rfl⟩ := okWide_slice Try.underlying29 (hval 0 29 v0 rfl rfl)
  obtain ⟨l0, s0⟩ := sl_of_bytes Try.underlying29 Try.underlying5 (by kernel_rfl) h0
  clear hA0 hval0
  refine (walk_FnLockageEnds A0 n0 c0 l0 W s0).mono fun e W' ⟨he, bel⟩ => ?_
  subst he
  exact ⟨_, rfl, _, _, _, [], _, [], hW', trodAll_mk1 (shut_bool Try.underlying4 _), (trodAll_cons_mk (Below.trod seatLaid (by kernel_rfl) (of_decide_eq_true (by kernel_rfl)) k0 bel lt0) trodAll_mk0), rfl, bel.frame _, fun h => by cases h⟩
theorem over : Rows.fnLockageEndsRow.holds Try.pinned (OpenSpec.ofChange Rows.fnLockageEndsSpec) :=
  OpenClaim.holds_of_wide 12 Try.f12 rfl rfl rfl rfl rfl rfl rfl ⟨rfl, rfl, rfl, rfl, rfl⟩ rfl rfl rfl rfl rfl (by kernel_rfl) Try.func12 (by kernel_rfl)
    (of_decide_eq_true (by kernel_rfl)) (by unfold Func.isWrapper; first | (rw [if_pos (by decide +kernel)]; kernel_rfl) | (rw [if_neg (by decide +kernel)]; exact ⟨rfl, rfl⟩))
    (fun os started H enc _ => lifted os started H enc)
theorem proved : Rows.FnLockageEndsSaid := over
#print axioms proved
end fnLockageEndsDone

end Go.Proofs.Ytnckpionabokeaa
