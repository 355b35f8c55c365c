/- LockageTimes: the law returns true for all lists of arrivals, all orders and all minutes. No condition. -/
import Derived.Test.YtnckpionabokeaaC8d
import Derived.Test.YtnckpionabokeaaSArrival
namespace Go.Proofs.Ytnckpionabokeaa
open Go.ChangeShapes Go.WideShapes Go.ChangeAt Go.RowKit Go.Deep Go.Joins
set_option maxHeartbeats 1500000 in
theorem walk_FnExactLockageTimes (A0 : Option Addr) (n0 c0 : Nat) (l0 : List Arrival) (x1 : Bool) (x2 : Int) (A3 : Option Addr) (n3 c3 : Nat) (l3 : List Int) (w : World) (s0 : Sl Arrival.cs 4 w A0 n0 l0) (bx2 : -9223372036854775808 ≤ x2 ∧ x2 ≤ 9223372036854775807) (s3 : Sl ci 1 w A3 n3 l3) : Calls Try.prog 9 #[.slice A0 n0 c0, .bool x1, .int .i64 x2, .slice A3 n3 c3] w fun e w' => e = .returned (.bool true) ∧ Bl w w' := by
  obtain ⟨bxl2, bxu2⟩ := bx2
  have bn0 := s0.le
  have HL0 := Lib.hid s0.1
  have bn3 := s3.le
  have HL3 := Lib.hid s3.1
  have hb := Bl.refl w
  by_cases hs3 : (1048576 : Int) < n3
  · go_enter Try.func9, Try.ntmps9
    go_wp2_with fail
    go_ret
    exact ⟨rfl, hb⟩
  have hn3 : n3 ≤ 1048576 := by omega
  have Hz0 := Lib.hid (fun w => szArrivalS_any A0 n0 c0 (1048576) w bn0 (by omega) (by omega))
  by_cases hs0 : 1048576 < (n0 : Int)
  · rw [if_pos hs0] at Hz0
    go_enter Try.func9, Try.ntmps9
    go_wp2_with fail
    refine (Hz0.out _).mono ?_
    rintro e w' ⟨rfl, hbn⟩
    have hb := hb.trans hbn
    clear hbn
    go_wp2_with fail
    go_ret
    exact ⟨rfl, hb⟩
  rw [if_neg hs0] at Hz0
  have hn0 : n0 ≤ 1048576 := by omega
  have hz0 : ¬ 1048576 - (n0 : Int) < 0 := by omega
  go_enter Try.func9, Try.ntmps9
  go_wp2_with fail
  refine (Hz0.out _).mono ?_
  rintro e w' ⟨rfl, hbn⟩
  have hb := hb.trans hbn
  clear hbn
  go_wp2_with fail
  have z0 := hb.le
  go_wp2_with fail
  refine (toArrivalS_any A0 n0 c0 l0 _ (s0.bl (hb)) hn0).mono ?_
  rintro e w1 ⟨B1, d1, rfl, o1, hbn⟩
  have zw1 := hbn.le
  have hb := hb.trans hbn
  clear hbn
  have L1 := own_lt o1
  have t1 := Sl.of_own Arrival.cs_len o1 HL0.out (by omega)
  go_wp2_with fail
  refine (toIntS_any A3 n3 c3 l3 _ (s3.bl (hb)) hn3).mono ?_
  rintro e w2 ⟨B2, d2, rfl, o2, hbn⟩
  have zw2 := hbn.le
  have o1 := hbn.own o1
  have t1 := t1.bl hbn
  have hb := hb.trans hbn
  clear hbn
  have L2 := own_lt o2
  have t2 := Sl.of_own ci_len o2 HL3.out (by omega)
  go_wp2_with fail
  refine (specLockageTimes_any B1 n0 d1 l0 x1 x2 B2 n3 d2 l3 _ t1 t2 hn0 hn3 (own_cap o1) (own_cap o2)).mono ?_
  rintro e w3 ⟨B3, m3, d3, rfl, o3, hl3, hm3, hbn⟩
  have L3 := own_lt o3
  have t3 := Sl.of_own ci_len o3 hl3 (by omega)
  have HLr3 := Lib.hid hl3
  clear hl3
  have zw3 := hbn.le
  have o1 := hbn.own o1
  have t1 := t1.bl hbn
  have o2 := hbn.own o2
  have t2 := t2.bl hbn
  have hb := hb.trans hbn
  clear hbn
  go_wp2_with fail
  refine (toArrivalS_any A0 n0 c0 l0 _ (s0.bl (hb)) hn0).mono ?_
  rintro e w4 ⟨B4, d4, rfl, o4, hbn⟩
  have zw4 := hbn.le
  have o3 := hbn.own o3
  have t3 := t3.bl hbn
  have hb := hb.trans hbn
  clear hbn
  have L4 := own_lt o4
  have t4 := Sl.of_own Arrival.cs_len o4 HL0.out (by omega)
  go_wp2_with fail
  refine (toIntS_any A3 n3 c3 l3 _ (s3.bl (hb)) hn3).mono ?_
  rintro e w5 ⟨B5, d5, rfl, o5, hbn⟩
  have zw5 := hbn.le
  have o3 := hbn.own o3
  have t3 := t3.bl hbn
  have o4 := hbn.own o4
  have t4 := t4.bl hbn
  have hb := hb.trans hbn
  clear hbn
  have L5 := own_lt o5
  have t5 := Sl.of_own ci_len o5 HL3.out (by omega)
  go_wp2_with fail
  refine (implLockageTimes_any B4 n0 d4 l0 x1 x2 B5 n3 d5 l3 _ t4 t5 hn0 hn3 (own_cap o4) (own_cap o5)).mono ?_
  rintro e w6 ⟨B6, m6, d6, rfl, o6, hl6, hm6, hbn⟩
  have L6 := own_lt o6
  have t6 := Sl.of_own ci_len o6 hl6 (by omega)
  have HLr6 := Lib.hid hl6
  clear hl6
  have zw6 := hbn.le
  have o3 := hbn.own o3
  have t3 := t3.bl hbn
  have o4 := hbn.own o4
  have t4 := t4.bl hbn
  have o5 := hbn.own o5
  have t5 := t5.bl hbn
  have hb := hb.trans hbn
  clear hbn
  go_wp2_with fail
  refine (eqIntS_any B6 B3 m6 m3 d6 d3 _ _ _ t6 t3).mono ?_
  rintro e w7 ⟨rfl, hbn⟩
  have zw7 := hbn.le
  have o3 := hbn.own o3
  have t3 := t3.bl hbn
  have o4 := hbn.own o4
  have t4 := t4.bl hbn
  have o5 := hbn.own o5
  have t5 := t5.bl hbn
  have o6 := hbn.own o6
  have t6 := t6.bl hbn
  have hb := hb.trans hbn
  clear hbn
  simp only [eqB_self]
  go_wp2_with fail
  refine (toArrivalS_any A0 n0 c0 l0 _ (s0.bl (hb)) hn0).mono ?_
  rintro e w8 ⟨B7, d7, rfl, o7, hbn⟩
  have zw8 := hbn.le
  have o3 := hbn.own o3
  have t3 := t3.bl hbn
  have o4 := hbn.own o4
  have t4 := t4.bl hbn
  have o5 := hbn.own o5
  have t5 := t5.bl hbn
  have o6 := hbn.own o6
  have t6 := t6.bl hbn
  have hb := hb.trans hbn
  clear hbn
  have L7 := own_lt o7
  have t7 := Sl.of_own Arrival.cs_len o7 HL0.out (by omega)
  go_wp2_with fail
  refine (eqArrivalS_any B4 B7 n0 n0 d4 d7 _ _ _ t4 t7).mono ?_
  rintro e w9 ⟨rfl, hbn⟩
  have zw9 := hbn.le
  have o3 := hbn.own o3
  have t3 := t3.bl hbn
  have o4 := hbn.own o4
  have t4 := t4.bl hbn
  have o5 := hbn.own o5
  have t5 := t5.bl hbn
  have o6 := hbn.own o6
  have t6 := t6.bl hbn
  have o7 := hbn.own o7
  have t7 := t7.bl hbn
  have hb := hb.trans hbn
  clear hbn
  simp only [eqB_self]
  go_wp2_with fail
  refine (toIntS_any A3 n3 c3 l3 _ (s3.bl (hb)) hn3).mono ?_
  rintro e w10 ⟨B8, d8, rfl, o8, hbn⟩
  have zw10 := hbn.le
  have o3 := hbn.own o3
  have t3 := t3.bl hbn
  have o4 := hbn.own o4
  have t4 := t4.bl hbn
  have o5 := hbn.own o5
  have t5 := t5.bl hbn
  have o6 := hbn.own o6
  have t6 := t6.bl hbn
  have hb := hb.trans hbn
  clear hbn
  have L8 := own_lt o8
  have t8 := Sl.of_own ci_len o8 HL3.out (by omega)
  go_wp2_with fail
  refine (eqIntS_any B5 B8 n3 n3 d5 d8 _ _ _ t5 t8).mono ?_
  rintro e w11 ⟨rfl, hbn⟩
  have zw11 := hbn.le
  have o3 := hbn.own o3
  have t3 := t3.bl hbn
  have o4 := hbn.own o4
  have t4 := t4.bl hbn
  have o5 := hbn.own o5
  have t5 := t5.bl hbn
  have o6 := hbn.own o6
  have t6 := t6.bl hbn
  have o8 := hbn.own o8
  have t8 := t8.bl hbn
  have hb := hb.trans hbn
  clear hbn
  simp only [eqB_self]
  go_wp2_with fail
  refine (markArrivalS_any B4 n0 d4 _ _ (1) _ o4 (by omega) (by omega) (by omega)).mono ?_
  rintro e w12 ⟨rfl, om, hgr⟩
  have zw12 := hgr.size
  have hbx := grown_bl hb hgr L4 (by omega)
  have o3 := World.ownsRow.kept o3 hgr (apart_of L3 L4 (by omega))
  have t3 := Sl.of_own ci_len o3 t3.1 (by omega)
  have o5 := World.ownsRow.kept o5 hgr (apart_of L5 L4 (by omega))
  have t5 := Sl.of_own ci_len o5 t5.1 (by omega)
  have o6 := World.ownsRow.kept o6 hgr (apart_of L6 L4 (by omega))
  have t6 := Sl.of_own ci_len o6 t6.1 (by omega)
  have hb := hbx
  clear hbx hgr
  clear om
  go_wp2_with fail
  refine (markIntS_any B5 n3 d5 _ _ (1 + (n0 * 4 : Nat)) _ o5 (by omega) (by omega) (by omega)).mono ?_
  rintro e w13 ⟨rfl, om, hgr⟩
  have zw13 := hgr.size
  have hbx := grown_bl hb hgr L5 (by omega)
  have o3 := World.ownsRow.kept o3 hgr (apart_of L3 L5 (by omega))
  have t3 := Sl.of_own ci_len o3 t3.1 (by omega)
  have o6 := World.ownsRow.kept o6 hgr (apart_of L6 L5 (by omega))
  have t6 := Sl.of_own ci_len o6 t6.1 (by omega)
  have hb := hbx
  clear hbx hgr
  clear om
  go_wp2_with fail
  refine (eqIntS_any B6 B3 m6 m3 d6 d3 _ _ _ t6 t3).mono ?_
  rintro e w14 ⟨rfl, hbn⟩
  have zw14 := hbn.le
  have o3 := hbn.own o3
  have t3 := t3.bl hbn
  have o6 := hbn.own o6
  have t6 := t6.bl hbn
  have hb := hb.trans hbn
  clear hbn
  simp only [eqB_self]
  go_wp2_with fail
  refine (markIntS_any B6 m6 d6 _ _ (1) _ o6 (by omega) (by omega) (by omega)).mono ?_
  rintro e w15 ⟨rfl, om, hgr⟩
  have zw15 := hgr.size
  have hbx := grown_bl hb hgr L6 (by omega)
  have o3 := World.ownsRow.kept o3 hgr (apart_of L3 L6 (by omega))
  have t3 := Sl.of_own ci_len o3 t3.1 (by omega)
  have hb := hbx
  clear hbx hgr
  obtain ⟨lm, hlm⟩ := marks_list ci 1 ci_len (fun q => q) (by intro q j hj; rcases j with _ | j <;> first | (simp [ci]; done) | omega) 1 m6
  have og := om
  rw [← hlm.2] at og
  have tg := Sl.of_own ci_len og hlm.1 (by omega)
  have HM := Lib.hid hlm
  clear hlm om
  go_wp2_with fail
  refine (heldIntS_any B6 m6 d6 _ 1 _ tg (by omega) (by omega) (by omega) HM.out.2).mono ?_
  rintro e w16 ⟨rfl, hbn⟩
  have zw16 := hbn.le
  have o3 := hbn.own o3
  have t3 := t3.bl hbn
  have og := hbn.own og
  have tg := tg.bl hbn
  have hb := hb.trans hbn
  clear hbn
  go_wp2_with fail
  refine (toArrivalS_any A0 n0 c0 l0 _ (s0.bl (hb)) hn0).mono ?_
  rintro e w17 ⟨B9, d9, rfl, o9, hbn⟩
  have zw17 := hbn.le
  have o3 := hbn.own o3
  have t3 := t3.bl hbn
  have og := hbn.own og
  have tg := tg.bl hbn
  have hb := hb.trans hbn
  clear hbn
  have L9 := own_lt o9
  have t9 := Sl.of_own Arrival.cs_len o9 HL0.out (by omega)
  go_wp2_with fail
  refine (toIntS_any A3 n3 c3 l3 _ (s3.bl (hb)) hn3).mono ?_
  rintro e w18 ⟨B10, d10, rfl, o10, hbn⟩
  have zw18 := hbn.le
  have o3 := hbn.own o3
  have t3 := t3.bl hbn
  have og := hbn.own og
  have tg := tg.bl hbn
  have o9 := hbn.own o9
  have t9 := t9.bl hbn
  have hb := hb.trans hbn
  clear hbn
  have L10 := own_lt o10
  have t10 := Sl.of_own ci_len o10 HL3.out (by omega)
  go_wp2_with fail
  refine (implLockageTimes_any B9 n0 d9 l0 x1 x2 B10 n3 d10 l3 _ t9 t10 hn0 hn3 (own_cap o9) (own_cap o10)).mono ?_
  rintro e w19 ⟨B11, m11, d11, rfl, o11, hl11, hm11, hbn⟩
  have L11 := own_lt o11
  have t11 := Sl.of_own ci_len o11 hl11 (by omega)
  have HLr11 := Lib.hid hl11
  clear hl11
  have zw19 := hbn.le
  have o3 := hbn.own o3
  have t3 := t3.bl hbn
  have og := hbn.own og
  have tg := tg.bl hbn
  have o9 := hbn.own o9
  have t9 := t9.bl hbn
  have o10 := hbn.own o10
  have t10 := t10.bl hbn
  have hb := hb.trans hbn
  clear hbn
  go_wp2_with fail
  refine (eqIntS_any B11 B3 m11 m3 d11 d3 _ _ _ t11 t3).mono ?_
  rintro e w20 ⟨rfl, hbn⟩
  have zw20 := hbn.le
  have o3 := hbn.own o3
  have t3 := t3.bl hbn
  have og := hbn.own og
  have tg := tg.bl hbn
  have o11 := hbn.own o11
  have t11 := t11.bl hbn
  have hb := hb.trans hbn
  clear hbn
  simp only [eqB_self]
  go_wp2_with fail
  refine (heldIntS_any B6 m6 d6 _ 1 _ tg (by omega) (by omega) (by omega) HM.out.2).mono ?_
  rintro e w21 ⟨rfl, hbn⟩
  have zw21 := hbn.le
  have o3 := hbn.own o3
  have t3 := t3.bl hbn
  have og := hbn.own og
  have tg := tg.bl hbn
  have o11 := hbn.own o11
  have t11 := t11.bl hbn
  have hb := hb.trans hbn
  clear hbn
  go_wp2_with fail
  go_ret
  exact ⟨rfl, hb⟩
namespace fnExactLockageTimesDone
set_option maxRecDepth 100000 in
theorem lifted (os : Os) (started : os.Started) (H : Type) (enc : TypeId × Value → H) :
    ReturnsInHanded {} Try.checked os 9 .any (Rows.fnExactLockageTimesSpec.pre6 enc Try.prog Try.f9 Rows.fnExactLockageTimesRow.domain false) (Rows.fnExactLockageTimesSpec.post enc Try.prog Try.f9 false true false false) := by
  refine returnsInHanded_of_change (C := Try.checked) seatOwn started (by kernel_rfl) Try.func9
    (ChangeSpec.witness6 (enc := enc) (C := Try.checked) false ⟨#[], #[.slice none 0 0, .bool false, .int .i64 0, .slice none 0 0], []⟩ 8 (by kernel_rfl) (by kernel_rfl) (by kernel_rfl) (by kernel_rfl)) ?_
  intro W base args ds gs before hval0 hW hcnd _
  have hval : ∀ (j : Nat) t v, Try.f9.params[j]? = some t → args[j]? = some v → Value.okWide Try.prog W .any base t v := hval0
  have hW' := hW
  obtain ⟨p, q, hA0, hV, rfl, hfz, hnd⟩ := hW
  have hA : DataW.TrodAll enc Try.prog W 0 (fun _ => true) true Try.f9.params.toList args.toList ds p := hA0
  rw [Try.params9] at hA hval
  obtain ⟨v0, vs0, d0, ds0, p0, q0, hargs, rfl, rfl, h0, r0⟩ := trodAll_cons hA
  obtain ⟨v1, vs1, d1, ds1, p1, q1, rfl, rfl, rfl, h1, r1⟩ := trodAll_cons r0
  obtain ⟨v2, vs2, d2, ds2, p2, q2, rfl, rfl, rfl, h2, r2⟩ := trodAll_cons r1
  obtain ⟨v3, vs3, d3, ds3, p3, q3, rfl, rfl, rfl, h3, r3⟩ := trodAll_cons r2
  obtain ⟨rfl, rfl, rfl⟩ := trodAll_nil r3
  obtain rfl : args = #[v0, v1, v2, v3] := by cases args; simp_all
  obtain ⟨rfl, rfl⟩ := trodVars_none hV
  have k0 := h0
  have lt0 : ∀ x ∈ p0, x.block < W.heap.size := by obtain ⟨m, hm⟩ := k0; exact DataW.trod_lt m _ _ _ hm
  obtain ⟨A0, n0, c0, rfl⟩ := okWide_slice Try.underlying22 (hval 0 22 v0 rfl rfl)
  obtain ⟨l0, s0⟩ := sl_of_Arrival Try.underlying22 Try.underlying59 Try.underlying3 Try.underlying4 ⟨rfl, rfl, rfl, rfl⟩ (by kernel_rfl) (by kernel_rfl) h0
  obtain ⟨x1, rfl, rfl, rfl⟩ := open_bool Try.underlying4 (hval 1 4 v1 rfl rfl) h1
  obtain ⟨x2, rfl, rfl, rfl, wx2⟩ := open_int Try.underlying3 (hval 2 3 v2 rfl rfl) h2
  have k3 := h3
  have lt3 : ∀ x ∈ p3, x.block < W.heap.size := by obtain ⟨m, hm⟩ := k3; exact DataW.trod_lt m _ _ _ hm
  obtain ⟨A3, n3, c3, rfl⟩ := okWide_slice Try.underlying31 (hval 3 31 v3 rfl rfl)
  obtain ⟨l3, s3⟩ := sl_of_ints Try.underlying31 Try.underlying3 (by kernel_rfl) h3
  clear hA0 hval0
  refine (walk_FnExactLockageTimes A0 n0 c0 l0 x1 x2 A3 n3 c3 l3 W s0 (int_bounds wx2) s3).mono fun e W' ⟨he, bel⟩ => ?_
  subst he
  exact ⟨_, rfl, _, _, _, [], _, [], hW', trodAll_mk1 (shut_bool Try.underlying4 _), (trodAll_cons_mk (Below.trod seatLaid (by kernel_rfl) (of_decide_eq_true (by kernel_rfl)) k0 bel lt0) (trodAll_cons_mk (shut_bool Try.underlying4 x1) (trodAll_cons_mk (shut_int Try.underlying3 wx2) (trodAll_cons_mk (Below.trod seatLaid (by kernel_rfl) (of_decide_eq_true (by kernel_rfl)) k3 bel lt3) trodAll_mk0)))), rfl, bel.frame _, fun h => by cases h⟩
theorem over : Rows.fnExactLockageTimesRow.holds Try.pinned (OpenSpec.ofChange Rows.fnExactLockageTimesSpec) :=
  OpenClaim.holds_of_wide 9 Try.f9 rfl rfl rfl rfl rfl rfl rfl ⟨rfl, rfl, rfl, rfl, rfl⟩ rfl rfl rfl rfl rfl (by kernel_rfl) Try.func9 (by kernel_rfl)
    (of_decide_eq_true (by kernel_rfl)) (by unfold Func.isWrapper; first | (rw [if_pos (by decide +kernel)]; kernel_rfl) | (rw [if_neg (by decide +kernel)]; exact ⟨rfl, rfl⟩))
    (fun os started H enc _ => lifted os started H enc)
theorem proved : Rows.FnExactLockageTimesSaid := over
#print axioms proved
end fnExactLockageTimesDone

end Go.Proofs.Ytnckpionabokeaa
