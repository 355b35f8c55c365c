/- MoveWater: the law returns true for all lists of basins and all flows. No condition. -/
import Derived.Test.YtpgghmhbkgkkiaaC10f
import Derived.Test.YtpgghmhbkgkkiaaSBasin
import Derived.Deep.RegionHeld3
namespace Go.Proofs.Ytpgghmhbkgkkiaa
open Go.ChangeShapes Go.WideShapes Go.ChangeAt Go.RowKit Go.Deep Go.Joins
set_option maxHeartbeats 1500000 in
theorem walk_FnExactMoveWater (A0 : Option Addr) (n0 c0 : Nat) (l0 : List Basin) (p1 : Flow) (w : World) (s0 : Sl Basin.cs 3 w A0 n0 l0) : Calls Try.prog 7 #[.slice A0 n0 c0, p1.val] w fun e w' => e = .returned (.bool true) ∧ Bl w w' := by
  have bn0 := s0.le
  have HL0 := Lib.hid s0.1
  have Ht1 := Lib.hid (fun w => toFlow_any p1 w)
  have HS1 := Lib.hid (show p1 = ⟨p1.From, p1.To, p1.Volume⟩ from rfl)
  have F00 : ∀ W, Bl (w.alloc (.cells #[.int .i64 p1.From, .int .i64 p1.To, .int .i64 p1.Volume] 30)) W → W.cell? ⟨w.heap.size, 0, none⟩ = some (.int .i64 p1.From) := Bl.all (by go_simp)
  have F01 : ∀ W, Bl (w.alloc (.cells #[.int .i64 p1.From, .int .i64 p1.To, .int .i64 p1.Volume] 30)) W → W.cell? ⟨w.heap.size, 1, none⟩ = some (.int .i64 p1.To) := Bl.all (by go_simp)
  have F02 : ∀ W, Bl (w.alloc (.cells #[.int .i64 p1.From, .int .i64 p1.To, .int .i64 p1.Volume] 30)) W → W.cell? ⟨w.heap.size, 2, none⟩ = some (.int .i64 p1.Volume) := Bl.all (by go_simp)
  have hb := Bl.refl (w.alloc (.cells #[.int .i64 p1.From, .int .i64 p1.To, .int .i64 p1.Volume] 30))
  have hb0 : Hid (Bl w (w.alloc (.cells #[.int .i64 p1.From, .int .i64 p1.To, .int .i64 p1.Volume] 30))) := (Bl.refl w).alloc _
  have Hz0 := Lib.hid (fun w => szBasinS_any A0 n0 c0 (1048576) w bn0 (by omega) (by omega))
  by_cases hs0 : 1048576 < (n0 : Int)
  · rw [if_pos hs0] at Hz0
    go_enter Try.func7, Try.ntmps7
    go_wp2_with fail
    refine (Hz0.out _).mono ?_
    rintro e w' ⟨rfl, hbn⟩
    have hb := hb.trans hbn
    clear hbn
    go_wp2_with fail
    go_ret
    exact ⟨rfl, hb0.out.trans hb⟩
  rw [if_neg hs0] at Hz0
  have hn0 : n0 ≤ 1048576 := by omega
  have hz0 : ¬ 1048576 - (n0 : Int) < 0 := by omega
  go_enter Try.func7, Try.ntmps7
  go_wp2_with fail
  refine (Hz0.out _).mono ?_
  rintro e w' ⟨rfl, hbn⟩
  have hb := hb.trans hbn
  clear hbn
  go_wp2_with fail
  have z0 := (hb0.out.trans hb).le
  have z00 := hb.le
  have hb := hb.drew
  go_wp2_with fail
  go_region_held3 (fun W => W.cell? ⟨w.heap.size, 0, none⟩ = some (.int .i64 p1.From) ∧ W.cell? ⟨w.heap.size, 1, none⟩ = some (.int .i64 p1.To) ∧ W.cell? ⟨w.heap.size, 2, none⟩ = some (.int .i64 p1.Volume)) (first | exact ⟨F00 _ (by with_reducible assumption), F01 _ (by with_reducible assumption), F02 _ (by with_reducible assumption)⟩) (first | (go_at_call 16; refine (toBasinS_any A0 n0 c0 l0 _ (s0.bl (hb0.out.trans (by with_reducible assumption))) hn0).mono ?_; rintro e w1 ⟨B1, d1, rfl, o1, hbn⟩; have zw1 : w'.heap.size ≤ w1.heap.size := hbn.le; have hb := Bl.trans (by with_reducible assumption) hbn; clear hbn; have L1 := own_lt o1; have t1 := Sl.of_own Basin.cs_len o1 HL0.out (by omega)) | (go_at_call 20; refine (Ht1.out _).mono ?_; rintro e w2 ⟨rfl, hbn⟩; have zw2 : w1.heap.size ≤ w2.heap.size := hbn.le; have o1 := hbn.own o1; have t1 := t1.bl hbn; have hb := Bl.trans (by with_reducible assumption) hbn; clear hbn) | (go_at_call 26; refine (specMoveWater_any B1 n0 d1 l0 p1 _ t1 hn0).mono ?_; rintro e w3 ⟨B2, m2, d2, rfl, o2, hl2, hm2, hbn⟩; have zw3 : w2.heap.size ≤ w3.heap.size := hbn.le; have o1 := hbn.own o1; have t1 := t1.bl hbn; have hb := Bl.trans (by with_reducible assumption) hbn; clear hbn; have L2 := own_lt o2; have t2 := Sl.of_own Basin.cs_len o2 hl2 (by omega); have HLr2 := Lib.hid hl2; clear hl2))
  go_wp2_with fail
  refine (toBasinS_any A0 n0 c0 l0 _ (s0.bl (hb0.out.trans hb)) hn0).mono ?_
  rintro e w4 ⟨B3, d3, rfl, o3, hbn⟩
  have zw4 := hbn.le
  have o2 := hbn.own o2
  have t2 := t2.bl hbn
  have hb := hb.trans hbn
  clear hbn
  have L3 := own_lt o3
  have t3 := Sl.of_own Basin.cs_len o3 HL0.out (by omega)
  go_wp2_with fail
  refine (Ht1.out _).mono ?_
  rintro e w5 ⟨rfl, hbn⟩
  have zw5 := hbn.le
  have o2 := hbn.own o2
  have t2 := t2.bl hbn
  have o3 := hbn.own o3
  have t3 := t3.bl hbn
  have hb := hb.trans hbn
  clear hbn
  go_wp2_with fail
  refine (implMoveWater_any B3 n0 d3 l0 p1 _ t3 hn0).mono ?_
  rintro e w6 ⟨B4, m4, d4, rfl, o4, hl4, hm4, hbn⟩
  have L4 := own_lt o4
  have t4 := Sl.of_own Basin.cs_len o4 hl4 (by omega)
  have HLr4 := Lib.hid hl4
  clear hl4
  have zw6 := hbn.le
  have o2 := hbn.own o2
  have t2 := t2.bl hbn
  have o3 := hbn.own o3
  have t3 := t3.bl hbn
  have hb := hb.trans hbn
  clear hbn
  go_wp2_with fail
  refine (eqBasinS_any B4 B2 m4 m2 d4 d2 _ _ _ t4 t2).mono ?_
  rintro e w7 ⟨rfl, hbn⟩
  have zw7 := hbn.le
  have o2 := hbn.own o2
  have t2 := t2.bl hbn
  have o3 := hbn.own o3
  have t3 := t3.bl hbn
  have o4 := hbn.own o4
  have t4 := t4.bl hbn
  have hb := hb.trans hbn
  clear hbn
  simp only [eqB_self]
  go_wp2_with fail
  refine (toBasinS_any A0 n0 c0 l0 _ (s0.bl (hb0.out.trans hb)) hn0).mono ?_
  rintro e w8 ⟨B5, d5, rfl, o5, hbn⟩
  have zw8 := hbn.le
  have o2 := hbn.own o2
  have t2 := t2.bl hbn
  have o3 := hbn.own o3
  have t3 := t3.bl hbn
  have o4 := hbn.own o4
  have t4 := t4.bl hbn
  have hb := hb.trans hbn
  clear hbn
  have L5 := own_lt o5
  have t5 := Sl.of_own Basin.cs_len o5 HL0.out (by omega)
  go_wp2_with fail
  refine (eqBasinS_any B3 B5 n0 n0 d3 d5 _ _ _ t3 t5).mono ?_
  rintro e w9 ⟨rfl, hbn⟩
  have zw9 := hbn.le
  have o2 := hbn.own o2
  have t2 := t2.bl hbn
  have o3 := hbn.own o3
  have t3 := t3.bl hbn
  have o4 := hbn.own o4
  have t4 := t4.bl hbn
  have o5 := hbn.own o5
  have t5 := t5.bl hbn
  have hb := hb.trans hbn
  clear hbn
  simp only [eqB_self]
  go_wp2_with fail
  refine (markBasinS_any B3 n0 d3 _ _ (1) _ o3 (by omega) (by omega) (by omega)).mono ?_
  rintro e w10 ⟨rfl, om, hgr⟩
  have zw10 := hgr.size
  have hbx := grown_bl hb hgr L3 (by omega)
  have o2 := World.ownsRow.kept o2 hgr (apart_of L2 L3 (by omega))
  have t2 := Sl.of_own Basin.cs_len o2 t2.1 (by omega)
  have o4 := World.ownsRow.kept o4 hgr (apart_of L4 L3 (by omega))
  have t4 := Sl.of_own Basin.cs_len o4 t4.1 (by omega)
  have hb := hbx
  clear hbx hgr
  clear om
  go_wp2_with fail
  refine (eqBasinS_any B4 B2 m4 m2 d4 d2 _ _ _ t4 t2).mono ?_
  rintro e w11 ⟨rfl, hbn⟩
  have zw11 := hbn.le
  have o2 := hbn.own o2
  have t2 := t2.bl hbn
  have o4 := hbn.own o4
  have t4 := t4.bl hbn
  have hb := hb.trans hbn
  clear hbn
  simp only [eqB_self]
  go_wp2_with fail
  refine (markBasinS_any B4 m4 d4 _ _ (1) _ o4 (by omega) (by omega) (by omega)).mono ?_
  rintro e w12 ⟨rfl, om, hgr⟩
  have zw12 := hgr.size
  have hbx := grown_bl hb hgr L4 (by omega)
  have o2 := World.ownsRow.kept o2 hgr (apart_of L2 L4 (by omega))
  have t2 := Sl.of_own Basin.cs_len o2 t2.1 (by omega)
  have hb := hbx
  clear hbx hgr
  obtain ⟨lm, hlm⟩ := marks_list Basin.cs 3 Basin.cs_len (fun q => ⟨q, q + 1, q + 2⟩) (by intro q j hj; rcases j with _ | _ | _ | j <;> first | (simp [Basin.cs]; done) | omega) 1 m4
  have og := om
  rw [← hlm.2] at og
  have tg := Sl.of_own Basin.cs_len og hlm.1 (by omega)
  have HM := Lib.hid hlm
  clear hlm om
  go_wp2_with fail
  refine (heldBasinS_any B4 m4 d4 _ 1 _ tg (by omega) (by omega) (by omega) HM.out.2).mono ?_
  rintro e w13 ⟨rfl, hbn⟩
  have zw13 := hbn.le
  have o2 := hbn.own o2
  have t2 := t2.bl hbn
  have og := hbn.own og
  have tg := tg.bl hbn
  have hb := hb.trans hbn
  clear hbn
  have o2 := World.ownsRow.drew o2
  have t2 := t2.drew
  have og := World.ownsRow.drew og
  have tg := tg.drew
  have hb := hb.drew
  go_wp2_with fail
  go_region_held3 (fun W => W.cell? ⟨w.heap.size, 0, none⟩ = some (.int .i64 p1.From) ∧ W.cell? ⟨w.heap.size, 1, none⟩ = some (.int .i64 p1.To) ∧ W.cell? ⟨w.heap.size, 2, none⟩ = some (.int .i64 p1.Volume)) (first | exact ⟨F00 _ (by with_reducible assumption), F01 _ (by with_reducible assumption), F02 _ (by with_reducible assumption)⟩) (first | (go_at_call 16; refine (toBasinS_any A0 n0 c0 l0 _ (s0.bl (hb0.out.trans (by with_reducible assumption))) hn0).mono ?_; rintro e w14 ⟨B6, d6, rfl, o6, hbn⟩; have zw14 : w13.heap.size ≤ w14.heap.size := hbn.le; have o2 := hbn.own o2; have t2 := t2.bl hbn; have og := hbn.own og; have tg := tg.bl hbn; have hb := Bl.trans (by with_reducible assumption) hbn; clear hbn; have L6 := own_lt o6; have t6 := Sl.of_own Basin.cs_len o6 HL0.out (by omega)) | (go_at_call 20; refine (Ht1.out _).mono ?_; rintro e w15 ⟨rfl, hbn⟩; have zw15 : w14.heap.size ≤ w15.heap.size := hbn.le; have o2 := hbn.own o2; have t2 := t2.bl hbn; have og := hbn.own og; have tg := tg.bl hbn; have o6 := hbn.own o6; have t6 := t6.bl hbn; have hb := Bl.trans (by with_reducible assumption) hbn; clear hbn) | (go_at_call 27; refine (implMoveWater_any B6 n0 d6 l0 p1 _ t6 hn0).mono ?_; rintro e w16 ⟨B7, m7, d7, rfl, o7, hl7, hm7, hbn⟩; have zw16 : w15.heap.size ≤ w16.heap.size := hbn.le; have o2 := hbn.own o2; have t2 := t2.bl hbn; have og := hbn.own og; have tg := tg.bl hbn; have o6 := hbn.own o6; have t6 := t6.bl hbn; have hb := Bl.trans (by with_reducible assumption) hbn; clear hbn; have L7 := own_lt o7; have t7 := Sl.of_own Basin.cs_len o7 hl7 (by omega); have HLr7 := Lib.hid hl7; clear hl7))
  go_wp2_with fail
  refine (eqBasinS_any B7 B2 m7 m2 d7 d2 _ _ _ t7 t2).mono ?_
  rintro e w17 ⟨rfl, hbn⟩
  have zw17 := hbn.le
  have o2 := hbn.own o2
  have t2 := t2.bl hbn
  have og := hbn.own og
  have tg := tg.bl hbn
  have o7 := hbn.own o7
  have t7 := t7.bl hbn
  have hb := hb.trans hbn
  clear hbn
  simp only [eqB_self]
  go_wp2_with fail
  refine (heldBasinS_any B4 m4 d4 _ 1 _ tg (by omega) (by omega) (by omega) HM.out.2).mono ?_
  rintro e w18 ⟨rfl, hbn⟩
  have zw18 := hbn.le
  have o2 := hbn.own o2
  have t2 := t2.bl hbn
  have og := hbn.own og
  have tg := tg.bl hbn
  have o7 := hbn.own o7
  have t7 := t7.bl hbn
  have hb := hb.trans hbn
  clear hbn
  go_wp2_with fail
  go_ret
  exact ⟨rfl, hb0.out.trans hb⟩
namespace fnExactMoveWaterDone
set_option maxRecDepth 100000 in
theorem lifted (os : Os) (started : os.Started) (H : Type) (enc : TypeId × Value → H) :
    ReturnsInHanded {} Try.checked os 7 .any (Rows.fnExactMoveWaterSpec.pre6 enc Try.prog Try.f7 Rows.fnExactMoveWaterRow.domain false) (Rows.fnExactMoveWaterSpec.post enc Try.prog Try.f7 false true false false) := by
  refine returnsInHanded_of_change (C := Try.checked) seatOwn started (by kernel_rfl) Try.func7
    (ChangeSpec.witness6 (enc := enc) (C := Try.checked) false ⟨#[], #[.slice none 0 0, .agg #[.int .i64 0, .int .i64 0, .int .i64 0]], []⟩ 8 (by kernel_rfl) (by kernel_rfl) (by kernel_rfl) (by kernel_rfl)) ?_
  intro W base args ds gs before hval0 hW hcnd _
  have hval : ∀ (j : Nat) t v, Try.f7.params[j]? = some t → args[j]? = some v → Value.okWide Try.prog W .any base t v := hval0
  have hW' := hW
  obtain ⟨p, q, hA0, hV, rfl, hfz, hnd⟩ := hW
  have hA : DataW.TrodAll enc Try.prog W 0 (fun _ => true) true Try.f7.params.toList args.toList ds p := hA0
  rw [Try.params7] at hA hval
  obtain ⟨v0, vs0, d0, ds0, p0, q0, hargs, rfl, rfl, h0, r0⟩ := trodAll_cons hA
  obtain ⟨v1, vs1, d1, ds1, p1, q1, rfl, rfl, rfl, h1, r1⟩ := trodAll_cons r0
  obtain ⟨rfl, rfl, rfl⟩ := trodAll_nil r1
  obtain rfl : args = #[v0, v1] := by cases args; simp_all
  obtain ⟨rfl, rfl⟩ := trodVars_none hV
  have k0 := h0
  have lt0 : ∀ x ∈ p0, x.block < W.heap.size := by obtain ⟨m, hm⟩ := k0; exact DataW.trod_lt m _ _ _ hm
  obtain ⟨A0, n0, c0, rfl⟩ := okWide_slice Try.underlying22 (hval 0 22 v0 rfl rfl)
  obtain ⟨l0, s0⟩ := sl_of_Basin Try.underlying22 Try.underlying71 Try.underlying3 ⟨rfl, rfl, rfl⟩ (by kernel_rfl) (by kernel_rfl) h0
  have k1 := h1
  have lt1 : ∀ x ∈ p1, x.block < W.heap.size := by obtain ⟨m, hm⟩ := k1; exact DataW.trod_lt m _ _ _ hm
  obtain ⟨c1_0, c1_1, c1_2, y1_0, y1_1, y1_2, nn1, rfl, rfl, rfl, hy1_0, hy1_1, hy1_2⟩ := open_agg3 Try.underlying30 (by kernel_rfl) (by kernel_rfl) (hval 1 30 v1 rfl rfl) h1
  obtain ⟨a1_0, e1_0, _, _⟩ := DataW.trod_int Try.underlying3 hy1_0
  obtain ⟨a1_1, e1_1, _, _⟩ := DataW.trod_int Try.underlying3 hy1_1
  obtain ⟨a1_2, e1_2, _, _⟩ := DataW.trod_int Try.underlying3 hy1_2
  simp at e1_0 e1_1 e1_2
  subst e1_0 e1_1 e1_2
  clear hA0 hval0
  refine (walk_FnExactMoveWater A0 n0 c0 l0 ⟨a1_0, a1_1, a1_2⟩ W s0).mono fun e W' ⟨he, bel⟩ => ?_
  subst he
  exact ⟨_, rfl, _, _, _, [], _, [], hW', trodAll_mk1 (shut_bool Try.underlying4 _), (trodAll_cons_mk (Below.trod seatLaid (by kernel_rfl) (of_decide_eq_true (by kernel_rfl)) k0 bel lt0) (trodAll_cons_mk (Below.trod seatLaid (by kernel_rfl) (of_decide_eq_true (by kernel_rfl)) k1 bel lt1) trodAll_mk0)), rfl, bel.frame _, fun h => by cases h⟩
theorem over : Rows.fnExactMoveWaterRow.holds Try.pinned (OpenSpec.ofChange Rows.fnExactMoveWaterSpec) :=
  OpenClaim.holds_of_wide 7 Try.f7 rfl rfl rfl rfl rfl rfl rfl ⟨rfl, rfl, rfl, rfl, rfl⟩ rfl rfl rfl rfl rfl (by kernel_rfl) Try.func7 (by kernel_rfl)
    (of_decide_eq_true (by kernel_rfl)) (by unfold Func.isWrapper; first | (rw [if_pos (by decide +kernel)]; kernel_rfl) | (rw [if_neg (by decide +kernel)]; exact ⟨rfl, rfl⟩))
    (fun os started H enc _ => lifted os started H enc)
theorem proved : Rows.FnExactMoveWaterSaid := over
#print axioms proved
end fnExactMoveWaterDone

end Go.Proofs.Ytpgghmhbkgkkiaa
