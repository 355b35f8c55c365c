/- ShortestRow: the law returns true for every list of cargo. No condition. -/
import Derived.Test.YtkeaobjcfkmjmaaC7k
import Derived.Test.YtkeaobjcfkmjmaaSCargo
namespace Go.Proofs.Ytkeaobjcfkmjmaa
open Go.ChangeShapes Go.WideShapes Go.ChangeAt Go.RowKit Go.Deep Go.Joins
set_option maxHeartbeats 1500000 in
theorem walk_FnExactShortestRow (A0 : Option Addr) (n0 c0 : Nat) (l0 : List Cargo) (w : World) (s0 : Sl Cargo.cs 3 w A0 n0 l0) : Calls Try.prog 11 #[.slice A0 n0 c0] w fun e w' => e = .returned (.bool true) ∧ Bl w w' := by
  have bn0 := s0.le
  have HL0 := Lib.hid s0.1
  have hb := Bl.refl w
  have Hz0 := Lib.hid (fun w => szCargoS_any A0 n0 c0 (1048576) w bn0 (by omega) (by omega))
  by_cases hs0 : 1048576 < (n0 : Int)
  · rw [if_pos hs0] at Hz0
    go_enter Try.func11, Try.ntmps11
    go_wp2_with fail
    refine (Hz0.out _).mono ?_
    rintro e w' ⟨rfl, hbn⟩
    have hb := hb.trans hbn
    clear hbn
    go_wp2_with fail
    go_ret
    exact ⟨rfl, hb⟩
  rw [if_neg hs0] at Hz0
  have hn0 : n0 ≤ 1048576 := by omega
  have hz0 : ¬ 1048576 - (n0 : Int) < 0 := by omega
  go_enter Try.func11, Try.ntmps11
  go_wp2_with fail
  refine (Hz0.out _).mono ?_
  rintro e w' ⟨rfl, hbn⟩
  have hb := hb.trans hbn
  clear hbn
  go_wp2_with fail
  have z0 := hb.le
  go_wp2_with fail
  refine (toCargoS_any A0 n0 c0 l0 _ (s0.bl (hb)) hn0).mono ?_
  rintro e w1 ⟨B1, d1, rfl, o1, hbn⟩
  have zw1 := hbn.le
  have hb := hb.trans hbn
  clear hbn
  have L1 := own_lt o1
  have t1 := Sl.of_own Cargo.cs_len o1 HL0.out (by omega)
  go_wp2_with fail
  refine (specShortestRow_any B1 n0 d1 l0 _ t1 ).mono ?_
  rintro e w2 ⟨B2, m2, d2, rfl, o2, hl2, hm2, hbn⟩
  have L2 := own_lt o2
  have t2 := Sl.of_own ci_len o2 hl2 (by omega)
  have HLr2 := Lib.hid hl2
  clear hl2
  have zw2 := hbn.le
  have o1 := hbn.own o1
  have t1 := t1.bl hbn
  have hb := hb.trans hbn
  clear hbn
  go_wp2_with fail
  refine (toCargoS_any A0 n0 c0 l0 _ (s0.bl (hb)) hn0).mono ?_
  rintro e w3 ⟨B3, d3, rfl, o3, hbn⟩
  have zw3 := hbn.le
  have o2 := hbn.own o2
  have t2 := t2.bl hbn
  have hb := hb.trans hbn
  clear hbn
  have L3 := own_lt o3
  have t3 := Sl.of_own Cargo.cs_len o3 HL0.out (by omega)
  go_wp2_with fail
  refine (implShortestRow_any B3 n0 d3 l0 _ t3 (own_cap o3)).mono ?_
  rintro e w4 ⟨B4, m4, d4, rfl, o4, hl4, hm4, hbn⟩
  have L4 := own_lt o4
  have t4 := Sl.of_own ci_len o4 hl4 (by omega)
  have HLr4 := Lib.hid hl4
  clear hl4
  have zw4 := hbn.le
  have o2 := hbn.own o2
  have t2 := t2.bl hbn
  have o3 := hbn.own o3
  have t3 := t3.bl hbn
  have hb := hb.trans hbn
  clear hbn
  go_wp2_with fail
  refine (eqIntS_any B4 B2 m4 m2 d4 d2 _ _ _ t4 t2).mono ?_
  rintro e w5 ⟨rfl, hbn⟩
  have zw5 := hbn.le
  have o2 := hbn.own o2
  have t2 := t2.bl hbn
  have o3 := hbn.own o3
  have t3 := t3.bl hbn
  have o4 := hbn.own o4
  have t4 := t4.bl hbn
  have hb := hb.trans hbn
  clear hbn
  simp only [eqB_self]
  go_wp2_with fail
  refine (toCargoS_any A0 n0 c0 l0 _ (s0.bl (hb)) hn0).mono ?_
  rintro e w6 ⟨B5, d5, rfl, o5, hbn⟩
  have zw6 := hbn.le
  have o2 := hbn.own o2
  have t2 := t2.bl hbn
  have o3 := hbn.own o3
  have t3 := t3.bl hbn
  have o4 := hbn.own o4
  have t4 := t4.bl hbn
  have hb := hb.trans hbn
  clear hbn
  have L5 := own_lt o5
  have t5 := Sl.of_own Cargo.cs_len o5 HL0.out (by omega)
  go_wp2_with fail
  refine (eqCargoS_any B3 B5 n0 n0 d3 d5 _ _ _ t3 t5).mono ?_
  rintro e w7 ⟨rfl, hbn⟩
  have zw7 := hbn.le
  have o2 := hbn.own o2
  have t2 := t2.bl hbn
  have o3 := hbn.own o3
  have t3 := t3.bl hbn
  have o4 := hbn.own o4
  have t4 := t4.bl hbn
  have o5 := hbn.own o5
  have t5 := t5.bl hbn
  have hb := hb.trans hbn
  clear hbn
  simp only [eqB_self]
  go_wp2_with fail
  refine (markCargoS_any B3 n0 d3 _ _ (1) _ o3 (by omega) (by omega) (by omega)).mono ?_
  rintro e w8 ⟨rfl, om, hgr⟩
  have zw8 := hgr.size
  have hbx := grown_bl hb hgr L3 (by omega)
  have o2 := World.ownsRow.kept o2 hgr (apart_of L2 L3 (by omega))
  have t2 := Sl.of_own ci_len o2 t2.1 (by omega)
  have o4 := World.ownsRow.kept o4 hgr (apart_of L4 L3 (by omega))
  have t4 := Sl.of_own ci_len o4 t4.1 (by omega)
  have hb := hbx
  clear hbx hgr
  clear om
  go_wp2_with fail
  refine (eqIntS_any B4 B2 m4 m2 d4 d2 _ _ _ t4 t2).mono ?_
  rintro e w9 ⟨rfl, hbn⟩
  have zw9 := hbn.le
  have o2 := hbn.own o2
  have t2 := t2.bl hbn
  have o4 := hbn.own o4
  have t4 := t4.bl hbn
  have hb := hb.trans hbn
  clear hbn
  simp only [eqB_self]
  go_wp2_with fail
  refine (markIntS_any B4 m4 d4 _ _ (1) _ o4 (by omega) (by omega) (by omega)).mono ?_
  rintro e w10 ⟨rfl, om, hgr⟩
  have zw10 := hgr.size
  have hbx := grown_bl hb hgr L4 (by omega)
  have o2 := World.ownsRow.kept o2 hgr (apart_of L2 L4 (by omega))
  have t2 := Sl.of_own ci_len o2 t2.1 (by omega)
  have hb := hbx
  clear hbx hgr
  obtain ⟨lm, hlm⟩ := marks_list ci 1 ci_len (fun q => q) (by intro q j hj; rcases j with _ | j <;> first | (simp [ci]; done) | omega) 1 m4
  have og := om
  rw [← hlm.2] at og
  have tg := Sl.of_own ci_len og hlm.1 (by omega)
  have HM := Lib.hid hlm
  clear hlm om
  go_wp2_with fail
  refine (heldIntS_any B4 m4 d4 _ 1 _ tg (by omega) (by omega) (by omega) HM.out.2).mono ?_
  rintro e w11 ⟨rfl, hbn⟩
  have zw11 := hbn.le
  have o2 := hbn.own o2
  have t2 := t2.bl hbn
  have og := hbn.own og
  have tg := tg.bl hbn
  have hb := hb.trans hbn
  clear hbn
  go_wp2_with fail
  refine (toCargoS_any A0 n0 c0 l0 _ (s0.bl (hb)) hn0).mono ?_
  rintro e w12 ⟨B6, d6, rfl, o6, hbn⟩
  have zw12 := hbn.le
  have o2 := hbn.own o2
  have t2 := t2.bl hbn
  have og := hbn.own og
  have tg := tg.bl hbn
  have hb := hb.trans hbn
  clear hbn
  have L6 := own_lt o6
  have t6 := Sl.of_own Cargo.cs_len o6 HL0.out (by omega)
  go_wp2_with fail
  refine (implShortestRow_any B6 n0 d6 l0 _ t6 (own_cap o6)).mono ?_
  rintro e w13 ⟨B7, m7, d7, rfl, o7, hl7, hm7, hbn⟩
  have L7 := own_lt o7
  have t7 := Sl.of_own ci_len o7 hl7 (by omega)
  have HLr7 := Lib.hid hl7
  clear hl7
  have zw13 := hbn.le
  have o2 := hbn.own o2
  have t2 := t2.bl hbn
  have og := hbn.own og
  have tg := tg.bl hbn
  have o6 := hbn.own o6
  have t6 := t6.bl hbn
  have hb := hb.trans hbn
  clear hbn
  go_wp2_with fail
  refine (eqIntS_any B7 B2 m7 m2 d7 d2 _ _ _ t7 t2).mono ?_
  rintro e w14 ⟨rfl, hbn⟩
  have zw14 := hbn.le
  have o2 := hbn.own o2
  have t2 := t2.bl hbn
  have og := hbn.own og
  have tg := tg.bl hbn
  have o7 := hbn.own o7
  have t7 := t7.bl hbn
  have hb := hb.trans hbn
  clear hbn
  simp only [eqB_self]
  go_wp2_with fail
  refine (heldIntS_any B4 m4 d4 _ 1 _ tg (by omega) (by omega) (by omega) HM.out.2).mono ?_
  rintro e w15 ⟨rfl, hbn⟩
  have zw15 := hbn.le
  have o2 := hbn.own o2
  have t2 := t2.bl hbn
  have og := hbn.own og
  have tg := tg.bl hbn
  have o7 := hbn.own o7
  have t7 := t7.bl hbn
  have hb := hb.trans hbn
  clear hbn
  go_wp2_with fail
  go_ret
  exact ⟨rfl, hb⟩
namespace fnExactShortestRowDone
set_option maxRecDepth 100000 in
theorem lifted (os : Os) (started : os.Started) (H : Type) (enc : TypeId × Value → H) :
    ReturnsInHanded {} Try.checked os 11 .any (Rows.fnExactShortestRowSpec.pre6 enc Try.prog Try.f11 Rows.fnExactShortestRowRow.domain false) (Rows.fnExactShortestRowSpec.post enc Try.prog Try.f11 false true false false) := by
  refine returnsInHanded_of_change (C := Try.checked) seatOwn started (by kernel_rfl) Try.func11
    (ChangeSpec.witness6 (enc := enc) (C := Try.checked) false ⟨#[], #[.slice none 0 0], []⟩ 8 (by kernel_rfl) (by kernel_rfl) (by kernel_rfl) (by kernel_rfl)) ?_
  intro W base args ds gs before hval0 hW hcnd _
  have hval : ∀ (j : Nat) t v, Try.f11.params[j]? = some t → args[j]? = some v → Value.okWide Try.prog W .any base t v := hval0
  have hW' := hW
  obtain ⟨p, q, hA0, hV, rfl, hfz, hnd⟩ := hW
  have hA : DataW.TrodAll enc Try.prog W 0 (fun _ => true) true Try.f11.params.toList args.toList ds p := hA0
  rw [Try.params11] at hA hval
  obtain ⟨v0, vs0, d0, ds0, p0, q0, hargs, rfl, rfl, h0, r0⟩ := trodAll_cons hA
  obtain ⟨rfl, rfl, rfl⟩ := trodAll_nil r0
  obtain rfl : args = #[v0] := by cases args; simp_all
  obtain ⟨rfl, rfl⟩ := trodVars_none hV
  have k0 := h0
  have lt0 : ∀ x ∈ p0, x.block < W.heap.size := by obtain ⟨m, hm⟩ := k0; exact DataW.trod_lt m _ _ _ hm
  obtain ⟨A0, n0, c0, rfl⟩ := okWide_slice Try.underlying25 (hval 0 25 v0 rfl rfl)
  obtain ⟨l0, s0⟩ := sl_of_Cargo Try.underlying25 Try.underlying66 Try.underlying3 ⟨rfl, rfl, rfl⟩ (by kernel_rfl) (by kernel_rfl) h0
  clear hA0 hval0
  refine (walk_FnExactShortestRow A0 n0 c0 l0 W s0).mono fun e W' ⟨he, bel⟩ => ?_
  subst he
  exact ⟨_, rfl, _, _, _, [], _, [], hW', trodAll_mk1 (shut_bool Try.underlying4 _), (trodAll_cons_mk (Below.trod seatLaid (by kernel_rfl) (of_decide_eq_true (by kernel_rfl)) k0 bel lt0) trodAll_mk0), rfl, bel.frame _, fun h => by cases h⟩
theorem over : Rows.fnExactShortestRowRow.holds Try.pinned (OpenSpec.ofChange Rows.fnExactShortestRowSpec) :=
  OpenClaim.holds_of_wide 11 Try.f11 rfl rfl rfl rfl rfl rfl rfl ⟨rfl, rfl, rfl, rfl, rfl⟩ rfl rfl rfl rfl rfl (by kernel_rfl) Try.func11 (by kernel_rfl)
    (of_decide_eq_true (by kernel_rfl)) (by unfold Func.isWrapper; first | (rw [if_pos (by decide +kernel)]; kernel_rfl) | (rw [if_neg (by decide +kernel)]; exact ⟨rfl, rfl⟩))
    (fun os started H enc _ => lifted os started H enc)
theorem proved : Rows.FnExactShortestRowSaid := over
#print axioms proved
end fnExactShortestRowDone

end Go.Proofs.Ytkeaobjcfkmjmaa
