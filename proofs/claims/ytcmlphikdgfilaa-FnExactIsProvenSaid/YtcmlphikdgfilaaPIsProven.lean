/- IsProven: the law returns true for all arguments. No condition. -/
import Derived.Test.YtcmlphikdgfilaaC9e
import Derived.Test.YtcmlphikdgfilaaSArrival
namespace Go.Proofs.Ytcmlphikdgfilaa
open Go.ChangeShapes Go.WideShapes Go.ChangeAt Go.RowKit Go.Deep Go.Joins
set_option maxHeartbeats 1500000 in
theorem walk_FnExactIsProven (A0 : Option Addr) (n0 c0 : Nat) (l0 : List Arrival) (x1 : Bool) (x2 : Int) (A3 : Option Addr) (n3 c3 : Nat) (l3 : List Int) (w : World) (s0 : Sl Arrival.cs 4 w A0 n0 l0) (bx2 : -9223372036854775808 ≤ x2 ∧ x2 ≤ 9223372036854775807) (s3 : Sl ci 1 w A3 n3 l3) : Calls Try.prog 9 #[.slice A0 n0 c0, .bool x1, .int .i64 x2, .slice A3 n3 c3] w fun e w' => e = .returned (.bool true) ∧ Bl w w' := by
  obtain ⟨bxl2, bxu2⟩ := bx2
  have bn0 := s0.le
  have HL0 := Lib.hid s0.1
  have bn3 := s3.le
  have HL3 := Lib.hid s3.1
  have hb := Bl.refl w
  by_cases hs3 : (1048576 : Int) < n3
  · go_enter Try.func9, Try.ntmps9
    go_wp2_with fail
    go_ret
    exact ⟨rfl, hb⟩
  have hn3 : n3 ≤ 1048576 := by omega
  have Hz0 := Lib.hid (fun w => szArrivalS_any A0 n0 c0 (1048576) w bn0 (by omega) (by omega))
  by_cases hs0 : 1048576 < (n0 : Int)
  · rw [if_pos hs0] at Hz0
    go_enter Try.func9, Try.ntmps9
    go_wp2_with fail
    refine (Hz0.out _).mono ?_
    rintro e w' ⟨rfl, hbn⟩
    have hb := hb.trans hbn
    clear hbn
    go_wp2_with fail
    go_ret
    exact ⟨rfl, hb⟩
  rw [if_neg hs0] at Hz0
  have hn0 : n0 ≤ 1048576 := by omega
  have hz0 : ¬ 1048576 - (n0 : Int) < 0 := by omega
  go_enter Try.func9, Try.ntmps9
  go_wp2_with fail
  refine (Hz0.out _).mono ?_
  rintro e w' ⟨rfl, hbn⟩
  have hb := hb.trans hbn
  clear hbn
  go_wp2_with fail
  have z0 := hb.le
  go_wp2_with fail
  refine (toArrivalS_any A0 n0 c0 l0 _ (s0.bl (hb)) hn0).mono ?_
  rintro e w1 ⟨B1, d1, rfl, o1, hbn⟩
  have zw1 := hbn.le
  have hb := hb.trans hbn
  clear hbn
  have L1 := own_lt o1
  have t1 := Sl.of_own Arrival.cs_len o1 HL0.out (by omega)
  go_wp2_with fail
  refine (toIntS_any A3 n3 c3 l3 _ (s3.bl (hb)) hn3).mono ?_
  rintro e w2 ⟨B2, d2, rfl, o2, hbn⟩
  have zw2 := hbn.le
  have o1 := hbn.own o1
  have t1 := t1.bl hbn
  have hb := hb.trans hbn
  clear hbn
  have L2 := own_lt o2
  have t2 := Sl.of_own ci_len o2 HL3.out (by omega)
  go_wp2_with fail
  refine (specIsProven_any B1 n0 d1 l0 x1 x2 B2 n3 d2 l3 _ t1 t2 hn0 hn3 (own_cap o1) (own_cap o2)).mono ?_
  rintro e w3 ⟨rfl, hbn⟩
  have zw3 := hbn.le
  have o1 := hbn.own o1
  have t1 := t1.bl hbn
  have o2 := hbn.own o2
  have t2 := t2.bl hbn
  have hb := hb.trans hbn
  clear hbn
  go_wp2_with fail
  refine (toArrivalS_any A0 n0 c0 l0 _ (s0.bl (hb)) hn0).mono ?_
  rintro e w4 ⟨B3, d3, rfl, o3, hbn⟩
  have zw4 := hbn.le
  have hb := hb.trans hbn
  clear hbn
  have L3 := own_lt o3
  have t3 := Sl.of_own Arrival.cs_len o3 HL0.out (by omega)
  go_wp2_with fail
  refine (toIntS_any A3 n3 c3 l3 _ (s3.bl (hb)) hn3).mono ?_
  rintro e w5 ⟨B4, d4, rfl, o4, hbn⟩
  have zw5 := hbn.le
  have o3 := hbn.own o3
  have t3 := t3.bl hbn
  have hb := hb.trans hbn
  clear hbn
  have L4 := own_lt o4
  have t4 := Sl.of_own ci_len o4 HL3.out (by omega)
  go_wp2_with fail
  refine (implIsProven_any B3 n0 d3 l0 x1 x2 B4 n3 d4 l3 _ t3 t4 hn0 hn3 (own_cap o3) (own_cap o4)).mono ?_
  rintro e w6 ⟨rfl, hbn⟩
  have zw6 := hbn.le
  have o3 := hbn.own o3
  have t3 := t3.bl hbn
  have o4 := hbn.own o4
  have t4 := t4.bl hbn
  have hb := hb.trans hbn
  clear hbn
  go_wp2_with fail
  refine (toArrivalS_any A0 n0 c0 l0 _ (s0.bl (hb)) hn0).mono ?_
  rintro e w7 ⟨B5, d5, rfl, o5, hbn⟩
  have zw7 := hbn.le
  have o3 := hbn.own o3
  have t3 := t3.bl hbn
  have o4 := hbn.own o4
  have t4 := t4.bl hbn
  have hb := hb.trans hbn
  clear hbn
  have L5 := own_lt o5
  have t5 := Sl.of_own Arrival.cs_len o5 HL0.out (by omega)
  go_wp2_with fail
  refine (eqArrivalS_any B3 B5 n0 n0 d3 d5 _ _ _ t3 t5).mono ?_
  rintro e w8 ⟨rfl, hbn⟩
  have zw8 := hbn.le
  have o3 := hbn.own o3
  have t3 := t3.bl hbn
  have o4 := hbn.own o4
  have t4 := t4.bl hbn
  have o5 := hbn.own o5
  have t5 := t5.bl hbn
  have hb := hb.trans hbn
  clear hbn
  simp only [eqB_self]
  go_wp2_with fail
  refine (toIntS_any A3 n3 c3 l3 _ (s3.bl (hb)) hn3).mono ?_
  rintro e w9 ⟨B6, d6, rfl, o6, hbn⟩
  have zw9 := hbn.le
  have o3 := hbn.own o3
  have t3 := t3.bl hbn
  have o4 := hbn.own o4
  have t4 := t4.bl hbn
  have hb := hb.trans hbn
  clear hbn
  have L6 := own_lt o6
  have t6 := Sl.of_own ci_len o6 HL3.out (by omega)
  go_wp2_with fail
  refine (eqIntS_any B4 B6 n3 n3 d4 d6 _ _ _ t4 t6).mono ?_
  rintro e w10 ⟨rfl, hbn⟩
  have zw10 := hbn.le
  have o3 := hbn.own o3
  have t3 := t3.bl hbn
  have o4 := hbn.own o4
  have t4 := t4.bl hbn
  have o6 := hbn.own o6
  have t6 := t6.bl hbn
  have hb := hb.trans hbn
  clear hbn
  simp only [eqB_self]
  go_wp2_with fail
  go_ret
  exact ⟨rfl, hb⟩
namespace fnExactIsProvenDone
set_option maxRecDepth 100000 in
theorem lifted (os : Os) (started : os.Started) (H : Type) (enc : TypeId × Value → H) :
    ReturnsInHanded {} Try.checked os 9 .any (Rows.fnExactIsProvenSpec.pre6 enc Try.prog Try.f9 Rows.fnExactIsProvenRow.domain false) (Rows.fnExactIsProvenSpec.post enc Try.prog Try.f9 false true false false) := by
  refine returnsInHanded_of_change (C := Try.checked) seatOwn started (by kernel_rfl) Try.func9
    (ChangeSpec.witness6 (enc := enc) (C := Try.checked) false ⟨#[], #[.slice none 0 0, .bool false, .int .i64 0, .slice none 0 0], []⟩ 8 (by kernel_rfl) (by kernel_rfl) (by kernel_rfl) (by kernel_rfl)) ?_
  intro W base args ds gs before hval0 hW hcnd _
  have hval : ∀ (j : Nat) t v, Try.f9.params[j]? = some t → args[j]? = some v → Value.okWide Try.prog W .any base t v := hval0
  have hW' := hW
  obtain ⟨p, q, hA0, hV, rfl, hfz, hnd⟩ := hW
  have hA : DataW.TrodAll enc Try.prog W 0 (fun _ => true) true Try.f9.params.toList args.toList ds p := hA0
  rw [Try.params9] at hA hval
  obtain ⟨v0, vs0, d0, ds0, p0, q0, hargs, rfl, rfl, h0, r0⟩ := trodAll_cons hA
  obtain ⟨v1, vs1, d1, ds1, p1, q1, rfl, rfl, rfl, h1, r1⟩ := trodAll_cons r0
  obtain ⟨v2, vs2, d2, ds2, p2, q2, rfl, rfl, rfl, h2, r2⟩ := trodAll_cons r1
  obtain ⟨v3, vs3, d3, ds3, p3, q3, rfl, rfl, rfl, h3, r3⟩ := trodAll_cons r2
  obtain ⟨rfl, rfl, rfl⟩ := trodAll_nil r3
  obtain rfl : args = #[v0, v1, v2, v3] := by cases args; simp_all
  obtain ⟨rfl, rfl⟩ := trodVars_none hV
  have k0 := h0
  have lt0 : ∀ x ∈ p0, x.block < W.heap.size := by obtain ⟨m, hm⟩ := k0; exact DataW.trod_lt m _ _ _ hm
  obtain ⟨A0, n0, c0, rfl⟩ := okWide_slice Try.underlying38 (hval 0 38 v0 rfl rfl)
  obtain ⟨l0, s0⟩ := sl_of_Arrival Try.underlying38 Try.underlying70 Try.underlying3 Try.underlying4 ⟨rfl, rfl, rfl, rfl⟩ (by kernel_rfl) (by kernel_rfl) h0
  obtain ⟨x1, rfl, rfl, rfl⟩ := open_bool Try.underlying4 (hval 1 4 v1 rfl rfl) h1
  obtain ⟨x2, rfl, rfl, rfl, wx2⟩ := open_int Try.underlying3 (hval 2 3 v2 rfl rfl) h2
  have k3 := h3
  have lt3 : ∀ x ∈ p3, x.block < W.heap.size := by obtain ⟨m, hm⟩ := k3; exact DataW.trod_lt m _ _ _ hm
  obtain ⟨A3, n3, c3, rfl⟩ := okWide_slice Try.underlying30 (hval 3 30 v3 rfl rfl)
  obtain ⟨l3, s3⟩ := sl_of_ints Try.underlying30 Try.underlying3 (by kernel_rfl) h3
  clear hA0 hval0
  refine (walk_FnExactIsProven A0 n0 c0 l0 x1 x2 A3 n3 c3 l3 W s0 (int_bounds wx2) s3).mono fun e W' ⟨he, bel⟩ => ?_
  subst he
  exact ⟨_, rfl, _, _, _, [], _, [], hW', trodAll_mk1 (shut_bool Try.underlying4 _), (trodAll_cons_mk (Below.trod seatLaid (by kernel_rfl) (of_decide_eq_true (by kernel_rfl)) k0 bel lt0) (trodAll_cons_mk (shut_bool Try.underlying4 x1) (trodAll_cons_mk (shut_int Try.underlying3 wx2) (trodAll_cons_mk (Below.trod seatLaid (by kernel_rfl) (of_decide_eq_true (by kernel_rfl)) k3 bel lt3) trodAll_mk0)))), rfl, bel.frame _, fun h => by cases h⟩
theorem over : Rows.fnExactIsProvenRow.holds Try.pinned (OpenSpec.ofChange Rows.fnExactIsProvenSpec) :=
  OpenClaim.holds_of_wide 9 Try.f9 rfl rfl rfl rfl rfl rfl rfl ⟨rfl, rfl, rfl, rfl, rfl⟩ rfl rfl rfl rfl rfl (by kernel_rfl) Try.func9 (by kernel_rfl)
    (of_decide_eq_true (by kernel_rfl)) (by unfold Func.isWrapper; first | (rw [if_pos (by decide +kernel)]; kernel_rfl) | (rw [if_neg (by decide +kernel)]; exact ⟨rfl, rfl⟩))
    (fun os started H enc _ => lifted os started H enc)
theorem proved : Rows.FnExactIsProvenSaid := over
#print axioms proved
end fnExactIsProvenDone

end Go.Proofs.Ytcmlphikdgfilaa
