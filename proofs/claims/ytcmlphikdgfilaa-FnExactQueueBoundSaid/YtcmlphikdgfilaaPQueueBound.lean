/- QueueBound: the law returns true for all arguments. No condition. -/
import Derived.Test.YtcmlphikdgfilaaC9e
import Derived.Test.YtcmlphikdgfilaaSArrival
namespace Go.Proofs.Ytcmlphikdgfilaa
open Go.ChangeShapes Go.WideShapes Go.ChangeAt Go.RowKit Go.Deep Go.Joins
set_option maxHeartbeats 1500000 in
theorem walk_FnExactQueueBound (A0 : Option Addr) (n0 c0 : Nat) (l0 : List Arrival) (x1 : Int) (w : World) (s0 : Sl Arrival.cs 4 w A0 n0 l0) (bx1 : -9223372036854775808 ≤ x1 ∧ x1 ≤ 9223372036854775807) : Calls Try.prog 6 #[.slice A0 n0 c0, .int .i64 x1] w fun e w' => e = .returned (.bool true) ∧ Bl w w' := by
  obtain ⟨bxl1, bxu1⟩ := bx1
  have bn0 := s0.le
  have HL0 := Lib.hid s0.1
  have hb := Bl.refl w
  have Hz0 := Lib.hid (fun w => szArrivalS_any A0 n0 c0 (1048576) w bn0 (by omega) (by omega))
  by_cases hs0 : 1048576 < (n0 : Int)
  · rw [if_pos hs0] at Hz0
    go_enter Try.func6, Try.ntmps6
    go_wp2_with fail
    refine (Hz0.out _).mono ?_
    rintro e w' ⟨rfl, hbn⟩
    have hb := hb.trans hbn
    clear hbn
    go_wp2_with fail
    go_ret
    exact ⟨rfl, hb⟩
  rw [if_neg hs0] at Hz0
  have hn0 : n0 ≤ 1048576 := by omega
  have hz0 : ¬ 1048576 - (n0 : Int) < 0 := by omega
  go_enter Try.func6, Try.ntmps6
  go_wp2_with fail
  refine (Hz0.out _).mono ?_
  rintro e w' ⟨rfl, hbn⟩
  have hb := hb.trans hbn
  clear hbn
  go_wp2_with fail
  have z0 := hb.le
  go_wp2_with fail
  refine (toArrivalS_any A0 n0 c0 l0 _ (s0.bl (hb)) hn0).mono ?_
  rintro e w1 ⟨B1, d1, rfl, o1, hbn⟩
  have zw1 := hbn.le
  have hb := hb.trans hbn
  clear hbn
  have L1 := own_lt o1
  have t1 := Sl.of_own Arrival.cs_len o1 HL0.out (by omega)
  go_wp2_with fail
  refine (specQueueBound_any B1 n0 d1 l0 x1 _ t1 ).mono ?_
  rintro e w2 ⟨rfl, hbn⟩
  have zw2 := hbn.le
  have o1 := hbn.own o1
  have t1 := t1.bl hbn
  have hb := hb.trans hbn
  clear hbn
  go_wp2_with fail
  refine (toArrivalS_any A0 n0 c0 l0 _ (s0.bl (hb)) hn0).mono ?_
  rintro e w3 ⟨B2, d2, rfl, o2, hbn⟩
  have zw3 := hbn.le
  have hb := hb.trans hbn
  clear hbn
  have L2 := own_lt o2
  have t2 := Sl.of_own Arrival.cs_len o2 HL0.out (by omega)
  go_wp2_with fail
  refine (implQueueBound_any B2 n0 d2 l0 x1 _ t2 ).mono ?_
  rintro e w4 ⟨rfl, hbn⟩
  have zw4 := hbn.le
  have o2 := hbn.own o2
  have t2 := t2.bl hbn
  have hb := hb.trans hbn
  clear hbn
  go_wp2_with fail
  refine (toArrivalS_any A0 n0 c0 l0 _ (s0.bl (hb)) hn0).mono ?_
  rintro e w5 ⟨B3, d3, rfl, o3, hbn⟩
  have zw5 := hbn.le
  have o2 := hbn.own o2
  have t2 := t2.bl hbn
  have hb := hb.trans hbn
  clear hbn
  have L3 := own_lt o3
  have t3 := Sl.of_own Arrival.cs_len o3 HL0.out (by omega)
  go_wp2_with fail
  refine (eqArrivalS_any B2 B3 n0 n0 d2 d3 _ _ _ t2 t3).mono ?_
  rintro e w6 ⟨rfl, hbn⟩
  have zw6 := hbn.le
  have o2 := hbn.own o2
  have t2 := t2.bl hbn
  have o3 := hbn.own o3
  have t3 := t3.bl hbn
  have hb := hb.trans hbn
  clear hbn
  simp only [eqB_self]
  go_wp2_with fail
  go_ret
  exact ⟨rfl, hb⟩
namespace fnExactQueueBoundDone
set_option maxRecDepth 100000 in
theorem lifted (os : Os) (started : os.Started) (H : Type) (enc : TypeId × Value → H) :
    ReturnsInHanded {} Try.checked os 6 .any (Rows.fnExactQueueBoundSpec.pre6 enc Try.prog Try.f6 Rows.fnExactQueueBoundRow.domain false) (Rows.fnExactQueueBoundSpec.post enc Try.prog Try.f6 false true false false) := by
  refine returnsInHanded_of_change (C := Try.checked) seatOwn started (by kernel_rfl) Try.func6
    (ChangeSpec.witness6 (enc := enc) (C := Try.checked) false ⟨#[], #[.slice none 0 0, .int .i64 0], []⟩ 8 (by kernel_rfl) (by kernel_rfl) (by kernel_rfl) (by kernel_rfl)) ?_
  intro W base args ds gs before hval0 hW hcnd _
  have hval : ∀ (j : Nat) t v, Try.f6.params[j]? = some t → args[j]? = some v → Value.okWide Try.prog W .any base t v := hval0
  have hW' := hW
  obtain ⟨p, q, hA0, hV, rfl, hfz, hnd⟩ := hW
  have hA : DataW.TrodAll enc Try.prog W 0 (fun _ => true) true Try.f6.params.toList args.toList ds p := hA0
  rw [Try.params6] at hA hval
  obtain ⟨v0, vs0, d0, ds0, p0, q0, hargs, rfl, rfl, h0, r0⟩ := trodAll_cons hA
  obtain ⟨v1, vs1, d1, ds1, p1, q1, rfl, rfl, rfl, h1, r1⟩ := trodAll_cons r0
  obtain ⟨rfl, rfl, rfl⟩ := trodAll_nil r1
  obtain rfl : args = #[v0, v1] := by cases args; simp_all
  obtain ⟨rfl, rfl⟩ := trodVars_none hV
  have k0 := h0
  have lt0 : ∀ x ∈ p0, x.block < W.heap.size := by obtain ⟨m, hm⟩ := k0; exact DataW.trod_lt m _ _ _ hm
  obtain ⟨A0, n0, c0, rfl⟩ := okWide_slice Try.underlying38 (hval 0 38 v0 rfl rfl)
  obtain ⟨l0, s0⟩ := sl_of_Arrival Try.underlying38 Try.underlying70 Try.underlying3 Try.underlying4 ⟨rfl, rfl, rfl, rfl⟩ (by kernel_rfl) (by kernel_rfl) h0
  obtain ⟨x1, rfl, rfl, rfl, wx1⟩ := open_int Try.underlying3 (hval 1 3 v1 rfl rfl) h1
  clear hA0 hval0
  refine (walk_FnExactQueueBound A0 n0 c0 l0 x1 W s0 (int_bounds wx1)).mono fun e W' ⟨he, bel⟩ => ?_
  subst he
  exact ⟨_, rfl, _, _, _, [], _, [], hW', trodAll_mk1 (shut_bool Try.underlying4 _), (trodAll_cons_mk (Below.trod seatLaid (by kernel_rfl) (of_decide_eq_true (by kernel_rfl)) k0 bel lt0) (trodAll_cons_mk (shut_int Try.underlying3 wx1) trodAll_mk0)), rfl, bel.frame _, fun h => by cases h⟩
theorem over : Rows.fnExactQueueBoundRow.holds Try.pinned (OpenSpec.ofChange Rows.fnExactQueueBoundSpec) :=
  OpenClaim.holds_of_wide 6 Try.f6 rfl rfl rfl rfl rfl rfl rfl ⟨rfl, rfl, rfl, rfl, rfl⟩ rfl rfl rfl rfl rfl (by kernel_rfl) Try.func6 (by kernel_rfl)
    (of_decide_eq_true (by kernel_rfl)) (by unfold Func.isWrapper; first | (rw [if_pos (by decide +kernel)]; kernel_rfl) | (rw [if_neg (by decide +kernel)]; exact ⟨rfl, rfl⟩))
    (fun os started H enc _ => lifted os started H enc)
theorem proved : Rows.FnExactQueueBoundSaid := over
#print axioms proved
end fnExactQueueBoundDone

end Go.Proofs.Ytcmlphikdgfilaa
