/- VotedLevel: the law returns true for all lists of readings and all numbers. No condition. -/
import Derived.Test.YtmnbbnboaokgjaaC6w
import Derived.Test.YtmnbbnboaokgjaaLift
namespace Go.Proofs.Ytmnbbnboaokgjaa
open Go.ChangeShapes Go.WideShapes Go.ChangeAt Go.RowKit Go.Deep Go.Joins
set_option maxHeartbeats 1500000 in
theorem walk_FnExactVotedLevel (A0 : Option Addr) (n0 c0 : Nat) (l0 : List Int) (x1 : Int) (w : World) (s0 : Sl ci 1 w A0 n0 l0) (bx1 : -9223372036854775808 ≤ x1 ∧ x1 ≤ 9223372036854775807) : Calls Try.prog 9 #[.slice A0 n0 c0, .int .i64 x1] w fun e w' => e = .returned (.bool true) ∧ Bl w w' := by
  obtain ⟨bxl1, bxu1⟩ := bx1
  have bn0 := s0.le
  have HL0 := Lib.hid s0.1
  have hb := Bl.refl w
  by_cases hs0 : (1048576 : Int) < n0
  · go_enter Try.func9, Try.ntmps9
    go_wp2_with fail
    go_ret
    exact ⟨rfl, hb⟩
  have hn0 : n0 ≤ 1048576 := by omega
  go_enter Try.func9, Try.ntmps9
  have z0 := hb.le
  go_wp2_with fail
  refine (toIntS_any A0 n0 c0 l0 _ (s0.bl (hb)) hn0).mono ?_
  rintro e w1 ⟨B1, d1, rfl, o1, hbn⟩
  have zw1 := hbn.le
  have hb := hb.trans hbn
  clear hbn
  have L1 := own_lt o1
  have t1 := Sl.of_own ci_len o1 HL0.out (by omega)
  go_wp2_with fail
  refine (specVoted_any B1 n0 d1 l0 x1 _ t1 ).mono ?_
  rintro e w2 ⟨rfl, hbn⟩
  have zw2 := hbn.le
  have o1 := hbn.own o1
  have t1 := t1.bl hbn
  have hb := hb.trans hbn
  clear hbn
  go_wp2_with fail
  refine (toIntS_any A0 n0 c0 l0 _ (s0.bl (hb)) hn0).mono ?_
  rintro e w3 ⟨B2, d2, rfl, o2, hbn⟩
  have zw3 := hbn.le
  have hb := hb.trans hbn
  clear hbn
  have L2 := own_lt o2
  have t2 := Sl.of_own ci_len o2 HL0.out (by omega)
  go_wp2_with fail
  refine (implVoted_any B2 n0 d2 l0 x1 _ t2 ).mono ?_
  rintro e w4 ⟨rfl, hbn⟩
  have zw4 := hbn.le
  have o2 := hbn.own o2
  have t2 := t2.bl hbn
  have hb := hb.trans hbn
  clear hbn
  go_wp2_with fail
  refine (toIntS_any A0 n0 c0 l0 _ (s0.bl (hb)) hn0).mono ?_
  rintro e w5 ⟨B3, d3, rfl, o3, hbn⟩
  have zw5 := hbn.le
  have o2 := hbn.own o2
  have t2 := t2.bl hbn
  have hb := hb.trans hbn
  clear hbn
  have L3 := own_lt o3
  have t3 := Sl.of_own ci_len o3 HL0.out (by omega)
  go_wp2_with fail
  refine (eqIntS_any B2 B3 n0 n0 d2 d3 _ _ _ t2 t3).mono ?_
  rintro e w6 ⟨rfl, hbn⟩
  have zw6 := hbn.le
  have o2 := hbn.own o2
  have t2 := t2.bl hbn
  have o3 := hbn.own o3
  have t3 := t3.bl hbn
  have hb := hb.trans hbn
  clear hbn
  simp only [eqB_self]
  go_wp2_with fail
  go_ret
  exact ⟨rfl, hb⟩
namespace fnExactVotedLevelDone
set_option maxRecDepth 100000 in
theorem lifted (os : Os) (started : os.Started) (H : Type) (enc : TypeId × Value → H) :
    ReturnsInHanded {} Try.checked os 9 .any (Rows.fnExactVotedLevelSpec.pre6 enc Try.prog Try.f9 Rows.fnExactVotedLevelRow.domain false) (Rows.fnExactVotedLevelSpec.post enc Try.prog Try.f9 false true false false) := by
  refine returnsInHanded_of_change (C := Try.checked) seatOwn started (by kernel_rfl) Try.func9
    (ChangeSpec.witness6 (enc := enc) (C := Try.checked) false ⟨#[], #[.slice none 0 0, .int .i64 0], []⟩ 8 (by kernel_rfl) (by kernel_rfl) (by kernel_rfl) (by kernel_rfl)) ?_
  intro W base args ds gs before hval0 hW hcnd _
  have hval : ∀ (j : Nat) t v, Try.f9.params[j]? = some t → args[j]? = some v → Value.okWide Try.prog W .any base t v := hval0
  have hW' := hW
  obtain ⟨p, q, hA0, hV, rfl, hfz, hnd⟩ := hW
  have hA : DataW.TrodAll enc Try.prog W 0 (fun _ => true) true Try.f9.params.toList args.toList ds p := hA0
  rw [Try.params9] at hA hval
  obtain ⟨v0, vs0, d0, ds0, p0, q0, hargs, rfl, rfl, h0, r0⟩ := trodAll_cons hA
  obtain ⟨v1, vs1, d1, ds1, p1, q1, rfl, rfl, rfl, h1, r1⟩ := trodAll_cons r0
  obtain ⟨rfl, rfl, rfl⟩ := trodAll_nil r1
  obtain rfl : args = #[v0, v1] := by cases args; simp_all
  obtain ⟨rfl, rfl⟩ := trodVars_none hV
  have k0 := h0
  have lt0 : ∀ x ∈ p0, x.block < W.heap.size := by obtain ⟨m, hm⟩ := k0; exact DataW.trod_lt m _ _ _ hm
  obtain ⟨A0, n0, c0, rfl⟩ := okWide_slice Try.underlying33 (hval 0 33 v0 rfl rfl)
  obtain ⟨l0, s0⟩ := sl_of_ints Try.underlying33 Try.underlying3 (by kernel_rfl) h0
  obtain ⟨x1, rfl, rfl, rfl, wx1⟩ := open_int Try.underlying3 (hval 1 3 v1 rfl rfl) h1
  clear hA0 hval0
  refine (walk_FnExactVotedLevel A0 n0 c0 l0 x1 W s0 (int_bounds wx1)).mono fun e W' ⟨he, bel⟩ => ?_
  subst he
  exact ⟨_, rfl, _, _, _, [], _, [], hW', trodAll_mk1 (shut_bool Try.underlying4 _), (trodAll_cons_mk (Below.trod seatLaid (by kernel_rfl) (of_decide_eq_true (by kernel_rfl)) k0 bel lt0) (trodAll_cons_mk (shut_int Try.underlying3 wx1) trodAll_mk0)), rfl, bel.frame _, fun h => by cases h⟩
theorem over : Rows.fnExactVotedLevelRow.holds Try.pinned (OpenSpec.ofChange Rows.fnExactVotedLevelSpec) :=
  OpenClaim.holds_of_wide 9 Try.f9 rfl rfl rfl rfl rfl rfl rfl ⟨rfl, rfl, rfl, rfl, rfl⟩ rfl rfl rfl rfl rfl (by kernel_rfl) Try.func9 (by kernel_rfl)
    (of_decide_eq_true (by kernel_rfl)) (by unfold Func.isWrapper; first | (rw [if_pos (by decide +kernel)]; kernel_rfl) | (rw [if_neg (by decide +kernel)]; exact ⟨rfl, rfl⟩))
    (fun os started H enc _ => lifted os started H enc)
theorem proved : Rows.FnExactVotedLevelSaid := over
#print axioms proved
end fnExactVotedLevelDone

end Go.Proofs.Ytmnbbnboaokgjaa
