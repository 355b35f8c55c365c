/- IsSafeRow: the law returns true for every list of cargo and all cells. No condition. -/
import Derived.Test.YtkeaobjcfkmjmaaC7r
import Derived.Test.YtkeaobjcfkmjmaaSCargo
namespace Go.Proofs.Ytkeaobjcfkmjmaa
open Go.ChangeShapes Go.WideShapes Go.ChangeAt Go.RowKit Go.Deep Go.Joins
set_option maxHeartbeats 1500000 in
theorem walk_FnExactIsSafeRow (A0 : Option Addr) (n0 c0 : Nat) (l0 : List Cargo) (A1 : Option Addr) (n1 c1 : Nat) (l1 : List Int) (w : World) (s0 : Sl Cargo.cs 3 w A0 n0 l0) (s1 : Sl ci 1 w A1 n1 l1) : Calls Try.prog 10 #[.slice A0 n0 c0, .slice A1 n1 c1] w fun e w' => e = .returned (.bool true) ∧ Bl w w' := by
  have bn0 := s0.le
  have HL0 := Lib.hid s0.1
  have bn1 := s1.le
  have HL1 := Lib.hid s1.1
  have hb := Bl.refl w
  by_cases hs1 : (1048576 : Int) < n1
  · go_enter Try.func10, Try.ntmps10
    go_wp2_with fail
    go_ret
    exact ⟨rfl, hb⟩
  have hn1 : n1 ≤ 1048576 := by omega
  have Hz0 := Lib.hid (fun w => szCargoS_any A0 n0 c0 (1048576) w bn0 (by omega) (by omega))
  by_cases hs0 : 1048576 < (n0 : Int)
  · rw [if_pos hs0] at Hz0
    go_enter Try.func10, Try.ntmps10
    go_wp2_with fail
    refine (Hz0.out _).mono ?_
    rintro e w' ⟨rfl, hbn⟩
    have hb := hb.trans hbn
    clear hbn
    go_wp2_with fail
    go_ret
    exact ⟨rfl, hb⟩
  rw [if_neg hs0] at Hz0
  have hn0 : n0 ≤ 1048576 := by omega
  have hz0 : ¬ 1048576 - (n0 : Int) < 0 := by omega
  go_enter Try.func10, Try.ntmps10
  go_wp2_with fail
  refine (Hz0.out _).mono ?_
  rintro e w' ⟨rfl, hbn⟩
  have hb := hb.trans hbn
  clear hbn
  go_wp2_with fail
  have z0 := hb.le
  go_wp2_with fail
  refine (toCargoS_any A0 n0 c0 l0 _ (s0.bl (hb)) hn0).mono ?_
  rintro e w1 ⟨B1, d1, rfl, o1, hbn⟩
  have zw1 := hbn.le
  have hb := hb.trans hbn
  clear hbn
  have L1 := own_lt o1
  have t1 := Sl.of_own Cargo.cs_len o1 HL0.out (by omega)
  go_wp2_with fail
  refine (toIntS_any A1 n1 c1 l1 _ (s1.bl (hb)) hn1).mono ?_
  rintro e w2 ⟨B2, d2, rfl, o2, hbn⟩
  have zw2 := hbn.le
  have o1 := hbn.own o1
  have t1 := t1.bl hbn
  have hb := hb.trans hbn
  clear hbn
  have L2 := own_lt o2
  have t2 := Sl.of_own ci_len o2 HL1.out (by omega)
  go_wp2_with fail
  refine (specIsSafeRow_law B1 n0 d1 l0 B2 n1 d2 l1 _ t1 t2 ).mono ?_
  rintro e w3 ⟨rfl, hbn⟩
  have zw3 := hbn.le
  have o1 := hbn.own o1
  have t1 := t1.bl hbn
  have o2 := hbn.own o2
  have t2 := t2.bl hbn
  have hb := hb.trans hbn
  clear hbn
  go_wp2_with fail
  refine (toCargoS_any A0 n0 c0 l0 _ (s0.bl (hb)) hn0).mono ?_
  rintro e w4 ⟨B3, d3, rfl, o3, hbn⟩
  have zw4 := hbn.le
  have hb := hb.trans hbn
  clear hbn
  have L3 := own_lt o3
  have t3 := Sl.of_own Cargo.cs_len o3 HL0.out (by omega)
  go_wp2_with fail
  refine (toIntS_any A1 n1 c1 l1 _ (s1.bl (hb)) hn1).mono ?_
  rintro e w5 ⟨B4, d4, rfl, o4, hbn⟩
  have zw5 := hbn.le
  have o3 := hbn.own o3
  have t3 := t3.bl hbn
  have hb := hb.trans hbn
  clear hbn
  have L4 := own_lt o4
  have t4 := Sl.of_own ci_len o4 HL1.out (by omega)
  go_wp2_with fail
  refine (implIsSafeRow_law B3 n0 d3 l0 B4 n1 d4 l1 _ t3 t4 (own_cap o3) (own_cap o4)).mono ?_
  rintro e w6 ⟨rfl, hbn⟩
  have zw6 := hbn.le
  have o3 := hbn.own o3
  have t3 := t3.bl hbn
  have o4 := hbn.own o4
  have t4 := t4.bl hbn
  have hb := hb.trans hbn
  clear hbn
  go_wp2_with fail
  refine (toCargoS_any A0 n0 c0 l0 _ (s0.bl (hb)) hn0).mono ?_
  rintro e w7 ⟨B5, d5, rfl, o5, hbn⟩
  have zw7 := hbn.le
  have o3 := hbn.own o3
  have t3 := t3.bl hbn
  have o4 := hbn.own o4
  have t4 := t4.bl hbn
  have hb := hb.trans hbn
  clear hbn
  have L5 := own_lt o5
  have t5 := Sl.of_own Cargo.cs_len o5 HL0.out (by omega)
  go_wp2_with fail
  refine (eqCargoS_any B3 B5 n0 n0 d3 d5 _ _ _ t3 t5).mono ?_
  rintro e w8 ⟨rfl, hbn⟩
  have zw8 := hbn.le
  have o3 := hbn.own o3
  have t3 := t3.bl hbn
  have o4 := hbn.own o4
  have t4 := t4.bl hbn
  have o5 := hbn.own o5
  have t5 := t5.bl hbn
  have hb := hb.trans hbn
  clear hbn
  simp only [eqB_self]
  go_wp2_with fail
  refine (toIntS_any A1 n1 c1 l1 _ (s1.bl (hb)) hn1).mono ?_
  rintro e w9 ⟨B6, d6, rfl, o6, hbn⟩
  have zw9 := hbn.le
  have o3 := hbn.own o3
  have t3 := t3.bl hbn
  have o4 := hbn.own o4
  have t4 := t4.bl hbn
  have hb := hb.trans hbn
  clear hbn
  have L6 := own_lt o6
  have t6 := Sl.of_own ci_len o6 HL1.out (by omega)
  go_wp2_with fail
  refine (eqIntS_any B4 B6 n1 n1 d4 d6 _ _ _ t4 t6).mono ?_
  rintro e w10 ⟨rfl, hbn⟩
  have zw10 := hbn.le
  have o3 := hbn.own o3
  have t3 := t3.bl hbn
  have o4 := hbn.own o4
  have t4 := t4.bl hbn
  have o6 := hbn.own o6
  have t6 := t6.bl hbn
  have hb := hb.trans hbn
  clear hbn
  simp only [eqB_self]
  go_wp2_with fail
  go_ret
  exact ⟨rfl, hb⟩
namespace fnExactIsSafeRowDone
set_option maxRecDepth 100000 in
theorem lifted (os : Os) (started : os.Started) (H : Type) (enc : TypeId × Value → H) :
    ReturnsInHanded {} Try.checked os 10 .any (Rows.fnExactIsSafeRowSpec.pre6 enc Try.prog Try.f10 Rows.fnExactIsSafeRowRow.domain false) (Rows.fnExactIsSafeRowSpec.post enc Try.prog Try.f10 false true false false) := by
  refine returnsInHanded_of_change (C := Try.checked) seatOwn started (by kernel_rfl) Try.func10
    (ChangeSpec.witness6 (enc := enc) (C := Try.checked) false ⟨#[], #[.slice none 0 0, .slice none 0 0], []⟩ 8 (by kernel_rfl) (by kernel_rfl) (by kernel_rfl) (by kernel_rfl)) ?_
  intro W base args ds gs before hval0 hW hcnd _
  have hval : ∀ (j : Nat) t v, Try.f10.params[j]? = some t → args[j]? = some v → Value.okWide Try.prog W .any base t v := hval0
  have hW' := hW
  obtain ⟨p, q, hA0, hV, rfl, hfz, hnd⟩ := hW
  have hA : DataW.TrodAll enc Try.prog W 0 (fun _ => true) true Try.f10.params.toList args.toList ds p := hA0
  rw [Try.params10] at hA hval
  obtain ⟨v0, vs0, d0, ds0, p0, q0, hargs, rfl, rfl, h0, r0⟩ := trodAll_cons hA
  obtain ⟨v1, vs1, d1, ds1, p1, q1, rfl, rfl, rfl, h1, r1⟩ := trodAll_cons r0
  obtain ⟨rfl, rfl, rfl⟩ := trodAll_nil r1
  obtain rfl : args = #[v0, v1] := by cases args; simp_all
  obtain ⟨rfl, rfl⟩ := trodVars_none hV
  have k0 := h0
  have lt0 : ∀ x ∈ p0, x.block < W.heap.size := by obtain ⟨m, hm⟩ := k0; exact DataW.trod_lt m _ _ _ hm
  obtain ⟨A0, n0, c0, rfl⟩ := okWide_slice Try.underlying25 (hval 0 25 v0 rfl rfl)
  obtain ⟨l0, s0⟩ := sl_of_Cargo Try.underlying25 Try.underlying66 Try.underlying3 ⟨rfl, rfl, rfl⟩ (by kernel_rfl) (by kernel_rfl) h0
  have k1 := h1
  have lt1 : ∀ x ∈ p1, x.block < W.heap.size := by obtain ⟨m, hm⟩ := k1; exact DataW.trod_lt m _ _ _ hm
  obtain ⟨A1, n1, c1, rfl⟩ := okWide_slice Try.underlying36 (hval 1 36 v1 rfl rfl)
  obtain ⟨l1, s1⟩ := sl_of_ints Try.underlying36 Try.underlying3 (by kernel_rfl) h1
  clear hA0 hval0
  refine (walk_FnExactIsSafeRow A0 n0 c0 l0 A1 n1 c1 l1 W s0 s1).mono fun e W' ⟨he, bel⟩ => ?_
  subst he
  exact ⟨_, rfl, _, _, _, [], _, [], hW', trodAll_mk1 (shut_bool Try.underlying4 _), (trodAll_cons_mk (Below.trod seatLaid (by kernel_rfl) (of_decide_eq_true (by kernel_rfl)) k0 bel lt0) (trodAll_cons_mk (Below.trod seatLaid (by kernel_rfl) (of_decide_eq_true (by kernel_rfl)) k1 bel lt1) trodAll_mk0)), rfl, bel.frame _, fun h => by cases h⟩
theorem over : Rows.fnExactIsSafeRowRow.holds Try.pinned (OpenSpec.ofChange Rows.fnExactIsSafeRowSpec) :=
  OpenClaim.holds_of_wide 10 Try.f10 rfl rfl rfl rfl rfl rfl rfl ⟨rfl, rfl, rfl, rfl, rfl⟩ rfl rfl rfl rfl rfl (by kernel_rfl) Try.func10 (by kernel_rfl)
    (of_decide_eq_true (by kernel_rfl)) (by unfold Func.isWrapper; first | (rw [if_pos (by decide +kernel)]; kernel_rfl) | (rw [if_neg (by decide +kernel)]; exact ⟨rfl, rfl⟩))
    (fun os started H enc _ => lifted os started H enc)
theorem proved : Rows.FnExactIsSafeRowSaid := over
#print axioms proved
end fnExactIsSafeRowDone

end Go.Proofs.Ytkeaobjcfkmjmaa
