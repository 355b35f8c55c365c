/- UnsafePairs: the law returns true for every list of cargo and all cells. No condition. -/
import Derived.Test.YtkeaobjcfkmjmaaC7r
import Derived.Test.YtkeaobjcfkmjmaaTm
import Derived.Test.YtkeaobjcfkmjmaaSCargo
namespace Go.Proofs.Ytkeaobjcfkmjmaa
open Go.ChangeShapes Go.WideShapes Go.ChangeAt Go.RowKit Go.Deep Go.Joins
set_option maxHeartbeats 4000000 in
theorem walk_FnExactUnsafePairs (A0 : Option Addr) (n0 c0 : Nat) (l0 : List Cargo) (A1 : Option Addr) (n1 c1 : Nat) (l1 : List Int) (w : World) (s0 : Sl Cargo.cs 3 w A0 n0 l0) (s1 : Sl ci 1 w A1 n1 l1) : Calls Try.prog 12 #[.slice A0 n0 c0, .slice A1 n1 c1] w fun e w' => e = .returned (.bool true) ∧ Bl w w' := by
  have bn0 := s0.le
  have HL0 := Lib.hid s0.1
  have bn1 := s1.le
  have HL1 := Lib.hid s1.1
  have hb := Bl.refl w
  by_cases hs1 : (1048576 : Int) < n1
  · go_enter Try.func12, Try.ntmps12
    go_wp2_with fail
    go_ret
    exact ⟨rfl, hb⟩
  have hn1 : n1 ≤ 1048576 := by omega
  have Hz0 := Lib.hid (fun w => szCargoS_any A0 n0 c0 (1048576) w bn0 (by omega) (by omega))
  by_cases hs0 : 1048576 < (n0 : Int)
  · rw [if_pos hs0] at Hz0
    go_enter Try.func12, Try.ntmps12
    go_wp2_with fail
    refine (Hz0.out _).mono ?_
    rintro e w' ⟨rfl, hbn⟩
    have hb := hb.trans hbn
    clear hbn
    go_wp2_with fail
    go_ret
    exact ⟨rfl, hb⟩
  rw [if_neg hs0] at Hz0
  have hn0 : n0 ≤ 1048576 := by omega
  have hz0 : ¬ 1048576 - (n0 : Int) < 0 := by omega
  go_enter Try.func12, Try.ntmps12
  go_wp2_with fail
  refine (Hz0.out _).mono ?_
  rintro e w' ⟨rfl, hbn⟩
  have hb := hb.trans hbn
  clear hbn
  go_wp2_with fail
  have z0 := hb.le
  go_wp2_with fail
  refine (toCargoS_any A0 n0 c0 l0 _ (s0.bl (hb)) hn0).mono ?_
  rintro e w1 ⟨B1, d1, rfl, o1, hbn⟩
  have zw1 := hbn.le
  have hb := hb.trans hbn
  clear hbn
  have L1 := own_lt o1
  have t1 := Sl.of_own Cargo.cs_len o1 HL0.out (by omega)
  go_wp2_with fail
  refine (toIntS_any A1 n1 c1 l1 _ (s1.bl (hb)) hn1).mono ?_
  rintro e w2 ⟨B2, d2, rfl, o2, hbn⟩
  have zw2 := hbn.le
  have o1 := hbn.own o1
  have t1 := t1.bl hbn
  have hb := hb.trans hbn
  clear hbn
  have L2 := own_lt o2
  have t2 := Sl.of_own ci_len o2 HL1.out (by omega)
  have HSP := Lib.hid (fun W h hc => specUnsafe_law B1 n0 d1 l0 B2 n1 d2 l1 W h hc)
  have HIP := Lib.hid (fun B d C f W h hc hnc => implUnsafe_law B n0 d l0 C n1 f l1 W h hc hnc)
  generalize rowOk l0 l1 = ok at HSP HIP
  go_wp2_with fail
  refine (HSP.out _ t1 t2).mono ?_
  rintro e w3 ⟨T, hT, B3, m3, d3, g3, rfl, o3, hl3, i3, hm3, hbn⟩
  have HT3 := Lib.hid hT
  have T3 := Lib.hid (i3.tb o3 hl3 hm3)
  have HW3 : Hid (Bl w3 w3) := Bl.refl w3
  have zw3 := hbn.le
  have hb := hb.trans hbn
  clear hbn hT o3 hl3 i3 o1 o2 t1 t2 L1 L2 HSP
  go_wp2_with fail
  refine (toCargoS_any A0 n0 c0 l0 _ (s0.bl hb) hn0).mono ?_
  rintro e w4 ⟨B4, d4, rfl, o4, hbn⟩
  have zw4 := hbn.le
  have HW3 := Lib.hid (HW3.out.trans hbn)
  have hb := hb.trans hbn
  clear hbn
  have L4 := own_lt o4
  have t4 := Sl.of_own Cargo.cs_len o4 HL0.out (by omega)
  go_wp2_with fail
  refine (toIntS_any A1 n1 c1 l1 _ (s1.bl hb) hn1).mono ?_
  rintro e w5 ⟨B5, d5, rfl, o5, hbn⟩
  have zw5 := hbn.le
  have HW3 := Lib.hid (HW3.out.trans hbn)
  have o4 := hbn.own o4
  have t4 := t4.bl hbn
  have hb := hb.trans hbn
  clear hbn
  have L5 := own_lt o5
  have t5 := Sl.of_own ci_len o5 HL1.out (by omega)
  go_wp2_with fail
  refine (HIP.out B4 d4 B5 d5 _ t4 t5 (own_cap o4)).mono ?_
  rintro e w6 ⟨T', hT, B6, m6, d6, g6, rfl, o6, hl6, i6, hm6, hbn⟩
  rw [TabOf.same hT HT3.out] at i6
  have HL6 := Lib.hid hl6
  have L6 := own_lt o6
  have O6 := Lib.hid o6
  have I6 := Lib.hid i6
  have zw6 := hbn.le
  have HW3 := Lib.hid (HW3.out.trans hbn)
  have o4 := hbn.own o4
  have t4 := t4.bl hbn
  have o5 := hbn.own o5
  have t5 := t5.bl hbn
  have hb := hb.trans hbn
  clear hbn hT hl6 o6 i6
  go_wp2_with fail
  refine (eqIntSS_any B6 B3 m6 m3 d6 d3 _ _ _ _ _ (I6.out.tb O6.out HL6.out hm6) (T3.out.bl HW3.out)).mono ?_
  rintro e w7 ⟨rfl, hbn⟩
  have zw7 := hbn.le
  have HW3 := Lib.hid (HW3.out.trans hbn)
  have o4 := hbn.own o4
  have t4 := t4.bl hbn
  have o5 := hbn.own o5
  have t5 := t5.bl hbn
  have O6 := Lib.hid (hbn.own O6.out)
  have I6 := Lib.hid (I6.out.bl hbn)
  have hb := hb.trans hbn
  clear hbn
  simp only [eqB_self]
  go_wp2_with fail
  refine (toCargoS_any A0 n0 c0 l0 _ (s0.bl hb) hn0).mono ?_
  rintro e w8 ⟨B7, d7, rfl, o7, hbn⟩
  have zw8 := hbn.le
  have HW3 := Lib.hid (HW3.out.trans hbn)
  have o4 := hbn.own o4
  have t4 := t4.bl hbn
  have o5 := hbn.own o5
  have t5 := t5.bl hbn
  have O6 := Lib.hid (hbn.own O6.out)
  have I6 := Lib.hid (I6.out.bl hbn)
  have hb := hb.trans hbn
  clear hbn
  have L7 := own_lt o7
  have t7 := Sl.of_own Cargo.cs_len o7 HL0.out (by omega)
  go_wp2_with fail
  refine (eqCargoS_any B4 B7 n0 n0 d4 d7 _ _ _ t4 t7).mono ?_
  rintro e w9 ⟨rfl, hbn⟩
  have zw9 := hbn.le
  have HW3 := Lib.hid (HW3.out.trans hbn)
  have o4 := hbn.own o4
  have t4 := t4.bl hbn
  have o5 := hbn.own o5
  have t5 := t5.bl hbn
  have O6 := Lib.hid (hbn.own O6.out)
  have I6 := Lib.hid (I6.out.bl hbn)
  have o7 := hbn.own o7
  have t7 := t7.bl hbn
  have hb := hb.trans hbn
  clear hbn
  clear t7 o7 L7
  simp only [eqB_self]
  go_wp2_with fail
  refine (toIntS_any A1 n1 c1 l1 _ (s1.bl hb) hn1).mono ?_
  rintro e w10 ⟨B8, d8, rfl, o8, hbn⟩
  have zw10 := hbn.le
  have HW3 := Lib.hid (HW3.out.trans hbn)
  have o4 := hbn.own o4
  have t4 := t4.bl hbn
  have o5 := hbn.own o5
  have t5 := t5.bl hbn
  have O6 := Lib.hid (hbn.own O6.out)
  have I6 := Lib.hid (I6.out.bl hbn)
  have hb := hb.trans hbn
  clear hbn
  have t8 := Sl.of_own ci_len o8 HL1.out (by omega)
  go_wp2_with fail
  refine (eqIntS_any B5 B8 n1 n1 d5 d8 _ _ _ t5 t8).mono ?_
  rintro e w11 ⟨rfl, hbn⟩
  have zw11 := hbn.le
  have HW3 := Lib.hid (HW3.out.trans hbn)
  have o4 := hbn.own o4
  have t4 := t4.bl hbn
  have o5 := hbn.own o5
  have t5 := t5.bl hbn
  have O6 := Lib.hid (hbn.own O6.out)
  have I6 := Lib.hid (I6.out.bl hbn)
  have o8 := hbn.own o8
  have t8 := t8.bl hbn
  have hb := hb.trans hbn
  clear hbn
  clear t8 o8
  simp only [eqB_self]
  go_wp2_with fail
  refine (markCargoS_any B4 n0 d4 _ _ (1) _ o4 (by omega) (by omega) (by omega)).mono ?_
  rintro e w12 ⟨rfl, om, hgr⟩
  have zw12 := hgr.size
  have HW3 := Lib.hid (grown_bl HW3.out hgr L4 (by omega))
  have hbx := grown_bl hb hgr L4 (by omega)
  have o5 := World.ownsRow.kept o5 hgr (apart_of L5 L4 (by omega))
  have I6 := Lib.hid (I6.out.kept hgr (fun k hk => by have := L4.out k hk; omega))
  have O6 := Lib.hid (World.ownsRow.kept O6.out hgr (apart_of L6 L4 (by omega)))
  have hb := hbx
  clear hbx hgr om o4 t4
  go_wp2_with fail
  refine (markIntS_any B5 n1 d5 _ _ (1 + (n0 * 3 : Nat)) _ o5 (by omega) (by omega) (by omega)).mono ?_
  rintro e w13 ⟨rfl, om, hgr⟩
  have zw13 := hgr.size
  have HW3 := Lib.hid (grown_bl HW3.out hgr L5 (by omega))
  have hbx := grown_bl hb hgr L5 (by omega)
  have I6 := Lib.hid (I6.out.kept hgr (fun k hk => by have := L5.out k hk; omega))
  have O6 := Lib.hid (World.ownsRow.kept O6.out hgr (apart_of L6 L5 (by omega)))
  have hb := hbx
  clear hbx hgr om o5 t5
  go_wp2_with fail
  refine (eqIntSS_any B6 B3 m6 m3 d6 d3 _ _ _ _ _ (I6.out.tb O6.out HL6.out hm6) (T3.out.bl HW3.out)).mono ?_
  rintro e w14 ⟨rfl, hbn⟩
  have zw14 := hbn.le
  have HW3 := Lib.hid (HW3.out.trans hbn)
  have O6 := Lib.hid (hbn.own O6.out)
  have I6 := Lib.hid (I6.out.bl hbn)
  have hb := hb.trans hbn
  clear hbn
  simp only [eqB_self]
  go_wp2_with fail
  refine (markIntSS_any B6 m6 d6 _ _ g6 _ 1 _ O6.out HL6.out I6.out hm6 (by omega) (by omega)).mono ?_
  rintro e w15 ⟨rfl, o6, i6, zw15, hgr⟩
  have HW3 := Lib.hid (hgr _ HW3.out (by omega))
  have hb := hgr _ hb (by omega)
  have O6 := Lib.hid o6
  have I6 := Lib.hid i6
  clear o6 i6 hgr
  go_wp2_with fail
  refine (heldIntSS_any B6 m6 d6 _ _ g6 1 _ O6.out HL6.out I6.out hm6 (by omega) (by omega)).mono ?_
  rintro e w16 ⟨rfl, hbn⟩
  have zw16 := hbn.le
  have HW3 := Lib.hid (HW3.out.trans hbn)
  have O6 := Lib.hid (hbn.own O6.out)
  have I6 := Lib.hid (I6.out.bl hbn)
  have hb := hb.trans hbn
  clear hbn
  go_wp2_with fail
  refine (toCargoS_any A0 n0 c0 l0 _ (s0.bl hb) hn0).mono ?_
  rintro e w17 ⟨B9, d9, rfl, o9, hbn⟩
  have zw17 := hbn.le
  have HW3 := Lib.hid (HW3.out.trans hbn)
  have O6 := Lib.hid (hbn.own O6.out)
  have I6 := Lib.hid (I6.out.bl hbn)
  have hb := hb.trans hbn
  clear hbn
  have t9 := Sl.of_own Cargo.cs_len o9 HL0.out (by omega)
  go_wp2_with fail
  refine (toIntS_any A1 n1 c1 l1 _ (s1.bl hb) hn1).mono ?_
  rintro e w18 ⟨B10, d10, rfl, o10, hbn⟩
  have zw18 := hbn.le
  have HW3 := Lib.hid (HW3.out.trans hbn)
  have O6 := Lib.hid (hbn.own O6.out)
  have I6 := Lib.hid (I6.out.bl hbn)
  have o9 := hbn.own o9
  have t9 := t9.bl hbn
  have hb := hb.trans hbn
  clear hbn
  have t10 := Sl.of_own ci_len o10 HL1.out (by omega)
  go_wp2_with fail
  refine (HIP.out B9 d9 B10 d10 _ t9 t10 (own_cap o9)).mono ?_
  rintro e w19 ⟨T', hT, B11, m11, d11, g11, rfl, o11, hl11, i11, hm11, hbn⟩
  rw [TabOf.same hT HT3.out] at i11
  have T11 := Lib.hid (i11.tb o11 hl11 hm11)
  have zw19 := hbn.le
  have HW3 := Lib.hid (HW3.out.trans hbn)
  have O6 := Lib.hid (hbn.own O6.out)
  have I6 := Lib.hid (I6.out.bl hbn)
  have hb := hb.trans hbn
  clear hbn hT o11 i11 hl11 o9 o10 t9 t10
  go_wp2_with fail
  refine (eqIntSS_any B11 B3 m11 m3 d11 d3 _ _ _ _ _ T11.out (T3.out.bl HW3.out)).mono ?_
  rintro e w20 ⟨rfl, hbn⟩
  have O6 := Lib.hid (hbn.own O6.out)
  have I6 := Lib.hid (I6.out.bl hbn)
  have hb := hb.trans hbn
  clear hbn
  simp only [eqB_self]
  go_wp2_with fail
  refine (heldIntSS_any B6 m6 d6 _ _ g6 1 _ O6.out HL6.out I6.out hm6 (by omega) (by omega)).mono ?_
  rintro e w21 ⟨rfl, hbn⟩
  have hb := hb.trans hbn
  clear hbn
  go_wp2_with fail
  go_ret
  exact ⟨rfl, hb⟩
namespace fnExactUnsafePairsDone
set_option maxRecDepth 100000 in
theorem lifted (os : Os) (started : os.Started) (H : Type) (enc : TypeId × Value → H) :
    ReturnsInHanded {} Try.checked os 12 .any (Rows.fnExactUnsafePairsSpec.pre6 enc Try.prog Try.f12 Rows.fnExactUnsafePairsRow.domain false) (Rows.fnExactUnsafePairsSpec.post enc Try.prog Try.f12 false true false false) := by
  refine returnsInHanded_of_change (C := Try.checked) seatOwn started (by kernel_rfl) Try.func12
    (ChangeSpec.witness6 (enc := enc) (C := Try.checked) false ⟨#[], #[.slice none 0 0, .slice none 0 0], []⟩ 8 (by kernel_rfl) (by kernel_rfl) (by kernel_rfl) (by kernel_rfl)) ?_
  intro W base args ds gs before hval0 hW hcnd _
  have hval : ∀ (j : Nat) t v, Try.f12.params[j]? = some t → args[j]? = some v → Value.okWide Try.prog W .any base t v := hval0
  have hW' := hW
  obtain ⟨p, q, hA0, hV, rfl, hfz, hnd⟩ := hW
  have hA : DataW.TrodAll enc Try.prog W 0 (fun _ => true) true Try.f12.params.toList args.toList ds p := hA0
  rw [Try.params12] at hA hval
  obtain ⟨v0, vs0, d0, ds0, p0, q0, hargs, rfl, rfl, h0, r0⟩ := trodAll_cons hA
  obtain ⟨v1, vs1, d1, ds1, p1, q1, rfl, rfl, rfl, h1, r1⟩ := trodAll_cons r0
  obtain ⟨rfl, rfl, rfl⟩ := trodAll_nil r1
  obtain rfl : args = #[v0, v1] := by cases args; simp_all
  obtain ⟨rfl, rfl⟩ := trodVars_none hV
  have k0 := h0
  have lt0 : ∀ x ∈ p0, x.block < W.heap.size := by obtain ⟨m, hm⟩ := k0; exact DataW.trod_lt m _ _ _ hm
  obtain ⟨A0, n0, c0, rfl⟩ := okWide_slice Try.underlying25 (hval 0 25 v0 rfl rfl)
  obtain ⟨l0, s0⟩ := sl_of_Cargo Try.underlying25 Try.underlying66 Try.underlying3 ⟨rfl, rfl, rfl⟩ (by kernel_rfl) (by kernel_rfl) h0
  have k1 := h1
  have lt1 : ∀ x ∈ p1, x.block < W.heap.size := by obtain ⟨m, hm⟩ := k1; exact DataW.trod_lt m _ _ _ hm
  obtain ⟨A1, n1, c1, rfl⟩ := okWide_slice Try.underlying36 (hval 1 36 v1 rfl rfl)
  obtain ⟨l1, s1⟩ := sl_of_ints Try.underlying36 Try.underlying3 (by kernel_rfl) h1
  clear hA0 hval0
  refine (walk_FnExactUnsafePairs A0 n0 c0 l0 A1 n1 c1 l1 W s0 s1).mono fun e W' ⟨he, bel⟩ => ?_
  subst he
  exact ⟨_, rfl, _, _, _, [], _, [], hW', trodAll_mk1 (shut_bool Try.underlying4 _), (trodAll_cons_mk (Below.trod seatLaid (by kernel_rfl) (of_decide_eq_true (by kernel_rfl)) k0 bel lt0) (trodAll_cons_mk (Below.trod seatLaid (by kernel_rfl) (of_decide_eq_true (by kernel_rfl)) k1 bel lt1) trodAll_mk0)), rfl, bel.frame _, fun h => by cases h⟩
theorem over : Rows.fnExactUnsafePairsRow.holds Try.pinned (OpenSpec.ofChange Rows.fnExactUnsafePairsSpec) :=
  OpenClaim.holds_of_wide 12 Try.f12 rfl rfl rfl rfl rfl rfl rfl ⟨rfl, rfl, rfl, rfl, rfl⟩ rfl rfl rfl rfl rfl (by kernel_rfl) Try.func12 (by kernel_rfl)
    (of_decide_eq_true (by kernel_rfl)) (by unfold Func.isWrapper; first | (rw [if_pos (by decide +kernel)]; kernel_rfl) | (rw [if_neg (by decide +kernel)]; exact ⟨rfl, rfl⟩))
    (fun os started H enc _ => lifted os started H enc)
theorem proved : Rows.FnExactUnsafePairsSaid := over
#print axioms proved
end fnExactUnsafePairsDone
end Go.Proofs.Ytkeaobjcfkmjmaa
