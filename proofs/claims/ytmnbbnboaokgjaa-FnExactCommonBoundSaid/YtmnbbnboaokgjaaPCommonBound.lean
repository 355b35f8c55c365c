/- CommonBound: the law returns true for all lists of bounds. No condition. -/
import Derived.Test.YtmnbbnboaokgjaaC6b
import Derived.Test.YtmnbbnboaokgjaaSBound
namespace Go.Proofs.Ytmnbbnboaokgjaa
open Go.ChangeShapes Go.WideShapes Go.ChangeAt Go.RowKit Go.Deep Go.Joins
set_option maxHeartbeats 2000000 in
theorem walk_FnExactCommonBound (A0 : Option Addr) (n0 c0 : Nat) (l0 : List Bound) (w : World) (s0 : Sl Bound.cs 2 w A0 n0 l0) : Calls Try.prog 3 #[.slice A0 n0 c0] w fun e w' => e = .returned (.bool true) ∧ Bl w w' := by
  have bn0 := s0.le
  have HL0 := Lib.hid s0.1
  have hb := Bl.refl w
  have Hz0 := Lib.hid (fun w => szBoundS_any A0 n0 c0 (1048576) w bn0 (by omega) (by omega))
  by_cases hs0 : 1048576 < (n0 : Int)
  · rw [if_pos hs0] at Hz0
    go_enter Try.func3, Try.ntmps3
    go_wp2_with fail
    refine (Hz0.out _).mono ?_
    rintro e w' ⟨rfl, hbn⟩
    have hb := hb.trans hbn
    clear hbn
    go_wp2_with fail
    go_ret
    exact ⟨rfl, hb⟩
  rw [if_neg hs0] at Hz0
  have hn0 : n0 ≤ 1048576 := by omega
  have hz0 : ¬ 1048576 - (n0 : Int) < 0 := by omega
  have HT := Lib.hid (fun W hW => toBoundS_any A0 n0 c0 l0 W (s0.bl hW) hn0)
  have H1 := Lib.hid (fun B d W h => specCommonBound_any B n0 d l0 W h)
  have H2 := Lib.hid (fun B d W h => implCommonBound_any B n0 d l0 W h)
  generalize commonR l0 = R at *
  obtain ⟨⟨lo, hi⟩, fo⟩ := R
  have H3 := Lib.hid (fun W => eqBound_any ⟨lo, hi⟩ ⟨lo, hi⟩ W)
  rw [eqB_self] at H3
  (try simp only [Bound.val] at H3)
  clear s0
  go_enter Try.func3, Try.ntmps3
  go_wp2_with fail
  refine (Hz0.out _).mono ?_
  rintro e w' ⟨rfl, hbn⟩
  have hb := hb.trans hbn
  clear hbn
  go_wp2_with fail
  refine (HT.out _ hb).mono ?_
  rintro e w1 ⟨B1, d1, rfl, o1, hbn⟩
  have hb := hb.trans hbn
  have t1 := Lib.hid (Sl.of_own Bound.cs_len o1 HL0.out (by omega))
  clear hbn o1
  go_wp2_with fail
  refine (H1.out B1 d1 _ t1.out).mono ?_
  rintro e w2 ⟨rfl, hbn⟩
  have hb := (hb.trans hbn).alloc (.cells #[.int .i64 lo, .int .i64 hi] 25)
  have E1 : Hid ((w2.alloc (.cells #[.int .i64 lo, .int .i64 hi] 25)).heap[w2.heap.size]? = some (.cells #[.int .i64 lo, .int .i64 hi] 25 (0, 0))) := heap_alloc_new w2 _
  clear hbn
  go_wp2_with fail
  refine (HT.out _ hb).mono ?_
  rintro e w3 ⟨B2, d2, rfl, o2, hbn⟩
  have hb := hb.trans hbn
  have t2 := Lib.hid (Sl.of_own Bound.cs_len o2 HL0.out (by omega))
  have E1 := Lib.hid (block_of hbn E1.out)
  clear hbn o2
  go_wp2_with fail
  refine (H2.out B2 d2 _ t2.out).mono ?_
  rintro e w4 ⟨rfl, hbn⟩
  have hbx := hbn.alloc (.cells #[.int .i64 lo, .int .i64 hi] 25)
  have hb := hb.trans hbx
  have E2 : Hid ((w4.alloc (.cells #[.int .i64 lo, .int .i64 hi] 25)).heap[w4.heap.size]? = some (.cells #[.int .i64 lo, .int .i64 hi] 25 (0, 0))) := heap_alloc_new w4 _
  have E1 := Lib.hid (block_of hbx E1.out)
  have t2 := Lib.hid (t2.out.bl hbx)
  obtain ⟨q0, q1⟩ := two_cell E1.out
  obtain ⟨r0, r1⟩ := two_cell E2.out
  clear hbn hbx
  go_wp2_with fail
  refine (H3.out _).mono ?_
  rintro e w5 ⟨rfl, hbn⟩
  have hb := hb.trans hbn
  have t2 := Lib.hid (t2.out.bl hbn)
  clear hbn q0 q1 r0 r1
  go_wp2_with fail
  refine (HT.out _ hb).mono ?_
  rintro e w6 ⟨B3, d3, rfl, o3, hbn⟩
  have hb := hb.trans hbn
  have t2 := Lib.hid (t2.out.bl hbn)
  have t3 := Lib.hid (Sl.of_own Bound.cs_len o3 HL0.out (by omega))
  clear hbn o3
  go_wp2_with fail
  refine (eqBoundS_any B2 B3 n0 n0 d2 d3 _ _ _ t2.out t3.out).mono ?_
  rintro e w7 ⟨rfl, hbn⟩
  have hb := hb.trans hbn
  simp only [eqB_self]
  go_wp2_with fail
  go_ret
  exact ⟨rfl, hb⟩
namespace fnExactCommonBoundDone
set_option maxRecDepth 100000 in
theorem lifted (os : Os) (started : os.Started) (H : Type) (enc : TypeId × Value → H) :
    ReturnsInHanded {} Try.checked os 3 .any (Rows.fnExactCommonBoundSpec.pre6 enc Try.prog Try.f3 Rows.fnExactCommonBoundRow.domain false) (Rows.fnExactCommonBoundSpec.post enc Try.prog Try.f3 false true false false) := by
  refine returnsInHanded_of_change (C := Try.checked) seatOwn started (by kernel_rfl) Try.func3
    (ChangeSpec.witness6 (enc := enc) (C := Try.checked) false ⟨#[], #[.slice none 0 0], []⟩ 8 (by kernel_rfl) (by kernel_rfl) (by kernel_rfl) (by kernel_rfl)) ?_
  intro W base args ds gs before hval0 hW hcnd _
  have hval : ∀ (j : Nat) t v, Try.f3.params[j]? = some t → args[j]? = some v → Value.okWide Try.prog W .any base t v := hval0
  have hW' := hW
  obtain ⟨p, q, hA0, hV, rfl, hfz, hnd⟩ := hW
  have hA : DataW.TrodAll enc Try.prog W 0 (fun _ => true) true Try.f3.params.toList args.toList ds p := hA0
  rw [Try.params3] at hA hval
  obtain ⟨v0, vs0, d0, ds0, p0, q0, hargs, rfl, rfl, h0, r0⟩ := trodAll_cons hA
  obtain ⟨rfl, rfl, rfl⟩ := trodAll_nil r0
  obtain rfl : args = #[v0] := by cases args; simp_all
  obtain ⟨rfl, rfl⟩ := trodVars_none hV
  have k0 := h0
  have lt0 : ∀ x ∈ p0, x.block < W.heap.size := by obtain ⟨m, hm⟩ := k0; exact DataW.trod_lt m _ _ _ hm
  obtain ⟨A0, n0, c0, rfl⟩ := okWide_slice Try.underlying22 (hval 0 22 v0 rfl rfl)
  obtain ⟨l0, s0⟩ := sl_of_Bound Try.underlying22 Try.underlying79 Try.underlying3 ⟨rfl, rfl⟩ (by kernel_rfl) (by kernel_rfl) h0
  clear hA0 hval0
  refine (walk_FnExactCommonBound A0 n0 c0 l0 W s0).mono fun e W' ⟨he, bel⟩ => ?_
  subst he
  exact ⟨_, rfl, _, _, _, [], _, [], hW', trodAll_mk1 (shut_bool Try.underlying4 _), (trodAll_cons_mk (Below.trod seatLaid (by kernel_rfl) (of_decide_eq_true (by kernel_rfl)) k0 bel lt0) trodAll_mk0), rfl, bel.frame _, fun h => by cases h⟩
theorem over : Rows.fnExactCommonBoundRow.holds Try.pinned (OpenSpec.ofChange Rows.fnExactCommonBoundSpec) :=
  OpenClaim.holds_of_wide 3 Try.f3 rfl rfl rfl rfl rfl rfl rfl ⟨rfl, rfl, rfl, rfl, rfl⟩ rfl rfl rfl rfl rfl (by kernel_rfl) Try.func3 (by kernel_rfl)
    (of_decide_eq_true (by kernel_rfl)) (by unfold Func.isWrapper; first | (rw [if_pos (by decide +kernel)]; kernel_rfl) | (rw [if_neg (by decide +kernel)]; exact ⟨rfl, rfl⟩))
    (fun os started H enc _ => lifted os started H enc)
theorem proved : Rows.FnExactCommonBoundSaid := over
#print axioms proved
end fnExactCommonBoundDone

end Go.Proofs.Ytmnbbnboaokgjaa
