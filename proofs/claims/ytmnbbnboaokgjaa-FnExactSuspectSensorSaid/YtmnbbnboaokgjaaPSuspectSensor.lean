/- SuspectSensor: the law returns true for every list of triples and every number. No condition. -/
import Derived.Test.YtmnbbnboaokgjaaC6n
import Derived.Test.YtmnbbnboaokgjaaTh
import Derived.Test.YtmnbbnboaokgjaaSIs
namespace Go.Proofs.Ytmnbbnboaokgjaa
open Go.ChangeShapes Go.WideShapes Go.ChangeAt Go.RowKit Go.Deep Go.Joins
set_option maxHeartbeats 2000000 in
theorem walk_FnExactSuspectSensor (A : Option Addr) (n c : Nat) (l : List Rw × List (List Int)) (m : Int) (w : World) (h : Tb w A n l.1 l.2) (_ : -9223372036854775808 ≤ m ∧ m ≤ 9223372036854775807) :
    Calls Try.prog 10 #[.slice A n c, .int .i64 m] w fun e w' => e = .returned (.bool true) ∧ Bl w w' := by
  obtain ⟨rs, ls⟩ := l
  simp only at h
  have HZ := Lib.hid (szIntSS_any A n c rs ls w h)
  have HT := Lib.hid (fun W hW h1 h2 => toIntSS_any A n c rs ls W (h.bl hW) h1 h2)
  have H1 := Lib.hid (fun B d rt W hW => specSuspect_any B n d rt ls m W hW)
  have H2 := Lib.hid (fun B d rt W hW => implSuspect_any B n d rt ls m W hW)
  generalize suspR ls m = R at *
  obtain ⟨x, y⟩ := R
  (try simp only at H1 H2)
  clear h
  go_enter Try.func10, Try.ntmps10
  go_wp2_with fail
  refine HZ.out.mono ?_
  rintro e w1 ⟨⟨r, rfl, r0, r1, hr⟩, hb⟩
  by_cases hr0 : r < 0
  · go_wp2_with fail
    go_ret
    exact ⟨rfl, hb⟩
  have hsz : n ≤ 1048576 ∧ ∀ (i : Nat) (l : List Int), ls[i]? = some l → l.length ≤ 1048576 := by rcases hr with h | h; exact absurd h hr0; exact h
  have HT := Lib.hid (fun W hW => HT.out W hW hsz.1 hsz.2)
  clear hr hsz
  go_wp2_with fail
  refine (HT.out _ hb).mono ?_
  rintro e w2 ⟨B1, d1, rt1, rfl, T1, _, hbn⟩
  have hb := hb.trans hbn
  clear hbn
  go_wp2_with fail
  refine (H1.out _ _ _ _ T1).mono ?_
  rintro e w3 ⟨rfl, hbn⟩
  have hb := hb.trans hbn
  clear hbn T1
  go_wp2_with fail
  refine (HT.out _ hb).mono ?_
  rintro e w4 ⟨B2, d2, rt2, rfl, T2, _, hbn⟩
  have hb := hb.trans hbn
  clear hbn
  go_wp2_with fail
  refine (H2.out _ _ _ _ T2).mono ?_
  rintro e w5 ⟨rfl, hbn⟩
  have hb := hb.trans hbn
  have T2 := Lib.hid (T2.bl hbn)
  clear hbn
  have hyy : (y != y) = false := by simp
  go_wp2_with fail
  refine (HT.out _ hb).mono ?_
  rintro e w6 ⟨B3, d3, rt3, rfl, T3, _, hbn⟩
  have hb := hb.trans hbn
  have T2 := Lib.hid (T2.out.bl hbn)
  have H3 := Lib.hid (eqIntSS_any B2 B3 n n d2 d3 rt2 rt3 ls ls _ T2.out T3)
  simp only [eqB_self] at H3
  clear hbn T2 T3
  go_wp2_with fail
  refine H3.out.mono ?_
  rintro e w7 ⟨rfl, hbn⟩
  go_wp2_with fail
  go_ret
  exact ⟨rfl, hb.trans hbn⟩
namespace fnExactSuspectSensorDone
set_option maxRecDepth 100000 in
theorem lifted (os : Os) (started : os.Started) (H : Type) (enc : TypeId × Value → H) :
    ReturnsInHanded {} Try.checked os 10 .any (Rows.fnExactSuspectSensorSpec.pre6 enc Try.prog Try.f10 Rows.fnExactSuspectSensorRow.domain false) (Rows.fnExactSuspectSensorSpec.post enc Try.prog Try.f10 false true false false) := by
  refine returnsInHanded_of_change (C := Try.checked) seatOwn started (by kernel_rfl) Try.func10
    (ChangeSpec.witness6 (enc := enc) (C := Try.checked) false ⟨#[], #[.slice none 0 0, .int .i64 0], []⟩ 8 (by kernel_rfl) (by kernel_rfl) (by kernel_rfl) (by kernel_rfl)) ?_
  intro W base args ds gs before hval0 hW hcnd _
  have hval : ∀ (j : Nat) t v, Try.f10.params[j]? = some t → args[j]? = some v → Value.okWide Try.prog W .any base t v := hval0
  have hW' := hW
  obtain ⟨p, q, hA0, hV, rfl, hfz, hnd⟩ := hW
  have hA : DataW.TrodAll enc Try.prog W 0 (fun _ => true) true Try.f10.params.toList args.toList ds p := hA0
  rw [Try.params10] at hA hval
  obtain ⟨v0, vs0, d0, ds0, p0, q0, hargs, rfl, rfl, h0, r0⟩ := trodAll_cons hA
  obtain ⟨v1, vs1, d1, ds1, p1, q1, rfl, rfl, rfl, h1, r1⟩ := trodAll_cons r0
  obtain ⟨rfl, rfl, rfl⟩ := trodAll_nil r1
  obtain rfl : args = #[v0, v1] := by cases args; simp_all
  obtain ⟨rfl, rfl⟩ := trodVars_none hV
  have k0 := h0
  have lt0 : ∀ x ∈ p0, x.block < W.heap.size := by obtain ⟨m, hm⟩ := k0; exact DataW.trod_lt m _ _ _ hm
  obtain ⟨A0, n0, c0, rfl⟩ := okWide_slice Try.underlying68 (hval 0 68 v0 rfl rfl)
  obtain ⟨l0, s0⟩ := sl_of_intss Try.underlying68 Try.underlying33 Try.underlying3 (by kernel_rfl) (by kernel_rfl) h0
  obtain ⟨x1, rfl, rfl, rfl, wx1⟩ := open_int Try.underlying3 (hval 1 3 v1 rfl rfl) h1
  clear hA0 hval0
  refine (walk_FnExactSuspectSensor A0 n0 c0 l0 x1 W s0 (int_bounds wx1)).mono fun e W' ⟨he, bel⟩ => ?_
  subst he
  exact ⟨_, rfl, _, _, _, [], _, [], hW', trodAll_mk1 (shut_bool Try.underlying4 _), (trodAll_cons_mk (Below.trod seatLaid (by kernel_rfl) (of_decide_eq_true (by kernel_rfl)) k0 bel lt0) (trodAll_cons_mk (shut_int Try.underlying3 wx1) trodAll_mk0)), rfl, bel.frame _, fun h => by cases h⟩
theorem over : Rows.fnExactSuspectSensorRow.holds Try.pinned (OpenSpec.ofChange Rows.fnExactSuspectSensorSpec) :=
  OpenClaim.holds_of_wide 10 Try.f10 rfl rfl rfl rfl rfl rfl rfl ⟨rfl, rfl, rfl, rfl, rfl⟩ rfl rfl rfl rfl rfl (by kernel_rfl) Try.func10 (by kernel_rfl)
    (of_decide_eq_true (by kernel_rfl)) (by unfold Func.isWrapper; first | (rw [if_pos (by decide +kernel)]; kernel_rfl) | (rw [if_neg (by decide +kernel)]; exact ⟨rfl, rfl⟩))
    (fun os started H enc _ => lifted os started H enc)
theorem proved : Rows.FnExactSuspectSensorSaid := over
#print axioms proved
end fnExactSuspectSensorDone

end Go.Proofs.Ytmnbbnboaokgjaa
