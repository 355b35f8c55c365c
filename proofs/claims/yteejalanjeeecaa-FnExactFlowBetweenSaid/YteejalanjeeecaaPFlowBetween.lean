/- FlowBetween: the law returns true for every two pools. No condition. -/
import Derived.Test.YteejalanjeeecaaC11
import Derived.Test.YteejalanjeeecaaLift
namespace Go.Proofs.Yteejalanjeeecaa
open Go.ChangeShapes Go.WideShapes Go.ChangeAt Go.RowKit Go.Deep Go.Joins
set_option maxHeartbeats 400000 in
theorem walk_FnExactFlowBetween (p q : Pool) (w : World) : Calls Try.prog 4 #[p.val, q.val] w fun e w' => e = .returned (.bool true) ∧ Bl w w' := by
  have H1 := Lib.hid (fun w => toPool_any p w)
  have H2 := Lib.hid (fun w => toPool_any q w)
  have H3 := Lib.hid (fun w => specFlowBetween_any p q w)
  have H4 := Lib.hid (fun w => implFlowBetween_any p q w)
  generalize flowBetweenR p q = r at *
  obtain ⟨a, b, c⟩ := p
  obtain ⟨a', b', c'⟩ := q
  simp only [Pool.val] at H1 H2 H3 H4 ⊢
  have F00 : ∀ W, Bl ((w.alloc (.cells #[.int .i64 a, .int .i64 b, .int .i64 c] 23)).alloc (.cells #[.int .i64 a', .int .i64 b', .int .i64 c'] 23)) W → W.cell? ⟨w.heap.size, 0, none⟩ = some (.int .i64 a) := Bl.all (by go_simp)
  have F01 : ∀ W, Bl ((w.alloc (.cells #[.int .i64 a, .int .i64 b, .int .i64 c] 23)).alloc (.cells #[.int .i64 a', .int .i64 b', .int .i64 c'] 23)) W → W.cell? ⟨w.heap.size, 1, none⟩ = some (.int .i64 b) := Bl.all (by go_simp)
  have F02 : ∀ W, Bl ((w.alloc (.cells #[.int .i64 a, .int .i64 b, .int .i64 c] 23)).alloc (.cells #[.int .i64 a', .int .i64 b', .int .i64 c'] 23)) W → W.cell? ⟨w.heap.size, 2, none⟩ = some (.int .i64 c) := Bl.all (by go_simp)
  have F10 : ∀ W, Bl ((w.alloc (.cells #[.int .i64 a, .int .i64 b, .int .i64 c] 23)).alloc (.cells #[.int .i64 a', .int .i64 b', .int .i64 c'] 23)) W → W.cell? ⟨w.heap.size + 1, 0, none⟩ = some (.int .i64 a') := Bl.all (by go_simp)
  have F11 : ∀ W, Bl ((w.alloc (.cells #[.int .i64 a, .int .i64 b, .int .i64 c] 23)).alloc (.cells #[.int .i64 a', .int .i64 b', .int .i64 c'] 23)) W → W.cell? ⟨w.heap.size + 1, 1, none⟩ = some (.int .i64 b') := Bl.all (by go_simp)
  have F12 : ∀ W, Bl ((w.alloc (.cells #[.int .i64 a, .int .i64 b, .int .i64 c] 23)).alloc (.cells #[.int .i64 a', .int .i64 b', .int .i64 c'] 23)) W → W.cell? ⟨w.heap.size + 1, 2, none⟩ = some (.int .i64 c') := Bl.all (by go_simp)
  have hb := Bl.refl ((w.alloc (.cells #[.int .i64 a, .int .i64 b, .int .i64 c] 23)).alloc (.cells #[.int .i64 a', .int .i64 b', .int .i64 c'] 23))
  have hb0 : Hid (Bl w ((w.alloc (.cells #[.int .i64 a, .int .i64 b, .int .i64 c] 23)).alloc (.cells #[.int .i64 a', .int .i64 b', .int .i64 c'] 23))) := ((Bl.refl w).alloc _).alloc _
  go_enter Try.func4, Try.ntmps4
  go_wp2_with fail
  refine region_bl (by kernel_rfl) (by kernel_rfl) hb ?_
  repeat' (refine wpQuiet_step (fun K hK => ?_); go_simp; (try go_bits); first | (refine ⟨_, fun _ _ => rfl, hK _ ?_⟩; clear hK K) | (apply Exists.intro; (with_reducible refine ⟨fun W hW => ret_bl hW (H1.out W), hK _ ?_⟩); clear hK K) | (apply Exists.intro; (with_reducible refine ⟨fun W hW => ret_bl hW (H2.out W), hK _ ?_⟩); clear hK K) | (apply Exists.intro; (with_reducible refine ⟨fun W hW => ret_bl hW (H3.out W), hK _ ?_⟩); clear hK K) | (apply Exists.intro; refine ⟨fun W hW => ?_, hK _ ?_⟩; (· go_simp; (try go_bits); rfl); clear hK K))
  refine wpQuiet_nil ?_
  intro W hb
  go_wp2_with fail
  refine region_bl (by kernel_rfl) (by kernel_rfl) hb ?_
  repeat' (refine wpQuiet_step (fun K hK => ?_); go_simp; (try go_bits); first | (refine ⟨_, fun _ _ => rfl, hK _ ?_⟩; clear hK K) | (apply Exists.intro; (with_reducible refine ⟨fun W hW => ret_bl hW (H1.out W), hK _ ?_⟩); clear hK K) | (apply Exists.intro; (with_reducible refine ⟨fun W hW => ret_bl hW (H2.out W), hK _ ?_⟩); clear hK K) | (apply Exists.intro; (with_reducible refine ⟨fun W hW => ret_bl hW (H4.out W), hK _ ?_⟩); clear hK K) | (apply Exists.intro; refine ⟨fun W hW => ?_, hK _ ?_⟩; (· go_simp; (try go_bits); rfl); clear hK K))
  refine wpQuiet_nil ?_
  intro W hb
  go_wp2_with fail
  go_ret
  exact ⟨rfl, hb0.out.trans hb⟩
namespace fnExactFlowBetweenDone
set_option maxRecDepth 100000 in
theorem lifted (os : Os) (started : os.Started) (H : Type) (enc : TypeId × Value → H) :
    ReturnsInHanded {} Try.checked os 4 .any (Rows.fnExactFlowBetweenSpec.pre6 enc Try.prog Try.f4 Rows.fnExactFlowBetweenRow.domain false) (Rows.fnExactFlowBetweenSpec.post enc Try.prog Try.f4 false true false false) := by
  refine returnsInHanded_of_change (C := Try.checked) seatOwn started (by kernel_rfl) Try.func4
    (ChangeSpec.witness6 (enc := enc) (C := Try.checked) false ⟨#[], #[.agg #[.int .i64 0, .int .i64 0, .int .i64 0], .agg #[.int .i64 0, .int .i64 0, .int .i64 0]], []⟩ 8 (by kernel_rfl) (by kernel_rfl) (by kernel_rfl) (by kernel_rfl)) ?_
  intro W base args ds gs before hval0 hW hcnd _
  have hval : ∀ (j : Nat) t v, Try.f4.params[j]? = some t → args[j]? = some v → Value.okWide Try.prog W .any base t v := hval0
  have hW' := hW
  obtain ⟨p, q, hA0, hV, rfl, hfz, hnd⟩ := hW
  have hA : DataW.TrodAll enc Try.prog W 0 (fun _ => true) true Try.f4.params.toList args.toList ds p := hA0
  rw [Try.params4] at hA hval
  obtain ⟨v0, vs0, d0, ds0, p0, q0, hargs, rfl, rfl, h0, r0⟩ := trodAll_cons hA
  obtain ⟨v1, vs1, d1, ds1, p1, q1, rfl, rfl, rfl, h1, r1⟩ := trodAll_cons r0
  obtain ⟨rfl, rfl, rfl⟩ := trodAll_nil r1
  obtain rfl : args = #[v0, v1] := by cases args; simp_all
  obtain ⟨rfl, rfl⟩ := trodVars_none hV
  have k0 := h0
  have lt0 : ∀ x ∈ p0, x.block < W.heap.size := by obtain ⟨m, hm⟩ := k0; exact DataW.trod_lt m _ _ _ hm
  obtain ⟨c0_0, c0_1, c0_2, y0_0, y0_1, y0_2, nn0, rfl, rfl, rfl, hy0_0, hy0_1, hy0_2⟩ := open_agg3 Try.underlying23 (by kernel_rfl) (by kernel_rfl) (hval 0 23 v0 rfl rfl) h0
  obtain ⟨a0_0, e0_0, _, _⟩ := DataW.trod_int Try.underlying3 hy0_0
  obtain ⟨a0_1, e0_1, _, _⟩ := DataW.trod_int Try.underlying3 hy0_1
  obtain ⟨a0_2, e0_2, _, _⟩ := DataW.trod_int Try.underlying3 hy0_2
  simp at e0_0 e0_1 e0_2
  subst e0_0 e0_1 e0_2
  have k1 := h1
  have lt1 : ∀ x ∈ p1, x.block < W.heap.size := by obtain ⟨m, hm⟩ := k1; exact DataW.trod_lt m _ _ _ hm
  obtain ⟨c1_0, c1_1, c1_2, y1_0, y1_1, y1_2, nn1, rfl, rfl, rfl, hy1_0, hy1_1, hy1_2⟩ := open_agg3 Try.underlying23 (by kernel_rfl) (by kernel_rfl) (hval 1 23 v1 rfl rfl) h1
  obtain ⟨a1_0, e1_0, _, _⟩ := DataW.trod_int Try.underlying3 hy1_0
  obtain ⟨a1_1, e1_1, _, _⟩ := DataW.trod_int Try.underlying3 hy1_1
  obtain ⟨a1_2, e1_2, _, _⟩ := DataW.trod_int Try.underlying3 hy1_2
  simp at e1_0 e1_1 e1_2
  subst e1_0 e1_1 e1_2
  clear hA0 hval0
  refine (walk_FnExactFlowBetween ⟨a0_0, a0_1, a0_2⟩ ⟨a1_0, a1_1, a1_2⟩ W).mono fun e W' ⟨he, bel⟩ => ?_
  subst he
  exact ⟨_, rfl, _, _, _, [], _, [], hW', trodAll_mk1 (shut_bool Try.underlying4 _), (trodAll_cons_mk (Below.trod seatLaid (by kernel_rfl) (of_decide_eq_true (by kernel_rfl)) k0 bel lt0) (trodAll_cons_mk (Below.trod seatLaid (by kernel_rfl) (of_decide_eq_true (by kernel_rfl)) k1 bel lt1) trodAll_mk0)), rfl, bel.frame _, fun h => by cases h⟩
theorem over : Rows.fnExactFlowBetweenRow.holds Try.pinned (OpenSpec.ofChange Rows.fnExactFlowBetweenSpec) :=
  OpenClaim.holds_of_wide 4 Try.f4 rfl rfl rfl rfl rfl rfl rfl ⟨rfl, rfl, rfl, rfl, rfl⟩ rfl rfl rfl rfl rfl (by kernel_rfl) Try.func4 (by kernel_rfl)
    (of_decide_eq_true (by kernel_rfl)) (by unfold Func.isWrapper; first | (rw [if_pos (by decide +kernel)]; kernel_rfl) | (rw [if_neg (by decide +kernel)]; exact ⟨rfl, rfl⟩))
    (fun os started H enc _ => lifted os started H enc)
theorem proved : Rows.FnExactFlowBetweenSaid := over
#print axioms proved
end fnExactFlowBetweenDone

end Go.Proofs.Yteejalanjeeecaa
