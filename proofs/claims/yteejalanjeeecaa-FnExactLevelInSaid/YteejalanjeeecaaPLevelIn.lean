/- LevelIn: the law returns true for every pool. No condition. -/
import Derived.Test.YteejalanjeeecaaC11b
import Derived.Test.YteejalanjeeecaaLift
namespace Go.Proofs.Yteejalanjeeecaa
open Go.ChangeShapes Go.WideShapes Go.ChangeAt Go.RowKit Go.Deep Go.Joins
set_option maxHeartbeats 400000 in
theorem walk_FnExactLevelIn (p : Pool) (w : World) : Calls Try.prog 5 #[p.val] w fun e w' => e = .returned (.bool true) ∧ Bl w w' := by
  have H1 := Lib.hid (fun w => toPool_any p w)
  have H3 := Lib.hid (fun w => specLevelIn_any p w)
  have H4 := Lib.hid (fun w => implLevelIn_any p w)
  generalize levelIn p = r at *
  obtain ⟨a, b, c⟩ := p
  simp only [Pool.val] at H1 H3 H4 ⊢
  have F00 : ∀ W, Bl (w.alloc (.cells #[.int .i64 a, .int .i64 b, .int .i64 c] 23)) W → W.cell? ⟨w.heap.size, 0, none⟩ = some (.int .i64 a) := Bl.all (by go_simp)
  have F01 : ∀ W, Bl (w.alloc (.cells #[.int .i64 a, .int .i64 b, .int .i64 c] 23)) W → W.cell? ⟨w.heap.size, 1, none⟩ = some (.int .i64 b) := Bl.all (by go_simp)
  have F02 : ∀ W, Bl (w.alloc (.cells #[.int .i64 a, .int .i64 b, .int .i64 c] 23)) W → W.cell? ⟨w.heap.size, 2, none⟩ = some (.int .i64 c) := Bl.all (by go_simp)
  have hb := Bl.refl (w.alloc (.cells #[.int .i64 a, .int .i64 b, .int .i64 c] 23))
  have hb0 : Hid (Bl w (w.alloc (.cells #[.int .i64 a, .int .i64 b, .int .i64 c] 23))) := (Bl.refl w).alloc _
  go_enter Try.func5, Try.ntmps5
  go_wp2_with (first | (go_at_call 16; (with_reducible refine (H1.out _).mono ?_); rintro e w' ⟨rfl, hbn⟩; have hb := Bl.trans (by with_reducible assumption) hbn; clear hbn) | (go_at_call 20; (with_reducible refine (H3.out _).mono ?_); rintro e w' ⟨rfl, hbn⟩; have hb := Bl.trans (by with_reducible assumption) hbn; clear hbn) | (go_at_call 21; (with_reducible refine (H4.out _).mono ?_); rintro e w' ⟨rfl, hbn⟩; have hb := Bl.trans (by with_reducible assumption) hbn; clear hbn))
  go_ret
  exact ⟨rfl, hb0.out.trans (by with_reducible assumption)⟩
namespace fnExactLevelInDone
set_option maxRecDepth 100000 in
theorem lifted (os : Os) (started : os.Started) (H : Type) (enc : TypeId × Value → H) :
    ReturnsInHanded {} Try.checked os 5 .any (Rows.fnExactLevelInSpec.pre6 enc Try.prog Try.f5 Rows.fnExactLevelInRow.domain false) (Rows.fnExactLevelInSpec.post enc Try.prog Try.f5 false true false false) := by
  refine returnsInHanded_of_change (C := Try.checked) seatOwn started (by kernel_rfl) Try.func5
    (ChangeSpec.witness6 (enc := enc) (C := Try.checked) false ⟨#[], #[.agg #[.int .i64 0, .int .i64 0, .int .i64 0]], []⟩ 8 (by kernel_rfl) (by kernel_rfl) (by kernel_rfl) (by kernel_rfl)) ?_
  intro W base args ds gs before hval0 hW hcnd _
  have hval : ∀ (j : Nat) t v, Try.f5.params[j]? = some t → args[j]? = some v → Value.okWide Try.prog W .any base t v := hval0
  have hW' := hW
  obtain ⟨p, q, hA0, hV, rfl, hfz, hnd⟩ := hW
  have hA : DataW.TrodAll enc Try.prog W 0 (fun _ => true) true Try.f5.params.toList args.toList ds p := hA0
  rw [Try.params5] at hA hval
  obtain ⟨v0, vs0, d0, ds0, p0, q0, hargs, rfl, rfl, h0, r0⟩ := trodAll_cons hA
  obtain ⟨rfl, rfl, rfl⟩ := trodAll_nil r0
  obtain rfl : args = #[v0] := by cases args; simp_all
  obtain ⟨rfl, rfl⟩ := trodVars_none hV
  have k0 := h0
  have lt0 : ∀ x ∈ p0, x.block < W.heap.size := by obtain ⟨m, hm⟩ := k0; exact DataW.trod_lt m _ _ _ hm
  obtain ⟨c0_0, c0_1, c0_2, y0_0, y0_1, y0_2, nn0, rfl, rfl, rfl, hy0_0, hy0_1, hy0_2⟩ := open_agg3 Try.underlying23 (by kernel_rfl) (by kernel_rfl) (hval 0 23 v0 rfl rfl) h0
  obtain ⟨a0_0, e0_0, _, _⟩ := DataW.trod_int Try.underlying3 hy0_0
  obtain ⟨a0_1, e0_1, _, _⟩ := DataW.trod_int Try.underlying3 hy0_1
  obtain ⟨a0_2, e0_2, _, _⟩ := DataW.trod_int Try.underlying3 hy0_2
  simp at e0_0 e0_1 e0_2
  subst e0_0 e0_1 e0_2
  clear hA0 hval0
  refine (walk_FnExactLevelIn ⟨a0_0, a0_1, a0_2⟩ W).mono fun e W' ⟨he, bel⟩ => ?_
  subst he
  exact ⟨_, rfl, _, _, _, [], _, [], hW', trodAll_mk1 (shut_bool Try.underlying4 _), (trodAll_cons_mk (Below.trod seatLaid (by kernel_rfl) (of_decide_eq_true (by kernel_rfl)) k0 bel lt0) trodAll_mk0), rfl, bel.frame _, fun h => by cases h⟩
theorem over : Rows.fnExactLevelInRow.holds Try.pinned (OpenSpec.ofChange Rows.fnExactLevelInSpec) :=
  OpenClaim.holds_of_wide 5 Try.f5 rfl rfl rfl rfl rfl rfl rfl ⟨rfl, rfl, rfl, rfl, rfl⟩ rfl rfl rfl rfl rfl (by kernel_rfl) Try.func5 (by kernel_rfl)
    (of_decide_eq_true (by kernel_rfl)) (by unfold Func.isWrapper; first | (rw [if_pos (by decide +kernel)]; kernel_rfl) | (rw [if_neg (by decide +kernel)]; exact ⟨rfl, rfl⟩))
    (fun os started H enc _ => lifted os started H enc)
theorem proved : Rows.FnExactLevelInSaid := over
#print axioms proved
end fnExactLevelInDone

end Go.Proofs.Yteejalanjeeecaa
