/- IsPumpTask: the law returns true for every task. No condition. -/
import Derived.Test.YtmnbbnboaokgjaaC12b
import Derived.Test.YtmnbbnboaokgjaaS12
import Derived.Deep.RegionHeld3
namespace Go.Proofs.Ytmnbbnboaokgjaa
open Go.ChangeShapes Go.WideShapes Go.ChangeAt Go.RowKit Go.Deep Go.Joins
set_option maxHeartbeats 2000000 in
theorem walk_FnExactIsPumpTask (lo hi lv : Int) (A : Option Addr) (n c : Nat) (fl : List Int) (B : Option Addr) (m k : Nat) (pl : List Pump) (w : World) (s1 : Sl ci 1 w A n fl) (s2 : Sl Pump.cs 3 w B m pl) :
    Calls Try.prog 4 #[.agg #[.int .i64 lo, .int .i64 hi, .int .i64 lv, .slice A n c, .slice B m k]] w fun e w' => e = .returned (.bool true) ∧ Bl w w' := by
  have HZ := Lib.hid (fun W => szPumpTask_any lo hi lv A n c B m k W s1.le s2.le)
  have HT := Lib.hid (fun W hW h1 h2 => toPumpTask_any lo hi lv A n c fl B m k pl W (s1.bl hW) (s2.bl hW) h1 h2)
  have F00 : ∀ W, Bl (w.alloc (.cells #[.int .i64 lo, .int .i64 hi, .int .i64 lv, .slice A n c, .slice B m k] 36)) W → W.cell? ⟨w.heap.size, 0, none⟩ = some (.int .i64 lo) := Bl.all (by go_simp)
  have F01 : ∀ W, Bl (w.alloc (.cells #[.int .i64 lo, .int .i64 hi, .int .i64 lv, .slice A n c, .slice B m k] 36)) W → W.cell? ⟨w.heap.size, 1, none⟩ = some (.int .i64 hi) := Bl.all (by go_simp)
  have F02 : ∀ W, Bl (w.alloc (.cells #[.int .i64 lo, .int .i64 hi, .int .i64 lv, .slice A n c, .slice B m k] 36)) W → W.cell? ⟨w.heap.size, 2, none⟩ = some (.int .i64 lv) := Bl.all (by go_simp)
  have F03 : ∀ W, Bl (w.alloc (.cells #[.int .i64 lo, .int .i64 hi, .int .i64 lv, .slice A n c, .slice B m k] 36)) W → W.cell? ⟨w.heap.size, 3, none⟩ = some (.slice A n c) := Bl.all (by go_simp)
  have F04 : ∀ W, Bl (w.alloc (.cells #[.int .i64 lo, .int .i64 hi, .int .i64 lv, .slice A n c, .slice B m k] 36)) W → W.cell? ⟨w.heap.size, 4, none⟩ = some (.slice B m k) := Bl.all (by go_simp)
  have hb := Bl.refl (w.alloc (.cells #[.int .i64 lo, .int .i64 hi, .int .i64 lv, .slice A n c, .slice B m k] 36))
  have hb0 : Hid (Bl w (w.alloc (.cells #[.int .i64 lo, .int .i64 hi, .int .i64 lv, .slice A n c, .slice B m k] 36))) := (Bl.refl w).alloc _
  clear s1 s2
  go_enter Try.func4, Try.ntmps4
  go_wp2_with fail
  refine (HZ.out _).mono ?_
  rintro e w1 ⟨⟨r, rfl, r0, r1, hr⟩, hbn⟩
  have f0 := F00 _ hbn
  have f1 := F01 _ hbn
  have f2 := F02 _ hbn
  have f3 := F03 _ hbn
  have f4 := F04 _ hbn
  by_cases hr0 : r < 0
  · go_wp2_with fail
    go_ret
    exact ⟨rfl, hb0.out.trans hbn⟩
  have hsz : n ≤ 1048576 ∧ m ≤ 1048576 := by rcases hr with h | h; exact absurd h hr0; exact h
  clear hr
  have HT := Lib.hid (fun W hW => HT.out W hW hsz.1 hsz.2)
  have hb1 := hb0.out.trans hbn
  have hbx := hbn
  clear hbn
  go_wp2_with fail
  refine (HT.out _ hb1).mono ?_
  rintro e w2 ⟨C, f, D, d, rfl, t1, t2, _, _, hbn⟩
  have H1 := Lib.hid (specIsPumpTask_any lo hi lv C n f fl D m d pl _ t1 t2)
  have hb2 := hb1.trans hbn
  have hbx2 := hbx.trans hbn
  clear hbn t1 t2
  go_wp2_with fail
  refine H1.out.mono ?_
  rintro e w3 ⟨rfl, hbn⟩
  have hb3 := hb2.trans hbn
  have hbx3 := hbx2.trans hbn
  have f0 := F00 _ hbx3
  have f1 := F01 _ hbx3
  have f2 := F02 _ hbx3
  have f3 := F03 _ hbx3
  have f4 := F04 _ hbx3
  clear hbn
  go_wp2_with fail
  refine (HT.out _ hb3).mono ?_
  rintro e w4 ⟨C, f, D, d, rfl, t1, t2, _, _, hbn⟩
  have T1 := Lib.hid (t1.bl ((Bl.refl w4).alloc (.cells #[.int .i64 lo, .int .i64 hi, .int .i64 lv, .slice C n f, .slice D m d] 41)))
  have T2 := Lib.hid (t2.bl ((Bl.refl w4).alloc (.cells #[.int .i64 lo, .int .i64 hi, .int .i64 lv, .slice C n f, .slice D m d] 41)))
  have H2 := Lib.hid (implIsPumpTask_any lo hi lv C n f fl D m d pl _ T1.out T2.out)
  have hb4 := (hb3.trans hbn).alloc (.cells #[.int .i64 lo, .int .i64 hi, .int .i64 lv, .slice C n f, .slice D m d] 41)
  have hbx4 := (hbx3.trans hbn).alloc (.cells #[.int .i64 lo, .int .i64 hi, .int .i64 lv, .slice C n f, .slice D m d] 41)
  have E1 : Hid ((w4.alloc (.cells #[.int .i64 lo, .int .i64 hi, .int .i64 lv, .slice C n f, .slice D m d] 41)).heap[w4.heap.size]? = some (.cells #[.int .i64 lo, .int .i64 hi, .int .i64 lv, .slice C n f, .slice D m d] 41 (0, 0))) := heap_alloc_new w4 _
  generalize taskR lo hi lv fl pl = R at *
  clear hbn t1 t2
  go_wp2_with fail
  refine H2.out.mono ?_
  rintro e w5 ⟨rfl, hbn⟩
  have hb5 := hb4.trans hbn
  have hbx5 := hbx4.trans hbn
  have E1 := Lib.hid (block_of hbn E1.out)
  have T1 := Lib.hid (T1.out.bl hbn)
  have T2 := Lib.hid (T2.out.bl hbn)
  obtain ⟨q0, q1, q2, q3, q4⟩ := five_cell E1.out
  have G0 := Bl.all q0
  have G1 := Bl.all q1
  have G2 := Bl.all q2
  have G3 := Bl.all q3
  have G4 := Bl.all q4
  have F0 := fun W (hW : Bl w5 W) => F00 W (hbx5.trans hW)
  have F1 := fun W (hW : Bl w5 W) => F01 W (hbx5.trans hW)
  have F2 := fun W (hW : Bl w5 W) => F02 W (hbx5.trans hW)
  have F3 := fun W (hW : Bl w5 W) => F03 W (hbx5.trans hW)
  have F4 := fun W (hW : Bl w5 W) => F04 W (hbx5.trans hW)
  clear hbn F00 F01 F02 F03 F04 f0 f1 f2 f3 f4 hbx5 hbx4 hbx3 hbx2 hbx hb0 hb
  have hRR : (R != R) = false := by simp
  go_wp2_with fail
  have hb9 : Bl w5 w5.drew := (Bl.refl w5).drew
  go_region_held3 (fun W => W.cell? ⟨w4.heap.size, 0, none⟩ = some (.int .i64 lo) ∧ W.cell? ⟨w4.heap.size, 1, none⟩ = some (.int .i64 hi) ∧ W.cell? ⟨w4.heap.size, 2, none⟩ = some (.int .i64 lv) ∧ W.cell? ⟨w4.heap.size, 3, none⟩ = some (.slice C n f) ∧ W.cell? ⟨w4.heap.size, 4, none⟩ = some (.slice D m d) ∧ W.cell? ⟨w.heap.size, 0, none⟩ = some (.int .i64 lo) ∧ W.cell? ⟨w.heap.size, 1, none⟩ = some (.int .i64 hi) ∧ W.cell? ⟨w.heap.size, 2, none⟩ = some (.int .i64 lv) ∧ W.cell? ⟨w.heap.size, 3, none⟩ = some (.slice A n c) ∧ W.cell? ⟨w.heap.size, 4, none⟩ = some (.slice B m k)) (first | exact ⟨G0 _ (by with_reducible assumption), G1 _ (by with_reducible assumption), G2 _ (by with_reducible assumption), G3 _ (by with_reducible assumption), G4 _ (by with_reducible assumption), F0 _ (by with_reducible assumption), F1 _ (by with_reducible assumption), F2 _ (by with_reducible assumption), F3 _ (by with_reducible assumption), F4 _ (by with_reducible assumption)⟩) (first | (go_at_call 20; (with_reducible refine (HT.out _ (hb5.trans (by with_reducible assumption))).mono ?_); rintro e w6 ⟨C2, f2, D2, d2, rfl, t3, t4, _, _, hbn⟩; have hb6 : Bl w5 w6 := Bl.trans (by with_reducible assumption) hbn; have T16 := Lib.hid (T1.out.bl hb6); have T26 := Lib.hid (T2.out.bl hb6)) | (go_at_call 22; (with_reducible refine (eqPumpTask_any lo hi lv C C2 n f f2 fl D D2 m d d2 pl _ T16.out T26.out t3 t4).mono ?_); rintro e w7 ⟨rfl, hbn⟩; have hb7 : Bl w5 w7 := Bl.trans (by with_reducible assumption) hbn))
  all_goals
    go_wp2_with fail
    go_ret
    exact ⟨rfl, hb5.trans hb7⟩
namespace fnExactIsPumpTaskDone
set_option maxRecDepth 100000 in
theorem lifted (os : Os) (started : os.Started) (H : Type) (enc : TypeId × Value → H) :
    ReturnsInHanded {} Try.checked os 4 .any (Rows.fnExactIsPumpTaskSpec.pre6 enc Try.prog Try.f4 Rows.fnExactIsPumpTaskRow.domain false) (Rows.fnExactIsPumpTaskSpec.post enc Try.prog Try.f4 false true false false) := by
  refine returnsInHanded_of_change (C := Try.checked) seatOwn started (by kernel_rfl) Try.func4
    (ChangeSpec.witness6 (enc := enc) (C := Try.checked) false ⟨#[], #[.agg #[.int .i64 0, .int .i64 0, .int .i64 0, .slice none 0 0, .slice none 0 0]], []⟩ 8 (by kernel_rfl) (by kernel_rfl) (by kernel_rfl) (by kernel_rfl)) ?_
  intro W base args ds gs before hval0 hW hcnd _
  have hval : ∀ (j : Nat) t v, Try.f4.params[j]? = some t → args[j]? = some v → Value.okWide Try.prog W .any base t v := hval0
  have hW' := hW
  obtain ⟨p, q, hA0, hV, rfl, hfz, hnd⟩ := hW
  have hA : DataW.TrodAll enc Try.prog W 0 (fun _ => true) true Try.f4.params.toList args.toList ds p := hA0
  rw [Try.params4] at hA hval
  obtain ⟨v0, vs0, d0, ds0, p0, q0, hargs, rfl, rfl, h0, r0⟩ := trodAll_cons hA
  obtain ⟨rfl, rfl, rfl⟩ := trodAll_nil r0
  obtain rfl : args = #[v0] := by cases args; simp_all
  obtain ⟨rfl, rfl⟩ := trodVars_none hV
  have k0 := h0
  have lt0 : ∀ x ∈ p0, x.block < W.heap.size := by obtain ⟨m, hm⟩ := k0; exact DataW.trod_lt m _ _ _ hm
  obtain ⟨lo, hi, lv, A, n, c, fl, B, m, k, pl, rfl, s1, s2⟩ := open_task Try.underlying36 (by kernel_rfl) (by kernel_rfl) ⟨rfl, rfl, rfl, rfl, rfl⟩ Try.underlying3 (by kernel_rfl) Try.underlying33 Try.underlying34 Try.underlying105 ⟨rfl, rfl, rfl⟩ (by kernel_rfl) (by kernel_rfl) (hval 0 36 v0 rfl rfl) h0
  clear hA0 hval0
  refine (walk_FnExactIsPumpTask lo hi lv A n c fl B m k pl W s1 s2).mono fun e W' ⟨he, bel⟩ => ?_
  subst he
  exact ⟨_, rfl, _, _, _, [], _, [], hW', trodAll_mk1 (shut_bool Try.underlying4 _), (trodAll_cons_mk (Below.trod seatLaid (by kernel_rfl) (of_decide_eq_true (by kernel_rfl)) k0 bel lt0) trodAll_mk0), rfl, bel.frame _, fun h => by cases h⟩
theorem over : Rows.fnExactIsPumpTaskRow.holds Try.pinned (OpenSpec.ofChange Rows.fnExactIsPumpTaskSpec) :=
  OpenClaim.holds_of_wide 4 Try.f4 rfl rfl rfl rfl rfl rfl rfl ⟨rfl, rfl, rfl, rfl, rfl⟩ rfl rfl rfl rfl rfl (by kernel_rfl) Try.func4 (by kernel_rfl)
    (of_decide_eq_true (by kernel_rfl)) (by unfold Func.isWrapper; first | (rw [if_pos (by decide +kernel)]; kernel_rfl) | (rw [if_neg (by decide +kernel)]; exact ⟨rfl, rfl⟩))
    (fun os started H enc _ => lifted os started H enc)
theorem proved : Rows.FnExactIsPumpTaskSaid := over
#print axioms proved
end fnExactIsPumpTaskDone
end Go.Proofs.Ytmnbbnboaokgjaa
