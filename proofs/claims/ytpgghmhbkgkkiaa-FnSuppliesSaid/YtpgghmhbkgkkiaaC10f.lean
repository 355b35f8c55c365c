/- The contracts of MoveWater and RunFlows in both programs. -/
import Derived.Test.YtpgghmhbkgkkiaaC10e
namespace Go.Proofs.Ytpgghmhbkgkkiaa
open Go.RowKit
set_option maxHeartbeats 1000000 in
theorem specMoveWater_any (A : Option Addr) (n c : Nat) (l : List Basin) (f : Flow) (w : World) (h : Sl Basin.cs 3 w A n l) (hn : n ≤ 1048576) :
    Calls Try.prog 26 #[.slice A n c, f.val] w (NewRes Basin.cs 3 69 (moveWaterR l f).1 (fun v => .tuple #[v, .bool (moveWaterR l f).2]) w) := by
  have bn := h.le
  have HL := Lib.hid h.1
  have H1 := Lib.hid (fun w h => l10Good_any A n c l w h)
  have H2 := Lib.hid (fun w => l10Flow_any n f w (by omega) (by omega))
  have HV : Hid (flowOk l f = (basinsOk l && validFlow n f)) := by show _ = _; rw [flowOk, HL.out]
  cases e1 : basinsOk l
  · have HR := Lib.hid (moveR_no (HV.out.trans (by rw [e1]; rfl)))
    generalize moveWaterR l f = R at *
    obtain ⟨x, y, z⟩ := f
    simp only [Flow.val]
    have F00 : ∀ W, Bl (w.alloc (.cells #[.int .i64 x, .int .i64 y, .int .i64 z] 32)) W → W.cell? ⟨w.heap.size, 0, none⟩ = some (.int .i64 x) := Bl.all (by go_simp)
    have F01 : ∀ W, Bl (w.alloc (.cells #[.int .i64 x, .int .i64 y, .int .i64 z] 32)) W → W.cell? ⟨w.heap.size, 1, none⟩ = some (.int .i64 y) := Bl.all (by go_simp)
    have F02 : ∀ W, Bl (w.alloc (.cells #[.int .i64 x, .int .i64 y, .int .i64 z] 32)) W → W.cell? ⟨w.heap.size, 2, none⟩ = some (.int .i64 z) := Bl.all (by go_simp)
    have hb := Bl.refl (w.alloc (.cells #[.int .i64 x, .int .i64 y, .int .i64 z] 32))
    have hb0 : Hid (Bl w (w.alloc (.cells #[.int .i64 x, .int .i64 y, .int .i64 z] 32))) := (Bl.refl w).alloc _
    go_enter Try.func26, Try.ntmps26
    go_wp2_with fail
    refine (H1.out _ (h.bl hb0.out)).mono ?_
    rintro e w1 ⟨rfl, hbn⟩
    have hb := hb.trans hbn
    clear hbn
    simp only [e1]
    go_wp2_with fail
    go_ret2
    rw [HR.out]
    exact NewRes.empty (hb0.out.trans hb)
  cases e2 : validFlow n f
  · have HR := Lib.hid (moveR_no (HV.out.trans (by rw [e1, e2]; rfl)))
    generalize moveWaterR l f = R at *
    obtain ⟨x, y, z⟩ := f
    simp only [Flow.val] at H2 ⊢
    have F00 : ∀ W, Bl (w.alloc (.cells #[.int .i64 x, .int .i64 y, .int .i64 z] 32)) W → W.cell? ⟨w.heap.size, 0, none⟩ = some (.int .i64 x) := Bl.all (by go_simp)
    have F01 : ∀ W, Bl (w.alloc (.cells #[.int .i64 x, .int .i64 y, .int .i64 z] 32)) W → W.cell? ⟨w.heap.size, 1, none⟩ = some (.int .i64 y) := Bl.all (by go_simp)
    have F02 : ∀ W, Bl (w.alloc (.cells #[.int .i64 x, .int .i64 y, .int .i64 z] 32)) W → W.cell? ⟨w.heap.size, 2, none⟩ = some (.int .i64 z) := Bl.all (by go_simp)
    have hb := Bl.refl (w.alloc (.cells #[.int .i64 x, .int .i64 y, .int .i64 z] 32))
    have hb0 : Hid (Bl w (w.alloc (.cells #[.int .i64 x, .int .i64 y, .int .i64 z] 32))) := (Bl.refl w).alloc _
    go_enter Try.func26, Try.ntmps26
    go_wp2_with fail
    refine (H1.out _ (h.bl hb0.out)).mono ?_
    rintro e w1 ⟨rfl, hbn⟩
    have hb := hb.trans hbn
    clear hbn
    simp only [e1]
    go_wp2_with fail
    refine (H2.out _).mono ?_
    rintro e w' ⟨rfl, hbn⟩
    have hb := hb.trans hbn
    clear hbn
    simp only [e2]
    go_wp2_with fail
    go_ret2
    rw [HR.out]
    exact NewRes.empty (hb0.out.trans hb)
  obtain ⟨_, _, _, _, _, v6, v7⟩ := valid_flow e2
  have H3 := Lib.hid (fun w h => l10Move_any A n c l f w h hn (small_mono (small_ok e1) (by omega)) (by omega) v7)
  have HM := Lib.hid (moveL_len l f)
  cases e3 : basinsOk (moveL l f)
  · have HR := Lib.hid (moveR_bad e3)
    generalize moveWaterR l f = R at *
    generalize moveL l f = M at *
    obtain ⟨x, y, z⟩ := f
    simp only [Flow.val] at H2 H3 ⊢
    have F00 : ∀ W, Bl (w.alloc (.cells #[.int .i64 x, .int .i64 y, .int .i64 z] 32)) W → W.cell? ⟨w.heap.size, 0, none⟩ = some (.int .i64 x) := Bl.all (by go_simp)
    have F01 : ∀ W, Bl (w.alloc (.cells #[.int .i64 x, .int .i64 y, .int .i64 z] 32)) W → W.cell? ⟨w.heap.size, 1, none⟩ = some (.int .i64 y) := Bl.all (by go_simp)
    have F02 : ∀ W, Bl (w.alloc (.cells #[.int .i64 x, .int .i64 y, .int .i64 z] 32)) W → W.cell? ⟨w.heap.size, 2, none⟩ = some (.int .i64 z) := Bl.all (by go_simp)
    have hb := Bl.refl (w.alloc (.cells #[.int .i64 x, .int .i64 y, .int .i64 z] 32))
    have hb0 : Hid (Bl w (w.alloc (.cells #[.int .i64 x, .int .i64 y, .int .i64 z] 32))) := (Bl.refl w).alloc _
    go_enter Try.func26, Try.ntmps26
    go_wp2_with fail
    refine (H1.out _ (h.bl hb0.out)).mono ?_
    rintro e w1 ⟨rfl, hbn⟩
    have hb := hb.trans hbn
    clear hbn
    simp only [e1]
    go_wp2_with fail
    refine (H2.out _).mono ?_
    rintro e w' ⟨rfl, hbn⟩
    have hb := hb.trans hbn
    clear hbn
    simp only [e2]
    go_wp2_with fail
    refine (H3.out _ (h.bl (hb0.out.trans hb))).mono ?_
    rintro e w4 ⟨B4, m4, c4, rfl, ho4, hl4, hm4, hbn⟩
    have hb := hb.trans hbn
    clear hbn
    go_wp2_with fail
    refine (l10Good_any B4 m4 c4 M w4 (Sl.of_own Basin.cs_len ho4 hl4 (by omega))).mono ?_
    rintro e w5 ⟨rfl, hbn⟩
    have hb := hb.trans hbn
    clear hbn
    simp only [e3]
    go_wp2_with fail
    go_ret2
    rw [HR.out]
    exact NewRes.empty (hb0.out.trans hb)
  · have HR := Lib.hid (moveR_yes (HV.out.trans (by rw [e1, e2]; rfl)) e3)
    generalize moveWaterR l f = R at *
    generalize moveL l f = M at *
    obtain ⟨x, y, z⟩ := f
    simp only [Flow.val] at H2 H3 ⊢
    have F00 : ∀ W, Bl (w.alloc (.cells #[.int .i64 x, .int .i64 y, .int .i64 z] 32)) W → W.cell? ⟨w.heap.size, 0, none⟩ = some (.int .i64 x) := Bl.all (by go_simp)
    have F01 : ∀ W, Bl (w.alloc (.cells #[.int .i64 x, .int .i64 y, .int .i64 z] 32)) W → W.cell? ⟨w.heap.size, 1, none⟩ = some (.int .i64 y) := Bl.all (by go_simp)
    have F02 : ∀ W, Bl (w.alloc (.cells #[.int .i64 x, .int .i64 y, .int .i64 z] 32)) W → W.cell? ⟨w.heap.size, 2, none⟩ = some (.int .i64 z) := Bl.all (by go_simp)
    have hb := Bl.refl (w.alloc (.cells #[.int .i64 x, .int .i64 y, .int .i64 z] 32))
    have hb0 : Hid (Bl w (w.alloc (.cells #[.int .i64 x, .int .i64 y, .int .i64 z] 32))) := (Bl.refl w).alloc _
    go_enter Try.func26, Try.ntmps26
    go_wp2_with fail
    refine (H1.out _ (h.bl hb0.out)).mono ?_
    rintro e w1 ⟨rfl, hbn⟩
    have hb := hb.trans hbn
    clear hbn
    simp only [e1]
    go_wp2_with fail
    refine (H2.out _).mono ?_
    rintro e w' ⟨rfl, hbn⟩
    have hb := hb.trans hbn
    clear hbn
    simp only [e2]
    go_wp2_with fail
    refine (H3.out _ (h.bl (hb0.out.trans hb))).mono ?_
    rintro e w4 ⟨B4, m4, c4, rfl, ho4, hl4, hm4, hbn⟩
    have hb := hb.trans hbn
    clear hbn
    go_wp2_with fail
    refine (l10Good_any B4 m4 c4 M w4 (Sl.of_own Basin.cs_len ho4 hl4 (by omega))).mono ?_
    rintro e w5 ⟨rfl, hbn⟩
    have hb := hb.trans hbn
    clear hbn
    simp only [e3]
    go_wp2_with fail
    refine (H3.out _ (h.bl (hb0.out.trans hb))).mono ?_
    rintro e w6 ⟨B6, m6, c6, rfl, ho6, hl6, hm6, hbn⟩
    have hb6 := hb.trans hbn
    go_wp2_with fail
    go_ret2
    rw [HR.out]
    exact NewRes.own ho6 (hb0.out.trans hb) hl6 hm6 (hb0.out.trans hb6)
set_option maxHeartbeats 1000000 in
theorem implMoveWater_any (A : Option Addr) (n c : Nat) (l : List Basin) (f : Flow) (w : World) (h : Sl Basin.cs 3 w A n l) (hn : n ≤ 1048576) :
    Calls Try.prog 27 #[.slice A n c, f.val] w (NewRes Basin.cs 3 69 (moveWaterR l f).1 (fun v => .tuple #[v, .bool (moveWaterR l f).2]) w) := by
  have bn := h.le
  have HL := Lib.hid h.1
  have H1 := Lib.hid (fun w h => implIsFlow_any A n c l f w h)
  cases e1 : flowOk l f
  · have HR := Lib.hid (moveR_no e1)
    generalize moveWaterR l f = R at *
    obtain ⟨x, y, z⟩ := f
    simp only [Flow.val] at H1 ⊢
    have F00 : ∀ W, Bl (w.alloc (.cells #[.int .i64 x, .int .i64 y, .int .i64 z] 32)) W → W.cell? ⟨w.heap.size, 0, none⟩ = some (.int .i64 x) := Bl.all (by go_simp)
    have F01 : ∀ W, Bl (w.alloc (.cells #[.int .i64 x, .int .i64 y, .int .i64 z] 32)) W → W.cell? ⟨w.heap.size, 1, none⟩ = some (.int .i64 y) := Bl.all (by go_simp)
    have F02 : ∀ W, Bl (w.alloc (.cells #[.int .i64 x, .int .i64 y, .int .i64 z] 32)) W → W.cell? ⟨w.heap.size, 2, none⟩ = some (.int .i64 z) := Bl.all (by go_simp)
    have hb := Bl.refl (w.alloc (.cells #[.int .i64 x, .int .i64 y, .int .i64 z] 32))
    have hb0 : Hid (Bl w (w.alloc (.cells #[.int .i64 x, .int .i64 y, .int .i64 z] 32))) := (Bl.refl w).alloc _
    go_enter Try.func27, Try.ntmps27
    go_wp2_with fail
    refine (H1.out _ (h.bl hb0.out)).mono ?_
    rintro e w1 ⟨rfl, hbn⟩
    have hb := hb.trans hbn
    clear hbn
    simp only [e1]
    go_wp2_with fail
    go_ret2
    rw [HR.out]
    exact NewRes.nil (hb0.out.trans hb)
  have hfl := flow_parts e1
  have H3 := Lib.hid (fun w h => moveWater_any A n c l f w h hn (small_mono (small_ok hfl.1) (by omega)) (by rw [← HL.out]; exact hfl.2))
  clear hfl
  have HM := Lib.hid (moveL_len l f)
  cases e3 : basinsOk (moveL l f)
  · have HR := Lib.hid (moveR_bad e3)
    generalize moveWaterR l f = R at *
    generalize moveL l f = M at *
    obtain ⟨x, y, z⟩ := f
    simp only [Flow.val] at H1 H3 ⊢
    have F00 : ∀ W, Bl (w.alloc (.cells #[.int .i64 x, .int .i64 y, .int .i64 z] 32)) W → W.cell? ⟨w.heap.size, 0, none⟩ = some (.int .i64 x) := Bl.all (by go_simp)
    have F01 : ∀ W, Bl (w.alloc (.cells #[.int .i64 x, .int .i64 y, .int .i64 z] 32)) W → W.cell? ⟨w.heap.size, 1, none⟩ = some (.int .i64 y) := Bl.all (by go_simp)
    have F02 : ∀ W, Bl (w.alloc (.cells #[.int .i64 x, .int .i64 y, .int .i64 z] 32)) W → W.cell? ⟨w.heap.size, 2, none⟩ = some (.int .i64 z) := Bl.all (by go_simp)
    have hb := Bl.refl (w.alloc (.cells #[.int .i64 x, .int .i64 y, .int .i64 z] 32))
    have hb0 : Hid (Bl w (w.alloc (.cells #[.int .i64 x, .int .i64 y, .int .i64 z] 32))) := (Bl.refl w).alloc _
    go_enter Try.func27, Try.ntmps27
    go_wp2_with fail
    refine (H1.out _ (h.bl hb0.out)).mono ?_
    rintro e w1 ⟨rfl, hbn⟩
    have hb := hb.trans hbn
    clear hbn
    simp only [e1]
    go_wp2_with fail
    refine (H3.out _ (h.bl (hb0.out.trans hb))).mono ?_
    rintro e w4 ⟨B4, m4, c4, rfl, ho4, hl4, hm4, hbn⟩
    have hb := hb.trans hbn
    clear hbn
    go_wp2_with fail
    refine (areBasins_any B4 m4 c4 M w4 (Sl.of_own Basin.cs_len ho4 hl4 (by omega))).mono ?_
    rintro e w5 ⟨rfl, hbn⟩
    have hb := hb.trans hbn
    clear hbn
    simp only [e3]
    go_wp2_with fail
    go_ret2
    rw [HR.out]
    exact NewRes.nil (hb0.out.trans hb)
  · have HR := Lib.hid (moveR_yes e1 e3)
    generalize moveWaterR l f = R at *
    generalize moveL l f = M at *
    obtain ⟨x, y, z⟩ := f
    simp only [Flow.val] at H1 H3 ⊢
    have F00 : ∀ W, Bl (w.alloc (.cells #[.int .i64 x, .int .i64 y, .int .i64 z] 32)) W → W.cell? ⟨w.heap.size, 0, none⟩ = some (.int .i64 x) := Bl.all (by go_simp)
    have F01 : ∀ W, Bl (w.alloc (.cells #[.int .i64 x, .int .i64 y, .int .i64 z] 32)) W → W.cell? ⟨w.heap.size, 1, none⟩ = some (.int .i64 y) := Bl.all (by go_simp)
    have F02 : ∀ W, Bl (w.alloc (.cells #[.int .i64 x, .int .i64 y, .int .i64 z] 32)) W → W.cell? ⟨w.heap.size, 2, none⟩ = some (.int .i64 z) := Bl.all (by go_simp)
    have hb := Bl.refl (w.alloc (.cells #[.int .i64 x, .int .i64 y, .int .i64 z] 32))
    have hb0 : Hid (Bl w (w.alloc (.cells #[.int .i64 x, .int .i64 y, .int .i64 z] 32))) := (Bl.refl w).alloc _
    go_enter Try.func27, Try.ntmps27
    go_wp2_with fail
    refine (H1.out _ (h.bl hb0.out)).mono ?_
    rintro e w1 ⟨rfl, hbn⟩
    have hb := hb.trans hbn
    clear hbn
    simp only [e1]
    go_wp2_with fail
    refine (H3.out _ (h.bl (hb0.out.trans hb))).mono ?_
    rintro e w4 ⟨B4, m4, c4, rfl, ho4, hl4, hm4, hbn⟩
    have hb4 := hb.trans hbn
    clear hbn
    go_wp2_with fail
    refine (areBasins_any B4 m4 c4 M w4 (Sl.of_own Basin.cs_len ho4 hl4 (by omega))).mono ?_
    rintro e w5 ⟨rfl, hbn⟩
    have hb5 := hb4.trans hbn
    have ho5 := hbn.own ho4
    clear hbn
    simp only [e3]
    go_wp2_with fail
    go_ret2
    rw [HR.out]
    exact NewRes.own ho5 (hb0.out.trans hb) hl4 hm4 (hb0.out.trans hb5)
set_option maxHeartbeats 1000000 in
theorem specRunFlows_any (A : Option Addr) (n c : Nat) (l : List Basin) (B : Option Addr) (m d : Nat) (fs : List Flow) (w : World) (h : Sl Basin.cs 3 w A n l) (hf : Sl Flow.cs 3 w B m fs) (hn : n ≤ 1048576) (_ : m ≤ 1048576) :
    Calls Try.prog 37 #[.slice A n c, .slice B m d] w (NewRes Basin.cs 3 69 (runFlowsR l fs).1 (fun v => .tuple #[v, .int .i64 (runFlowsR l fs).2.1, .bool (runFlowsR l fs).2.2]) w) := by
  have bn := h.le
  have bm := hf.le
  have HL := Lib.hid h.1
  have HM := Lib.hid hf.1
  have H1 := Lib.hid (l10Flows_any A B n m c d l fs w h hf)
  cases e1 : flowsOk l fs
  · have HR := Lib.hid (flows_no e1)
    go_enter Try.func37, Try.ntmps37
    go_wp2_with fail
    refine H1.out.mono ?_
    rintro e w1 ⟨rfl, hb⟩
    simp only [e1]
    go_wp2_with fail
    go_ret3
    rw [HR.out]
    exact NewRes.empty hb
  have HF := Lib.hid e1
  have hpt := flows_parts e1
  have HA := Lib.hid hpt.2.2
  have hl6 := bas_len hpt.1
  rw [HL.out] at hl6
  have m12 := hpt.2.1
  rw [HM.out] at m12
  have HK := Lib.hid hpt.1
  clear hpt
  go_enter Try.func37, Try.ntmps37
  go_wp2_with fail
  refine H1.out.mono ?_
  rintro e w1 ⟨rfl, hb⟩
  simp only [e1]
  obtain ⟨i0, hi0, hz0, hz1, hz2⟩ := info_parts infoBasin
  go_wp2_with (at_builtin; refine wpList_append_new _ rfl _ _ _ rfl 69 i0 _ 3 24 Try.underlying25 hi0 hz0 hz1 hz2 rfl (by omega) Basin.cs_len Basin.one _ rfl (by first | rfl | simp) A n c l rfl (h.bl hb) (by unfold maxLen; omega) (by omega) ?_)
  clear hi0 hz0 hz1 hz2
  intro B1 d1 w2 ho hbn
  have ho := own_mono ho hb.le
  have hb := hb.trans hbn
  clear hbn
  go_wp2_with fail
  go_loopw [7, 8] (fun u i wr => ∃ (k : Nat) (C : Option Addr) (c2 : Nat) (r : List Basin), k ≤ m ∧ i = .int .i64 k ∧ u = .slice C n c2 ∧ Bl w wr ∧ wr.ownsRow w.heap.size 69 3 (.slice C n c2) n (r.flatMap Basin.cs) ∧ Hid (runF l fs = ((runF r (fs.drop k)).1, (runF r (fs.drop k)).2 + k)) ∧ Hid (basinsOk r = true) ∧ Hid (r.length = n)) (fun _ i _ => m - (intOf i).toNat)
  case atStart => exact ⟨0, B1, d1, l, Nat.zero_le _, rfl, rfl, hb, ho, rfl, HK, HL⟩
  case round =>
    clear hb ho
    obtain ⟨k, C, c2, r, hk, rfl, rfl, hb, hor, hrun, hok, hlr⟩ := hrel
    by_cases hlt : k < m
    · obtain ⟨p1, o1, f, rfl, e1', c1, c2', c3⟩ := hf.Flow hlt
      have hv := List.all_eq_true.1 HA.out f (List.mem_of_getElem? e1')
      have hvr : validFlow r.length f = true := by rw [hlr.out, ← HL.out]; exact hv
      have hfo := flow_len (l := l) (hlr.out.trans HL.out.symm) hok.out hv
      obtain ⟨_, _, _, _, _, v6, v7⟩ := valid_flow hv
      have E1 := Lib.hid e1'
      have HV := Lib.hid hv
      have HFO := Lib.hid hfo
      clear e1' hv hvr hfo
      have hS := Sl.of_own Basin.cs_len hor hlr.out (by omega)
      have H3 := Lib.hid (fun w h => l10Move_any C n c2 r f w h hn (small_mono (small_ok hok.out) (by omega)) (by omega) v7)
      have HLM := Lib.hid ((moveL_len r f).trans hlr.out)
      have HN := Lib.hid (fun g => runF_at hrun.out E1.out g)
      have HS := Lib.hid (fun g => runF_stop hrun.out E1.out g)
      generalize moveL r f = M at *
      go_wp2_with fail
      refine (H3.out _ hS).mono ?_
      rintro e w4 ⟨B4, m4, c4, rfl, ho4, hl4, hm4, hbn⟩
      have hm4' : m4 = n := by rw [← hl4, HLM.out]
      subst hm4'
      have hb4 := hb.trans hbn
      have ho4' := own_mono ho4 hb.le
      have hor4 := hbn.own hor
      clear hbn
      go_wp2_with fail
      refine (l10Good_any B4 _ c4 M w4 (Sl.of_own Basin.cs_len ho4 hl4 (by omega))).mono ?_
      rintro e w5 ⟨rfl, hbn⟩
      have hb5 := hb4.trans hbn
      have hor5 := hbn.own hor4
      have ho5 := hbn.own ho4'
      cases e3 : basinsOk M
      · have HR := Lib.hid (flows_yes HF.out (HS.out e3))
        simp only [e3]
        go_wp2_with fail
        go_ret3
        rw [HR.out]
        exact NewRes.own hor5 (Bl.refl w) hlr.out hn hb5
      · have HT := Lib.hid (HN.out e3)
        simp only [e3]
        go_wp2_with fail
        first | exact ⟨⟨k + 1, B4, c4, M, by omega, by go_num, rfl, hb5, ho5, HT, e3, hl4⟩, by simp [intOf]; omega⟩ | (refine ⟨?_, by simp [intOf]; omega⟩; (repeat apply Exists.intro); exact ⟨⟨k + 1, B4, c4, M, by omega, by go_num, rfl, hb5, ho5, HT, e3, hl4⟩, rfl⟩)
    · have e : k = m := by omega
      subst e
      have HR := Lib.hid (flows_yes HF.out (runF_end hrun.out HM.out))
      go_wp2_with fail
      go_ret3
      rw [HR.out]
      exact NewRes.own hor (Bl.refl w) hlr.out hn hb
set_option maxHeartbeats 1000000 in
theorem implRunFlows_any (A : Option Addr) (n c : Nat) (l : List Basin) (B : Option Addr) (m d : Nat) (fs : List Flow) (w : World) (h : Sl Basin.cs 3 w A n l) (hf : Sl Flow.cs 3 w B m fs) (hn : n ≤ 1048576) (_ : m ≤ 1048576) :
    Calls Try.prog 38 #[.slice A n c, .slice B m d] w (NewRes Basin.cs 3 69 (runFlowsR l fs).1 (fun v => .tuple #[v, .int .i64 (runFlowsR l fs).2.1, .bool (runFlowsR l fs).2.2]) w) := by
  have bn := h.le
  have bm := hf.le
  have HL := Lib.hid h.1
  have HM := Lib.hid hf.1
  have H1 := Lib.hid (areFlows_any A B n m c d l fs w h hf)
  cases e1 : flowsOk l fs
  · have HR := Lib.hid (flows_no e1)
    go_enter Try.func38, Try.ntmps38
    go_wp2_with fail
    refine H1.out.mono ?_
    rintro e w1 ⟨rfl, hb⟩
    simp only [e1]
    go_wp2_with fail
    go_ret3
    rw [HR.out]
    exact NewRes.nil hb
  have HF := Lib.hid e1
  have hpt := flows_parts e1
  have HA := Lib.hid hpt.2.2
  have hl6 := bas_len hpt.1
  rw [HL.out] at hl6
  have m12 := hpt.2.1
  rw [HM.out] at m12
  have HK := Lib.hid hpt.1
  clear hpt
  go_enter Try.func38, Try.ntmps38
  go_wp2_with fail
  refine H1.out.mono ?_
  rintro e w1 ⟨rfl, hb⟩
  simp only [e1]
  obtain ⟨i0, hi0, hz0, hz1, hz2⟩ := info_parts infoBasin
  go_wp2_with (at_builtin; refine wpList_append_new _ rfl _ _ _ rfl 69 i0 _ 3 24 Try.underlying25 hi0 hz0 hz1 hz2 rfl (by omega) Basin.cs_len Basin.one _ rfl (by first | rfl | simp) A n c l rfl (h.bl hb) (by unfold maxLen; omega) (by omega) ?_)
  clear hi0 hz0 hz1 hz2
  intro B1 d1 w2 ho hbn
  have ho := own_mono ho hb.le
  have hb := hb.trans hbn
  clear hbn
  go_wp2_with fail
  go_loopw [7, 21] (fun u i wr => ∃ (k : Nat) (C : Option Addr) (c2 : Nat) (r : List Basin), k ≤ m ∧ i = .int .i64 k ∧ u = .slice C n c2 ∧ Bl w wr ∧ wr.ownsRow w.heap.size 69 3 (.slice C n c2) n (r.flatMap Basin.cs) ∧ Hid (runF l fs = ((runF r (fs.drop k)).1, (runF r (fs.drop k)).2 + k)) ∧ Hid (basinsOk r = true) ∧ Hid (r.length = n)) (fun _ i _ => m - (intOf i).toNat)
  case atStart => exact ⟨0, B1, d1, l, Nat.zero_le _, rfl, rfl, hb, ho, rfl, HK, HL⟩
  case round =>
    clear hb ho
    obtain ⟨k, C, c2, r, hk, rfl, rfl, hb, hor, hrun, hok, hlr⟩ := hrel
    by_cases hlt : k < m
    · obtain ⟨p1, o1, f, rfl, e1', c1, c2', c3⟩ := hf.Flow hlt
      have hv := List.all_eq_true.1 HA.out f (List.mem_of_getElem? e1')
      have hvr : validFlow r.length f = true := by rw [hlr.out, ← HL.out]; exact hv
      have hfo := flow_len (l := l) (hlr.out.trans HL.out.symm) hok.out hv
      obtain ⟨_, _, _, _, _, v6, v7⟩ := valid_flow hv
      have E1 := Lib.hid e1'
      have HV := Lib.hid hv
      have HFO := Lib.hid hfo
      clear e1' hv hvr hfo
      have hS := Sl.of_own Basin.cs_len hor hlr.out (by omega)
      have H3 := Lib.hid (fun w h => implMoveWater_any C n c2 r f w h hn)
      have HLM := Lib.hid ((moveL_len r f).trans hlr.out)
      have HN := Lib.hid (fun g => runF_at hrun.out E1.out g)
      have HS := Lib.hid (fun g => runF_stop hrun.out E1.out g)
      cases e3 : basinsOk (moveL r f)
      · have HR := Lib.hid (flows_yes HF.out (HS.out e3))
        have HW := Lib.hid (moveR_bad (l := r) (f := f) e3)
        generalize moveWaterR r f = R at *
        go_wp2_with fail
        refine (H3.out _ (hS.bl ((Bl.refl _).alloc _))).mono ?_
        rintro e w4 ⟨B4, m4, c4, rfl, ho4, hl4, hm4, hbn⟩
        have hbn := ((Bl.refl wr).alloc _).trans hbn
        have hb4 := hb.trans hbn
        have hor4 := hbn.own hor
        clear hbn
        have hw2 := HW.out
        subst hw2
        go_wp2_with fail
        go_ret3
        rw [HR.out]
        exact NewRes.own hor4 (Bl.refl w) hlr.out hn hb4
      · have HT := Lib.hid (HN.out e3)
        have HW := Lib.hid (moveR_yes HFO.out e3)
        generalize moveWaterR r f = R at *
        generalize moveL r f = M at *
        go_wp2_with fail
        refine (H3.out _ (hS.bl ((Bl.refl _).alloc _))).mono ?_
        rintro e w4 ⟨B4, m4, c4, rfl, ho4, hl4, hm4, hbn⟩
        have hw2 := HW.out
        subst hw2
        have hm4' : m4 = n := by rw [← hl4]; exact HLM.out
        subst hm4'
        have hbn := ((Bl.refl wr).alloc _).trans hbn
        have hb4 := hb.trans hbn
        have ho4' : w4.ownsRow w.heap.size 69 3 (.slice B4 _ c4) _ (M.flatMap Basin.cs) := own_mono ho4 (Nat.le_trans hb.le (by simp))
        clear hbn
        go_wp2_with fail
        first | exact ⟨⟨k + 1, B4, c4, M, by omega, by go_num, rfl, hb4, ho4', HT, e3, HLM.out⟩, by simp [intOf]; omega⟩ | (refine ⟨?_, by simp [intOf]; omega⟩; (repeat apply Exists.intro); exact ⟨⟨k + 1, B4, c4, M, by omega, by go_num, rfl, hb4, ho4', HT, e3, HLM.out⟩, rfl⟩)
    · have e : k = m := by omega
      subst e
      have HR := Lib.hid (flows_yes HF.out (runF_end hrun.out HM.out))
      go_wp2_with fail
      go_ret3
      rw [HR.out]
      exact NewRes.own hor (Bl.refl w) hlr.out hn hb
end Go.Proofs.Ytpgghmhbkgkkiaa
