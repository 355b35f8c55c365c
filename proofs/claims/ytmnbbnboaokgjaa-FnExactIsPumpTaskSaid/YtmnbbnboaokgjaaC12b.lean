/- The contract of IsPumpTask in the reference. -/
import Derived.Test.YtmnbbnboaokgjaaC12
namespace Go.Proofs.Ytmnbbnboaokgjaa
open Go.RowKit
theorem task_flow {lo hi lv : Int} {fl : List Int} {pl : List Pump} {k : Nat} {x : Int} (h : fl[k]? = some x) (hx : inB x (-50) 50 = false) : taskR lo hi lv fl pl = false := by
  have : (fl.all fun x => inB x (-50) 50) = false := all_not h hx
  rw [taskR, this]; simp
theorem task_pump {lo hi lv : Int} {fl : List Int} {pl : List Pump} {k : Nat} {p : Pump} (h : pl[k]? = some p) (hx : vPump p = false) : taskR lo hi lv fl pl = false := by
  have : pl.all vPump = false := all_not h hx
  rw [taskR, this]; simp
section
variable (lo hi lv : Int) (A : Option Addr) (n c : Nat) (fl : List Int) (B : Option Addr) (m d : Nat) (pl : List Pump) (w : World) (h : Sl ci 1 w A n fl) (g : Sl Pump.cs 3 w B m pl)
include h g
set_option maxHeartbeats 2000000 in
theorem l12Good_any :
    Calls Try.prog 65 #[.agg #[.int .i64 lo, .int .i64 hi, .int .i64 lv, .slice A n c, .slice B m d]] w fun e w' => e = .returned (.bool (taskR lo hi lv fl pl)) ∧ Bl w w' := by
  have HL := Lib.hid h.1
  have HM := Lib.hid g.1
  have bn := h.le
  have bm := g.le
  have HR : Hid ((fl.all fun x => inB x (-50) 50) = true → pl.all vPump = true → taskR lo hi lv fl pl = (decide (0 ≤ lo) && (decide (lo ≤ lv) && (decide (lv ≤ hi) && (decide (hi ≤ 500) && (inB (n : Int) 1 5 && decide (m ≤ 2))))))) := by
    intro h1 h2
    rw [taskR, h.1, g.1, h1, h2]; simp
  have HF := Lib.hid (fun k x (e : fl[k]? = some x) hx => task_flow (lo := lo) (hi := hi) (lv := lv) (pl := pl) e hx)
  have HP := Lib.hid (fun k x (e : pl[k]? = some x) hx => task_pump (lo := lo) (hi := hi) (lv := lv) (fl := fl) e hx)
  generalize taskR lo hi lv fl pl = R at *
  have HI := Lib.hid (fun x W => l1In_any x (-50) 50 W)
  have HJ1 := Lib.hid (fun x W => l1In_any x 1 50 W)
  have HJ2 := Lib.hid (fun x W => l1In_any x 0 20 W)
  have HJ3 := Lib.hid (fun x W => l1In_any x 0 50 W)
  have HK := Lib.hid (fun W => l1In_any (n : Int) 1 5 W)
  have F00 : ∀ W, Bl (w.alloc (.cells #[.int .i64 lo, .int .i64 hi, .int .i64 lv, .slice A n c, .slice B m d] 41)) W → W.cell? ⟨w.heap.size, 0, none⟩ = some (.int .i64 lo) := Bl.all (by go_simp)
  have F01 : ∀ W, Bl (w.alloc (.cells #[.int .i64 lo, .int .i64 hi, .int .i64 lv, .slice A n c, .slice B m d] 41)) W → W.cell? ⟨w.heap.size, 1, none⟩ = some (.int .i64 hi) := Bl.all (by go_simp)
  have F02 : ∀ W, Bl (w.alloc (.cells #[.int .i64 lo, .int .i64 hi, .int .i64 lv, .slice A n c, .slice B m d] 41)) W → W.cell? ⟨w.heap.size, 2, none⟩ = some (.int .i64 lv) := Bl.all (by go_simp)
  have F03 : ∀ W, Bl (w.alloc (.cells #[.int .i64 lo, .int .i64 hi, .int .i64 lv, .slice A n c, .slice B m d] 41)) W → W.cell? ⟨w.heap.size, 3, none⟩ = some (.slice A n c) := Bl.all (by go_simp)
  have F04 : ∀ W, Bl (w.alloc (.cells #[.int .i64 lo, .int .i64 hi, .int .i64 lv, .slice A n c, .slice B m d] 41)) W → W.cell? ⟨w.heap.size, 4, none⟩ = some (.slice B m d) := Bl.all (by go_simp)
  have hb := Bl.refl (w.alloc (.cells #[.int .i64 lo, .int .i64 hi, .int .i64 lv, .slice A n c, .slice B m d] 41))
  have hb0 : Hid (Bl w (w.alloc (.cells #[.int .i64 lo, .int .i64 hi, .int .i64 lv, .slice A n c, .slice B m d] 41))) := (Bl.refl w).alloc _
  have HB0 : Hid (Bl (w.alloc (.cells #[.int .i64 lo, .int .i64 hi, .int .i64 lv, .slice A n c, .slice B m d] 41)) (w.alloc (.cells #[.int .i64 lo, .int .i64 hi, .int .i64 lv, .slice A n c, .slice B m d] 41))) := Bl.refl _
  clear hb
  go_enter Try.func65, Try.ntmps65
  go_wp2_with fail
  generalize hw0 : w.alloc (.cells #[.int .i64 lo, .int .i64 hi, .int .i64 lv, .slice A n c, .slice B m d] 41) = w0 at *
  clear hw0
  generalize w.heap.size = S at *
  go_loopw [3] (fun i wr => ∃ k : Nat, k ≤ n ∧ i = .int .i64 k ∧ Bl w0 wr ∧ Hid ((fl.take k).all (fun x => inB x (-50) 50) = true)) (fun i _ => n - (intOf i).toNat)
  case atStart => exact ⟨0, Nat.zero_le _, rfl, HB0.out, rfl⟩
  case round =>
    obtain ⟨k, hk, rfl, hb, HA⟩ := hrel
    have f3 := F03 _ hb
    by_cases hlt : k < n
    · obtain ⟨b1, o1, x, rfl, ex, x1⟩ := h.int hlt
      have g1 := x1 _ (hb0.out.trans hb)
      have EX := Lib.hid ex
      clear ex x1
      go_wp2_with fail
      refine (HI.out _ _).mono ?_
      rintro e w' ⟨rfl, rfl⟩
      cases hx : inB x (-50) 50
      · have HQ := Lib.hid (HF.out _ _ EX.out hx)
        go_wp2_with fail
        go_ret
        exact ⟨by rw [HQ.out]; rfl, hb0.out.trans hb⟩
      · have HA2 : Hid ((fl.take (k + 1)).all (fun x => inB x (-50) 50) = true) := by show _ = _; rw [all_one _ EX.out, HA.out, hx]; rfl
        clear hx
        go_wp2_with fail
        first | exact ⟨⟨k + 1, by omega, by go_num, by first | exact hb | exact ⟨hb, HA2⟩, HA2⟩, by simp [intOf]; omega⟩ | (refine ⟨?_, by simp [intOf]; omega⟩; (repeat apply Exists.intro); exact ⟨⟨k + 1, by omega, by go_num, by first | exact hb | exact ⟨hb, HA2⟩, HA2⟩, rfl⟩)
    · have e : k = n := by omega
      subst e
      have HAF : Hid ((fl.all fun x => inB x (-50) 50) = true) := by show _ = _; have := HA.out; rwa [take_all HL.out] at this
      clear HA
      have hbX := hb
      go_wp2_with fail
      go_loopw [4] (fun i wx => ∃ j : Nat, j ≤ m ∧ i = .int .i64 j ∧ Bl w0 wx ∧ Hid ((pl.take j).all vPump = true)) (fun i _ => m - (intOf i).toNat)
      case atStart => exact ⟨0, Nat.zero_le _, rfl, hbX, rfl⟩
      case round =>
        clear hb hbX f3
        obtain ⟨j, hj, rfl, hb, HA⟩ := hrel
        have f4 := F04 _ hb
        by_cases hlt2 : j < m
        · obtain ⟨b2, o2, p, rfl, ep, p1, p2, p3⟩ := g.Pump hlt2
          have g1 := p1 _ (hb0.out.trans hb)
          have g2 := p2 _ (hb0.out.trans hb)
          have g3 := p3 _ (hb0.out.trans hb)
          have EP := Lib.hid ep
          have HV : Hid (vPump p = (inB p.Rate 1 50 && inB p.Cost 0 20 && inB p.Start 0 50)) := rfl
          obtain ⟨pr, pc, ps⟩ := p
          simp only at g1 g2 g3 HV
          clear ep p1 p2 p3
          have hb2 := (hb0.out.trans hb).alloc (.cells #[.int .i64 pr, .int .i64 pc, .int .i64 ps] 87)
          have hb3 := hb.alloc (.cells #[.int .i64 pr, .int .i64 pc, .int .i64 ps] 87)
          go_wp2_with fail
          refine (HJ1.out _ _).mono ?_
          rintro e w' ⟨rfl, rfl⟩
          cases h1 : inB pr 1 50
          · have HQ := Lib.hid (HP.out _ _ EP.out (by rw [HV.out, h1]; rfl))
            go_wp2_with fail
            go_ret
            exact ⟨by rw [HQ.out]; rfl, hb2⟩
          go_wp2_with fail
          refine (HJ2.out _ _).mono ?_
          rintro e w' ⟨rfl, rfl⟩
          cases h2 : inB pc 0 20
          · have HQ := Lib.hid (HP.out _ _ EP.out (by rw [HV.out, h1, h2]; rfl))
            go_wp2_with fail
            go_ret
            exact ⟨by rw [HQ.out]; rfl, hb2⟩
          go_wp2_with fail
          refine (HJ3.out _ _).mono ?_
          rintro e w' ⟨rfl, rfl⟩
          cases h3 : inB ps 0 50
          · have HQ := Lib.hid (HP.out _ _ EP.out (by rw [HV.out, h1, h2, h3]; rfl))
            go_wp2_with fail
            go_ret
            exact ⟨by rw [HQ.out]; rfl, hb2⟩
          have HA2 : Hid ((pl.take (j + 1)).all vPump = true) := by show _ = _; rw [all_one _ EP.out, HA.out, HV.out, h1, h2, h3]; rfl
          clear h1 h2 h3
          go_wp2_with fail
          first | exact ⟨⟨j + 1, by omega, by go_num, hb3, HA2⟩, by simp [intOf]; omega⟩ | (refine ⟨?_, by simp [intOf]; omega⟩; (repeat apply Exists.intro); exact ⟨⟨j + 1, by omega, by go_num, hb3, HA2⟩, rfl⟩)
        · have e : j = m := by omega
          subst e
          have HAP : Hid (pl.all vPump = true) := by show _ = _; have := HA.out; rwa [take_all HM.out] at this
          have HRR := Lib.hid (HR.out HAF.out HAP.out)
          have f0 := F00 _ hb
          have f1 := F01 _ hb
          have f2 := F02 _ hb
          have f3 := F03 _ hb
          have hbE := hb0.out.trans hb
          clear HA HAF HAP HR HF HP h g
          by_cases q1 : 0 ≤ lo
          case neg =>
            have q : decide (0 ≤ lo) = false := decide_eq_false q1
            have HQ : Hid (R = false) := by show _ = _; rw [HRR.out, q]; rfl
            clear q1
            go_wp2_with fail
            go_ret
            exact ⟨by rw [HQ.out]; rfl, hbE⟩
          by_cases q2 : lo ≤ lv
          case neg =>
            have HQ : Hid (R = false) := by show _ = _; rw [HRR.out, decide_eq_false q2]; simp
            go_wp2_with fail
            go_ret
            exact ⟨by rw [HQ.out]; rfl, hbE⟩
          by_cases q3 : lv ≤ hi
          case neg =>
            have HQ : Hid (R = false) := by show _ = _; rw [HRR.out, decide_eq_false q3]; simp
            go_wp2_with fail
            go_ret
            exact ⟨by rw [HQ.out]; rfl, hbE⟩
          by_cases q4 : hi ≤ 500
          case neg =>
            have HQ : Hid (R = false) := by show _ = _; rw [HRR.out, decide_eq_false q4]; simp
            go_wp2_with fail
            go_ret
            exact ⟨by rw [HQ.out]; rfl, hbE⟩
          have HR2 : Hid (R = (inB (k : Int) 1 5 && decide (j ≤ 2))) := by show _ = _; rw [HRR.out, decide_eq_true q1, decide_eq_true q2, decide_eq_true q3, decide_eq_true q4]; rfl
          go_wp2_with fail
          refine (HK.out _).mono ?_
          rintro e w' ⟨rfl, rfl⟩
          cases q5 : inB (k : Int) 1 5
          · have HQ : Hid (R = false) := by show _ = _; rw [HR2.out, q5]; rfl
            go_wp2_with fail
            go_ret
            exact ⟨by rw [HQ.out]; rfl, hbE⟩
          have HQ : Hid (R = decide ((j : Int) ≤ 2)) := by show _ = _; rw [HR2.out, q5, Bool.true_and]; exact decide_eq_decide.2 (by omega)
          clear HR2 HRR q5
          go_wp2_with fail
          go_ret
          exact ⟨by rw [HQ.out]; rfl, hbE⟩
set_option maxHeartbeats 1000000 in
theorem specIsPumpTask_any :
    Calls Try.prog 19 #[.agg #[.int .i64 lo, .int .i64 hi, .int .i64 lv, .slice A n c, .slice B m d]] w fun e w' => e = .returned (.bool (taskR lo hi lv fl pl)) ∧ Bl w w' := by
  have H1 := Lib.hid (fun W hW => l12Good_any lo hi lv A n c fl B m d pl W (h.bl hW) (g.bl hW))
  have hb0 : Bl w (w.alloc (.cells #[.int .i64 lo, .int .i64 hi, .int .i64 lv, .slice A n c, .slice B m d] 41)) := (Bl.refl w).alloc _
  clear h g
  go_enter Try.func19, Try.ntmps19
  go_wp2_with fail
  refine (H1.out _ hb0).mono ?_
  rintro e w' ⟨rfl, hbn⟩
  have hb := hb0.trans hbn
  go_wp2_with fail
  go_ret
  exact ⟨rfl, hb⟩
end
end Go.Proofs.Ytmnbbnboaokgjaa
