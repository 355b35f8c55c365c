/- The contracts of MostDangerous in both programs. -/
import Derived.Test.YtkeaobjcfkmjmaaQ7b
import Derived.Deep.RegionHeld3
namespace Go.Proofs.Ytkeaobjcfkmjmaa
open Go.RowKit
set_option maxHeartbeats 2000000 in
theorem specMostDangerous_any (A : Option Addr) (n c : Nat) (l : List Cargo) (w : World) (h : Sl Cargo.cs 3 w A n l) (hc : n ≤ c) :
    Calls Try.prog 25 #[.slice A n c] w fun e w' => e = .returned (.tuple #[.int .i64 (dangR l).1, .bool (dangR l).2]) ∧ Bl w w' := by
  have bn := h.le
  have HL := Lib.hid h.1
  have H1 := Lib.hid (l7Good_any A n c l w h)
  cases h1 : cargoOk l
  · have HR := Lib.hid (show dangR l = (0, false) by simp [dangR, h1])
    go_enter Try.func25, Try.ntmps25
    go_wp2_with fail
    refine H1.out.mono ?_
    rintro e w1 ⟨rfl, hb⟩
    simp only [h1]
    go_wp2_with fail
    go_ret2
    exact ⟨by rw [HR.out]; rfl, hb⟩
  by_cases hz : n = 0
  · have HR := Lib.hid (show dangR l = (0, false) by simp only [dangR, HL.out, hz]; simp)
    have e0 : ((n : Int) == 0) = true := by simp; omega
    clear hz
    go_enter Try.func25, Try.ntmps25
    go_wp2_with fail
    refine H1.out.mono ?_
    rintro e w1 ⟨rfl, hb⟩
    simp only [h1]
    go_wp2_with fail
    go_ret2
    exact ⟨by rw [HR.out]; rfl, hb⟩
  have HR := Lib.hid (show dangR l = ((bestK l (n - 1)).Id, true) by simp [dangR, h1, HL.out, hz])
  have e0 : ((n : Int) == 0) = false := by simp; omega
  have hn0 : 0 < n := by omega
  clear hz
  obtain ⟨b1, o1, p, rfl, ep, p1, p2, p3⟩ := h.Cargo hn0
  simp only [Nat.zero_mul, Nat.add_zero] at p1 p2 p3
  have HP := Lib.hid (show bestK l 0 = p by rw [bestK, carAt_eq ep])
  go_enter Try.func25, Try.ntmps25
  go_wp2_with fail
  refine H1.out.mono ?_
  rintro e w1 ⟨rfl, hb⟩
  simp only [h1]
  have g1 := p1 _ hb
  have g2 := p2 _ hb
  have g3 := p3 _ hb
  have hgl := hb.le
  clear p1 p2 p3 ep
  have hb0 : Bl w (w1.alloc (.cells #[.int .i64 p.Id, .int .i64 p.Length, .int .i64 p.Cones] 50)) := hb.alloc _
  go_wp2_with fail
  go_loopw [5] (fun i wr => ∃ k : Nat, 1 ≤ k ∧ k ≤ n ∧ i = .int .i64 k ∧ Bl w wr ∧ wr.cell? ⟨w1.heap.size, 0, none⟩ = some (.int .i64 (bestK l (k - 1)).Id) ∧ wr.cell? ⟨w1.heap.size, 1, none⟩ = some (.int .i64 (bestK l (k - 1)).Length) ∧ wr.cell? ⟨w1.heap.size, 2, none⟩ = some (.int .i64 (bestK l (k - 1)).Cones) ∧ (∀ j, wr.frozen? ⟨w1.heap.size, j, none⟩ = false)) (fun i _ => n - (intOf i).toNat)
  case atStart => exact ⟨1, Nat.le_refl _, hn0, rfl, hb0, by rw [HP.out]; go_simp, by rw [HP.out]; go_simp, by rw [HP.out]; go_simp, fun j => by go_simp⟩
  case round =>
    clear hb hb0 g1 g2 g3
    generalize w1.heap.size = g at *
    obtain ⟨k, hk1, hk, rfl, hb, y0, y1, y2, fz⟩ := hrel
    by_cases hlt : k < n
    · obtain ⟨b2, o2, x, hA, ex, q1, q2, q3⟩ := h.Cargo hlt
      injection hA with hA; injection hA with hA hA'; subst hA hA'
      have g1 := q1 _ hb
      have g2 := q2 _ hb
      have g3 := q3 _ hb
      have HB := Lib.hid (bestK_at hk1 ex)
      clear ex q1 q2 q3
      have hgu := World.block_lt_of_cell? _ _ y0
      simp only at hgu
      have ng1 : ¬ g = wr.heap.size := by omega
      have ng2 : ¬ wr.heap.size = g := by omega
      generalize bestK l (k - 1) = m at *
      obtain ⟨m0, m1, m2⟩ := m
      obtain ⟨x0, x1, x2⟩ := x
      simp only at g1 g2 g3 y0 y1 y2
      have HD : Hid (dang ⟨x0, x1, x2⟩ ⟨m0, m1, m2⟩ = (decide (m2 < x2) || (decide (x2 = m2) && (decide (m1 < x1) || (decide (x1 = m1) && decide (x0 < m0)))))) := rfl
      cases d1 : decide (m2 < x2)
      case true =>
        have HY := Lib.hid (show bestK l (k + 1 - 1) = ⟨x0, x1, x2⟩ by rw [HB.out, if_pos (by rw [HD.out, d1]; rfl)])
        go_wp2_with fail
        first | exact ⟨⟨k + 1, by omega, by omega, by go_num, by repeat (first | (with_reducible exact hb) | (with_reducible apply Bl.drew) | (with_reducible apply Bl.alloc) | (with_reducible refine Bl.setCell ?_ (by first | exact hgl | (simp; done) | (simp; omega)) _)), by rw [HY.out]; go_simp, by rw [HY.out]; go_simp, by rw [HY.out]; go_simp, fun j => by go_simp⟩, by simp [intOf]; omega⟩ | (refine ⟨?_, by simp [intOf]; omega⟩; (repeat apply Exists.intro); exact ⟨⟨k + 1, by omega, by omega, by go_num, by repeat (first | (with_reducible exact hb) | (with_reducible apply Bl.drew) | (with_reducible apply Bl.alloc) | (with_reducible refine Bl.setCell ?_ (by first | exact hgl | (simp; done) | (simp; omega)) _)), by rw [HY.out]; go_simp, by rw [HY.out]; go_simp, by rw [HY.out]; go_simp, fun j => by go_simp⟩, rfl⟩)
      by_cases d2 : x2 = m2
      case neg =>
        have HY := Lib.hid (show bestK l (k + 1 - 1) = ⟨m0, m1, m2⟩ by rw [HB.out, if_neg (by rw [HD.out, d1]; simp [d2])])
        have f2 : (x2 == m2) = false := by simpa using d2
        clear d2
        go_wp2_with fail
        first | exact ⟨⟨k + 1, by omega, by omega, by go_num, by repeat (first | (with_reducible exact hb) | (with_reducible apply Bl.drew) | (with_reducible apply Bl.alloc) | (with_reducible refine Bl.setCell ?_ (by first | exact hgl | (simp; done) | (simp; omega)) _)), by rw [HY.out]; go_simp, by rw [HY.out]; go_simp, by rw [HY.out]; go_simp, fun j => by go_simp⟩, by simp [intOf]; omega⟩ | (refine ⟨?_, by simp [intOf]; omega⟩; (repeat apply Exists.intro); exact ⟨⟨k + 1, by omega, by omega, by go_num, by repeat (first | (with_reducible exact hb) | (with_reducible apply Bl.drew) | (with_reducible apply Bl.alloc) | (with_reducible refine Bl.setCell ?_ (by first | exact hgl | (simp; done) | (simp; omega)) _)), by rw [HY.out]; go_simp, by rw [HY.out]; go_simp, by rw [HY.out]; go_simp, fun j => by go_simp⟩, rfl⟩)
      have f2 : (x2 == m2) = true := by simpa using d2
      have HD := Lib.hid (HD.out.trans (by rw [d1]; simp [d2] : _ = (decide (m1 < x1) || (decide (x1 = m1) && decide (x0 < m0)))))
      clear d2
      cases d3 : decide (m1 < x1)
      case true =>
        have HY := Lib.hid (show bestK l (k + 1 - 1) = ⟨x0, x1, x2⟩ by rw [HB.out, if_pos (by rw [HD.out, d3]; rfl)])
        go_wp2_with fail
        first | exact ⟨⟨k + 1, by omega, by omega, by go_num, by repeat (first | (with_reducible exact hb) | (with_reducible apply Bl.drew) | (with_reducible apply Bl.alloc) | (with_reducible refine Bl.setCell ?_ (by first | exact hgl | (simp; done) | (simp; omega)) _)), by rw [HY.out]; go_simp, by rw [HY.out]; go_simp, by rw [HY.out]; go_simp, fun j => by go_simp⟩, by simp [intOf]; omega⟩ | (refine ⟨?_, by simp [intOf]; omega⟩; (repeat apply Exists.intro); exact ⟨⟨k + 1, by omega, by omega, by go_num, by repeat (first | (with_reducible exact hb) | (with_reducible apply Bl.drew) | (with_reducible apply Bl.alloc) | (with_reducible refine Bl.setCell ?_ (by first | exact hgl | (simp; done) | (simp; omega)) _)), by rw [HY.out]; go_simp, by rw [HY.out]; go_simp, by rw [HY.out]; go_simp, fun j => by go_simp⟩, rfl⟩)
      by_cases d4 : x1 = m1
      case neg =>
        have HY := Lib.hid (show bestK l (k + 1 - 1) = ⟨m0, m1, m2⟩ by rw [HB.out, if_neg (by rw [HD.out, d3]; simp [d4])])
        have f4 : (x1 == m1) = false := by simpa using d4
        clear d4
        go_wp2_with fail
        first | exact ⟨⟨k + 1, by omega, by omega, by go_num, by repeat (first | (with_reducible exact hb) | (with_reducible apply Bl.drew) | (with_reducible apply Bl.alloc) | (with_reducible refine Bl.setCell ?_ (by first | exact hgl | (simp; done) | (simp; omega)) _)), by rw [HY.out]; go_simp, by rw [HY.out]; go_simp, by rw [HY.out]; go_simp, fun j => by go_simp⟩, by simp [intOf]; omega⟩ | (refine ⟨?_, by simp [intOf]; omega⟩; (repeat apply Exists.intro); exact ⟨⟨k + 1, by omega, by omega, by go_num, by repeat (first | (with_reducible exact hb) | (with_reducible apply Bl.drew) | (with_reducible apply Bl.alloc) | (with_reducible refine Bl.setCell ?_ (by first | exact hgl | (simp; done) | (simp; omega)) _)), by rw [HY.out]; go_simp, by rw [HY.out]; go_simp, by rw [HY.out]; go_simp, fun j => by go_simp⟩, rfl⟩)
      have f4 : (x1 == m1) = true := by simpa using d4
      have HD := Lib.hid (HD.out.trans (by rw [d3]; simp [d4] : _ = decide (x0 < m0)))
      clear d4
      cases d5 : decide (x0 < m0)
      · have HY := Lib.hid (show bestK l (k + 1 - 1) = ⟨m0, m1, m2⟩ by rw [HB.out, if_neg (by rw [HD.out, d5]; simp)])
        go_wp2_with fail
        first | exact ⟨⟨k + 1, by omega, by omega, by go_num, by repeat (first | (with_reducible exact hb) | (with_reducible apply Bl.drew) | (with_reducible apply Bl.alloc) | (with_reducible refine Bl.setCell ?_ (by first | exact hgl | (simp; done) | (simp; omega)) _)), by rw [HY.out]; go_simp, by rw [HY.out]; go_simp, by rw [HY.out]; go_simp, fun j => by go_simp⟩, by simp [intOf]; omega⟩ | (refine ⟨?_, by simp [intOf]; omega⟩; (repeat apply Exists.intro); exact ⟨⟨k + 1, by omega, by omega, by go_num, by repeat (first | (with_reducible exact hb) | (with_reducible apply Bl.drew) | (with_reducible apply Bl.alloc) | (with_reducible refine Bl.setCell ?_ (by first | exact hgl | (simp; done) | (simp; omega)) _)), by rw [HY.out]; go_simp, by rw [HY.out]; go_simp, by rw [HY.out]; go_simp, fun j => by go_simp⟩, rfl⟩)
      · have HY := Lib.hid (show bestK l (k + 1 - 1) = ⟨x0, x1, x2⟩ by rw [HB.out, if_pos (by rw [HD.out, d5])])
        go_wp2_with fail
        first | exact ⟨⟨k + 1, by omega, by omega, by go_num, by repeat (first | (with_reducible exact hb) | (with_reducible apply Bl.drew) | (with_reducible apply Bl.alloc) | (with_reducible refine Bl.setCell ?_ (by first | exact hgl | (simp; done) | (simp; omega)) _)), by rw [HY.out]; go_simp, by rw [HY.out]; go_simp, by rw [HY.out]; go_simp, fun j => by go_simp⟩, by simp [intOf]; omega⟩ | (refine ⟨?_, by simp [intOf]; omega⟩; (repeat apply Exists.intro); exact ⟨⟨k + 1, by omega, by omega, by go_num, by repeat (first | (with_reducible exact hb) | (with_reducible apply Bl.drew) | (with_reducible apply Bl.alloc) | (with_reducible refine Bl.setCell ?_ (by first | exact hgl | (simp; done) | (simp; omega)) _)), by rw [HY.out]; go_simp, by rw [HY.out]; go_simp, by rw [HY.out]; go_simp, fun j => by go_simp⟩, rfl⟩)
    · have e : k = n := by omega
      subst e
      go_wp2_with fail
      go_ret2
      exact ⟨by rw [HR.out]; rfl, hb⟩
def cmpC (a b : Cargo) : Int := orZ [cmpZ b.Cones a.Cones, cmpZ b.Length a.Length, cmpZ a.Id b.Id]
set_option maxHeartbeats 1000000 in
theorem dangFn_any (p q : Cargo) (w : World) : Calls Try.prog 64 #[p.val, q.val] w fun e w' => e = .returned (.int .i64 (cmpC p q)) ∧ Bl w w' := by
  obtain ⟨p0, p1, p2⟩ := p
  obtain ⟨q0, q1, q2⟩ := q
  simp only [Cargo.val]
  have F00 : ∀ W, Bl ((w.alloc (.cells #[.int .i64 p0, .int .i64 p1, .int .i64 p2] 50)).alloc (.cells #[.int .i64 q0, .int .i64 q1, .int .i64 q2] 50)) W → W.cell? ⟨w.heap.size, 0, none⟩ = some (.int .i64 p0) := Bl.all (by go_simp)
  have F01 : ∀ W, Bl ((w.alloc (.cells #[.int .i64 p0, .int .i64 p1, .int .i64 p2] 50)).alloc (.cells #[.int .i64 q0, .int .i64 q1, .int .i64 q2] 50)) W → W.cell? ⟨w.heap.size, 1, none⟩ = some (.int .i64 p1) := Bl.all (by go_simp)
  have F02 : ∀ W, Bl ((w.alloc (.cells #[.int .i64 p0, .int .i64 p1, .int .i64 p2] 50)).alloc (.cells #[.int .i64 q0, .int .i64 q1, .int .i64 q2] 50)) W → W.cell? ⟨w.heap.size, 2, none⟩ = some (.int .i64 p2) := Bl.all (by go_simp)
  have F10 : ∀ W, Bl ((w.alloc (.cells #[.int .i64 p0, .int .i64 p1, .int .i64 p2] 50)).alloc (.cells #[.int .i64 q0, .int .i64 q1, .int .i64 q2] 50)) W → W.cell? ⟨w.heap.size + 1, 0, none⟩ = some (.int .i64 q0) := Bl.all (by go_simp)
  have F11 : ∀ W, Bl ((w.alloc (.cells #[.int .i64 p0, .int .i64 p1, .int .i64 p2] 50)).alloc (.cells #[.int .i64 q0, .int .i64 q1, .int .i64 q2] 50)) W → W.cell? ⟨w.heap.size + 1, 1, none⟩ = some (.int .i64 q1) := Bl.all (by go_simp)
  have F12 : ∀ W, Bl ((w.alloc (.cells #[.int .i64 p0, .int .i64 p1, .int .i64 p2] 50)).alloc (.cells #[.int .i64 q0, .int .i64 q1, .int .i64 q2] 50)) W → W.cell? ⟨w.heap.size + 1, 2, none⟩ = some (.int .i64 q2) := Bl.all (by go_simp)
  have hb := Bl.refl ((w.alloc (.cells #[.int .i64 p0, .int .i64 p1, .int .i64 p2] 50)).alloc (.cells #[.int .i64 q0, .int .i64 q1, .int .i64 q2] 50))
  have hb0 : Hid (Bl w ((w.alloc (.cells #[.int .i64 p0, .int .i64 p1, .int .i64 p2] 50)).alloc (.cells #[.int .i64 q0, .int .i64 q1, .int .i64 q2] 50))) := ((Bl.refl w).alloc _).alloc _
  have hb1 := hb.drew
  have k0 := F00 _ hb
  have k1 := F01 _ hb
  have k2 := F02 _ hb
  have k3 := F10 _ hb
  have k4 := F11 _ hb
  have k5 := F12 _ hb
  have HF0 := Lib.hid F00
  have HF1 := Lib.hid F01
  have HF2 := Lib.hid F02
  have HF3 := Lib.hid F10
  have HF4 := Lib.hid F11
  have HF5 := Lib.hid F12
  clear F00 F01 F02 F10 F11 F12
  go_enter Try.func64, Try.ntmps64
  go_wp2_with fail
  go_region_held3 (fun W => W.cell? ⟨w.heap.size, 0, none⟩ = some (.int .i64 p0) ∧ W.cell? ⟨w.heap.size, 1, none⟩ = some (.int .i64 p1) ∧ W.cell? ⟨w.heap.size, 2, none⟩ = some (.int .i64 p2) ∧ W.cell? ⟨w.heap.size + 1, 0, none⟩ = some (.int .i64 q0) ∧ W.cell? ⟨w.heap.size + 1, 1, none⟩ = some (.int .i64 q1) ∧ W.cell? ⟨w.heap.size + 1, 2, none⟩ = some (.int .i64 q2)) (first | go_keep | exact ⟨HF0.out _ hb2, HF1.out _ hb2, HF2.out _ hb2, HF3.out _ hb2, HF4.out _ hb2, HF5.out _ hb2⟩) (first | (go_at_call 66; refine (compare_any _ _ _).mono ?_; rintro e w' ⟨rfl, rfl⟩) | (go_at_call 65; refine Calls.mono (or_any _ 3 3 [cmpZ q2 p2, cmpZ q1 p1, cmpZ p0 q0] _ (sl_lit3 _ _ (cmpZ q2 p2) (cmpZ q1 p1) (cmpZ p0 q0) _ (by simp))) ?_; rintro e w' ⟨rfl, hbn⟩; have hb2 := Bl.trans (hb1.alloc _) hbn; clear hbn))
  all_goals
    go_wp2_with fail
    go_ret
    exact ⟨rfl, hb0.out.trans (by repeat (first | (with_reducible assumption) | (with_reducible apply Bl.drew)))⟩
theorem cmpC_neg (a b : Cargo) : decide (cmpC a b < 0) = dang a b := dang_cmp a b
set_option maxHeartbeats 2000000 in
theorem minFunc_any (gf : FuncId) (hf : ∀ a b w, Calls Try.prog gf #[Cargo.val a, Cargo.val b] w fun e w' => e = .returned (.int .i64 (cmpC a b)) ∧ Bl w w') (heg : Enters Try.prog gf) (A : Option Addr) (n c : Nat) (l : List Cargo) (w : World) (h : Sl Cargo.cs 3 w A n l) (hn0 : 0 < n) :
    Calls Try.prog 63 #[.slice A n c, .func (.func gf) #[] #[]] w fun e w' => e = .returned (bestK l (n - 1)).val ∧ Bl w w' := by
  have bn := h.le
  have HL := Lib.hid h.1
  have eg : ∀ args w, (callFunc gf args).run Try.prog w = .ok (.enter gf args) w := heg
  clear heg
  obtain ⟨b1, o1, p, rfl, ep, p1, p2, p3⟩ := h.Cargo hn0
  simp only [Nat.zero_mul, Nat.add_zero] at p1 p2 p3
  have HP := Lib.hid (show bestK l 0 = p by rw [bestK, carAt_eq ep])
  have g1 := p1 _ (Bl.refl _)
  have g2 := p2 _ (Bl.refl _)
  have g3 := p3 _ (Bl.refl _)
  have P1 := p1 _ ((Bl.refl _).alloc (.cells #[.int .i64 0, .int .i64 0, .int .i64 0] 50))
  have P2 := p2 _ ((Bl.refl _).alloc (.cells #[.int .i64 0, .int .i64 0, .int .i64 0] 50))
  have P3 := p3 _ ((Bl.refl _).alloc (.cells #[.int .i64 0, .int .i64 0, .int .i64 0] 50))
  clear p1 p2 p3 ep
  have hb0 : Bl w ((w.alloc (.cells #[.int .i64 0, .int .i64 0, .int .i64 0] 50)).alloc (.cells #[.int .i64 p.Id, .int .i64 p.Length, .int .i64 p.Cones] 50)) := ((Bl.refl w).alloc _).alloc _
  go_enter Try.func63, Try.ntmps63
  go_wp2_with fail
  go_loopw [6] (fun i wr => ∃ k : Nat, 1 ≤ k ∧ k ≤ n ∧ i = .int .i64 k ∧ Bl w wr ∧ wr.cell? ⟨w.heap.size + 1, 0, none⟩ = some (.int .i64 (bestK l (k - 1)).Id) ∧ wr.cell? ⟨w.heap.size + 1, 1, none⟩ = some (.int .i64 (bestK l (k - 1)).Length) ∧ wr.cell? ⟨w.heap.size + 1, 2, none⟩ = some (.int .i64 (bestK l (k - 1)).Cones) ∧ (∀ j, wr.frozen? ⟨w.heap.size + 1, j, none⟩ = false) ∧ (∃ u v t, wr.cell? ⟨w.heap.size, 0, none⟩ = some u ∧ wr.cell? ⟨w.heap.size, 1, none⟩ = some v ∧ wr.cell? ⟨w.heap.size, 2, none⟩ = some t) ∧ (∀ j, wr.frozen? ⟨w.heap.size, j, none⟩ = false)) (fun i _ => n - (intOf i).toNat)
  case atStart => exact ⟨1, Nat.le_refl _, hn0, rfl, hb0, by rw [HP.out]; go_simp, by rw [HP.out]; go_simp, by rw [HP.out]; go_simp, fun j => by go_simp, ⟨_, _, _, by go_simp; rfl, by go_simp; rfl, by go_simp; rfl⟩, fun j => by go_simp⟩
  case round =>
    clear hb0 g1 g2 g3 P1 P2 P3
    obtain ⟨k, hk1, hk, rfl, hb, y0, y1, y2, fz, ⟨u, v, t, r0, r1, r2⟩, fr⟩ := hrel
    by_cases hlt : k < n
    · obtain ⟨b2, o2, x, hA, ex, q1, q2, q3⟩ := h.Cargo hlt
      injection hA with hA; injection hA with hA hA'; subst hA hA'
      have G1 : ∀ W, Bl wr W → W.cell? ⟨b1, o1 + k * 3, none⟩ = some (.int .i64 x.Id) := fun W hW => q1 W (hb.trans hW)
      have G2 : ∀ W, Bl wr W → W.cell? ⟨b1, o1 + k * 3 + 1, none⟩ = some (.int .i64 x.Length) := fun W hW => q2 W (hb.trans hW)
      have G3 : ∀ W, Bl wr W → W.cell? ⟨b1, o1 + k * 3 + 2, none⟩ = some (.int .i64 x.Cones) := fun W hW => q3 W (hb.trans hW)
      have Y0 : ∀ W, Bl wr W → W.cell? ⟨w.heap.size + 1, 0, none⟩ = _ := Bl.all y0
      have Y1 : ∀ W, Bl wr W → W.cell? ⟨w.heap.size + 1, 1, none⟩ = _ := Bl.all y1
      have Y2 : ∀ W, Bl wr W → W.cell? ⟨w.heap.size + 1, 2, none⟩ = _ := Bl.all y2
      have HB := Lib.hid (bestK_at hk1 ex)
      have hgu := World.block_lt_of_cell? _ _ y0
      simp only at hgu
      have HF := Lib.hid (fun W => hf x (bestK l (k - 1)) W)
      have HC := Lib.hid (cmpC_neg x (bestK l (k - 1)))
      clear ex q1 q2 q3
      generalize bestK l (k - 1) = m at *
      obtain ⟨m0, m1, m2⟩ := m
      obtain ⟨x0, x1, x2⟩ := x
      simp only [Cargo.val] at G1 G2 G3 Y0 Y1 Y2 HF y0 y1 y2
      generalize cmpC ⟨x0, x1, x2⟩ ⟨m0, m1, m2⟩ = z at *
      cases hd : dang ⟨x0, x1, x2⟩ ⟨m0, m1, m2⟩
      · have HY := Lib.hid (show bestK l (k + 1 - 1) = ⟨m0, m1, m2⟩ by rw [HB.out, if_neg (by rw [hd]; simp)])
        have hz : decide (z < 0) = false := HC.out.trans hd
        go_wp2_with fail
        refine region_bl (by kernel_rfl) (by kernel_rfl) (Bl.refl wr) ?_
        repeat' (first | go_big_quiet_skip | (go_big_quiet_want; go_simp; (try go_bits); first | (refine ⟨_, fun _ _ => rfl, ?_⟩; go_big_quiet_on) | (apply Exists.intro; (with_reducible refine ⟨fun W hW => ret_bl hW (HF.out W), ?_⟩); go_big_quiet_on) | (apply Exists.intro; refine ⟨fun W hW => ?_, ?_⟩; (· go_simp; (try go_bits); rfl); go_big_quiet_on)))
        apply wpQuiet_nil
        intro W hb
        have hbw : Bl w W := Bl.trans (by with_reducible assumption) hb
        have c0 := Y0 W hb
        have c1 := Y1 W hb
        have c2 := Y2 W hb
        have d0 := hb.cell r0
        have d1 := hb.cell r1
        have d2 := hb.cell r2
        have f1 : ∀ j, W.frozen? ⟨w.heap.size + 1, j, none⟩ = false := fun j => (Below.frozen hb (by simpa using hgu)).trans (fz j)
        have f2 : ∀ j, W.frozen? ⟨w.heap.size, j, none⟩ = false := fun j => (Below.frozen hb (by simp; omega)).trans (fr j)
        go_wp2_with fail
        first | exact ⟨⟨k + 1, by omega, by omega, by go_num, hbw, by rw [HY.out]; exact c0, by rw [HY.out]; exact c1, by rw [HY.out]; exact c2, f1, ⟨_, _, _, d0, d1, d2⟩, f2⟩, by simp [intOf]; omega⟩ | (refine ⟨?_, by simp [intOf]; omega⟩; (repeat apply Exists.intro); exact ⟨⟨k + 1, by omega, by omega, by go_num, hbw, by rw [HY.out]; exact c0, by rw [HY.out]; exact c1, by rw [HY.out]; exact c2, f1, ⟨_, _, _, d0, d1, d2⟩, f2⟩, rfl⟩)
      · have HY := Lib.hid (show bestK l (k + 1 - 1) = ⟨x0, x1, x2⟩ by rw [HB.out, if_pos hd])
        have hz : decide (z < 0) = true := HC.out.trans hd
        go_wp2_with fail
        refine region_bl (by kernel_rfl) (by kernel_rfl) (Bl.refl wr) ?_
        repeat' (first | go_big_quiet_skip | (go_big_quiet_want; go_simp; (try go_bits); first | (refine ⟨_, fun _ _ => rfl, ?_⟩; go_big_quiet_on) | (apply Exists.intro; (with_reducible refine ⟨fun W hW => ret_bl hW (HF.out W), ?_⟩); go_big_quiet_on) | (apply Exists.intro; refine ⟨fun W hW => ?_, ?_⟩; (· go_simp; (try go_bits); rfl); go_big_quiet_on)))
        apply wpQuiet_nil
        intro W hb
        have hbw : Bl w W := Bl.trans (by with_reducible assumption) hb
        have c0 := Y0 W hb
        have c1 := Y1 W hb
        have c2 := Y2 W hb
        have e1 := G1 W hb
        have e2 := G2 W hb
        have e3 := G3 W hb
        have d0 := hb.cell r0
        have d1 := hb.cell r1
        have d2 := hb.cell r2
        have f1 : ∀ j, W.frozen? ⟨w.heap.size + 1, j, none⟩ = false := fun j => (Below.frozen hb (by simpa using hgu)).trans (fz j)
        have f2 : ∀ j, W.frozen? ⟨w.heap.size, j, none⟩ = false := fun j => (Below.frozen hb (by simp; omega)).trans (fr j)
        go_wp2_with fail
        first | exact ⟨⟨k + 1, by omega, by omega, by go_num, by repeat (first | (with_reducible exact hbw) | (with_reducible apply Bl.drew) | (with_reducible refine Bl.setCell ?_ (by first | (simp; done) | (simp; omega)) _)), by rw [HY.out]; go_simp, by rw [HY.out]; go_simp, by rw [HY.out]; go_simp, fun j => by go_simp, ⟨u, v, t, by go_simp, by go_simp, by go_simp⟩, fun j => by go_simp⟩, by simp [intOf]; omega⟩ | (refine ⟨?_, by simp [intOf]; omega⟩; (repeat apply Exists.intro); exact ⟨⟨k + 1, by omega, by omega, by go_num, by repeat (first | (with_reducible exact hbw) | (with_reducible apply Bl.drew) | (with_reducible refine Bl.setCell ?_ (by first | (simp; done) | (simp; omega)) _)), by rw [HY.out]; go_simp, by rw [HY.out]; go_simp, by rw [HY.out]; go_simp, fun j => by go_simp, ⟨u, v, t, by go_simp, by go_simp, by go_simp⟩, fun j => by go_simp⟩, rfl⟩)
    · have e : k = n := by omega
      subst e
      obtain ⟨m0, m1, m2, hm⟩ : ∃ a b c, bestK l (k - 1) = ⟨a, b, c⟩ := ⟨_, _, _, rfl⟩
      rw [hm] at y0 y1 y2
      have HM := Lib.hid hm
      clear hm
      simp only at y0 y1 y2
      go_wp2_with fail
      (try simp only [Exit.inBlock, Exit.then])
      refine bodyPost_ret (v := .agg #[.int .i64 m0, .int .i64 m1, .int .i64 m2]) ?_ rfl ?_
      · have hres : Try.f63.results = #[.cell 4 50] := by kernel_rfl
        simp only [results, hres]
        go_simp
      · exact ⟨by rw [HM.out], by repeat (first | (with_reducible exact hb) | (with_reducible apply Bl.drew) | (with_reducible refine Bl.setCell ?_ (by first | exact Nat.le_refl _ | (simp; done) | (simp; omega)) _))⟩
set_option maxHeartbeats 1000000 in
theorem implMostDangerous_any (A : Option Addr) (n c : Nat) (l : List Cargo) (w : World) (h : Sl Cargo.cs 3 w A n l) (hc : n ≤ c) :
    Calls Try.prog 26 #[.slice A n c] w fun e w' => e = .returned (.tuple #[.int .i64 (dangR l).1, .bool (dangR l).2]) ∧ Bl w w' := by
  have bn := h.le
  have HL := Lib.hid h.1
  have H1 := Lib.hid (isCargoList_any A n c l w h hc)
  cases h1 : cargoOk l
  · have HR := Lib.hid (show dangR l = (0, false) by simp [dangR, h1])
    go_enter Try.func26, Try.ntmps26
    go_wp2_with fail
    refine H1.out.mono ?_
    rintro e w1 ⟨rfl, hb⟩
    simp only [h1]
    go_wp2_with fail
    go_ret2
    exact ⟨by rw [HR.out]; rfl, hb⟩
  by_cases hz : n = 0
  · have HR := Lib.hid (show dangR l = (0, false) by simp only [dangR, HL.out, hz]; simp)
    have e0 : ((n : Int) == 0) = true := by simp; omega
    clear hz
    go_enter Try.func26, Try.ntmps26
    go_wp2_with fail
    refine H1.out.mono ?_
    rintro e w1 ⟨rfl, hb⟩
    simp only [h1]
    go_wp2_with fail
    go_ret2
    exact ⟨by rw [HR.out]; rfl, hb⟩
  have HR := Lib.hid (show dangR l = ((bestK l (n - 1)).Id, true) by simp [dangR, h1, HL.out, hz])
  have e0 : ((n : Int) == 0) = false := by simp; omega
  have hn0 : 0 < n := by omega
  clear hz
  have H2 := Lib.hid (fun w h => minFunc_any _ dangFn_any (enters_of Try.func64 (by kernel_rfl) rfl) A n c l w h hn0)
  generalize bestK l (n - 1) = m at *
  obtain ⟨m0, m1, m2⟩ := m
  simp only [Cargo.val] at H2 HR
  have hfd : ∀ w : World, (Instr.field 50 (.agg #[.int .i64 m0, .int .i64 m1, .int .i64 m2]) 0).run Try.prog w = .ok (.int .i64 m0) w := fun _ => by kernel_rfl
  go_enter Try.func26, Try.ntmps26
  go_wp2_with fail
  refine H1.out.mono ?_
  rintro e w1 ⟨rfl, hb⟩
  simp only [h1]
  go_wp2_with fail
  refine (H2.out _ (h.bl hb)).mono ?_
  rintro e w2 ⟨rfl, hbn⟩
  go_wp2_with fail
  go_ret2
  exact ⟨by rw [HR.out]; rfl, hb.trans hbn⟩
end Go.Proofs.Ytkeaobjcfkmjmaa
