/- The contracts of a flow's move in both programs. -/
import Derived.Test.YtpgghmhbkgkkiaaQ10
import Derived.Deep.RegionHeld3
namespace Go.Proofs.Ytpgghmhbkgkkiaa
open Go.RowKit
theorem at_list {α : Type} {l : List α} {n k : Nat} (h : l.length = n) (hk : k < n) : ∃ b, l[k]? = some b := ⟨_, List.getElem?_eq_getElem (by omega)⟩
set_option maxHeartbeats 1000000 in
theorem l10Move_any (A : Option Addr) (n c : Nat) (l : List Basin) (f : Flow) (w : World) (h : Sl Basin.cs 3 w A n l) (hn : n ≤ 1048576) (hs : Small 1400000 l) (hf0 : 0 ≤ f.Volume) (hf1 : f.Volume ≤ 100000) :
    Calls Try.prog 64 #[.slice A n c, f.val] w (NewRes Basin.cs 3 69 (moveL l f) (fun v => v) w) := by
  have bn := h.le
  have HL := Lib.hid h.1
  have HS := Lib.hid hs; clear hs
  obtain ⟨x, y, z⟩ := f
  simp only at hf0 hf1
  simp only [Flow.val]
  have F00 : ∀ W, Bl (w.alloc (.cells #[.int .i64 x, .int .i64 y, .int .i64 z] 32)) W → W.cell? ⟨w.heap.size, 0, none⟩ = some (.int .i64 x) := Bl.all (by go_simp)
  have F01 : ∀ W, Bl (w.alloc (.cells #[.int .i64 x, .int .i64 y, .int .i64 z] 32)) W → W.cell? ⟨w.heap.size, 1, none⟩ = some (.int .i64 y) := Bl.all (by go_simp)
  have F02 : ∀ W, Bl (w.alloc (.cells #[.int .i64 x, .int .i64 y, .int .i64 z] 32)) W → W.cell? ⟨w.heap.size, 2, none⟩ = some (.int .i64 z) := Bl.all (by go_simp)
  have hb := Bl.refl (w.alloc (.cells #[.int .i64 x, .int .i64 y, .int .i64 z] 32))
  have hb0 : Hid (Bl w (w.alloc (.cells #[.int .i64 x, .int .i64 y, .int .i64 z] 32))) := (Bl.refl w).alloc _
  have F0 := F00; have F1 := F01; have F2 := F02
  have bsz : (w.alloc (.cells #[.int .i64 x, .int .i64 y, .int .i64 z] 32)).heap.size = w.heap.size + 1 := by simp
  go_enter Try.func64, Try.ntmps64
  obtain ⟨i0, hi0, hz0, hz1, hz2⟩ := info_parts infoBasin
  go_wp2_with (at_builtin; refine wpList_append_new _ rfl _ _ _ rfl 69 i0 _ 3 24 Try.underlying25 hi0 hz0 hz1 hz2 rfl (by omega) Basin.cs_len Basin.one _ rfl (by first | rfl | simp) A n c l rfl (h.bl hb0.out) (by unfold maxLen; omega) (by omega) ?_)
  clear hi0 hz0 hz1 hz2
  intro B d w1 ho hbn
  have hb1 := hb.trans hbn
  clear hb
  go_wp2_with fail
  go_loopw [6] (fun i wr => ∃ k : Nat, k ≤ n ∧ i = .int .i64 k ∧ Bl (w.alloc (.cells #[.int .i64 x, .int .i64 y, .int .i64 z] 32)) wr ∧ wr.ownsRow (w.heap.size + 1) 69 3 (.slice B n d) n ((moveK l ⟨x, y, z⟩ k).flatMap Basin.cs)) (fun i _ => n - (intOf i).toNat)
  case atStart => exact ⟨0, Nat.zero_le _, rfl, hb1, by rw [moveK_zero]; exact ho⟩
  case round =>
    clear hb1 ho hbn
    obtain ⟨k, hk, rfl, hb, ho⟩ := hrel
    by_cases hlt : k < n
    · rcases own_forms ho with ⟨rfl, h0, _, _⟩ | ⟨g, rfl⟩
      · omega
      have HLk := Lib.hid ((moveK_len l ⟨x, y, z⟩ k).trans HL.out)
      have hS := Sl.of_own Basin.cs_len ho HLk.out (by omega)
      obtain ⟨b1, o1, p, hA1, ep, c1, c2, c3⟩ := hS.Basin hlt
      injection hA1 with hA1; injection hA1 with hA1 hA1'; subst hA1 hA1'
      simp only [Nat.zero_add] at c1 c2 c3
      have hlk := at_list HL.out hlt
      obtain ⟨b0, hb0'⟩ := hlk
      have hpb : b0 = p := Option.some.inj ((moveK_at hb0').symm.trans ep)
      subst hpb
      obtain ⟨s1, s2, s3, s4, s5, s6⟩ := HS.out k b0 hb0'
      have HK := Lib.hid (moveK_step (f := ⟨x, y, z⟩) hb0')
      have HE := Lib.hid ep
      clear ep hb0'
      have q1 := c1 _ (Bl.refl _)
      have q2 := c2 _ (Bl.refl _)
      have q3 := c3 _ (Bl.refl _)
      clear c1 c2 c3 hS
      have fz := World.ownsRow.frozenAt ho
      have z1 := F0 _ hb
      have z2 := F1 _ hb
      have z3 := F2 _ hb
      have y1 : ∀ o, (wr.alloc o).cell? ⟨w.heap.size, 0, none⟩ = _ := fun o => F0 _ (hb.alloc o)
      have y2 : ∀ o, (wr.alloc o).cell? ⟨w.heap.size, 1, none⟩ = _ := fun o => F1 _ (hb.alloc o)
      have y3 : ∀ o, (wr.alloc o).cell? ⟨w.heap.size, 2, none⟩ = _ := fun o => F2 _ (hb.alloc o)
      obtain ⟨hgl, hgu⟩ := (own_lt ho).out g rfl
      have hsz := hb.le
      rw [bsz] at hsz
      have ng1 : ¬ g = w.heap.size := by omega
      have ng2 : ¬ w.heap.size = g := by omega
      have ng3 : ¬ g = wr.heap.size := by omega
      have ng4 : ¬ wr.heap.size = g := by omega
      have ng5 : ¬ w.heap.size = wr.heap.size := by omega
      have ng6 : ¬ wr.heap.size = w.heap.size := by omega
      by_cases hx : (k : Int) = x
      · have ex : ((k : Int) == x) = true := by simpa using hx
        by_cases hy : (k : Int) = y
        · have ey : ((k : Int) == y) = true := by simpa using hy
          have HV := Lib.hid (show volB ⟨x, y, z⟩ k b0 = ⟨b0.Volume, b0.Least, b0.Most⟩ by simp [volB, ← hx, ← hy])
          clear hx hy
          go_wp2_with fail
          go_roundw
          case rel =>
            refine ⟨k + 1, by omega, by go_num, ?_, ?_⟩
            · repeat (first | (with_reducible exact hb) | (with_reducible apply Bl.drew) | (with_reducible apply Bl.alloc) | (with_reducible refine Bl.setCell ?_ (by first | (simp; done) | (simp; omega)) _))
            · rw [← HK.out, HV.out, ← Basin.put3 HE.out]
              repeat (first | (with_reducible refine World.ownsRow.drew ?_) | (with_reducible refine World.ownsRow.alloc ?_ _) | (with_reducible refine own_set ?_ _ _))
              exact ho
          case measure => simp [intOf]; omega
        · have ey : ((k : Int) == y) = false := by simpa using hy
          have HV := Lib.hid (show volB ⟨x, y, z⟩ k b0 = ⟨b0.Volume - z, b0.Least, b0.Most⟩ by simp [volB, ← hx, hy])
          clear hx hy
          go_wp2_with fail
          go_roundw
          case rel =>
            refine ⟨k + 1, by omega, by go_num, ?_, ?_⟩
            · repeat (first | (with_reducible exact hb) | (with_reducible apply Bl.drew) | (with_reducible apply Bl.alloc) | (with_reducible refine Bl.setCell ?_ (by first | (simp; done) | (simp; omega)) _))
            · rw [← HK.out, HV.out, ← Basin.put3 HE.out]
              repeat (first | (with_reducible refine World.ownsRow.drew ?_) | (with_reducible refine World.ownsRow.alloc ?_ _) | (with_reducible refine own_set ?_ _ _))
              exact ho
          case measure => simp [intOf]; omega
      · have ex : ((k : Int) == x) = false := by simpa using hx
        by_cases hy : (k : Int) = y
        · have ey : ((k : Int) == y) = true := by simpa using hy
          have HV := Lib.hid (show volB ⟨x, y, z⟩ k b0 = ⟨b0.Volume + z, b0.Least, b0.Most⟩ by simp [volB, hx, ← hy])
          clear hx hy
          go_wp2_with fail
          go_roundw
          case rel =>
            refine ⟨k + 1, by omega, by go_num, ?_, ?_⟩
            · repeat (first | (with_reducible exact hb) | (with_reducible apply Bl.drew) | (with_reducible apply Bl.alloc) | (with_reducible refine Bl.setCell ?_ (by first | (simp; done) | (simp; omega)) _))
            · rw [← HK.out, HV.out, ← Basin.put3 HE.out]
              repeat (first | (with_reducible refine World.ownsRow.drew ?_) | (with_reducible refine World.ownsRow.alloc ?_ _) | (with_reducible refine own_set ?_ _ _))
              exact ho
          case measure => simp [intOf]; omega
        · have ey : ((k : Int) == y) = false := by simpa using hy
          have HV := Lib.hid (show volB ⟨x, y, z⟩ k b0 = ⟨b0.Volume, b0.Least, b0.Most⟩ by simp [volB, hx, hy])
          clear hx hy
          go_wp2_with fail
          go_roundw
          case rel =>
            refine ⟨k + 1, by omega, by go_num, ?_, ?_⟩
            · repeat (first | (with_reducible exact hb) | (with_reducible apply Bl.drew) | (with_reducible apply Bl.alloc) | (with_reducible refine Bl.setCell ?_ (by first | (simp; done) | (simp; omega)) _))
            · rw [← HK.out, HV.out, ← Basin.put3 HE.out]
              repeat (first | (with_reducible refine World.ownsRow.drew ?_) | (with_reducible refine World.ownsRow.alloc ?_ _) | (with_reducible refine own_set ?_ _ _))
              exact ho
          case measure => simp [intOf]; omega
    · have e : k = n := by omega
      subst e
      have HM := Lib.hid (moveK_all (f := ⟨x, y, z⟩) HL.out)
      rw [HM.out] at ho
      go_wp2_with fail
      go_ret
      exact NewRes.of_own (F := fun v => v) (own_mono ho (by omega)) (by rw [moveL_len]; exact HL.out) hn (hb0.out.trans hb)
set_option maxHeartbeats 1000000 in
theorem moveWater_any (A : Option Addr) (n c : Nat) (l : List Basin) (f : Flow) (w : World) (h : Sl Basin.cs 3 w A n l) (hn : n ≤ 1048576) (hs : Small 1400000 l) (hv : validFlow n f = true) :
    Calls Try.prog 65 #[.slice A n c, f.val] w (NewRes Basin.cs 3 69 (moveL l f) (fun v => v) w) := by
  have bn := h.le
  have HL := Lib.hid h.1
  have HS := Lib.hid hs; clear hs
  obtain ⟨v1, v2, v3, v4, v5, v6, v7⟩ := valid_flow hv
  clear hv
  obtain ⟨x, y, z⟩ := f
  simp only at v1 v2 v3 v4 v5 v6 v7
  simp only [Flow.val]
  have F00 : ∀ W, Bl (w.alloc (.cells #[.int .i64 x, .int .i64 y, .int .i64 z] 32)) W → W.cell? ⟨w.heap.size, 0, none⟩ = some (.int .i64 x) := Bl.all (by go_simp)
  have F01 : ∀ W, Bl (w.alloc (.cells #[.int .i64 x, .int .i64 y, .int .i64 z] 32)) W → W.cell? ⟨w.heap.size, 1, none⟩ = some (.int .i64 y) := Bl.all (by go_simp)
  have F02 : ∀ W, Bl (w.alloc (.cells #[.int .i64 x, .int .i64 y, .int .i64 z] 32)) W → W.cell? ⟨w.heap.size, 2, none⟩ = some (.int .i64 z) := Bl.all (by go_simp)
  have hb := Bl.refl (w.alloc (.cells #[.int .i64 x, .int .i64 y, .int .i64 z] 32))
  have hb0 : Hid (Bl w (w.alloc (.cells #[.int .i64 x, .int .i64 y, .int .i64 z] 32))) := (Bl.refl w).alloc _
  have hn0 : 0 < n := by omega
  go_enter Try.func65, Try.ntmps65
  obtain ⟨i0, hi0, hz0, hz1, hz2⟩ := info_parts infoBasin
  go_wp2_with (at_builtin; refine wpList_append_new _ rfl _ _ _ rfl 69 i0 _ 3 24 Try.underlying25 hi0 hz0 hz1 hz2 rfl (by omega) Basin.cs_len Basin.one _ rfl (by first | rfl | simp) A n c l rfl (h.bl hb0.out) (by unfold maxLen; omega) (by omega) ?_)
  clear hi0 hz0 hz1 hz2
  intro B d w1 ho hbn
  rcases own_forms ho with ⟨rfl, h0, _, _⟩ | ⟨g, rfl⟩
  · omega
  have z1 := F00 _ hbn
  have z2 := F01 _ hbn
  have z3 := F02 _ hbn
  clear F00 F01 F02
  obtain ⟨hgl, hgu⟩ := (own_lt ho).out g rfl
  have bsz : (w.alloc (.cells #[.int .i64 x, .int .i64 y, .int .i64 z] 32)).heap.size = w.heap.size + 1 := by simp
  have hbw := hb0.out.trans hbn
  have ng1 : ¬ g = w.heap.size := by omega
  have ng2 : ¬ w.heap.size = g := by omega
  have fz := World.ownsRow.frozenAt ho
  have hS := Sl.of_own Basin.cs_len ho HL.out (by omega)
  by_cases hx : x = -1
  · have hy : ¬ y = -1 := by omega
    obtain ⟨j, rfl⟩ := Int.eq_ofNat_of_zero_le (a := y) (by omega)
    have hj : j < n := by omega
    obtain ⟨b2, o2, q, hA2, eq, cj1, _, _⟩ := hS.Basin hj
    injection hA2 with hA2; injection hA2 with hA2 hA2'; subst hA2 hA2'
    simp only [Nat.zero_add] at cj1
    have k2 := cj1 _ (Bl.refl _)
    obtain ⟨s1, s2, s3, s4, s5, s6⟩ := HS.out j q eq
    have HM := Lib.hid (move_in (z := z) eq)
    have HE := Lib.hid eq
    clear eq cj1 hS
    subst hx
    go_wp2_with fail
    go_region
    go_wp2_with fail
    go_ret
    refine ⟨_, _, _, rfl, ?_, by rw [moveL_len]; exact HL.out, hn, ?_⟩
    · rw [← HM.out, ← Basin.set0 HE.out]
      repeat (first | (with_reducible refine World.ownsRow.drew ?_) | (with_reducible refine World.ownsRow.alloc ?_ _) | (with_reducible refine own_set ?_ _ _))
      exact own_mono ho (by omega)
    · repeat (first | (with_reducible exact hbw) | (with_reducible apply Bl.drew) | (with_reducible apply Bl.alloc) | (with_reducible refine Bl.setCell ?_ (by first | (simp; done) | (simp; omega)) _))
  · obtain ⟨i, rfl⟩ := Int.eq_ofNat_of_zero_le (a := x) (by omega)
    have hi : i < n := by omega
    obtain ⟨b1, o1, p, hA1, ep, ci1, _, _⟩ := hS.Basin hi
    injection hA1 with hA1; injection hA1 with hA1 hA1'; subst hA1 hA1'
    simp only [Nat.zero_add] at ci1
    have k1 := ci1 _ (Bl.refl _)
    obtain ⟨s1, s2, s3, s4, s5, s6⟩ := HS.out i p ep
    by_cases hy : y = -1
    · have HM := Lib.hid (move_out (z := z) ep)
      have HE := Lib.hid ep
      clear ep ci1 hS
      subst hy
      go_wp2_with fail
      go_region
      go_wp2_with fail
      go_ret
      refine ⟨_, _, _, rfl, ?_, by rw [moveL_len]; exact HL.out, hn, ?_⟩
      · rw [← HM.out, ← Basin.set0 HE.out]
        repeat (first | (with_reducible refine World.ownsRow.drew ?_) | (with_reducible refine World.ownsRow.alloc ?_ _) | (with_reducible refine own_set ?_ _ _))
        exact own_mono ho (by omega)
      · repeat (first | (with_reducible exact hbw) | (with_reducible apply Bl.drew) | (with_reducible apply Bl.alloc) | (with_reducible refine Bl.setCell ?_ (by first | (simp; done) | (simp; omega)) _))
    · obtain ⟨j, rfl⟩ := Int.eq_ofNat_of_zero_le (a := y) (by omega)
      have hj : j < n := by omega
      obtain ⟨b2, o2, q, hA2, eq, cj1, _, _⟩ := hS.Basin hj
      injection hA2 with hA2; injection hA2 with hA2 hA2'; subst hA2 hA2'
      simp only [Nat.zero_add] at cj1
      have k2 := cj1 _ (Bl.refl _)
      obtain ⟨t1, t2, t3, t4, t5, t6⟩ := HS.out j q eq
      have hij : i ≠ j := by omega
      have hji : ¬ j = i := by omega
      have HM := Lib.hid (move_both (z := z) hij ep eq)
      have HE := Lib.hid ep
      have HE2 := Lib.hid (show (l.set i ⟨p.Volume - z, p.Least, p.Most⟩)[j]? = some q by rw [List.getElem?_set_ne hij]; exact eq)
      clear ep eq ci1 cj1 hS
      go_wp2_with fail
      go_region
      go_wp2_with fail
      go_region
      go_wp2_with fail
      go_ret
      refine ⟨_, _, _, rfl, ?_, by rw [moveL_len]; exact HL.out, hn, ?_⟩
      · rw [← HM.out, ← Basin.set0 HE2.out, ← Basin.set0 HE.out]
        repeat (first | (with_reducible refine World.ownsRow.drew ?_) | (with_reducible refine World.ownsRow.alloc ?_ _) | (with_reducible refine own_set ?_ _ _))
        exact own_mono ho (by omega)
      · repeat (first | (with_reducible exact hbw) | (with_reducible apply Bl.drew) | (with_reducible apply Bl.alloc) | (with_reducible refine Bl.setCell ?_ (by first | (simp; done) | (simp; omega)) _))
end Go.Proofs.Ytpgghmhbkgkkiaa
