/- The contract of the sorting of a short row of integers, as the library does it: insertion. -/
import Derived.Test.YtmnbbnboaokgjaaQ6s
import Derived.Test.YtmnbbnboaokgjaaC6
import Derived.RegionTactic
import Derived.Deep.RegionHeld3
namespace Go.Proofs.Ytmnbbnboaokgjaa
open Go.RowKit
set_option maxRecDepth 100000 in
set_option maxHeartbeats 1000000 in
theorem len64_any (k : Int) (hk : 0 ≤ k ∧ k ≤ 6) (w : World) : Calls Try.prog 130 #[.int .u64 k] w fun e w' => (∃ v : Int, e = .returned (.int .i64 v)) ∧ w = w' := by
  have hc : k = 0 ∨ k = 1 ∨ k = 2 ∨ k = 3 ∨ k = 4 ∨ k = 5 ∨ k = 6 := by omega
  rcases hc with rfl | rfl | rfl | rfl | rfl | rfl | rfl
  all_goals
    clear hk
    go_enter Try.func130, Try.ntmps130
    go_wp2_with fail
    go_ret
    exact ⟨⟨_, rfl⟩, rfl⟩
set_option maxHeartbeats 1000000 in
theorem lenB_any (k : Int) (hk : 0 ≤ k ∧ k ≤ 6) (w : World) : Calls Try.prog 119 #[.int .u64 k] w fun e w' => (∃ v : Int, e = .returned (.int .i64 v)) ∧ w = w' := by
  have H1 := Lib.hid (fun w => len64_any k hk w)
  obtain ⟨h0, h6⟩ := hk
  go_enter Try.func119, Try.ntmps119
  go_wp2_with fail
  refine (H1.out _).mono ?_
  rintro e w1 ⟨⟨v, rfl⟩, rfl⟩
  go_wp2_with fail
  go_ret
  exact ⟨⟨_, rfl⟩, rfl⟩
set_option maxHeartbeats 400000 in
theorem isNaN_any (x : Int) (w : World) : Calls Try.prog 136 #[.int .i64 x] w fun e w' => e = .returned (.bool false) ∧ w = w' := by
  go_enter Try.func136, Try.ntmps136
  go_wp2_with fail
  go_ret
  exact ⟨by simp, rfl⟩
set_option maxHeartbeats 400000 in
theorem less_any (x y : Int) (w : World) : Calls Try.prog 126 #[.int .i64 x, .int .i64 y] w fun e w' => e = .returned (.bool (ltZ x y)) ∧ Bl w w' := by
  have HE : Hid (ltZ x y = decide (x < y)) := rfl
  cases h : decide (x < y)
  all_goals
    have HR := Lib.hid (HE.out.trans h)
    clear HE
    go_enter Try.func126, Try.ntmps126
    go_wp2_with fail
    refine (isNaN_any _ _).mono ?_
    rintro e w' ⟨rfl, rfl⟩
    go_wp2_with fail
    go_ret
    exact ⟨by rw [HR.out]; rfl, Bl.refl _⟩
theorem int_set' {l : List Int} {i : Nat} {x : Int} (h : l[i]? = some x) (a : Int) : (l.flatMap ci).set i (.int .i64 a) = (l.set i a).flatMap ci := by
  have := flat_set ci 1 ci_len l i x a h 0 (by omega) (.int .i64 a) rfl
  rwa [Nat.mul_one, Nat.add_zero] at this
set_option maxHeartbeats 2000000 in
theorem insSort_any (a : World) (D : List Int) (n : Nat) (hD : D.length = n) (g c B : Nat) (w : World) (hb : Bl a w) (hB : a.heap.size ≤ B) (ho : w.ownsRow B 3 1 (.slice (some ⟨g, 0, none⟩) n c) n (D.flatMap ci)) (hn0 : 0 < n) (hn : n ≤ 6) :
    Calls Try.prog 120 #[.slice (some ⟨g, 0, none⟩) n c, .int .i64 0, .int .i64 n] w fun e w' => e = .returned (.tuple #[]) ∧ Bl a w' ∧ w'.ownsRow B 3 1 (.slice (some ⟨g, 0, none⟩) n c) n ((sortG ltZ D n).flatMap ci) := by
  have HD0 := Lib.hid hD
  have HD1 := Lib.hid (dataG_one (r := ltZ) (by omega : 0 < D.length))
  have HDE := Lib.hid (by have := dataG_end (r := ltZ) D; rwa [hD] at this)
  clear hD
  go_enter Try.func120, Try.ntmps120
  go_wp2_with fail
  go_loopw [6] (fun u wr => ∃ i : Nat, 1 ≤ i ∧ i ≤ n ∧ u = .int .i64 i ∧ Bl a wr ∧ wr.ownsRow B 3 1 (.slice (some ⟨g, 0, none⟩) n c) n ((dataG ltZ D i).flatMap ci)) (fun u _ => n - (intOf u).toNat)
  case atStart => exact ⟨1, Nat.le_refl _, hn0, rfl, hb, by rw [HD1.out]; exact ho⟩
  case round =>
    clear hb ho
    obtain ⟨i, hi1, hi, rfl, hb, ho⟩ := hrel
    by_cases hlt : i < n
    · obtain ⟨x, ex⟩ : ∃ x, D[i]? = some x := ⟨_, List.getElem?_eq_getElem (by rw [HD0.out]; exact hlt)⟩
      have HO := Lib.hid (sortG_len (r := ltZ) (D := D) i (by rw [HD0.out]; omega))
      have HE := Lib.hid (fun j hp hj => mid_dataG (r := ltZ) (D := D) (i := i) (j := j) ex hp hj)
      have HRL := Lib.hid (show (D.drop (i + 1)).length = n - (i + 1) by rw [List.length_drop, HD0.out])
      rw [dataG_mid ex] at ho
      generalize sortG ltZ D i = out at *
      generalize D.drop (i + 1) = rest at *
      clear ex
      go_wp2_with fail
      go_loopw [7] (fun u wx => ∃ j : Nat, j ≤ i ∧ u = .int .i64 j ∧ Bl a wx ∧ wx.ownsRow B 3 1 (.slice (some ⟨g, 0, none⟩) n c) n ((midG out x rest j).flatMap ci) ∧ Hid (posG ltZ out x i = posG ltZ out x j)) (fun u _ => (intOf u).toNat)
      case atStart => exact ⟨i, Nat.le_refl _, rfl, hb, ho, rfl⟩
      case round =>
        clear hb ho
        obtain ⟨j, hj, rfl, hb, ho, hp⟩ := hrel
        have HML := Lib.hid (midG_len (x := x) (t := rest) (show j ≤ out.length by rw [HO.out]; exact hj))
        have hlen : (midG out x rest j).length = n := by rw [HML.out, HO.out, HRL.out]; omega
        have HLEN := Lib.hid hlen
        clear hlen
        have hS := Sl.of_own ci_len ho HLEN.out (by omega)
        by_cases hj0 : j = 0
        · subst hj0
          have HD := Lib.hid (HE.out 0 hp.out rfl)
          rw [HD.out] at ho
          go_wp2_with fail
          refine region_bl (by kernel_rfl) (by kernel_rfl) (Bl.refl wr) ?_
          repeat' (first | go_big_quiet_skip | (go_big_quiet_want; go_simp; (try go_bits); first | (refine ⟨_, fun _ _ => rfl, ?_⟩; go_big_quiet_on) | (apply Exists.intro; refine ⟨fun W hW => ?_, ?_⟩; (· go_simp; (try go_bits); rfl); go_big_quiet_on)))
          apply wpQuiet_nil
          intro W hb
          have hb2 : Bl a W := Bl.trans (by with_reducible assumption) hb
          have ho2 := hb.own ho
          go_wp2_with fail
          first | exact ⟨⟨i + 1, by omega, by omega, by go_num, hb2, ho2⟩, by simp [intOf]; omega⟩ | (refine ⟨?_, by simp [intOf]; omega⟩; (repeat apply Exists.intro); exact ⟨⟨i + 1, by omega, by omega, by go_num, hb2, ho2⟩, rfl⟩)
        · have hj1 : 1 ≤ j := by omega
          obtain ⟨y, ey⟩ : ∃ y, out[j - 1]? = some y := ⟨_, List.getElem?_eq_getElem (by rw [HO.out]; omega)⟩
          obtain ⟨b1, o1, x1, hA1, ex1, c1⟩ := hS.int (i := j) (by omega)
          obtain ⟨b2, o2, x2, hA2, ex2, c2⟩ := hS.int (i := j - 1) (by omega)
          injection hA1 with hA1; injection hA1 with hA1 hA1'; subst hA1 hA1'
          injection hA2 with hA2; injection hA2 with hA2 hA2'; subst hA2 hA2'
          have e1 : x1 = x := Option.some.inj (ex1.symm.trans (midG_at (by rw [HO.out]; exact hj)))
          have e2 : x2 = y := Option.some.inj (ex2.symm.trans (midG_before hj1 (by rw [HO.out]; exact hj) ey))
          subst e1 e2
          simp only [Nat.zero_add] at c1 c2
          have HS1 := Lib.hid (int_set' ex1 x2)
          have HS2 := Lib.hid (int_set' (l := (midG out x1 rest j).set j x2) (i := j - 1) (x := x2) (by rw [List.getElem?_set_ne (by omega)]; exact ex2) x1)
          have HSW := Lib.hid (midG_swap (x := x1) (t := rest) hj1 (by rw [HO.out]; exact hj) ey)
          have HPG := Lib.hid (fun h => hp.out.trans (posG_go hj1 ey h))
          have HPS := Lib.hid (fun h => HE.out j hp.out (posG_stop hj1 ey h))
          have HFN := Lib.hid (fun W => less_any x1 x2 W)
          have k1 : (0 : Int) ≤ (j : Int) - 1 := by omega
          have k2 : (j : Int) - 1 < (n : Int) := by omega
          have k3 : ((j : Int) - 1).toNat = j - 1 := by omega
          have k4 : j < n := by omega
          have k5 : j - 1 < n := by omega
          have k6 : 1 ≤ (j : Int) := by omega
          have k7 : (0 : Int) < (j : Int) := by omega
          have k8 : 0 < j := by omega
          clear ey ex1 ex2 hj0 hS
          cases hbf : ltZ x1 x2
          · have HD := Lib.hid (HPS.out hbf)
            rw [HD.out] at ho
            rw [hbf] at HFN
            go_wp2_with fail
            refine region_bl (by kernel_rfl) (by kernel_rfl) (Bl.refl wr) ?_
            repeat' (first | go_big_quiet_skip | (go_big_quiet_want; go_simp; (try go_bits); first | (refine ⟨_, fun _ _ => rfl, ?_⟩; go_big_quiet_on) | (apply Exists.intro; (with_reducible refine ⟨fun W hW => ret_bl hW (HFN.out W), ?_⟩); go_big_quiet_on) | (apply Exists.intro; refine ⟨fun W hW => ?_, ?_⟩; (· go_simp; (try go_bits); rfl); go_big_quiet_on)))
            apply wpQuiet_nil
            intro W hb
            have hb2 : Bl a W := Bl.trans (by with_reducible assumption) hb
            have ho2 := hb.own ho
            go_wp2_with fail
            first | exact ⟨⟨i + 1, by omega, by omega, by go_num, hb2, ho2⟩, by simp [intOf]; omega⟩ | (refine ⟨?_, by simp [intOf]; omega⟩; (repeat apply Exists.intro); exact ⟨⟨i + 1, by omega, by omega, by go_num, hb2, ho2⟩, rfl⟩)
          · have HP := Lib.hid (HPG.out hbf)
            rw [hbf] at HFN
            go_wp2_with fail
            refine region_bl (by kernel_rfl) (by kernel_rfl) (Bl.refl wr) ?_
            repeat' (first | go_big_quiet_skip | (go_big_quiet_want; go_simp; (try go_bits); first | (refine ⟨_, fun _ _ => rfl, ?_⟩; go_big_quiet_on) | (apply Exists.intro; (with_reducible refine ⟨fun W hW => ret_bl hW (HFN.out W), ?_⟩); go_big_quiet_on) | (apply Exists.intro; refine ⟨fun W hW => ?_, ?_⟩; (· go_simp; (try go_bits); rfl); go_big_quiet_on)))
            apply wpQuiet_nil
            intro W hb
            have hb2 : Bl a W := Bl.trans (by with_reducible assumption) hb
            have ho2 := hb.own ho
            have d1 := c1 W hb
            have d2 := c2 W hb
            have fz := World.ownsRow.frozenAt ho2
            have hgl := ((own_lt ho2).out g rfl).1
            clear c1 c2 hb
            go_wp2_with fail
            go_region
            all_goals
              go_wp2_with fail
              first | exact ⟨⟨j - 1, by omega, by congr 1; omega, by repeat (first | (with_reducible exact hb2) | (with_reducible apply Bl.drew) | (with_reducible refine Bl.setCell ?_ (by first | exact Nat.le_trans hB hgl | (simp; omega)) _)), by rw [← HSW.out, ← HS2.out, ← HS1.out]; repeat (first | (with_reducible exact ho2) | (with_reducible refine World.ownsRow.drew ?_) | (with_reducible refine own_set ?_ _ _)), HP⟩, by simp [intOf]; omega⟩ | (refine ⟨?_, by simp [intOf]; omega⟩; (repeat apply Exists.intro); exact ⟨⟨j - 1, by omega, by congr 1; omega, by repeat (first | (with_reducible exact hb2) | (with_reducible apply Bl.drew) | (with_reducible refine Bl.setCell ?_ (by first | exact Nat.le_trans hB hgl | (simp; omega)) _)), by rw [← HSW.out, ← HS2.out, ← HS1.out]; repeat (first | (with_reducible exact ho2) | (with_reducible refine World.ownsRow.drew ?_) | (with_reducible refine own_set ?_ _ _)), HP⟩, rfl⟩)
    · have e : i = n := by omega
      subst e
      rw [HDE.out] at ho
      go_wp2_with fail
      go_end0
      exact ⟨rfl, hb, ho⟩
set_option maxRecDepth 100000 in
set_option maxHeartbeats 2000000 in
theorem pdq_any (a : World) (D : List Int) (n : Nat) (lim : Int) (hD : D.length = n) (g c B : Nat) (w : World) (hb : Bl a w) (hB : a.heap.size ≤ B) (ho : w.ownsRow B 3 1 (.slice (some ⟨g, 0, none⟩) n c) n (D.flatMap ci)) (hn0 : 0 < n) (hn : n ≤ 6) :
    Calls Try.prog 118 #[.slice (some ⟨g, 0, none⟩) n c, .int .i64 0, .int .i64 n, .int .i64 lim] w fun e w' => e = .returned (.tuple #[]) ∧ Bl a w' ∧ w'.ownsRow B 3 1 (.slice (some ⟨g, 0, none⟩) n c) n ((sortG ltZ D n).flatMap ci) := by
  have H1 := Lib.hid (insSort_any a D n hD g c B w hb hB ho hn0 hn)
  have k1 : decide ((n : Int) ≤ 12) = true := by simp; omega
  clear ho
  go_enter Try.func118, Try.ntmps118
  go_wp2_with fail
  refine wp_loop_rounds 1 ?_
  rw [rounds_succ]
  go_wp2_with fail
  refine H1.out.mono ?_
  rintro e w1 ⟨rfl, hb1, ho1⟩
  go_wp2_with fail
  (try simp only [Exit.inBlock, Exit.then])
  refine bodyPost_ret (v := .tuple #[]) ?_ ?_ ?_
  · exact results_none (fn := Try.f118) rfl _ _ _
  · rfl
  · exact ⟨rfl, hb1, ho1⟩
set_option maxRecDepth 100000 in
set_option maxHeartbeats 2000000 in
theorem sortInts_any (a : World) (D : List Int) (n : Nat) (hD : D.length = n) (g c B : Nat) (w : World) (hb : Bl a w) (hB : a.heap.size ≤ B) (ho : w.ownsRow B 3 1 (.slice (some ⟨g, 0, none⟩) n c) n (D.flatMap ci)) (hn0 : 0 < n) (hn : n ≤ 6) :
    Calls Try.prog 115 #[.slice (some ⟨g, 0, none⟩) n c] w fun e w' => e = .returned (.tuple #[]) ∧ Bl a w' ∧ w'.ownsRow B 3 1 (.slice (some ⟨g, 0, none⟩) n c) n ((sortG ltZ D n).flatMap ci) := by
  have H1 := Lib.hid (fun lim => pdq_any a D n lim hD g c B w hb hB ho hn0 hn)
  have H2 := Lib.hid (fun w => lenB_any (n : Int) (by omega) w)
  clear ho
  go_enter Try.func115, Try.ntmps115
  go_wp2_with fail
  refine (H2.out _).mono ?_
  rintro e w1 ⟨⟨v, rfl⟩, rfl⟩
  go_wp2_with fail
  refine (H1.out _).mono ?_
  rintro e w1 ⟨rfl, hb1, ho1⟩
  go_wp2_with fail
  go_end0
  exact ⟨rfl, hb1, ho1⟩
end Go.Proofs.Ytmnbbnboaokgjaa
