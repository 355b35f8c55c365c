/- The contract of the sorting of a short row of integers by a comparison, as the library does it: insertion. -/
import Derived.Test.YtnckpionabokeaaQ8c
import Derived.Test.YtnckpionabokeaaC8a
import Derived.RegionTactic
import Derived.Deep.RegionHeld3
namespace Go.Proofs.Ytnckpionabokeaa
open Go.RowKit
set_option maxRecDepth 100000 in
set_option maxHeartbeats 1000000 in
theorem len64_any (k : Int) (hk : 0 ≤ k ∧ k ≤ 6) (w : World) : Calls Try.prog 99 #[.int .u64 k] w fun e w' => (∃ v : Int, e = .returned (.int .i64 v)) ∧ w = w' := by
  have hc : k = 0 ∨ k = 1 ∨ k = 2 ∨ k = 3 ∨ k = 4 ∨ k = 5 ∨ k = 6 := by omega
  rcases hc with rfl | rfl | rfl | rfl | rfl | rfl | rfl
  all_goals
    clear hk
    go_enter Try.func99, Try.ntmps99
    go_wp2_with fail
    go_ret
    exact ⟨⟨_, rfl⟩, rfl⟩
set_option maxHeartbeats 1000000 in
theorem lenB_any (k : Int) (hk : 0 ≤ k ∧ k ≤ 6) (w : World) : Calls Try.prog 88 #[.int .u64 k] w fun e w' => (∃ v : Int, e = .returned (.int .i64 v)) ∧ w = w' := by
  have H1 := Lib.hid (fun w => len64_any k hk w)
  obtain ⟨h0, h6⟩ := hk
  go_enter Try.func88, Try.ntmps88
  go_wp2_with fail
  refine (H1.out _).mono ?_
  rintro e w1 ⟨⟨v, rfl⟩, rfl⟩
  go_wp2_with fail
  go_ret
  exact ⟨⟨_, rfl⟩, rfl⟩
theorem int_set' {l : List Int} {i : Nat} {x : Int} (h : l[i]? = some x) (a : Int) : (l.flatMap ci).set i (.int .i64 a) = (l.set i a).flatMap ci := by
  have := flat_set ci 1 ci_len l i x a h 0 (by omega) (.int .i64 a) rfl
  rwa [Nat.mul_one, Nat.add_zero] at this
theorem cmp_bef (l : List Arrival) (x y : Int) : decide (cmpArr (arrAtI l x) (arrAtI l y) < 0) = befI l x y := by
  rw [Bool.eq_iff_iff]
  simp only [cmpArr, befI, befA, decide_eq_true_eq, Bool.or_eq_true, Bool.and_eq_true, orZ, cmpZ]
  by_cases h1 : (arrAtI l x).Minute < (arrAtI l y).Minute
  · simp [h1]
  · by_cases h2 : (arrAtI l y).Minute < (arrAtI l x).Minute
    · have : ¬ (arrAtI l x).Minute = (arrAtI l y).Minute := by omega
      simp [h1, h2, this]
    · have h3 : (arrAtI l x).Minute = (arrAtI l y).Minute := by omega
      by_cases h4 : (arrAtI l x).Id < (arrAtI l y).Id
      · simp [h3, h4]
      · by_cases h5 : (arrAtI l y).Id < (arrAtI l x).Id
        · simp [h3, h4, h5]
        · simp [h3, h4, h5]
/-- A comparison of vessels by their numbers, handed over as a function value that captures cap. -/
def CmpFn (a : World) (gf : FuncId) (cap : Value) (l : List Arrival) (n : Nat) : Prop := ∀ (x y : Nat), x < n → y < n → ∀ W, Bl a W → Calls Try.prog gf #[.int .i64 x, .int .i64 y, cap] W fun e w' => e = .returned (.int .i64 (cmpArr (arrAtI l x) (arrAtI l y))) ∧ Bl W w'
set_option maxHeartbeats 2000000 in
theorem insSort_any (a : World) (gf : FuncId) (cap : Value) (l : List Arrival) (n : Nat) (hf : CmpFn a gf cap l n) (heg : Enters Try.prog gf) (g c B : Nat) (w : World) (hb : Bl a w) (hB : a.heap.size ≤ B) (ho : w.ownsRow B 3 1 (.slice (some ⟨g, 0, none⟩) n c) n ((restI 0 n).flatMap ci)) (hn0 : 0 < n) (hn : n ≤ 6) :
    Calls Try.prog 90 #[.slice (some ⟨g, 0, none⟩) n c, .int .i64 0, .int .i64 n, .func (.func gf) #[] #[cap]] w fun e w' => e = .returned (.tuple #[]) ∧ Bl a w' ∧ w'.ownsRow B 3 1 (.slice (some ⟨g, 0, none⟩) n c) n ((fcK l n).flatMap ci) := by
  have eg : ∀ args w, (callFunc gf args).run Try.prog w = .ok (.enter gf args) w := heg
  have HF := Lib.hid hf
  clear heg hf
  go_enter Try.func90, Try.ntmps90
  go_wp2_with fail
  go_loopw [8] (fun u wr => ∃ i : Nat, 1 ≤ i ∧ i ≤ n ∧ u = .int .i64 i ∧ Bl a wr ∧ wr.ownsRow B 3 1 (.slice (some ⟨g, 0, none⟩) n c) n ((dataK l n i).flatMap ci)) (fun u _ => n - (intOf u).toNat)
  case atStart => exact ⟨1, Nat.le_refl _, hn0, rfl, hb, by rw [dataK_one hn0]; exact ho⟩
  case round =>
    clear hb ho
    obtain ⟨i, hi1, hi, rfl, hb, ho⟩ := hrel
    by_cases hlt : i < n
    · have HO := Lib.hid (fcK_len l i)
      have HM := Lib.hid (fun x hx => fcK_mem l i x hx)
      have HE := Lib.hid (fun j hp hj => mid_dataK (l := l) (n := n) (i := i) (j := j) hp hj)
      rw [dataK_mid hlt] at ho
      generalize fcK l i = out at *
      go_wp2_with fail
      go_loopw [9] (fun u wx => ∃ j : Nat, j ≤ i ∧ u = .int .i64 j ∧ Bl a wx ∧ wx.ownsRow B 3 1 (.slice (some ⟨g, 0, none⟩) n c) n ((midL out (i : Int) (restI (i + 1) n) j).flatMap ci) ∧ Hid (posK l out (i : Int) i = posK l out (i : Int) j)) (fun u _ => (intOf u).toNat)
      case atStart => exact ⟨i, Nat.le_refl _, rfl, hb, ho, rfl⟩
      case round =>
        clear hb ho
        obtain ⟨j, hj, rfl, hb, ho, hp⟩ := hrel
        have HML := Lib.hid (midL_len (x := (i : Int)) (r := restI (i + 1) n) (show j ≤ out.length by rw [HO.out]; exact hj))
        have hlen : (midL out (i : Int) (restI (i + 1) n) j).length = n := by rw [HML.out, HO.out, restI_len]; omega
        have HLEN := Lib.hid hlen
        clear hlen
        have hS := Sl.of_own ci_len ho HLEN.out (by omega)
        by_cases hj0 : j = 0
        · subst hj0
          have HD := Lib.hid (HE.out 0 hp.out rfl)
          rw [HD.out] at ho
          go_wp2_with fail
          refine region_bl (by kernel_rfl) (by kernel_rfl) (Bl.refl wr) ?_
          repeat' (first | go_big_quiet_skip | (go_big_quiet_want; go_simp; (try go_bits); first | (refine ⟨_, fun _ _ => rfl, ?_⟩; go_big_quiet_on) | (apply Exists.intro; refine ⟨fun W hW => ?_, ?_⟩; (· go_simp; (try go_bits); rfl); go_big_quiet_on)))
          apply wpQuiet_nil
          intro W hb
          have hb2 : Bl a W := Bl.trans (by with_reducible assumption) hb
          have ho2 := hb.own ho
          go_wp2_with fail
          first | exact ⟨⟨i + 1, by omega, by omega, by go_num, hb2, ho2⟩, by simp [intOf]; omega⟩ | (refine ⟨?_, by simp [intOf]; omega⟩; (repeat apply Exists.intro); exact ⟨⟨i + 1, by omega, by omega, by go_num, hb2, ho2⟩, rfl⟩)
        · have hj1 : 1 ≤ j := by omega
          obtain ⟨y, ey⟩ : ∃ y, out[j - 1]? = some y := ⟨_, List.getElem?_eq_getElem (by rw [HO.out]; omega)⟩
          obtain ⟨y0, y1⟩ := HM.out y (List.mem_of_getElem? ey)
          obtain ⟨q, rfl⟩ := Int.eq_ofNat_of_zero_le y0
          obtain ⟨b1, o1, x1, hA1, ex1, c1⟩ := hS.int (i := j) (by omega)
          obtain ⟨b2, o2, x2, hA2, ex2, c2⟩ := hS.int (i := j - 1) (by omega)
          injection hA1 with hA1; injection hA1 with hA1 hA1'; subst hA1 hA1'
          injection hA2 with hA2; injection hA2 with hA2 hA2'; subst hA2 hA2'
          have e1 : x1 = (i : Int) := Option.some.inj (ex1.symm.trans (midL_at (by rw [HO.out]; exact hj)))
          have e2 : x2 = (q : Int) := Option.some.inj (ex2.symm.trans (midL_before hj1 (by rw [HO.out]; exact hj) ey))
          subst e1 e2
          simp only [Nat.zero_add] at c1 c2
          have HS1 := Lib.hid (int_set' ex1 (q : Int))
          have HS2 := Lib.hid (int_set' (l := (midL out (i : Int) (restI (i + 1) n) j).set j (q : Int)) (i := j - 1) (x := (q : Int)) (by rw [List.getElem?_set_ne (by omega)]; exact ex2) (i : Int))
          have HSW := Lib.hid (midL_swap (x := (i : Int)) (r := restI (i + 1) n) hj1 (by rw [HO.out]; exact hj) ey)
          have HFN := Lib.hid (fun W hW => HF.out i q hlt (by omega) W hW)
          have HC := Lib.hid (cmp_bef l (i : Int) (q : Int))
          have HPG := Lib.hid (fun h => hp.out.trans (posK_go hj1 ey h))
          have HPS := Lib.hid (fun h => HE.out j hp.out (posK_stop hj1 ey h))
          generalize cmpArr (arrAtI l (i : Int)) (arrAtI l (q : Int)) = z at *
          have k1 : (0 : Int) ≤ (j : Int) - 1 := by omega
          have k2 : (j : Int) - 1 < (n : Int) := by omega
          have k3 : ((j : Int) - 1).toNat = j - 1 := by omega
          have k4 : j < n := by omega
          have k5 : j - 1 < n := by omega
          have k6 : 1 ≤ (j : Int) := by omega
          have k7 : (0 : Int) < (j : Int) := by omega
          have k8 : 0 < j := by omega
          clear ey ex1 ex2 hj0 hS
          cases hbf : befI l (i : Int) (q : Int)
          · have hz : decide (z < 0) = false := HC.out.trans hbf
            have HD := Lib.hid (HPS.out hbf)
            rw [HD.out] at ho
            go_wp2_with fail
            refine region_bl (by kernel_rfl) (by kernel_rfl) (Bl.refl wr) ?_
            repeat' (first | go_big_quiet_skip | (go_big_quiet_want; go_simp; (try go_bits); first | (refine ⟨_, fun _ _ => rfl, ?_⟩; go_big_quiet_on) | (apply Exists.intro; (with_reducible refine ⟨fun W hW => ret_bl hW (HFN.out W (Bl.trans (by with_reducible assumption) (by with_reducible assumption))), ?_⟩); go_big_quiet_on) | (apply Exists.intro; refine ⟨fun W hW => ?_, ?_⟩; (· go_simp; (try go_bits); rfl); go_big_quiet_on)))
            apply wpQuiet_nil
            intro W hb
            have hb2 : Bl a W := Bl.trans (by with_reducible assumption) hb
            have ho2 := hb.own ho
            go_wp2_with fail
            first | exact ⟨⟨i + 1, by omega, by omega, by go_num, hb2, ho2⟩, by simp [intOf]; omega⟩ | (refine ⟨?_, by simp [intOf]; omega⟩; (repeat apply Exists.intro); exact ⟨⟨i + 1, by omega, by omega, by go_num, hb2, ho2⟩, rfl⟩)
          · have hz : decide (z < 0) = true := HC.out.trans hbf
            have HP := Lib.hid (HPG.out hbf)
            go_wp2_with fail
            refine region_bl (by kernel_rfl) (by kernel_rfl) (Bl.refl wr) ?_
            repeat' (first | go_big_quiet_skip | (go_big_quiet_want; go_simp; (try go_bits); first | (refine ⟨_, fun _ _ => rfl, ?_⟩; go_big_quiet_on) | (apply Exists.intro; (with_reducible refine ⟨fun W hW => ret_bl hW (HFN.out W (Bl.trans (by with_reducible assumption) (by with_reducible assumption))), ?_⟩); go_big_quiet_on) | (apply Exists.intro; refine ⟨fun W hW => ?_, ?_⟩; (· go_simp; (try go_bits); rfl); go_big_quiet_on)))
            apply wpQuiet_nil
            intro W hb
            have hb2 : Bl a W := Bl.trans (by with_reducible assumption) hb
            have ho2 := hb.own ho
            have d1 := c1 W hb
            have d2 := c2 W hb
            have fz := World.ownsRow.frozenAt ho2
            have hgl := ((own_lt ho2).out g rfl).1
            clear c1 c2 hb
            go_wp2_with fail
            go_region
            all_goals
              go_wp2_with fail
              first | exact ⟨⟨j - 1, by omega, by congr 1; omega, by repeat (first | (with_reducible exact hb2) | (with_reducible apply Bl.drew) | (with_reducible refine Bl.setCell ?_ (by first | exact Nat.le_trans hB hgl | (simp; omega)) _)), by rw [← HSW.out, ← HS2.out, ← HS1.out]; repeat (first | (with_reducible exact ho2) | (with_reducible refine World.ownsRow.drew ?_) | (with_reducible refine own_set ?_ _ _)), HP⟩, by simp [intOf]; omega⟩ | (refine ⟨?_, by simp [intOf]; omega⟩; (repeat apply Exists.intro); exact ⟨⟨j - 1, by omega, by congr 1; omega, by repeat (first | (with_reducible exact hb2) | (with_reducible apply Bl.drew) | (with_reducible refine Bl.setCell ?_ (by first | exact Nat.le_trans hB hgl | (simp; omega)) _)), by rw [← HSW.out, ← HS2.out, ← HS1.out]; repeat (first | (with_reducible exact ho2) | (with_reducible refine World.ownsRow.drew ?_) | (with_reducible refine own_set ?_ _ _)), HP⟩, rfl⟩)
    · have e : i = n := by omega
      subst e
      rw [dataK_end] at ho
      go_wp2_with fail
      go_end0
      exact ⟨rfl, hb, ho⟩
end Go.Proofs.Ytnckpionabokeaa
