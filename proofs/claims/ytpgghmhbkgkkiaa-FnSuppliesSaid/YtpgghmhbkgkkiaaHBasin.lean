/- The seat's helpers on Basin. -/
import Derived.Test.YtpgghmhbkgkkiaaRows
import Derived.Test.YtpgghmhbkgkkiaaTBasin
namespace Go.Proofs.Ytpgghmhbkgkkiaa
open Go.RowKit
theorem infoBasin : (Try.prog.info? 69).map (fun i => (i.zero, i.size, i.bytes)) = some (some (.agg #[.int .i64 0, .int .i64 0, .int .i64 0]), 3, 24) := by kernel_rfl
set_option maxHeartbeats 400000 in
theorem toBasin_any (p : Basin) (w : World) : Calls Try.prog 57 #[p.val] w fun e w' => e = .returned p.val ∧ Bl w w' := by
  obtain ⟨a1, a2, a3⟩ := p
  simp only [Basin.val]
  go_enter Try.func57, Try.ntmps57
  go_wp2
  simp [bodyPost, results, Try.results57, go_sem]
  repeat (first | exact Bl.refl _ | apply Bl.drew | apply Bl.alloc | (refine Bl.setCell ?_ (by simp) _))
set_option maxHeartbeats 400000 in
theorem eqBasin_any (a b : Basin) (w : World) : Calls Try.prog 61 #[a.val, b.val] w fun e w' => e = .returned (.bool (eqB a b)) ∧ Bl w w' := by
  obtain ⟨a1, a2, a3⟩ := a
  obtain ⟨b1, b2, b3⟩ := b
  simp only [Basin.val, eqB, Basin.mk.injEq]
  go_enter Try.func61, Try.ntmps61
  go_wp2
  all_goals (go_ret; exact ⟨by simp_all, ((Bl.refl _).alloc _).alloc _⟩)
set_option maxHeartbeats 400000 in
theorem szBasinS_any (A : Option Addr) (n c : Nat) (m : Int) (w : World) (hn : n ≤ 9223372036854775807) (h0 : 0 ≤ m) (h1 : m ≤ 1048576) :
    Calls Try.prog 14 #[.slice A n c, .int .i64 m] w fun e w' => e = .returned (.int .i64 (if m < n then -1 else m - n)) ∧ Bl w w' := by
  by_cases h : m < n
  · have h' : m - (n : Int) < 0 := by omega
    simp only [h, if_true]
    go_enter Try.func14, Try.ntmps14
    go_wp2
    go_ret
    exact ⟨rfl, Bl.refl _⟩
  · have h' : ¬ m - (n : Int) < 0 := by omega
    simp only [h, if_false]
    go_enter Try.func14, Try.ntmps14
    go_wp2
    go_ret
    exact ⟨rfl, Bl.refl _⟩
set_option maxHeartbeats 400000 in
theorem toBasinS_any (A : Option Addr) (n c : Nat) (l : List Basin) (w : World) (h : Sl Basin.cs 3 w A n l) (hn : n ≤ 1048576) :
    Calls Try.prog 16 #[.slice A n c] w (NewRow w 69 3 n (l.flatMap Basin.cs)) := by
  obtain ⟨i0, hi, hz0, hz1, hz2⟩ := info_parts infoBasin
  have HL := Lib.hid h.1
  go_enter Try.func16, Try.ntmps16
  go_wp2_with (at_make; refine wpList_make_full _ rfl _ _ 25 rfl w.heap.size 69 i0 _ 3 Try.underlying25 hi hz0 hz1 _ _ _ _ n rfl rfl rfl rfl (by rw [hz2]; omega) (by unfold maxLen; omega) (Nat.le_refl _) ?_; intro w1 hown hgrow)
  have hb1 : Bl w w1 := (Bl.refl w).grown hgrow (fun k hk => by cases hk)
  clear hgrow hi hz0 hz1 hz2
  go_wp2
  go_loopw [4] (fun i wr => ∃ k : Nat, k ≤ n ∧ i = .int .i64 k ∧ Bl w wr ∧ ∃ xs, wr.ownsRow w.heap.size 69 3 (.slice (some ⟨w.heap.size, 0, none⟩) n n) n xs ∧ Same (k * 3) xs (l.flatMap Basin.cs)) (fun i _ => n - (intOf i).toNat)
  case atStart => exact ⟨0, Nat.zero_le _, rfl, hb1, _, hown, by rw [Nat.zero_mul]; exact Same.zero _ _⟩
  case round =>
    obtain ⟨k, hk, rfl, hbl, xs, hown', hsame⟩ := hrel
    clear hown hb1
    by_cases hlt : k < n
    · obtain ⟨b1, o1, p, rfl, e1, c1, c2, c3⟩ := Sl.Basin h hlt
      have HE := Lib.hid e1; clear e1
      go_wp2_with fail
      refine (toBasin_any p _).mono ?_
      rintro e W ⟨rfl, hW⟩
      have hbW := hbl.trans hW
      have hoW := hW.own hown'
      have fz := World.ownsRow.frozenAt hoW
      obtain ⟨v0, q0⟩ := own_some hoW (j := k * 3) (by omega)
      obtain ⟨v1, q1⟩ := own_some hoW (j := k * 3 + 1) (by omega)
      obtain ⟨v2, q2⟩ := own_some hoW (j := k * 3 + 2) (by omega)
      clear hW hbl
      simp only [Basin.val]
      go_wp2
      go_roundw
      case rel =>
        have hl := hown'.1
        have y (j : Nat) (u : Value) (hj : j < 3) (hu : p.cs[j]? = some u) : (l.flatMap Basin.cs)[k * 3 + j]? = some u := (flat_get Basin.cs 3 Basin.cs_len l k p HE.out j hj).trans hu
        refine ⟨k + 1, by omega, by go_num, ?_, _, own_set (own_set (own_set hoW (k * 3) _) (k * 3 + 1) _) (k * 3 + 2) _, ?_⟩
        · repeat (first | exact hbW | apply Bl.drew | apply Bl.alloc | (refine Bl.setCell ?_ (Nat.le_refl _) _))
        · skip
          have g1 := hsame.step (by omega) (y 0 _ (by omega) rfl)
          have g2 := g1.step (by simp; omega) (y 1 _ (by omega) rfl)
          have g3 := g2.step (by simp; omega) (y 2 _ (by omega) rfl)
          have e3 : (k + 1) * 3 = k * 3 + 1 + 1 + 1 := by omega
          rw [e3]; exact g3
      case measure => simp [intOf]; omega
    · have e : k = n := by omega
      subst e
      go_wp2
      go_ret
      exact ⟨_, _, rfl, by rw [← Same.all hsame hown'.1 (by rw [flat_len _ 3 Basin.cs_len, HL.out])]; exact hown', hbl⟩
set_option maxHeartbeats 400000 in
theorem eqBasinS_any (A B : Option Addr) (n m c d : Nat) (l r : List Basin) (w : World) (ha : Sl Basin.cs 3 w A n l) (hr : Sl Basin.cs 3 w B m r) :
    Calls Try.prog 18 #[.slice A n c, .slice B m d] w fun e w' => e = .returned (.bool (eqB l r)) ∧ Bl w w' := by
  have bn := ha.le
  have bm := hr.le
  by_cases hnm : n = m
  case neg =>
    have h1 : ((n : Int) == m) = false := by simp; omega
    have h2 : ((n : Int) != m) = true := by simp; omega
    have h3 : eqB l r = false := eqB_no (by rintro rfl; exact hnm (ha.1.symm.trans hr.1))
    have H3 := Lib.hid h3; clear h3
    go_enter Try.func18, Try.ntmps18
    go_wp2
    go_ret
    exact ⟨by rw [H3.out]; rfl, Bl.refl _⟩
  subst hnm
  have HA := Lib.hid ha.1
  have HB := Lib.hid hr.1
  go_enter Try.func18, Try.ntmps18
  go_wp2
  go_loopw [5] (fun i wr => ∃ k : Nat, k ≤ n ∧ i = .int .i64 k ∧ Bl w wr ∧ Hid (l.take k = r.take k)) (fun i _ => n - (intOf i).toNat)
  case atStart => exact ⟨0, Nat.zero_le _, rfl, Bl.refl _, rfl⟩
  case round =>
    obtain ⟨k, hk, rfl, hbl, he⟩ := hrel
    by_cases hlt : k < n
    · obtain ⟨b1, o1, p1, rfl, e1, c11, c12, c13⟩ := ha.Basin hlt
      obtain ⟨b2, o2, p2, rfl, e2, c21, c22, c23⟩ := hr.Basin hlt
      have E1 := Lib.hid e1; clear e1
      have E2 := Lib.hid e2; clear e2
      go_wp2
      refine region_bl (by kernel_rfl) (by kernel_rfl) hbl ?_
      repeat' (first | go_big_quiet_skip | (go_big_quiet_want; go_simp; (try go_bits); first | (refine ⟨_, fun _ _ => rfl, ?_⟩; go_big_quiet_on) | (apply Exists.intro; (with_reducible refine ⟨fun W hW => ret_bl hW (eqBasin_any p1 p2 W), ?_⟩); go_big_quiet_on) | (apply Exists.intro; refine ⟨fun W hW => ?_, ?_⟩; (· go_simp; (try go_bits); rfl); go_big_quiet_on)))
      apply wpQuiet_nil
      intro W hb
      by_cases hp : p1 = p2
      · have hd := eqB_yes hp
        simp only [hd, Bool.not_true]
        have hrr : Hid (l.take (k + 1) = r.take (k + 1)) := by
          show l.take (k + 1) = r.take (k + 1)
          rw [List.take_add_one, List.take_add_one, he.out, E1.out, E2.out, hp]
        clear hp
        go_wp2
        first | exact ⟨⟨k + 1, by omega, by go_num, hb, hrr⟩, by simp [intOf]; omega⟩ | (refine ⟨?_, by simp [intOf]; omega⟩; (repeat apply Exists.intro); exact ⟨⟨k + 1, by omega, by go_num, hb, hrr⟩, rfl⟩)
      · have hd := eqB_no hp
        have hfin : eqB l r = false := eqB_no (by
          intro h; apply hp
          have := E1.out; rw [h, E2.out] at this; exact (Option.some.inj this).symm)
        have HF := Lib.hid hfin; clear hfin
        simp only [hd, Bool.not_false]
        clear hp
        go_wp2
        go_ret
        exact ⟨by rw [HF.out]; rfl, hb⟩
    · have e : k = n := by omega
      subst e
      have hfin : eqB l r = true := eqB_yes (by
        have := he.out
        rw [List.take_of_length_le (by rw [HA.out]; exact Nat.le_refl _), List.take_of_length_le (by rw [HB.out]; exact Nat.le_refl _)] at this
        exact this)
      have HF := Lib.hid hfin; clear hfin
      go_wp2
      go_ret
      exact ⟨by rw [HF.out]; rfl, hbl⟩
set_option maxHeartbeats 400000 in
theorem markBasinS_any (A : Option Addr) (n c B : Nat) (xs : List Value) (q : Int) (w : World) (ho : w.ownsRow B 69 3 (.slice A n c) n xs) (hn : n ≤ 1048576) (h0 : 0 ≤ q) (h1 : q ≤ 1073741824) :
    Calls Try.prog 28 #[.slice A n c, .int .i64 q] w (Marked w B 69 3 n c A q) := by
  rcases own_forms ho with ⟨rfl, rfl, rfl, rfl⟩ | ⟨g, rfl⟩
  · go_enter Try.func28, Try.ntmps28
    go_wp2
    refine wp_loop_rounds 1 ?_
    rw [rounds_succ]
    go_wp2
    go_ret
    exact ⟨by simp, by simpa [marks] using ho, World.grownBy.refl _ _⟩
  go_enter Try.func28, Try.ntmps28
  go_wp2
  go_loopw [1, 5] (fun u i wr => ∃ k : Nat, k ≤ n ∧ i = .int .i64 k ∧ u = .int .i64 (q + (k * 3 : Nat)) ∧ w.grownBy wr (some g) ∧ ∃ ys, wr.ownsRow B 69 3 (.slice (some ⟨g, 0, none⟩) n c) n ys ∧ Same (k * 3) ys (marks q (n * 3))) (fun _ i _ => n - (intOf i).toNat)
  case atStart => exact ⟨0, Nat.zero_le _, rfl, by simp, World.grownBy.refl _ _, _, ho, by rw [Nat.zero_mul]; exact Same.zero _ _⟩
  case round =>
    obtain ⟨k, hk, rfl, rfl, hgr, ys, hoW, hsame⟩ := hrel
    by_cases hlt : k < n
    · have fz := World.ownsRow.frozenAt hoW
      obtain ⟨v0, q0⟩ := own_some hoW (j := k * 3) (by omega)
      obtain ⟨v1, q1⟩ := own_some hoW (j := k * 3 + 1) (by omega)
      obtain ⟨v2, q2⟩ := own_some hoW (j := k * 3 + 2) (by omega)
      go_wp2
      go_roundw
      case rel =>
        have gr {W : World} (h : w.grownBy W (some g)) (j : Nat) (u : Value) : w.grownBy (W.setCell ⟨g, j, none⟩ u) (some g) := grown_set h j u
        refine ⟨k + 1, by omega, by go_num, ?_, gr (gr (gr hgr _ _) _ _) _ _, _, own_set (own_set (own_set hoW (k * 3) _) (k * 3 + 1) _) (k * 3 + 2) _, ?_⟩
        · congr 1; omega
        · have hl := hoW.1
          have g1 := hsame.step (u := .int .i64 (q + (k : Int) * 3)) (by omega) ((marks_get q (n * 3) (k * 3) (by omega)).trans (by simp))
          have g2 := g1.step (u := .int .i64 (q + (k : Int) * 3 + 1)) (by simp; omega) ((marks_get q (n * 3) (k * 3 + 1) (by omega)).trans (by simp; omega))
          have g3 := g2.step (u := .int .i64 (q + (k : Int) * 3 + 1 + 1)) (by simp; omega) ((marks_get q (n * 3) (k * 3 + 1 + 1) (by omega)).trans (by simp; omega))
          have e3 : (k + 1) * 3 = k * 3 + 1 + 1 + 1 := by omega
          rw [e3]; exact g3
      case measure => simp [intOf]; omega
    · have e : k = n := by omega
      subst e
      go_wp2
      go_ret
      exact ⟨rfl, by rw [← Same.all hsame hoW.1 (marks_len _ _)]; exact hoW, hgr⟩
set_option maxHeartbeats 400000 in
theorem heldBasinS_any (A : Option Addr) (n c : Nat) (l : List Basin) (q : Int) (w : World) (ha : Sl Basin.cs 3 w A n l) (hn : n ≤ 1048576) (h0 : 0 ≤ q) (h1 : q ≤ 1073741824) (hq : l.flatMap Basin.cs = marks q (n * 3)) :
    Calls Try.prog 29 #[.slice A n c, .int .i64 q] w fun e w' => e = .returned (.int .i64 (q + (n * 3 : Nat))) ∧ Bl w w' := by
  have HQ := Lib.hid hq; clear hq
  go_enter Try.func29, Try.ntmps29
  go_wp2
  go_loopw [1, 5] (fun u i wr => ∃ k : Nat, k ≤ n ∧ i = .int .i64 k ∧ u = .int .i64 (q + (k * 3 : Nat)) ∧ Bl w wr) (fun _ i _ => n - (intOf i).toNat)
  case atStart => exact ⟨0, Nat.zero_le _, rfl, by simp, Bl.refl _⟩
  case round =>
    obtain ⟨k, hk, rfl, rfl, hbl⟩ := hrel
    by_cases hlt : k < n
    · obtain ⟨b1, o1, p1, rfl, e1, c11, c12, c13⟩ := ha.Basin hlt
      have y (j : Nat) (hj : j < 3) : p1.cs[j]? = some (.int .i64 (q + (k * 3 + j : Nat))) := by
        rw [← flat_get Basin.cs 3 Basin.cs_len l k p1 e1 j hj, HQ.out, marks_get q (n * 3) (k * 3 + j) (by omega)]
      have y0 := y 0 (by omega)
      have y1 := y 1 (by omega)
      have y2 := y 2 (by omega)
      simp [Basin.cs] at y0 y1 y2
      rw [y0] at c11
      rw [y1] at c12
      rw [y2] at c13
      clear y0 y1 y2 y e1
      go_wp2
      first | exact ⟨⟨k + 1, by omega, by go_num, by congr 1; omega, hbl⟩, by simp [intOf]; omega⟩ | (refine ⟨?_, by simp [intOf]; omega⟩; (repeat apply Exists.intro); exact ⟨⟨k + 1, by omega, by go_num, by congr 1; omega, hbl⟩, rfl⟩)
    · have e : k = n := by omega
      subst e
      go_wp2
      go_ret
      exact ⟨rfl, hbl⟩
end Go.Proofs.Ytpgghmhbkgkkiaa
