/- The seat's helpers on slices of integers. -/
import Derived.Test.YtkeaobjcfkmjmaaRows
import Derived.Test.YtkeaobjcfkmjmaaBase
namespace Go.Proofs.Ytkeaobjcfkmjmaa
open Go.RowKit
theorem infoInt : (Try.prog.info? 3).map (fun i => (i.zero, i.size, i.bytes)) = some (some (.int .i64 0), 1, 8) := by kernel_rfl
theorem ints_get {l : List Int} {k : Nat} {x : Int} (h : l[k]? = some x) : (l.flatMap ci)[k]? = some (.int .i64 x) := by
  have := flat_get ci 1 ci_len l k x h 0 (by omega)
  rwa [Nat.mul_one, Nat.add_zero] at this
set_option maxHeartbeats 400000 in
theorem toIntS_any (A : Option Addr) (n c : Nat) (l : List Int) (w : World) (h : Sl ci 1 w A n l) (hn : n ≤ 1048576) :
    Calls Try.prog 38 #[.slice A n c] w (NewRow w 3 1 n (l.flatMap ci)) := by
  obtain ⟨i0, hi, hz0, hz1, hz2⟩ := info_parts infoInt
  have HL := Lib.hid h.1
  go_enter Try.func38, Try.ntmps38
  go_wp2_with (at_make; refine wpList_make_full _ rfl _ _ 36 rfl w.heap.size 3 i0 _ 1 Try.underlying36 hi hz0 hz1 _ _ _ _ n rfl rfl rfl rfl (by rw [hz2]; omega) (by unfold maxLen; omega) (Nat.le_refl _) ?_; intro w1 hown hgrow)
  have hb1 : Bl w w1 := (Bl.refl w).grown hgrow (fun k hk => by cases hk)
  clear hgrow hi hz0 hz1 hz2
  go_wp2
  go_loopw [4] (fun i wr => ∃ k : Nat, k ≤ n ∧ i = .int .i64 k ∧ Bl w wr ∧ ∃ xs, wr.ownsRow w.heap.size 3 1 (.slice (some ⟨w.heap.size, 0, none⟩) n n) n xs ∧ Same k xs (l.flatMap ci)) (fun i _ => n - (intOf i).toNat)
  case atStart => exact ⟨0, Nat.zero_le _, rfl, hb1, _, hown, Same.zero _ _⟩
  case round =>
    obtain ⟨k, hk, rfl, hbl, xs, hown', hsame⟩ := hrel
    clear hown hb1
    by_cases hlt : k < n
    · obtain ⟨b1, o1, x, rfl, e1, c1⟩ := h.int hlt
      have HE := Lib.hid e1; clear e1
      have fz := World.ownsRow.frozenAt hown'
      obtain ⟨v0, q0⟩ := own_some hown' (j := k) (by omega)
      go_wp2
      have hl := hown'.1
      first | exact ⟨⟨k + 1, by omega, by go_num, hbl.setCell (Nat.le_refl _) _, _, own_set hown' k _, hsame.step (by omega) (ints_get HE.out)⟩, by simp [intOf]; omega⟩ | (refine ⟨?_, by simp [intOf]; omega⟩; (repeat apply Exists.intro); exact ⟨⟨k + 1, by omega, by go_num, hbl.setCell (Nat.le_refl _) _, _, own_set hown' k _, hsame.step (by omega) (ints_get HE.out)⟩, rfl⟩)
    · have e : k = n := by omega
      subst e
      go_wp2
      go_ret
      exact ⟨_, _, rfl, by rw [← Same.all hsame (by rw [hown'.1, Nat.mul_one]) (by rw [flat_len _ 1 ci_len, HL.out, Nat.mul_one])]; exact hown', hbl⟩
set_option maxHeartbeats 400000 in
theorem eqIntS_any (A B : Option Addr) (n m c d : Nat) (l r : List Int) (w : World) (ha : Sl ci 1 w A n l) (hr : Sl ci 1 w B m r) :
    Calls Try.prog 29 #[.slice A n c, .slice B m d] w fun e w' => e = .returned (.bool (eqB l r)) ∧ Bl w w' := by
  have bn := ha.le
  have bm := hr.le
  by_cases hnm : n = m
  case neg =>
    have h1 : ((n : Int) == m) = false := by simp; omega
    have h2 : ((n : Int) != m) = true := by simp; omega
    have h3 : eqB l r = false := eqB_no (by rintro rfl; exact hnm (ha.1.symm.trans hr.1))
    have H3 := Lib.hid h3; clear h3
    go_enter Try.func29, Try.ntmps29
    go_wp2
    go_ret
    exact ⟨by rw [H3.out]; rfl, Bl.refl _⟩
  subst hnm
  have HA := Lib.hid ha.1
  have HB := Lib.hid hr.1
  go_enter Try.func29, Try.ntmps29
  go_wp2
  go_loopw [5] (fun i wr => ∃ k : Nat, k ≤ n ∧ i = .int .i64 k ∧ Bl w wr ∧ Hid (l.take k = r.take k)) (fun i _ => n - (intOf i).toNat)
  case atStart => exact ⟨0, Nat.zero_le _, rfl, Bl.refl _, rfl⟩
  case round =>
    obtain ⟨k, hk, rfl, hbl, he⟩ := hrel
    by_cases hlt : k < n
    · obtain ⟨b1, o1, p1, rfl, e1, c11⟩ := ha.int hlt
      obtain ⟨b2, o2, p2, rfl, e2, c21⟩ := hr.int hlt
      have E1 := Lib.hid e1; clear e1
      have E2 := Lib.hid e2; clear e2
      by_cases hp : p1 = p2
      · have hrr : Hid (l.take (k + 1) = r.take (k + 1)) := by
          show l.take (k + 1) = r.take (k + 1)
          rw [List.take_add_one, List.take_add_one, he.out, E1.out, E2.out, hp]
        subst hp
        go_wp2
        refine region_bl (by kernel_rfl) (by kernel_rfl) hbl ?_
        repeat' (first | go_big_quiet_skip | (go_big_quiet_want; go_simp; (try go_bits); first | (refine ⟨_, fun _ _ => rfl, ?_⟩; go_big_quiet_on) | (apply Exists.intro; refine ⟨fun W hW => ?_, ?_⟩; (· go_simp; (try go_bits); rfl); go_big_quiet_on)))
        apply wpQuiet_nil
        intro W hb
        go_wp2
        first | exact ⟨⟨k + 1, by omega, by go_num, hb, hrr⟩, by simp [intOf]; omega⟩ | (refine ⟨?_, by simp [intOf]; omega⟩; (repeat apply Exists.intro); exact ⟨⟨k + 1, by omega, by go_num, hb, hrr⟩, rfl⟩)
      · have hne : (p1 != p2) = true := by simpa using hp
        have hfin : eqB l r = false := eqB_no (by
          intro h; apply hp
          have := E1.out; rw [h, E2.out] at this; exact (Option.some.inj this).symm)
        have HF := Lib.hid hfin; clear hfin
        clear hp
        go_wp2
        refine region_bl (by kernel_rfl) (by kernel_rfl) hbl ?_
        repeat' (first | go_big_quiet_skip | (go_big_quiet_want; go_simp; (try go_bits); first | (refine ⟨_, fun _ _ => rfl, ?_⟩; go_big_quiet_on) | (apply Exists.intro; refine ⟨fun W hW => ?_, ?_⟩; (· go_simp; (try go_bits); rfl); go_big_quiet_on)))
        apply wpQuiet_nil
        intro W hb
        go_wp2
        go_ret
        exact ⟨by rw [HF.out]; rfl, hb⟩
    · have e : k = n := by omega
      subst e
      have hfin : eqB l r = true := eqB_yes (by
        have := he.out
        rw [List.take_of_length_le (by rw [HA.out]; exact Nat.le_refl _), List.take_of_length_le (by rw [HB.out]; exact Nat.le_refl _)] at this
        exact this)
      have HF := Lib.hid hfin; clear hfin
      go_wp2
      go_ret
      exact ⟨by rw [HF.out]; rfl, hbl⟩
set_option maxHeartbeats 400000 in
theorem rInts_any (A B : Option Addr) (n m c d : Nat) (l r : List Int) (w : World) (ha : Sl ci 1 w A n l) (hr : Sl ci 1 w B m r) :
    Calls Try.prog 48 #[.slice A n c, .slice B m d] w fun e w' => e = .returned (.bool (eqB l r)) ∧ Bl w w' := by
  have bn := ha.le
  have bm := hr.le
  by_cases hnm : n = m
  case neg =>
    have h1 : ((n : Int) == m) = false := by simp; omega
    have h2 : ((n : Int) != m) = true := by simp; omega
    have h3 : eqB l r = false := eqB_no (by rintro rfl; exact hnm (ha.1.symm.trans hr.1))
    have H3 := Lib.hid h3; clear h3
    go_enter Try.func48, Try.ntmps48
    go_wp2
    go_ret
    exact ⟨by rw [H3.out]; rfl, Bl.refl _⟩
  subst hnm
  have HA := Lib.hid ha.1
  have HB := Lib.hid hr.1
  go_enter Try.func48, Try.ntmps48
  go_wp2
  go_loopw [5] (fun i wr => ∃ k : Nat, k ≤ n ∧ i = .int .i64 k ∧ Bl w wr ∧ Hid (l.take k = r.take k)) (fun i _ => n - (intOf i).toNat)
  case atStart => exact ⟨0, Nat.zero_le _, rfl, Bl.refl _, rfl⟩
  case round =>
    obtain ⟨k, hk, rfl, hbl, he⟩ := hrel
    by_cases hlt : k < n
    · obtain ⟨b1, o1, p1, rfl, e1, c11⟩ := ha.int hlt
      obtain ⟨b2, o2, p2, rfl, e2, c21⟩ := hr.int hlt
      have E1 := Lib.hid e1; clear e1
      have E2 := Lib.hid e2; clear e2
      by_cases hp : p1 = p2
      · have hrr : Hid (l.take (k + 1) = r.take (k + 1)) := by
          show l.take (k + 1) = r.take (k + 1)
          rw [List.take_add_one, List.take_add_one, he.out, E1.out, E2.out, hp]
        subst hp
        go_wp2
        refine region_bl (by kernel_rfl) (by kernel_rfl) hbl ?_
        repeat' (first | go_big_quiet_skip | (go_big_quiet_want; go_simp; (try go_bits); first | (refine ⟨_, fun _ _ => rfl, ?_⟩; go_big_quiet_on) | (apply Exists.intro; refine ⟨fun W hW => ?_, ?_⟩; (· go_simp; (try go_bits); rfl); go_big_quiet_on)))
        apply wpQuiet_nil
        intro W hb
        go_wp2
        first | exact ⟨⟨k + 1, by omega, by go_num, hb, hrr⟩, by simp [intOf]; omega⟩ | (refine ⟨?_, by simp [intOf]; omega⟩; (repeat apply Exists.intro); exact ⟨⟨k + 1, by omega, by go_num, hb, hrr⟩, rfl⟩)
      · have hne : (p1 != p2) = true := by simpa using hp
        have hfin : eqB l r = false := eqB_no (by
          intro h; apply hp
          have := E1.out; rw [h, E2.out] at this; exact (Option.some.inj this).symm)
        have HF := Lib.hid hfin; clear hfin
        clear hp
        go_wp2
        refine region_bl (by kernel_rfl) (by kernel_rfl) hbl ?_
        repeat' (first | go_big_quiet_skip | (go_big_quiet_want; go_simp; (try go_bits); first | (refine ⟨_, fun _ _ => rfl, ?_⟩; go_big_quiet_on) | (apply Exists.intro; refine ⟨fun W hW => ?_, ?_⟩; (· go_simp; (try go_bits); rfl); go_big_quiet_on)))
        apply wpQuiet_nil
        intro W hb
        go_wp2
        go_ret
        exact ⟨by rw [HF.out]; rfl, hb⟩
    · have e : k = n := by omega
      subst e
      have hfin : eqB l r = true := eqB_yes (by
        have := he.out
        rw [List.take_of_length_le (by rw [HA.out]; exact Nat.le_refl _), List.take_of_length_le (by rw [HB.out]; exact Nat.le_refl _)] at this
        exact this)
      have HF := Lib.hid hfin; clear hfin
      go_wp2
      go_ret
      exact ⟨by rw [HF.out]; rfl, hbl⟩
set_option maxHeartbeats 400000 in
theorem markIntS_any (A : Option Addr) (n c B : Nat) (xs : List Value) (q : Int) (w : World) (ho : w.ownsRow B 3 1 (.slice A n c) n xs) (hn : n ≤ 1048576) (h0 : 0 ≤ q) (h1 : q ≤ 1073741824) :
    Calls Try.prog 31 #[.slice A n c, .int .i64 q] w (Marked w B 3 1 n c A q) := by
  rcases own_forms ho with ⟨rfl, rfl, rfl, rfl⟩ | ⟨g, rfl⟩
  · go_enter Try.func31, Try.ntmps31
    go_wp2
    refine wp_loop_rounds 1 ?_
    rw [rounds_succ]
    go_wp2
    go_ret
    exact ⟨by simp, by simpa [marks] using ho, World.grownBy.refl _ _⟩
  go_enter Try.func31, Try.ntmps31
  go_wp2
  go_loopw [1, 5] (fun u i wr => ∃ k : Nat, k ≤ n ∧ i = .int .i64 k ∧ u = .int .i64 (q + (k : Nat)) ∧ w.grownBy wr (some g) ∧ ∃ ys, wr.ownsRow B 3 1 (.slice (some ⟨g, 0, none⟩) n c) n ys ∧ Same k ys (marks q (n * 1))) (fun _ i _ => n - (intOf i).toNat)
  case atStart => exact ⟨0, Nat.zero_le _, rfl, by simp, World.grownBy.refl _ _, _, ho, Same.zero _ _⟩
  case round =>
    obtain ⟨k, hk, rfl, rfl, hgr, ys, hoW, hsame⟩ := hrel
    by_cases hlt : k < n
    · have fz := World.ownsRow.frozenAt hoW
      obtain ⟨v0, q0⟩ := own_some hoW (j := k) (by omega)
      go_wp2
      have hl := hoW.1
      first | exact ⟨⟨k + 1, by omega, by go_num, by congr 1; omega, grown_set hgr _ _, _, own_set hoW k _, hsame.step (by omega) ((marks_get q (n * 1) k (by omega)).trans (by simp))⟩, by simp [intOf]; omega⟩ | (refine ⟨?_, by simp [intOf]; omega⟩; (repeat apply Exists.intro); exact ⟨⟨k + 1, by omega, by go_num, by congr 1; omega, grown_set hgr _ _, _, own_set hoW k _, hsame.step (by omega) ((marks_get q (n * 1) k (by omega)).trans (by simp))⟩, rfl⟩)
    · have e : k = n := by omega
      subst e
      go_wp2
      go_ret
      exact ⟨by rw [Nat.mul_one]; rfl, by rw [← Same.all hsame (by rw [hoW.1, Nat.mul_one]) (by rw [marks_len, Nat.mul_one])]; exact hoW, hgr⟩
set_option maxHeartbeats 400000 in
theorem heldIntS_any (A : Option Addr) (n c : Nat) (l : List Int) (q : Int) (w : World) (ha : Sl ci 1 w A n l) (hn : n ≤ 1048576) (h0 : 0 ≤ q) (h1 : q ≤ 1073741824) (hq : l.flatMap ci = marks q (n * 1)) :
    Calls Try.prog 32 #[.slice A n c, .int .i64 q] w fun e w' => e = .returned (.int .i64 (q + (n * 1 : Nat))) ∧ Bl w w' := by
  have HQ := Lib.hid hq; clear hq
  go_enter Try.func32, Try.ntmps32
  go_wp2
  go_loopw [1, 5] (fun u i wr => ∃ k : Nat, k ≤ n ∧ i = .int .i64 k ∧ u = .int .i64 (q + (k : Nat)) ∧ Bl w wr) (fun _ i _ => n - (intOf i).toNat)
  case atStart => exact ⟨0, Nat.zero_le _, rfl, by simp, Bl.refl _⟩
  case round =>
    obtain ⟨k, hk, rfl, rfl, hbl⟩ := hrel
    by_cases hlt : k < n
    · obtain ⟨b1, o1, x, rfl, e1, c11⟩ := ha.int hlt
      have y : (Value.int .i64 x : Value) = .int .i64 (q + (k : Nat)) := by
        have := ints_get e1
        rw [HQ.out, marks_get q (n * 1) k (by omega)] at this
        exact (Option.some.inj this).symm
      simp at y
      subst y
      clear e1
      go_wp2
      first | exact ⟨⟨k + 1, by omega, by go_num, by congr 1; omega, hbl⟩, by simp [intOf]; omega⟩ | (refine ⟨?_, by simp [intOf]; omega⟩; (repeat apply Exists.intro); exact ⟨⟨k + 1, by omega, by go_num, by congr 1; omega, hbl⟩, rfl⟩)
    · have e : k = n := by omega
      subst e
      go_wp2
      go_ret
      exact ⟨by rw [Nat.mul_one]; rfl, hbl⟩
end Go.Proofs.Ytkeaobjcfkmjmaa
