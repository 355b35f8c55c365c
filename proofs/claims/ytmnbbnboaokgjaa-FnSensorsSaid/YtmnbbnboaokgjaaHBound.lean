/- The seat's helpers on Bound. -/
import Derived.Test.YtmnbbnboaokgjaaRows
import Derived.Test.YtmnbbnboaokgjaaTBound
namespace Go.Proofs.Ytmnbbnboaokgjaa
open Go.RowKit
theorem infoBound : (Try.prog.info? 25).map (fun i => (i.zero, i.size, i.bytes)) = some (some (.agg #[.int .i64 0, .int .i64 0]), 2, 16) := by kernel_rfl
set_option maxHeartbeats 400000 in
theorem toBound_any (p : Bound) (w : World) : Calls Try.prog 62 #[p.val] w fun e w' => e = .returned p.val ∧ Bl w w' := by
  obtain ⟨a1, a2⟩ := p
  simp only [Bound.val]
  go_enter Try.func62, Try.ntmps62
  go_wp2
  simp [bodyPost, results, Try.results62, go_sem]
  repeat (first | exact Bl.refl _ | apply Bl.drew | apply Bl.alloc | (refine Bl.setCell ?_ (by simp) _))
set_option maxHeartbeats 400000 in
theorem eqBound_any (a b : Bound) (w : World) : Calls Try.prog 16 #[a.val, b.val] w fun e w' => e = .returned (.bool (eqB a b)) ∧ Bl w w' := by
  obtain ⟨a1, a2⟩ := a
  obtain ⟨b1, b2⟩ := b
  simp only [Bound.val, eqB, Bound.mk.injEq]
  go_enter Try.func16, Try.ntmps16
  go_wp2
  all_goals (go_ret; exact ⟨by simp_all, ((Bl.refl _).alloc _).alloc _⟩)
set_option maxHeartbeats 400000 in
theorem szBoundS_any (A : Option Addr) (n c : Nat) (m : Int) (w : World) (hn : n ≤ 9223372036854775807) (h0 : 0 ≤ m) (h1 : m ≤ 1048576) :
    Calls Try.prog 12 #[.slice A n c, .int .i64 m] w fun e w' => e = .returned (.int .i64 (if m < n then -1 else m - n)) ∧ Bl w w' := by
  by_cases h : m < n
  · have h' : m - (n : Int) < 0 := by omega
    simp only [h, if_true]
    go_enter Try.func12, Try.ntmps12
    go_wp2
    go_ret
    exact ⟨rfl, Bl.refl _⟩
  · have h' : ¬ m - (n : Int) < 0 := by omega
    simp only [h, if_false]
    go_enter Try.func12, Try.ntmps12
    go_wp2
    go_ret
    exact ⟨rfl, Bl.refl _⟩
set_option maxHeartbeats 400000 in
theorem toBoundS_any (A : Option Addr) (n c : Nat) (l : List Bound) (w : World) (h : Sl Bound.cs 2 w A n l) (hn : n ≤ 1048576) :
    Calls Try.prog 14 #[.slice A n c] w (NewRow w 25 2 n (l.flatMap Bound.cs)) := by
  obtain ⟨i0, hi, hz0, hz1, hz2⟩ := info_parts infoBound
  have HL := Lib.hid h.1
  go_enter Try.func14, Try.ntmps14
  go_wp2_with (at_make; refine wpList_make_full _ rfl _ _ 28 rfl w.heap.size 25 i0 _ 2 Try.underlying28 hi hz0 hz1 _ _ _ _ n rfl rfl rfl rfl (by rw [hz2]; omega) (by unfold maxLen; omega) (Nat.le_refl _) ?_; intro w1 hown hgrow)
  have hb1 : Bl w w1 := (Bl.refl w).grown hgrow (fun k hk => by cases hk)
  clear hgrow hi hz0 hz1 hz2
  go_wp2
  go_loopw [4] (fun i wr => ∃ k : Nat, k ≤ n ∧ i = .int .i64 k ∧ Bl w wr ∧ ∃ xs, wr.ownsRow w.heap.size 25 2 (.slice (some ⟨w.heap.size, 0, none⟩) n n) n xs ∧ Same (k * 2) xs (l.flatMap Bound.cs)) (fun i _ => n - (intOf i).toNat)
  case atStart => exact ⟨0, Nat.zero_le _, rfl, hb1, _, hown, by rw [Nat.zero_mul]; exact Same.zero _ _⟩
  case round =>
    obtain ⟨k, hk, rfl, hbl, xs, hown', hsame⟩ := hrel
    clear hown hb1
    by_cases hlt : k < n
    · obtain ⟨b1, o1, p, rfl, e1, c1, c2⟩ := Sl.Bound h hlt
      have HE := Lib.hid e1; clear e1
      go_wp2_with fail
      refine (toBound_any p _).mono ?_
      rintro e W ⟨rfl, hW⟩
      have hbW := hbl.trans hW
      have hoW := hW.own hown'
      have fz := World.ownsRow.frozenAt hoW
      obtain ⟨v0, q0⟩ := own_some hoW (j := k * 2) (by omega)
      obtain ⟨v1, q1⟩ := own_some hoW (j := k * 2 + 1) (by omega)
      clear hW hbl
      simp only [Bound.val]
      go_wp2
      go_roundw
      case rel =>
        have hl := hown'.1
        have y (j : Nat) (u : Value) (hj : j < 2) (hu : p.cs[j]? = some u) : (l.flatMap Bound.cs)[k * 2 + j]? = some u := (flat_get Bound.cs 2 Bound.cs_len l k p HE.out j hj).trans hu
        refine ⟨k + 1, by omega, by go_num, ?_, _, own_set (own_set hoW (k * 2) _) (k * 2 + 1) _, ?_⟩
        · repeat (first | exact hbW | apply Bl.drew | apply Bl.alloc | (refine Bl.setCell ?_ (Nat.le_refl _) _))
        · skip
          have g1 := hsame.step (by omega) (y 0 _ (by omega) rfl)
          have g2 := g1.step (by simp; omega) (y 1 _ (by omega) rfl)
          have e3 : (k + 1) * 2 = k * 2 + 1 + 1 := by omega
          rw [e3]; exact g2
      case measure => simp [intOf]; omega
    · have e : k = n := by omega
      subst e
      go_wp2
      go_ret
      exact ⟨_, _, rfl, by rw [← Same.all hsame hown'.1 (by rw [flat_len _ 2 Bound.cs_len, HL.out])]; exact hown', hbl⟩
set_option maxHeartbeats 400000 in
theorem eqBoundS_any (A B : Option Addr) (n m c d : Nat) (l r : List Bound) (w : World) (ha : Sl Bound.cs 2 w A n l) (hr : Sl Bound.cs 2 w B m r) :
    Calls Try.prog 17 #[.slice A n c, .slice B m d] w fun e w' => e = .returned (.bool (eqB l r)) ∧ Bl w w' := by
  have bn := ha.le
  have bm := hr.le
  by_cases hnm : n = m
  case neg =>
    have h1 : ((n : Int) == m) = false := by simp; omega
    have h2 : ((n : Int) != m) = true := by simp; omega
    have h3 : eqB l r = false := eqB_no (by rintro rfl; exact hnm (ha.1.symm.trans hr.1))
    have H3 := Lib.hid h3; clear h3
    go_enter Try.func17, Try.ntmps17
    go_wp2
    go_ret
    exact ⟨by rw [H3.out]; rfl, Bl.refl _⟩
  subst hnm
  have HA := Lib.hid ha.1
  have HB := Lib.hid hr.1
  go_enter Try.func17, Try.ntmps17
  go_wp2
  go_loopw [5] (fun i wr => ∃ k : Nat, k ≤ n ∧ i = .int .i64 k ∧ Bl w wr ∧ Hid (l.take k = r.take k)) (fun i _ => n - (intOf i).toNat)
  case atStart => exact ⟨0, Nat.zero_le _, rfl, Bl.refl _, rfl⟩
  case round =>
    obtain ⟨k, hk, rfl, hbl, he⟩ := hrel
    by_cases hlt : k < n
    · obtain ⟨b1, o1, p1, rfl, e1, c11, c12⟩ := ha.Bound hlt
      obtain ⟨b2, o2, p2, rfl, e2, c21, c22⟩ := hr.Bound hlt
      have E1 := Lib.hid e1; clear e1
      have E2 := Lib.hid e2; clear e2
      go_wp2
      refine region_bl (by kernel_rfl) (by kernel_rfl) hbl ?_
      repeat' (first | go_big_quiet_skip | (go_big_quiet_want; go_simp; (try go_bits); first | (refine ⟨_, fun _ _ => rfl, ?_⟩; go_big_quiet_on) | (apply Exists.intro; (with_reducible refine ⟨fun W hW => ret_bl hW (eqBound_any p1 p2 W), ?_⟩); go_big_quiet_on) | (apply Exists.intro; refine ⟨fun W hW => ?_, ?_⟩; (· go_simp; (try go_bits); rfl); go_big_quiet_on)))
      apply wpQuiet_nil
      intro W hb
      by_cases hp : p1 = p2
      · have hd := eqB_yes hp
        simp only [hd, Bool.not_true]
        have hrr : Hid (l.take (k + 1) = r.take (k + 1)) := by
          show l.take (k + 1) = r.take (k + 1)
          rw [List.take_add_one, List.take_add_one, he.out, E1.out, E2.out, hp]
        clear hp
        go_wp2
        first | exact ⟨⟨k + 1, by omega, by go_num, hb, hrr⟩, by simp [intOf]; omega⟩ | (refine ⟨?_, by simp [intOf]; omega⟩; (repeat apply Exists.intro); exact ⟨⟨k + 1, by omega, by go_num, hb, hrr⟩, rfl⟩)
      · have hd := eqB_no hp
        have hfin : eqB l r = false := eqB_no (by
          intro h; apply hp
          have := E1.out; rw [h, E2.out] at this; exact (Option.some.inj this).symm)
        have HF := Lib.hid hfin; clear hfin
        simp only [hd, Bool.not_false]
        clear hp
        go_wp2
        go_ret
        exact ⟨by rw [HF.out]; rfl, hb⟩
    · have e : k = n := by omega
      subst e
      have hfin : eqB l r = true := eqB_yes (by
        have := he.out
        rw [List.take_of_length_le (by rw [HA.out]; exact Nat.le_refl _), List.take_of_length_le (by rw [HB.out]; exact Nat.le_refl _)] at this
        exact this)
      have HF := Lib.hid hfin; clear hfin
      go_wp2
      go_ret
      exact ⟨by rw [HF.out]; rfl, hbl⟩
end Go.Proofs.Ytmnbbnboaokgjaa
