/- The seat's helpers on Cargo. -/
import Derived.Test.YtkeaobjcfkmjmaaRows
import Derived.Test.YtkeaobjcfkmjmaaTCargo
namespace Go.Proofs.Ytkeaobjcfkmjmaa
open Go.RowKit
theorem infoCargo : (Try.prog.info? 50).map (fun i => (i.zero, i.size, i.bytes)) = some (some (.agg #[.int .i64 0, .int .i64 0, .int .i64 0]), 3, 24) := by kernel_rfl
set_option maxHeartbeats 400000 in
theorem toCargo_any (p : Cargo) (w : World) : Calls Try.prog 56 #[p.val] w fun e w' => e = .returned p.val ∧ Bl w w' := by
  obtain ⟨a1, a2, a3⟩ := p
  simp only [Cargo.val]
  go_enter Try.func56, Try.ntmps56
  go_wp2
  simp [bodyPost, results, Try.results56, go_sem]
  repeat (first | exact Bl.refl _ | apply Bl.drew | apply Bl.alloc | (refine Bl.setCell ?_ (by simp) _))
set_option maxHeartbeats 400000 in
theorem eqCargo_any (a b : Cargo) (w : World) : Calls Try.prog 59 #[a.val, b.val] w fun e w' => e = .returned (.bool (eqB a b)) ∧ Bl w w' := by
  obtain ⟨a1, a2, a3⟩ := a
  obtain ⟨b1, b2, b3⟩ := b
  simp only [Cargo.val, eqB, Cargo.mk.injEq]
  go_enter Try.func59, Try.ntmps59
  go_wp2
  all_goals (go_ret; exact ⟨by simp_all, ((Bl.refl _).alloc _).alloc _⟩)
set_option maxHeartbeats 400000 in
theorem szCargoS_any (A : Option Addr) (n c : Nat) (m : Int) (w : World) (hn : n ≤ 9223372036854775807) (h0 : 0 ≤ m) (h1 : m ≤ 1048576) :
    Calls Try.prog 16 #[.slice A n c, .int .i64 m] w fun e w' => e = .returned (.int .i64 (if m < n then -1 else m - n)) ∧ Bl w w' := by
  by_cases h : m < n
  · have h' : m - (n : Int) < 0 := by omega
    simp only [h, if_true]
    go_enter Try.func16, Try.ntmps16
    go_wp2
    go_ret
    exact ⟨rfl, Bl.refl _⟩
  · have h' : ¬ m - (n : Int) < 0 := by omega
    simp only [h, if_false]
    go_enter Try.func16, Try.ntmps16
    go_wp2
    go_ret
    exact ⟨rfl, Bl.refl _⟩
set_option maxHeartbeats 400000 in
theorem toCargoS_any (A : Option Addr) (n c : Nat) (l : List Cargo) (w : World) (h : Sl Cargo.cs 3 w A n l) (hn : n ≤ 1048576) :
    Calls Try.prog 18 #[.slice A n c] w (NewRow w 50 3 n (l.flatMap Cargo.cs)) := by
  obtain ⟨i0, hi, hz0, hz1, hz2⟩ := info_parts infoCargo
  have HL := Lib.hid h.1
  go_enter Try.func18, Try.ntmps18
  go_wp2_with (at_make; refine wpList_make_full _ rfl _ _ 28 rfl w.heap.size 50 i0 _ 3 Try.underlying28 hi hz0 hz1 _ _ _ _ n rfl rfl rfl rfl (by rw [hz2]; omega) (by unfold maxLen; omega) (Nat.le_refl _) ?_; intro w1 hown hgrow)
  have hb1 : Bl w w1 := (Bl.refl w).grown hgrow (fun k hk => by cases hk)
  clear hgrow hi hz0 hz1 hz2
  go_wp2
  go_loopw [4] (fun i wr => ∃ k : Nat, k ≤ n ∧ i = .int .i64 k ∧ Bl w wr ∧ ∃ xs, wr.ownsRow w.heap.size 50 3 (.slice (some ⟨w.heap.size, 0, none⟩) n n) n xs ∧ Same (k * 3) xs (l.flatMap Cargo.cs)) (fun i _ => n - (intOf i).toNat)
  case atStart => exact ⟨0, Nat.zero_le _, rfl, hb1, _, hown, by rw [Nat.zero_mul]; exact Same.zero _ _⟩
  case round =>
    obtain ⟨k, hk, rfl, hbl, xs, hown', hsame⟩ := hrel
    clear hown hb1
    by_cases hlt : k < n
    · obtain ⟨b1, o1, p, rfl, e1, c1, c2, c3⟩ := Sl.Cargo h hlt
      have HE := Lib.hid e1; clear e1
      go_wp2_with fail
      refine (toCargo_any p _).mono ?_
      rintro e W ⟨rfl, hW⟩
      have hbW := hbl.trans hW
      have hoW := hW.own hown'
      have fz := World.ownsRow.frozenAt hoW
      obtain ⟨v0, q0⟩ := own_some hoW (j := k * 3) (by omega)
      obtain ⟨v1, q1⟩ := own_some hoW (j := k * 3 + 1) (by omega)
      obtain ⟨v2, q2⟩ := own_some hoW (j := k * 3 + 2) (by omega)
      clear hW hbl
      simp only [Cargo.val]
      go_wp2
      go_roundw
      case rel =>
        have hl := hown'.1
        have y (j : Nat) (u : Value) (hj : j < 3) (hu : p.cs[j]? = some u) : (l.flatMap Cargo.cs)[k * 3 + j]? = some u := (flat_get Cargo.cs 3 Cargo.cs_len l k p HE.out j hj).trans hu
        refine ⟨k + 1, by omega, by go_num, ?_, _, own_set (own_set (own_set hoW (k * 3) _) (k * 3 + 1) _) (k * 3 + 2) _, ?_⟩
        · repeat (first | exact hbW | apply Bl.drew | apply Bl.alloc | (refine Bl.setCell ?_ (Nat.le_refl _) _))
        · skip
          have g1 := hsame.step (by omega) (y 0 _ (by omega) rfl)
          have g2 := g1.step (by simp; omega) (y 1 _ (by omega) rfl)
          have g3 := g2.step (by simp; omega) (y 2 _ (by omega) rfl)
          have e3 : (k + 1) * 3 = k * 3 + 1 + 1 + 1 := by omega
          rw [e3]; exact g3
      case measure => simp [intOf]; omega
    · have e : k = n := by omega
      subst e
      go_wp2
      go_ret
      exact ⟨_, _, rfl, by rw [← Same.all hsame hown'.1 (by rw [flat_len _ 3 Cargo.cs_len, HL.out])]; exact hown', hbl⟩
set_option maxHeartbeats 400000 in
theorem eqCargoS_any (A B : Option Addr) (n m c d : Nat) (l r : List Cargo) (w : World) (ha : Sl Cargo.cs 3 w A n l) (hr : Sl Cargo.cs 3 w B m r) :
    Calls Try.prog 20 #[.slice A n c, .slice B m d] w fun e w' => e = .returned (.bool (eqB l r)) ∧ Bl w w' := by
  have bn := ha.le
  have bm := hr.le
  by_cases hnm : n = m
  case neg =>
    have h1 : ((n : Int) == m) = false := by simp; omega
    have h2 : ((n : Int) != m) = true := by simp; omega
    have h3 : eqB l r = false := eqB_no (by rintro rfl; exact hnm (ha.1.symm.trans hr.1))
    have H3 := Lib.hid h3; clear h3
    go_enter Try.func20, Try.ntmps20
    go_wp2
    go_ret
    exact ⟨by rw [H3.out]; rfl, Bl.refl _⟩
  subst hnm
  have HA := Lib.hid ha.1
  have HB := Lib.hid hr.1
  go_enter Try.func20, Try.ntmps20
  go_wp2
  go_loopw [5] (fun i wr => ∃ k : Nat, k ≤ n ∧ i = .int .i64 k ∧ Bl w wr ∧ Hid (l.take k = r.take k)) (fun i _ => n - (intOf i).toNat)
  case atStart => exact ⟨0, Nat.zero_le _, rfl, Bl.refl _, rfl⟩
  case round =>
    obtain ⟨k, hk, rfl, hbl, he⟩ := hrel
    by_cases hlt : k < n
    · obtain ⟨b1, o1, p1, rfl, e1, c11, c12, c13⟩ := ha.Cargo hlt
      obtain ⟨b2, o2, p2, rfl, e2, c21, c22, c23⟩ := hr.Cargo hlt
      have E1 := Lib.hid e1; clear e1
      have E2 := Lib.hid e2; clear e2
      go_wp2
      refine region_bl (by kernel_rfl) (by kernel_rfl) hbl ?_
      repeat' (first | go_big_quiet_skip | (go_big_quiet_want; go_simp; (try go_bits); first | (refine ⟨_, fun _ _ => rfl, ?_⟩; go_big_quiet_on) | (apply Exists.intro; (with_reducible refine ⟨fun W hW => ret_bl hW (eqCargo_any p1 p2 W), ?_⟩); go_big_quiet_on) | (apply Exists.intro; refine ⟨fun W hW => ?_, ?_⟩; (· go_simp; (try go_bits); rfl); go_big_quiet_on)))
      apply wpQuiet_nil
      intro W hb
      by_cases hp : p1 = p2
      · have hd := eqB_yes hp
        simp only [hd, Bool.not_true]
        have hrr : Hid (l.take (k + 1) = r.take (k + 1)) := by
          show l.take (k + 1) = r.take (k + 1)
          rw [List.take_add_one, List.take_add_one, he.out, E1.out, E2.out, hp]
        clear hp
        go_wp2
        first | exact ⟨⟨k + 1, by omega, by go_num, hb, hrr⟩, by simp [intOf]; omega⟩ | (refine ⟨?_, by simp [intOf]; omega⟩; (repeat apply Exists.intro); exact ⟨⟨k + 1, by omega, by go_num, hb, hrr⟩, rfl⟩)
      · have hd := eqB_no hp
        have hfin : eqB l r = false := eqB_no (by
          intro h; apply hp
          have := E1.out; rw [h, E2.out] at this; exact (Option.some.inj this).symm)
        have HF := Lib.hid hfin; clear hfin
        simp only [hd, Bool.not_false]
        clear hp
        go_wp2
        go_ret
        exact ⟨by rw [HF.out]; rfl, hb⟩
    · have e : k = n := by omega
      subst e
      have hfin : eqB l r = true := eqB_yes (by
        have := he.out
        rw [List.take_of_length_le (by rw [HA.out]; exact Nat.le_refl _), List.take_of_length_le (by rw [HB.out]; exact Nat.le_refl _)] at this
        exact this)
      have HF := Lib.hid hfin; clear hfin
      go_wp2
      go_ret
      exact ⟨by rw [HF.out]; rfl, hbl⟩
set_option maxHeartbeats 400000 in
theorem markCargoS_any (A : Option Addr) (n c B : Nat) (xs : List Value) (q : Int) (w : World) (ho : w.ownsRow B 50 3 (.slice A n c) n xs) (hn : n ≤ 1048576) (h0 : 0 ≤ q) (h1 : q ≤ 1073741824) :
    Calls Try.prog 30 #[.slice A n c, .int .i64 q] w (Marked w B 50 3 n c A q) := by
  rcases own_forms ho with ⟨rfl, rfl, rfl, rfl⟩ | ⟨g, rfl⟩
  · go_enter Try.func30, Try.ntmps30
    go_wp2
    refine wp_loop_rounds 1 ?_
    rw [rounds_succ]
    go_wp2
    go_ret
    exact ⟨by simp, by simpa [marks] using ho, World.grownBy.refl _ _⟩
  go_enter Try.func30, Try.ntmps30
  go_wp2
  go_loopw [1, 5] (fun u i wr => ∃ k : Nat, k ≤ n ∧ i = .int .i64 k ∧ u = .int .i64 (q + (k * 3 : Nat)) ∧ w.grownBy wr (some g) ∧ ∃ ys, wr.ownsRow B 50 3 (.slice (some ⟨g, 0, none⟩) n c) n ys ∧ Same (k * 3) ys (marks q (n * 3))) (fun _ i _ => n - (intOf i).toNat)
  case atStart => exact ⟨0, Nat.zero_le _, rfl, by simp, World.grownBy.refl _ _, _, ho, by rw [Nat.zero_mul]; exact Same.zero _ _⟩
  case round =>
    obtain ⟨k, hk, rfl, rfl, hgr, ys, hoW, hsame⟩ := hrel
    by_cases hlt : k < n
    · have fz := World.ownsRow.frozenAt hoW
      obtain ⟨v0, q0⟩ := own_some hoW (j := k * 3) (by omega)
      obtain ⟨v1, q1⟩ := own_some hoW (j := k * 3 + 1) (by omega)
      obtain ⟨v2, q2⟩ := own_some hoW (j := k * 3 + 2) (by omega)
      go_wp2
      go_roundw
      case rel =>
        have gr {W : World} (h : w.grownBy W (some g)) (j : Nat) (u : Value) : w.grownBy (W.setCell ⟨g, j, none⟩ u) (some g) := grown_set h j u
        refine ⟨k + 1, by omega, by go_num, ?_, gr (gr (gr hgr _ _) _ _) _ _, _, own_set (own_set (own_set hoW (k * 3) _) (k * 3 + 1) _) (k * 3 + 2) _, ?_⟩
        · congr 1; omega
        · have hl := hoW.1
          have g1 := hsame.step (u := .int .i64 (q + (k : Int) * 3)) (by omega) ((marks_get q (n * 3) (k * 3) (by omega)).trans (by simp))
          have g2 := g1.step (u := .int .i64 (q + (k : Int) * 3 + 1)) (by simp; omega) ((marks_get q (n * 3) (k * 3 + 1) (by omega)).trans (by simp; omega))
          have g3 := g2.step (u := .int .i64 (q + (k : Int) * 3 + 1 + 1)) (by simp; omega) ((marks_get q (n * 3) (k * 3 + 1 + 1) (by omega)).trans (by simp; omega))
          have e3 : (k + 1) * 3 = k * 3 + 1 + 1 + 1 := by omega
          rw [e3]; exact g3
      case measure => simp [intOf]; omega
    · have e : k = n := by omega
      subst e
      go_wp2
      go_ret
      exact ⟨rfl, by rw [← Same.all hsame hoW.1 (marks_len _ _)]; exact hoW, hgr⟩
end Go.Proofs.Ytkeaobjcfkmjmaa
