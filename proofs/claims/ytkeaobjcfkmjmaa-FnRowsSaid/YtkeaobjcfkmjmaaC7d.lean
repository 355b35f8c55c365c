/- The contracts of the rows of vessels in both programs: PlaceRow, RowExtent. -/
import Derived.Test.YtkeaobjcfkmjmaaQ7
import Derived.RegionTactic
import Derived.Deep.RegionHeld3
namespace Go.Proofs.Ytkeaobjcfkmjmaa
open Go.RowKit
theorem neededGap_all (x y : Int) (h0 : 0 ≤ x) (h1 : x ≤ 3) (h2 : 0 ≤ y) (h3 : y ≤ 3) : Hid (∀ w, Calls Try.prog 54 #[.int .i64 x, .int .i64 y] w fun e w' => e = .returned (.int .i64 (gapZ x y)) ∧ Bl w w') := fun w => same_bl (neededGap_any x y w h0 h1 h2 h3)
theorem l7Gap_all (x y : Int) (h0 : 0 ≤ x) (h1 : x ≤ 3) (h2 : 0 ≤ y) (h3 : y ≤ 3) : Hid (∀ w, Calls Try.prog 52 #[.int .i64 x, .int .i64 y] w fun e w' => e = .returned (.int .i64 (gapZ x y)) ∧ Bl w w') := fun w => same_bl (l7Gap_any x y w h0 h1 h2 h3)
set_option maxHeartbeats 2000000 in
theorem l7Place_any (A : Option Addr) (n c : Nat) (l : List Cargo) (w : World) (h : Sl Cargo.cs 3 w A n l) (hok : cargoOk l = true) :
    Calls Try.prog 61 #[.slice A n c] w (NewRes ci 1 3 (placeS l n).1 (fun v => .tuple #[v, .int .i64 (placeS l n).2]) w) := by
  have bn := h.le
  have HL := Lib.hid h.1
  have hl6 := cargo_len hok
  rw [h.1] at hl6
  have hmade := World.ownsRow_made (e := 3) (size := 1) w #[] 0 (Nat.le_refl _) (Nat.zero_le _) (by simp)
  have hb := (Bl.refl w).alloc (.cells #[] 3)
  go_enter Try.func61, Try.ntmps61
  go_wp2_with fail
  go_loopw [4, 5, 6] (fun u v i wr => ∃ (k : Nat) (C : Option Addr) (c2 : Nat), k ≤ n ∧ i = .int .i64 k ∧ u = .slice C k c2 ∧ v = .int .i64 (placeS l k).2 ∧ Bl w wr ∧ wr.ownsRow w.heap.size 3 1 (.slice C k c2) k ((placeS l k).1.flatMap ci) ∧ Hid (Pk k (placeS l k))) (fun _ _ i _ => n - (intOf i).toNat)
  case atStart => exact ⟨0, _, 0, Nat.zero_le _, rfl, rfl, rfl, hb, hmade, pk_zero l⟩
  case round =>
    clear hb hmade
    obtain ⟨k, C, c2, hk, rfl, rfl, rfl, hb, hor, hpk⟩ := hrel
    by_cases hlt : k < n
    · obtain ⟨b1, o1, p, rfl, ep, p1, p2, p3⟩ := h.Cargo hlt
      obtain ⟨_, ⟨len0, len1⟩, co0, co1⟩ := cargo_at hok ep
      have HN := Lib.hid (pk_step hok ep hpk.out)
      have HC := Lib.hid (fun j (hj : j ≤ k) => cellK_bd hok hpk.out ep j hj)
      have HS1 := Lib.hid (show (placeS l (k + 1)).1 = (placeS l k).1 ++ [cellK l (placeS l k).1 (placeS l k).2 p k] by simp only [placeS, carAt_eq ep])
      have HS2 := Lib.hid (show (placeS l (k + 1)).2 = cellK l (placeS l k).1 (placeS l k).2 p k + p.Length by simp only [placeS, carAt_eq ep])
      have HX := Lib.hid (fun j (hj : j < k) => hpk.out.out j)
      have HLEN := Lib.hid hpk.out.len
      have e0 := hpk.out.e0
      have e1 := hpk.out.e1
      have hle := hb.le
      have hS := Sl.of_own ci_len hor HLEN.out (by omega)
      have g1 := p1 _ hb
      have g2 := p2 _ hb
      have g3 := p3 _ hb
      generalize placeS l k = s at *
      obtain ⟨out, en⟩ := s
      simp only at hor HS1 HS2 HC HX HLEN e0 e1 hS
      obtain ⟨wo, hwo⟩ : ∃ wo : World, wo = wr := ⟨_, rfl⟩
      subst hwo
      have hb0 : Bl wo wo := Bl.refl _
      have hbo : Bl w wo := hb
      have horo := hor
      go_wp2_with fail
      go_loopw [7, 8] (fun v i wx => ∃ j : Nat, j ≤ k ∧ i = .int .i64 j ∧ v = .int .i64 (cellK l out en p j) ∧ Bl wo wx) (fun _ i _ => k - (intOf i).toNat)
      case atStart => exact ⟨0, Nat.zero_le _, rfl, rfl, Bl.refl _⟩
      case round =>
        obtain ⟨j, hj, rfl, rfl, hbx⟩ := hrel
        have hbw := hbo.trans hbx
        obtain ⟨cb0, cb1⟩ := HC.out j hj
        by_cases hjk : j < k
        · have hjn : j < n := by omega
          obtain ⟨b2, o2, q, hA2, eq, q1, q2, q3⟩ := h.Cargo hjn
          injection hA2 with hA2; injection hA2 with hA2 hA2'; subst hA2 hA2'
          obtain ⟨_, ⟨ql0, ql1⟩, qc0, qc1⟩ := cargo_at hok eq
          obtain ⟨b3, o3, x, rfl, ex, x1⟩ := hS.int hjk
          obtain ⟨xb0, xb1⟩ := HX.out j hjk x ex
          obtain ⟨gb0, gb1⟩ := gap_bd qc0 qc1 co0 co1
          have HK := Lib.hid (cellK_one (c := p) (e := en) eq ex)
          have H1 := l7Gap_all q.Cones p.Cones qc0 qc1 co0 co1
          obtain ⟨cc0, cc1⟩ := HC.out (j + 1) (by omega)
          rw [HK.out] at cc0 cc1
          generalize gapZ q.Cones p.Cones = gz at *
          have Q1 : ∀ W, Bl wo W → W.cell? ⟨b1, o1 + j * 3 + 1, none⟩ = some (.int .i64 q.Length) := fun W hW => q2 W (hbo.trans hW)
          have Q2 : ∀ W, Bl wo W → W.cell? ⟨b1, o1 + j * 3 + 2, none⟩ = some (.int .i64 q.Cones) := fun W hW => q3 W (hbo.trans hW)
          have Q3 : ∀ W, Bl wo W → W.cell? ⟨b1, o1 + k * 3 + 2, none⟩ = some (.int .i64 p.Cones) := fun W hW => p3 W (hbo.trans hW)
          clear ex eq q1 q2 q3 g1 g2 g3
          go_wp2_with fail
          refine region_bl (by kernel_rfl) (by kernel_rfl) hbx ?_
          repeat' (first | go_big_quiet_skip | (go_big_quiet_want; go_simp; (try go_bits); first | (refine ⟨_, fun _ _ => rfl, ?_⟩; go_big_quiet_on) | (apply Exists.intro; (with_reducible refine ⟨fun W hW => ret_bl hW (H1.out W), ?_⟩); go_big_quiet_on) | (apply Exists.intro; (with_reducible refine ⟨fun W hW => ret_bl hW (same_bl (l1Most_any _ _ W)), ?_⟩); go_big_quiet_on) | (apply Exists.intro; refine ⟨fun W hW => ?_, ?_⟩; (· go_simp; (try go_bits); rfl); go_big_quiet_on)))
          apply wpQuiet_nil
          intro W hb
          go_wp2_with fail
          first | exact ⟨⟨j + 1, by omega, by go_num, by rw [HK.out], hb⟩, by simp [intOf]; omega⟩ | (refine ⟨?_, by simp [intOf]; omega⟩; (repeat apply Exists.intro); exact ⟨⟨j + 1, by omega, by go_num, by rw [HK.out], hb⟩, rfl⟩)
        · have e : j = k := by omega
          subst e
          have hor2 := hbx.own horo
          have hle2 := hbw.le
          have g1 := p2 _ hbw
          obtain ⟨i0, hi0, hz0, hz1, hz2⟩ := info_parts infoInt
          go_wp2_with (at_builtin; refine wpList_append_one _ rfl _ _ _ rfl _ 3 i0 _ 1 8 Try.underlying36 hi0 hz0 hz1 hz2 rfl (by omega) ci_len ci_one _ j out rfl (cellK l out en p j) _ rfl (by first | rfl | simp) _ rfl hor2 hle2 (by unfold maxLen; omega) (by omega) ?_)
          clear hi0 hz0 hz1 hz2
          intro C5 d5 w5 ho5 hg5
          have HO5 := Lib.hid ho5
          clear ho5
          have hb5 := Bl.row hbw (Nat.le_refl _) hor2 hg5
          have g5 := p2 _ hb5
          go_wp2_with fail
          first | exact ⟨⟨j + 1, C5, d5, by omega, by go_num, rfl, by rw [HS2.out], hb5, by rw [HS1.out, List.flatMap_append]; exact HO5.out, HN⟩, by simp [intOf]; omega⟩ | (refine ⟨?_, by simp [intOf]; omega⟩; (repeat apply Exists.intro); exact ⟨⟨j + 1, C5, d5, by omega, by go_num, rfl, by rw [HS2.out], hb5, by rw [HS1.out, List.flatMap_append]; exact HO5.out, HN⟩, rfl⟩)
    · have e : k = n := by omega
      subst e
      have HT := Lib.hid hpk.out.len
      go_wp2_with fail
      go_ret2
      exact NewRes.own hor (Bl.refl w) HT.out (by omega) hb
set_option maxHeartbeats 2000000 in
theorem placeRow_any (A : Option Addr) (n c : Nat) (l : List Cargo) (w : World) (h : Sl Cargo.cs 3 w A n l) (hok : cargoOk l = true) (hc : n ≤ c) :
    Calls Try.prog 62 #[.slice A n c] w (NewRes ci 1 3 (placeS l n).1 (fun v => .tuple #[v, .int .i64 (placeS l n).2]) w) := by
  have bn := h.le
  have HL := Lib.hid h.1
  have hl6 := cargo_len hok
  rw [h.1] at hl6
  have hmade := World.ownsRow_made (e := 3) (size := 1) w #[] 0 (Nat.le_refl _) (Nat.zero_le _) (by simp)
  have hb := (Bl.refl w).alloc (.cells #[] 3)
  go_enter Try.func62, Try.ntmps62
  go_wp2_with fail
  go_loopw [4, 5, 14] (fun u v i wr => ∃ (k : Nat) (C : Option Addr) (c2 : Nat), k ≤ n ∧ i = .int .i64 k ∧ u = .slice C k c2 ∧ v = .int .i64 (placeS l k).2 ∧ Bl w wr ∧ wr.ownsRow w.heap.size 3 1 (.slice C k c2) k ((placeS l k).1.flatMap ci) ∧ Hid (Pk k (placeS l k))) (fun _ _ i _ => n - (intOf i).toNat)
  case atStart => exact ⟨0, _, 0, Nat.zero_le _, rfl, rfl, rfl, hb, hmade, pk_zero l⟩
  case round =>
    clear hb hmade
    obtain ⟨k, C, c2, hk, rfl, rfl, rfl, hb, hor, hpk⟩ := hrel
    by_cases hlt : k < n
    · obtain ⟨b1, o1, p, rfl, ep, p1, p2, p3⟩ := h.Cargo hlt
      obtain ⟨_, ⟨len0, len1⟩, co0, co1⟩ := cargo_at hok ep
      have HN := Lib.hid (pk_step hok ep hpk.out)
      have HC := Lib.hid (fun j (hj : j ≤ k) => cellK_bd hok hpk.out ep j hj)
      have HS1 := Lib.hid (show (placeS l (k + 1)).1 = (placeS l k).1 ++ [cellK l (placeS l k).1 (placeS l k).2 p k] by simp only [placeS, carAt_eq ep])
      have HS2 := Lib.hid (show (placeS l (k + 1)).2 = cellK l (placeS l k).1 (placeS l k).2 p k + p.Length by simp only [placeS, carAt_eq ep])
      have HX := Lib.hid (fun j (hj : j < k) => hpk.out.out j)
      have HLEN := Lib.hid hpk.out.len
      have e0 := hpk.out.e0
      have e1 := hpk.out.e1
      have hle := hb.le
      have hS := Sl.of_own ci_len hor HLEN.out (by omega)
      have g1 := p1 _ hb
      have g2 := p2 _ hb
      have g3 := p3 _ hb
      generalize placeS l k = s at *
      obtain ⟨out, en⟩ := s
      simp only at hor HS1 HS2 HC HX HLEN e0 e1 hS
      obtain ⟨wo, hwo⟩ : ∃ wo : World, wo = wr := ⟨_, rfl⟩
      subst hwo
      have hkc : k ≤ c := by omega
      have hb0 : Bl wo (wo.alloc (.cells #[.int .i64 p.Id, .int .i64 p.Length, .int .i64 p.Cones] 50)) := (Bl.refl _).alloc _
      have hbo : Bl w (wo.alloc (.cells #[.int .i64 p.Id, .int .i64 p.Length, .int .i64 p.Cones] 50)) := hb.alloc _
      have horo := hb0.own hor
      have X1 : ∀ W, Bl (wo.alloc (.cells #[.int .i64 p.Id, .int .i64 p.Length, .int .i64 p.Cones] 50)) W → W.cell? ⟨wo.heap.size, 1, none⟩ = some (.int .i64 p.Length) := Bl.all (by go_simp)
      have X2 : ∀ W, Bl (wo.alloc (.cells #[.int .i64 p.Id, .int .i64 p.Length, .int .i64 p.Cones] 50)) W → W.cell? ⟨wo.heap.size, 2, none⟩ = some (.int .i64 p.Cones) := Bl.all (by go_simp)
      have hX1 := Lib.hid X1
      have HLT := own_lt hor
      go_wp2_with fail
      go_loopw [8, 24] (fun v i wx => ∃ j : Nat, j ≤ k ∧ i = .int .i64 j ∧ v = .int .i64 (cellK l out en p j) ∧ Bl (wo.alloc (.cells #[.int .i64 p.Id, .int .i64 p.Length, .int .i64 p.Cones] 50)) wx) (fun _ i _ => k - (intOf i).toNat)
      case atStart => exact ⟨0, Nat.zero_le _, rfl, rfl, Bl.refl _⟩
      case round =>
        obtain ⟨j, hj, rfl, rfl, hbx⟩ := hrel
        have hbw := hbo.trans hbx
        obtain ⟨cb0, cb1⟩ := HC.out j hj
        by_cases hjk : j < k
        · have hjn : j < n := by omega
          obtain ⟨b2, o2, q, hA2, eq, q1, q2, q3⟩ := h.Cargo hjn
          injection hA2 with hA2; injection hA2 with hA2 hA2'; subst hA2 hA2'
          obtain ⟨_, ⟨ql0, ql1⟩, qc0, qc1⟩ := cargo_at hok eq
          obtain ⟨b3, o3, x, rfl, ex, x1⟩ := hS.int hjk
          obtain ⟨xb0, xb1⟩ := HX.out j hjk x ex
          obtain ⟨gb0, gb1⟩ := gap_bd qc0 qc1 co0 co1
          have HK := Lib.hid (cellK_one (c := p) (e := en) eq ex)
          have H1 := neededGap_all q.Cones p.Cones qc0 qc1 co0 co1
          obtain ⟨cc0, cc1⟩ := HC.out (j + 1) (by omega)
          rw [HK.out] at cc0 cc1
          generalize gapZ q.Cones p.Cones = gz at *
          have y1 := q1 _ hbw
          have y2 := q2 _ hbw
          have y3 := q3 _ hbw
          have hq : Bl wr (wr.alloc (.cells #[.int .i64 q.Id, .int .i64 q.Length, .int .i64 q.Cones] 50)) := (Bl.refl _).alloc _
          have bq := Bl.refl (wr.alloc (.cells #[.int .i64 q.Id, .int .i64 q.Length, .int .i64 q.Cones] 50))
          have Z1 : ∀ W, Bl (wr.alloc (.cells #[.int .i64 q.Id, .int .i64 q.Length, .int .i64 q.Cones] 50)) W → W.cell? ⟨wr.heap.size, 1, none⟩ = some (.int .i64 q.Length) := Bl.all (by go_simp)
          have Z2 : ∀ W, Bl (wr.alloc (.cells #[.int .i64 q.Id, .int .i64 q.Length, .int .i64 q.Cones] 50)) W → W.cell? ⟨wr.heap.size, 2, none⟩ = some (.int .i64 q.Cones) := Bl.all (by go_simp)
          have Z3 : ∀ W, Bl (wr.alloc (.cells #[.int .i64 q.Id, .int .i64 q.Length, .int .i64 q.Cones] 50)) W → W.cell? ⟨wo.heap.size, 2, none⟩ = some (.int .i64 p.Cones) := fun W hW => X2 W ((hbx.trans hq).trans hW)
          have Z4 : ∀ W, Bl (wr.alloc (.cells #[.int .i64 q.Id, .int .i64 q.Length, .int .i64 q.Cones] 50)) W → W.cell? ⟨b3, o3 + j, none⟩ = some (.int .i64 x) := fun W hW => x1 W (((hb0.trans hbx).trans hq).trans hW)
          clear ex eq q1 q2 q3 g1 g2 g3 X1 X2 x1
          go_wp2_with fail
          refine region_bl (by kernel_rfl) (by kernel_rfl) bq ?_
          repeat' (first | go_big_quiet_skip | (go_big_quiet_want; go_simp; (try go_bits); first | (refine ⟨_, fun _ _ => rfl, ?_⟩; go_big_quiet_on) | (apply Exists.intro; (with_reducible refine ⟨fun W hW => ret_bl hW (H1.out W), ?_⟩); go_big_quiet_on) | (apply Exists.intro; refine ⟨fun W hW => ?_, ?_⟩; (· go_simp; (try go_bits); rfl); go_big_quiet_on)))
          apply wpQuiet_nil
          intro W hb
          simp only [ite_max]
          go_wp2_with fail
          first | exact ⟨⟨j + 1, by omega, by go_num, by rw [HK.out], (hbx.trans hq).trans hb⟩, by simp [intOf]; omega⟩ | (refine ⟨?_, by simp [intOf]; omega⟩; (repeat apply Exists.intro); exact ⟨⟨j + 1, by omega, by go_num, by rw [HK.out], (hbx.trans hq).trans hb⟩, rfl⟩)
        · have e : j = k := by omega
          subst e
          have hor2 := hbx.own horo
          have hle2 := hbw.le
          obtain ⟨i0, hi0, hz0, hz1, hz2⟩ := info_parts infoInt
          go_wp2_with (at_builtin; refine wpList_append_one _ rfl _ _ _ rfl _ 3 i0 _ 1 8 Try.underlying36 hi0 hz0 hz1 hz2 rfl (by omega) ci_len ci_one _ j out rfl (cellK l out en p j) _ rfl (by first | rfl | simp) _ rfl hor2 hle2 (by unfold maxLen; omega) (by omega) ?_)
          clear hi0 hz0 hz1 hz2
          intro C5 d5 w5 ho5 hg5
          have HO5 := Lib.hid ho5
          clear ho5
          have hb5 := Bl.row hbw (Nat.le_refl _) hor2 hg5
          have g5 := hg5.cell (hX1.out _ hbx) (fun e => by have h9 := HLT.out _ e.symm; simp only at h9; omega)
          go_wp2_with fail
          first | exact ⟨⟨j + 1, C5, d5, by omega, by go_num, rfl, by rw [HS2.out], hb5, by rw [HS1.out, List.flatMap_append]; exact HO5.out, HN⟩, by simp [intOf]; omega⟩ | (refine ⟨?_, by simp [intOf]; omega⟩; (repeat apply Exists.intro); exact ⟨⟨j + 1, C5, d5, by omega, by go_num, rfl, by rw [HS2.out], hb5, by rw [HS1.out, List.flatMap_append]; exact HO5.out, HN⟩, rfl⟩)
    · have e : k = n := by omega
      subst e
      have HT := Lib.hid hpk.out.len
      go_wp2_with fail
      go_ret2
      exact NewRes.own hor (Bl.refl w) HT.out (by omega) hb
set_option maxHeartbeats 1000000 in
theorem specPlaceRow_any (A : Option Addr) (n c : Nat) (l : List Cargo) (w : World) (h : Sl Cargo.cs 3 w A n l) (hc : n ≤ c) :
    Calls Try.prog 27 #[.slice A n c] w (NewRes ci 1 3 (placeR l).1 (fun v => .tuple #[v, .bool (placeR l).2]) w) := by
  have HL := Lib.hid h.1
  have H1 := Lib.hid (l7Good_any A n c l w h)
  cases h1 : cargoOk l
  · have HR := Lib.hid (show placeR l = ([], false) by simp [placeR, h1])
    go_enter Try.func27, Try.ntmps27
    go_wp2_with fail
    refine H1.out.mono ?_
    rintro e w1 ⟨rfl, hb⟩
    simp only [h1]
    go_wp2_with fail
    go_ret2
    rw [HR.out]
    exact NewRes.empty hb
  have HR := Lib.hid (show placeR l = ((placeS l n).1, true) by simp [placeR, h1, HL.out])
  have H3 := Lib.hid (fun w h => l7Place_any A n c l w h h1)
  go_enter Try.func27, Try.ntmps27
  go_wp2_with fail
  refine H1.out.mono ?_
  rintro e w1 ⟨rfl, hb⟩
  simp only [h1]
  go_wp2_with fail
  refine (H3.out _ (h.bl hb)).mono ?_
  rintro e w2 ⟨C, m4, c4, rfl, ho4, hl4, hm4, hbn⟩
  go_wp2_with fail
  go_ret2
  rw [HR.out]
  exact NewRes.own ho4 hb hl4 hm4 (hb.trans hbn)
set_option maxHeartbeats 1000000 in
theorem implPlaceRow_any (A : Option Addr) (n c : Nat) (l : List Cargo) (w : World) (h : Sl Cargo.cs 3 w A n l) (hc : n ≤ c) :
    Calls Try.prog 28 #[.slice A n c] w (NewRes ci 1 3 (placeR l).1 (fun v => .tuple #[v, .bool (placeR l).2]) w) := by
  have HL := Lib.hid h.1
  have H1 := Lib.hid (isCargoList_any A n c l w h hc)
  cases h1 : cargoOk l
  · have HR := Lib.hid (show placeR l = ([], false) by simp [placeR, h1])
    go_enter Try.func28, Try.ntmps28
    go_wp2_with fail
    refine H1.out.mono ?_
    rintro e w1 ⟨rfl, hb⟩
    simp only [h1]
    go_wp2_with fail
    go_ret2
    rw [HR.out]
    exact NewRes.nil hb
  have HR := Lib.hid (show placeR l = ((placeS l n).1, true) by simp [placeR, h1, HL.out])
  have H3 := Lib.hid (fun w h => placeRow_any A n c l w h h1 hc)
  go_enter Try.func28, Try.ntmps28
  go_wp2_with fail
  refine H1.out.mono ?_
  rintro e w1 ⟨rfl, hb⟩
  simp only [h1]
  go_wp2_with fail
  refine (H3.out _ (h.bl hb)).mono ?_
  rintro e w2 ⟨C, m4, c4, rfl, ho4, hl4, hm4, hbn⟩
  go_wp2_with fail
  go_ret2
  rw [HR.out]
  exact NewRes.own ho4 hb hl4 hm4 (hb.trans hbn)
set_option maxHeartbeats 1000000 in
theorem specRowExtent_any (A : Option Addr) (n c : Nat) (l : List Cargo) (w : World) (h : Sl Cargo.cs 3 w A n l) (hc : n ≤ c) :
    Calls Try.prog 23 #[.slice A n c] w fun e w' => e = .returned (.tuple #[.int .i64 (extentR l).1, .bool (extentR l).2]) ∧ Bl w w' := by
  have HL := Lib.hid h.1
  have H1 := Lib.hid (l7Good_any A n c l w h)
  cases h1 : cargoOk l
  · have HR := Lib.hid (show extentR l = (0, false) by simp [extentR, h1])
    go_enter Try.func23, Try.ntmps23
    go_wp2_with fail
    refine H1.out.mono ?_
    rintro e w1 ⟨rfl, hb⟩
    simp only [h1]
    go_wp2_with fail
    go_ret2
    exact ⟨by rw [HR.out]; rfl, hb⟩
  have HR := Lib.hid (show extentR l = ((placeS l n).2, true) by simp [extentR, h1, HL.out])
  have H3 := Lib.hid (fun w h => l7Place_any A n c l w h h1)
  go_enter Try.func23, Try.ntmps23
  go_wp2_with fail
  refine H1.out.mono ?_
  rintro e w1 ⟨rfl, hb⟩
  simp only [h1]
  go_wp2_with fail
  refine (H3.out _ (h.bl hb)).mono ?_
  rintro e w2 ⟨C, m4, c4, rfl, ho4, hl4, hm4, hbn⟩
  go_wp2_with fail
  go_ret2
  exact ⟨by rw [HR.out]; rfl, hb.trans hbn⟩
set_option maxHeartbeats 1000000 in
theorem implRowExtent_any (A : Option Addr) (n c : Nat) (l : List Cargo) (w : World) (h : Sl Cargo.cs 3 w A n l) (hc : n ≤ c) :
    Calls Try.prog 24 #[.slice A n c] w fun e w' => e = .returned (.tuple #[.int .i64 (extentR l).1, .bool (extentR l).2]) ∧ Bl w w' := by
  have HL := Lib.hid h.1
  have H1 := Lib.hid (isCargoList_any A n c l w h hc)
  cases h1 : cargoOk l
  · have HR := Lib.hid (show extentR l = (0, false) by simp [extentR, h1])
    go_enter Try.func24, Try.ntmps24
    go_wp2_with fail
    refine H1.out.mono ?_
    rintro e w1 ⟨rfl, hb⟩
    simp only [h1]
    go_wp2_with fail
    go_ret2
    exact ⟨by rw [HR.out]; rfl, hb⟩
  have HR := Lib.hid (show extentR l = ((placeS l n).2, true) by simp [extentR, h1, HL.out])
  have H3 := Lib.hid (fun w h => placeRow_any A n c l w h h1 hc)
  go_enter Try.func24, Try.ntmps24
  go_wp2_with fail
  refine H1.out.mono ?_
  rintro e w1 ⟨rfl, hb⟩
  simp only [h1]
  go_wp2_with fail
  refine (H3.out _ (h.bl hb)).mono ?_
  rintro e w2 ⟨C, m4, c4, rfl, ho4, hl4, hm4, hbn⟩
  go_wp2_with fail
  go_ret2
  exact ⟨by rw [HR.out]; rfl, hb.trans hbn⟩
end Go.Proofs.Ytkeaobjcfkmjmaa
