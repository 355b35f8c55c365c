/- The contracts of LetFlow in both programs. -/
import Derived.Test.YteejalanjeeecaaQ11
import Derived.Deep.RegionHeld3
namespace Go.Proofs.Yteejalanjeeecaa
open Go.RowKit
set_option maxHeartbeats 1000000 in
theorem l11Let_any (A : Option Addr) (n c : Nat) (l : List Pool) (i j : Nat) (w : World) (h : Sl Pool.cs 3 w A n l) (hi : i < n) (hj : j < n) (hij : i ≠ j) (hok : poolsOk l = true) :
    Calls Try.prog 66 #[.slice A n c, .int .i64 i, .int .i64 j] w (NewRes Pool.cs 3 25 (letL l i j) (fun v => .tuple #[v, .int .i64 (letV l i j), .bool (letOk l i j)]) w) := by
  have bn := h.le
  have HL := Lib.hid h.1
  have hl5 := len_ok hok
  rw [h.1] at hl5
  go_enter Try.func66, Try.ntmps66
  have hp := ok_len hok (i := i) (by rw [HL.out]; exact hi)
  have hq := ok_len hok (i := j) (by rw [HL.out]; exact hj)
  obtain ⟨i0, hi0, hz0, hz1, hz2⟩ := info_parts infoPool
  go_wp2_with (at_builtin; refine wpList_append_new _ rfl _ _ _ rfl 25 i0 _ 3 24 Try.underlying36 hi0 hz0 hz1 hz2 rfl (by omega) Pool.cs_len Pool.one _ rfl (by first | rfl | simp) A n c l rfl (h) (by unfold maxLen; omega) (by omega) ?_)
  clear hi0 hz0 hz1 hz2
  intro B d w1 ho hb1
  rcases own_forms ho with ⟨rfl, h0, _, _⟩ | ⟨g, rfl⟩
  · omega
  have hS := Sl.of_own Pool.cs_len ho HL.out (by omega)
  obtain ⟨b1, o1, p, hA1, ei, ci1, ci2, ci3⟩ := hS.Pool hi
  obtain ⟨b2, o2, q, hA2, ej, cj1, cj2, cj3⟩ := hS.Pool hj
  injection hA1 with hA1; injection hA1 with hA1 hA1'; subst hA1 hA1'
  injection hA2 with hA2; injection hA2 with hA2 hA2'; subst hA2 hA2'
  simp only [Nat.zero_add] at ci1 ci2 ci3 cj1 cj2 cj3
  have hpp : Ok p := by rw [getP_at ei] at hp; exact hp
  have hqq : Ok q := by rw [getP_at ej] at hq; exact hq
  clear hp hq
  have k1 := ci1 _ (Bl.refl _)
  have k2 := ci2 _ (Bl.refl _)
  have k3 := ci3 _ (Bl.refl _)
  have k4 := cj1 _ (Bl.refl _)
  have k5 := cj2 _ (Bl.refl _)
  have k6 := cj3 _ (Bl.refl _)
  have HL1 := Lib.hid (own_lt ho)
  go_wp2_with fail
  go_region_held3 (fun W => W.cell? ⟨g, i * 3, none⟩ = some (.int .i64 p.Area) ∧ W.cell? ⟨g, i * 3 + 1, none⟩ = some (.int .i64 p.Floor) ∧ W.cell? ⟨g, i * 3 + 2, none⟩ = some (.int .i64 p.Water) ∧ W.cell? ⟨g, j * 3, none⟩ = some (.int .i64 q.Area) ∧ W.cell? ⟨g, j * 3 + 1, none⟩ = some (.int .i64 q.Floor) ∧ W.cell? ⟨g, j * 3 + 2, none⟩ = some (.int .i64 q.Water)) (go_keep) (fail)
  all_goals go_wp2_with fail
  rotate_left
  all_goals refine (l11Flow_any p q _ hpp hqq).mono ?_
  all_goals rintro e w2 ⟨rfl, hbn⟩
  all_goals have hbl : Bl w1 w2 := Bl.trans (by repeat (first | exact Bl.refl _ | assumption | (with_reducible apply Bl.drew) | (with_reducible apply Bl.alloc) | (with_reducible refine Bl.setCell ?_ (by first | exact Nat.le_refl _ | (simp; done) | (simp; omega)) _))) hbn
  (have x0 : w2.cell? ⟨w1.heap.size + 1, 0, none⟩ = some (.int .i64 p.Area) := hbn.cell (by go_simp; done); have x1 : w2.cell? ⟨w1.heap.size + 1, 1, none⟩ = some (.int .i64 p.Floor) := hbn.cell (by go_simp; done); have x2 : w2.cell? ⟨w1.heap.size + 1, 2, none⟩ = some (.int .i64 p.Water) := hbn.cell (by go_simp; done); have fx : ∀ z, w2.frozen? ⟨w1.heap.size + 1, z, none⟩ = false := fun z => (Below.frozen hbn (by first | (simp; done) | (simp; omega))).trans (by go_simp; done); have y0 : w2.cell? ⟨w1.heap.size, 0, none⟩ = some (.int .i64 q.Area) := hbn.cell (by go_simp; done); have y1 : w2.cell? ⟨w1.heap.size, 1, none⟩ = some (.int .i64 q.Floor) := hbn.cell (by go_simp; done); have y2 : w2.cell? ⟨w1.heap.size, 2, none⟩ = some (.int .i64 q.Water) := hbn.cell (by go_simp; done); have fy : ∀ z, w2.frozen? ⟨w1.heap.size, z, none⟩ = false := fun z => (Below.frozen hbn (by first | (simp; done) | (simp; omega))).trans (by go_simp; done))
  rotate_left
  (have x0 : w2.cell? ⟨w1.heap.size, 0, none⟩ = some (.int .i64 p.Area) := hbn.cell (by go_simp; done); have x1 : w2.cell? ⟨w1.heap.size, 1, none⟩ = some (.int .i64 p.Floor) := hbn.cell (by go_simp; done); have x2 : w2.cell? ⟨w1.heap.size, 2, none⟩ = some (.int .i64 p.Water) := hbn.cell (by go_simp; done); have fx : ∀ z, w2.frozen? ⟨w1.heap.size, z, none⟩ = false := fun z => (Below.frozen hbn (by first | (simp; done) | (simp; omega))).trans (by go_simp; done); have y0 : w2.cell? ⟨w1.heap.size + 1, 0, none⟩ = some (.int .i64 q.Area) := hbn.cell (by go_simp; done); have y1 : w2.cell? ⟨w1.heap.size + 1, 1, none⟩ = some (.int .i64 q.Floor) := hbn.cell (by go_simp; done); have y2 : w2.cell? ⟨w1.heap.size + 1, 2, none⟩ = some (.int .i64 q.Water) := hbn.cell (by go_simp; done); have fy : ∀ z, w2.frozen? ⟨w1.heap.size + 1, z, none⟩ = false := fun z => (Below.frozen hbn (by first | (simp; done) | (simp; omega))).trans (by go_simp; done))
  all_goals
    have ho2 := hbl.own ho
    have fz := World.ownsRow.frozenAt ho2
    have HF : Hid ((fun v => Value.tuple #[v, Value.int IntKind.i64 (letV l i j), Value.bool (letOk l i j)]) = fun v => Value.tuple #[v, Value.int IntKind.i64 (flowZ p q), Value.bool (decide (q.Water + flowZ p q ≤ 100000))]) := by show _ = _; simp only [letOk, letV, getP_at ei, getP_at ej]
    have HE := Lib.hid (letL_eq ei ej)
    have HI := Lib.hid ei
    have HJ := Lib.hid (show (l.set i ⟨p.Area, p.Floor, p.Water - flowZ p q⟩)[j]? = some q by rw [List.getElem?_set_ne hij]; exact ej)
    obtain ⟨fb0, fb1⟩ := flow_bd hpp hqq
    have fb2 := hpp.w1
    have fb3 := hqq.w0
    have fb4 := hqq.w1
    clear ei ej
    have zle := hb1.le
    have hbw := hb1.trans hbl
    have hgb := HL1.out.out g rfl
    obtain ⟨hgl, hgu⟩ := hgb
    have ng1 : ¬ g = w1.heap.size := by omega
    have ng2 : ¬ g = w1.heap.size + 1 := by omega
    have ng3 : ¬ w1.heap.size = g := by omega
    have ng4 : ¬ w1.heap.size + 1 = g := by omega
    obtain ⟨v0, q0⟩ := own_some ho2 (j := i * 3) (by omega)
    obtain ⟨v1, q1⟩ := own_some ho2 (j := i * 3 + 1) (by omega)
    obtain ⟨v2, q2⟩ := own_some ho2 (j := i * 3 + 2) (by omega)
    obtain ⟨v3, q3⟩ := own_some ho2 (j := j * 3) (by omega)
    obtain ⟨v4, q4⟩ := own_some ho2 (j := j * 3 + 1) (by omega)
    obtain ⟨v5, q5⟩ := own_some ho2 (j := j * 3 + 2) (by omega)
    clear hbn k1 k2 k3 k4 k5 k6 ci1 ci2 ci3 cj1 cj2 cj3 hS h
  all_goals go_wp2_with fail
  · go_region_held3 (fun W => W.cell? ⟨w1.heap.size + 1, 2, none⟩ = some (.int .i64 (q.Water + flowZ p q))) (first | (go_simp; done) | go_keep) (fail)
    all_goals
      go_wp2_with fail
      go_ret3
      rw [HF.out]
      refine ⟨_, _, _, rfl, ?_, by rw [letL_len]; exact HL.out, by omega, ?_⟩
      · rw [HE.out, ← Pool.put3 HJ.out, ← Pool.put3 HI.out]
        with_reducible refine World.ownsRow.drew ?_
        iterate 6 (with_reducible refine own_set ?_ _ _)
        refine Bl.own (w := w1) ?_ ho
        repeat (first | (with_reducible exact hbl) | (with_reducible apply Bl.drew) | (with_reducible refine Bl.setCell ?_ (by first | exact Nat.le_refl _ | (simp; done) | (simp; omega)) _))
      · repeat (first | (with_reducible exact hbw) | (with_reducible apply Bl.drew) | (with_reducible refine Bl.setCell ?_ (by first | exact hgl | (simp; omega)) _))
  · go_region_held3 (fun W => W.cell? ⟨w1.heap.size, 2, none⟩ = some (.int .i64 (q.Water + flowZ p q))) (first | (go_simp; done) | go_keep) (fail)
    all_goals
      go_wp2_with fail
      go_ret3
      rw [HF.out]
      refine ⟨_, _, _, rfl, ?_, by rw [letL_len]; exact HL.out, by omega, ?_⟩
      · rw [HE.out, ← Pool.put3 HJ.out, ← Pool.put3 HI.out]
        with_reducible refine World.ownsRow.drew ?_
        iterate 6 (with_reducible refine own_set ?_ _ _)
        refine Bl.own (w := w1) ?_ ho
        repeat (first | (with_reducible exact hbl) | (with_reducible apply Bl.drew) | (with_reducible refine Bl.setCell ?_ (by first | exact Nat.le_refl _ | (simp; done) | (simp; omega)) _))
      · repeat (first | (with_reducible exact hbw) | (with_reducible apply Bl.drew) | (with_reducible refine Bl.setCell ?_ (by first | exact hgl | (simp; omega)) _))
set_option maxHeartbeats 1000000 in
theorem letFlow_any (B g n d : Nat) (l : List Pool) (i j : Nat) (w : World) (ho : w.ownsRow B 25 3 (.slice (some ⟨g, 0, none⟩) n d) n (l.flatMap Pool.cs)) (hl : l.length = n) (hi : i < n) (hj : j < n) (hij : i ≠ j) (hok : poolsOk l = true) :
    Calls Try.prog 67 #[.slice (some ⟨g, 0, none⟩) n d, .int .i64 i, .int .i64 j] w fun e w' => e = .returned (.tuple #[.int .i64 (letV l i j), .bool (letOk l i j)]) ∧ w'.ownsRow B 25 3 (.slice (some ⟨g, 0, none⟩) n d) n ((letL l i j).flatMap Pool.cs) ∧ w.grownBy w' (some g) := by
  have HL := Lib.hid hl
  have hl5 := len_ok hok
  rw [hl] at hl5
  have hp := ok_len hok (i := i) (by rw [HL.out]; exact hi)
  have hq := ok_len hok (i := j) (by rw [HL.out]; exact hj)
  have hS := Sl.of_own Pool.cs_len ho HL.out (by omega)
  obtain ⟨b1, o1, p, hA1, ei, ci1, ci2, ci3⟩ := hS.Pool hi
  obtain ⟨b2, o2, q, hA2, ej, cj1, cj2, cj3⟩ := hS.Pool hj
  injection hA1 with hA1; injection hA1 with hA1 hA1'; subst hA1 hA1'
  injection hA2 with hA2; injection hA2 with hA2 hA2'; subst hA2 hA2'
  simp only [Nat.zero_add] at ci1 ci2 ci3 cj1 cj2 cj3
  have hpp : Ok p := by rw [getP_at ei] at hp; exact hp
  have hqq : Ok q := by rw [getP_at ej] at hq; exact hq
  clear hp hq hl
  have HF : Hid (Ending.returned (Value.tuple #[Value.int IntKind.i64 (letV l i j), Value.bool (letOk l i j)]) = Ending.returned (Value.tuple #[Value.int IntKind.i64 (flowZ p q), Value.bool (decide (q.Water + flowZ p q ≤ 100000))])) := by show _ = _; simp only [letOk, letV, getP_at ei, getP_at ej]
  have HE := Lib.hid (letL_eq ei ej)
  have HI := Lib.hid ei
  have HJ := Lib.hid (show (l.set i ⟨p.Area, p.Floor, p.Water - flowZ p q⟩)[j]? = some q by rw [List.getElem?_set_ne hij]; exact ej)
  obtain ⟨fb0, fb1⟩ := flow_bd hpp hqq
  have fb2 := hpp.w1
  have fb3 := hqq.w0
  have fb4 := hqq.w1
  clear ei ej
  have hji : ¬ j = i := fun e => hij e.symm
  go_enter Try.func67, Try.ntmps67
  go_wp2_with fail
  refine region_bl (by kernel_rfl) (by kernel_rfl) (Bl.refl w) ?_
  repeat' (first | go_big_quiet_skip | (go_big_quiet_want; go_simp; (try go_bits); first | (refine ⟨_, fun _ _ => rfl, ?_⟩; go_big_quiet_on) | (apply Exists.intro; (with_reducible refine ⟨fun W hW => ret_bl hW (flowBetween_any p q W hpp hqq), ?_⟩); go_big_quiet_on) | (apply Exists.intro; refine ⟨fun W hW => ?_, ?_⟩; (· go_simp; (try go_bits); rfl); go_big_quiet_on)))
  apply wpQuiet_nil
  intro W hb
  have hoW := hb.own ho
  have fz := World.ownsRow.frozenAt hoW
  have q1 := ci3 W hb
  have q2 := cj3 W hb
  have hg0 := hb.grownBy (some g)
  clear hb hS ci1 ci2 ci3 cj1 cj2 cj3
  go_wp2_with fail
  go_region_held3 (fun V => V.cell? ⟨g, j * 3 + 2, none⟩ = some (.int .i64 (q.Water + flowZ p q))) (first | (go_simp; done) | go_keep) (fail)
  go_wp2_with fail
  go_ret2
  refine ⟨HF.out.symm, ?_, ?_⟩
  · rw [HE.out, ← flat_set Pool.cs 3 Pool.cs_len _ j q ⟨q.Area, q.Floor, q.Water + flowZ p q⟩ HJ.out 2 (by omega) (.int .i64 (q.Water + flowZ p q)) rfl, ← flat_set Pool.cs 3 Pool.cs_len _ i p ⟨p.Area, p.Floor, p.Water - flowZ p q⟩ HI.out 2 (by omega) (.int .i64 (p.Water - flowZ p q)) rfl]
    with_reducible refine World.ownsRow.drew ?_
    iterate 2 (with_reducible refine own_set ?_ _ _)
    exact hoW
  · exact grown_drew (grown_set (grown_set hg0 _ _) _ _)
set_option maxHeartbeats 1000000 in
theorem specLetFlow_any (A : Option Addr) (n c : Nat) (l : List Pool) (x y : Int) (w : World) (h : Sl Pool.cs 3 w A n l) :
    Calls Try.prog 29 #[.slice A n c, .int .i64 x, .int .i64 y] w (NewRes Pool.cs 3 25 (letFlowR l x y).1 (fun v => .tuple #[v, .int .i64 (letFlowR l x y).2.1, .bool (letFlowR l x y).2.2]) w) := by
  have H1 := Lib.hid (l11List_any A n c l w h)
  have bn := h.le
  have HL := Lib.hid h.1
  have H2 := Lib.hid (fun w => same_bl (l1In_any x 0 ((n : Int) - 1) w))
  have H3 := Lib.hid (fun w => same_bl (l1In_any y 0 ((n : Int) - 1) w))
  have HV : Hid (letAsked l x y = (poolsOk l && inB x 0 ((n : Int) - 1) && inB y 0 ((n : Int) - 1) && decide (x ≠ y))) := by show _ = _; rw [letAsked, HL.out]
  cases h1 : poolsOk l
  · have HR := Lib.hid (letFlow_no (HV.out.trans (by rw [h1]; rfl)))
    go_enter Try.func29, Try.ntmps29
    go_wp2_with fail
    refine H1.out.mono ?_
    rintro e w1 ⟨rfl, hb⟩
    simp only [h1]
    go_wp2_with fail
    go_ret3
    rw [HR.out]
    exact NewRes.empty (hb)
  have hl5 := len_ok h1
  rw [HL.out] at hl5
  cases h2 : inB x 0 ((n : Int) - 1)
  · have HR := Lib.hid (letFlow_no (HV.out.trans (by rw [h1, h2]; rfl)))
    go_enter Try.func29, Try.ntmps29
    go_wp2_with fail
    refine H1.out.mono ?_
    rintro e w1 ⟨rfl, hb⟩
    simp only [h1]
    go_wp2_with fail
    refine (H2.out _).mono ?_
    rintro e w' ⟨rfl, hbn⟩
    have hb := hb.trans hbn
    clear hbn
    simp only [h2]
    go_wp2_with fail
    go_ret3
    rw [HR.out]
    exact NewRes.empty (hb)
  cases h3 : inB y 0 ((n : Int) - 1)
  · have HR := Lib.hid (letFlow_no (HV.out.trans (by rw [h1, h2, h3]; rfl)))
    go_enter Try.func29, Try.ntmps29
    go_wp2_with fail
    refine H1.out.mono ?_
    rintro e w1 ⟨rfl, hb⟩
    simp only [h1]
    go_wp2_with fail
    refine (H2.out _).mono ?_
    rintro e w' ⟨rfl, hbn⟩
    have hb := hb.trans hbn
    clear hbn
    simp only [h2]
    go_wp2_with fail
    refine (H3.out _).mono ?_
    rintro e w' ⟨rfl, hbn⟩
    have hb := hb.trans hbn
    clear hbn
    simp only [h3]
    go_wp2_with fail
    go_ret3
    rw [HR.out]
    exact NewRes.empty (hb)
  by_cases h4 : x = y
  · have HR := Lib.hid (letFlow_no (HV.out.trans (by rw [h1, h2, h3]; simp [h4])))
    have e4 : (x == y) = true := by simpa using h4
    clear h4
    go_enter Try.func29, Try.ntmps29
    go_wp2_with fail
    refine H1.out.mono ?_
    rintro e w1 ⟨rfl, hb⟩
    simp only [h1]
    go_wp2_with fail
    refine (H2.out _).mono ?_
    rintro e w' ⟨rfl, hbn⟩
    have hb := hb.trans hbn
    clear hbn
    simp only [h2]
    go_wp2_with fail
    refine (H3.out _).mono ?_
    rintro e w' ⟨rfl, hbn⟩
    have hb := hb.trans hbn
    clear hbn
    simp only [h3]
    go_wp2_with fail
    go_ret3
    rw [HR.out]
    exact NewRes.empty (hb)
  have e4 : (x == y) = false := by simpa using h4
  have HY := Lib.hid (HV.out.trans (by rw [h1, h2, h3]; simp [h4] : _ = true))
  have b2 := inB_iff.1 h2
  have b3 := inB_iff.1 h3
  obtain ⟨i, rfl⟩ := Int.eq_ofNat_of_zero_le b2.1
  obtain ⟨j, rfl⟩ := Int.eq_ofNat_of_zero_le b3.1
  have hi : i < n := by omega
  have hj : j < n := by omega
  have hij : i ≠ j := by omega
  clear b2 b3 h4
  have H4 := Lib.hid (fun w h => l11Let_any A n c l i j w h hi hj hij h1)
  cases h5 : letOk l i j
  · have HR := Lib.hid (letFlow_over (x := (i : Int)) (y := (j : Int)) h5)
    go_enter Try.func29, Try.ntmps29
    go_wp2_with fail
    refine H1.out.mono ?_
    rintro e w1 ⟨rfl, hb⟩
    simp only [h1]
    go_wp2_with fail
    refine (H2.out _).mono ?_
    rintro e w' ⟨rfl, hbn⟩
    have hb := hb.trans hbn
    clear hbn
    simp only [h2]
    go_wp2_with fail
    refine (H3.out _).mono ?_
    rintro e w' ⟨rfl, hbn⟩
    have hb := hb.trans hbn
    clear hbn
    simp only [h3]
    go_wp2_with fail
    refine (H4.out _ (h.bl hb)).mono ?_
    rintro e w2 ⟨B, m, d, rfl, ho, hl, hm, hbn⟩
    simp only [h5]
    go_wp2_with fail
    go_ret3
    rw [HR.out]
    exact NewRes.empty (hb.trans hbn)
  · have HR := Lib.hid (letFlow_yes HY.out (show letOk l (i : Int).toNat (j : Int).toNat = true from h5))
    go_enter Try.func29, Try.ntmps29
    go_wp2_with fail
    refine H1.out.mono ?_
    rintro e w1 ⟨rfl, hb⟩
    simp only [h1]
    go_wp2_with fail
    refine (H2.out _).mono ?_
    rintro e w' ⟨rfl, hbn⟩
    have hb := hb.trans hbn
    clear hbn
    simp only [h2]
    go_wp2_with fail
    refine (H3.out _).mono ?_
    rintro e w' ⟨rfl, hbn⟩
    have hb := hb.trans hbn
    clear hbn
    simp only [h3]
    go_wp2_with fail
    refine (H4.out _ (h.bl hb)).mono ?_
    rintro e w2 ⟨B, m, d, rfl, ho, hl, hm, hbn⟩
    simp only [h5]
    go_wp2_with fail
    go_ret3
    rw [HR.out]
    exact NewRes.own ho hb hl hm (hb.trans hbn)
set_option maxHeartbeats 1000000 in
theorem implLetFlow_any (A : Option Addr) (n c : Nat) (l : List Pool) (x y : Int) (w : World) (h : Sl Pool.cs 3 w A n l) :
    Calls Try.prog 30 #[.slice A n c, .int .i64 x, .int .i64 y] w (NewRes Pool.cs 3 25 (letFlowR l x y).1 (fun v => .tuple #[v, .int .i64 (letFlowR l x y).2.1, .bool (letFlowR l x y).2.2]) w) := by
  have H1 := Lib.hid (arePools_any A n c l w h)
  have bn := h.le
  have HL := Lib.hid h.1
  have H2 := Lib.hid (fun w => same_bl (inside_any x 0 ((n : Int) - 1) w))
  have H3 := Lib.hid (fun w => same_bl (inside_any y 0 ((n : Int) - 1) w))
  have HV : Hid (letAsked l x y = (poolsOk l && inB x 0 ((n : Int) - 1) && inB y 0 ((n : Int) - 1) && decide (x ≠ y))) := by show _ = _; rw [letAsked, HL.out]
  cases h1 : poolsOk l
  · have HR := Lib.hid (letFlow_no (HV.out.trans (by rw [h1]; rfl)))
    go_enter Try.func30, Try.ntmps30
    go_wp2_with fail
    refine H1.out.mono ?_
    rintro e w1 ⟨rfl, hb⟩
    simp only [h1]
    go_wp2_with fail
    go_ret3
    rw [HR.out]
    exact NewRes.nil (hb)
  have hl5 := len_ok h1
  rw [HL.out] at hl5
  cases h2 : inB x 0 ((n : Int) - 1)
  · have HR := Lib.hid (letFlow_no (HV.out.trans (by rw [h1, h2]; rfl)))
    go_enter Try.func30, Try.ntmps30
    go_wp2_with fail
    refine H1.out.mono ?_
    rintro e w1 ⟨rfl, hb⟩
    simp only [h1]
    go_wp2_with fail
    refine (H2.out _).mono ?_
    rintro e w' ⟨rfl, hbn⟩
    have hb := hb.trans hbn
    clear hbn
    simp only [h2]
    go_wp2_with fail
    go_ret3
    rw [HR.out]
    exact NewRes.nil (hb)
  cases h3 : inB y 0 ((n : Int) - 1)
  · have HR := Lib.hid (letFlow_no (HV.out.trans (by rw [h1, h2, h3]; rfl)))
    go_enter Try.func30, Try.ntmps30
    go_wp2_with fail
    refine H1.out.mono ?_
    rintro e w1 ⟨rfl, hb⟩
    simp only [h1]
    go_wp2_with fail
    refine (H2.out _).mono ?_
    rintro e w' ⟨rfl, hbn⟩
    have hb := hb.trans hbn
    clear hbn
    simp only [h2]
    go_wp2_with fail
    refine (H3.out _).mono ?_
    rintro e w' ⟨rfl, hbn⟩
    have hb := hb.trans hbn
    clear hbn
    simp only [h3]
    go_wp2_with fail
    go_ret3
    rw [HR.out]
    exact NewRes.nil (hb)
  by_cases h4 : x = y
  · have HR := Lib.hid (letFlow_no (HV.out.trans (by rw [h1, h2, h3]; simp [h4])))
    have e4 : (x == y) = true := by simpa using h4
    clear h4
    go_enter Try.func30, Try.ntmps30
    go_wp2_with fail
    refine H1.out.mono ?_
    rintro e w1 ⟨rfl, hb⟩
    simp only [h1]
    go_wp2_with fail
    refine (H2.out _).mono ?_
    rintro e w' ⟨rfl, hbn⟩
    have hb := hb.trans hbn
    clear hbn
    simp only [h2]
    go_wp2_with fail
    refine (H3.out _).mono ?_
    rintro e w' ⟨rfl, hbn⟩
    have hb := hb.trans hbn
    clear hbn
    simp only [h3]
    go_wp2_with fail
    go_ret3
    rw [HR.out]
    exact NewRes.nil (hb)
  have e4 : (x == y) = false := by simpa using h4
  have HY := Lib.hid (HV.out.trans (by rw [h1, h2, h3]; simp [h4] : _ = true))
  have b2 := inB_iff.1 h2
  have b3 := inB_iff.1 h3
  obtain ⟨i, rfl⟩ := Int.eq_ofNat_of_zero_le b2.1
  obtain ⟨j, rfl⟩ := Int.eq_ofNat_of_zero_le b3.1
  have hi : i < n := by omega
  have hj : j < n := by omega
  have hij : i ≠ j := by omega
  clear b2 b3 h4
  cases h5 : letOk l i j
  · have HR := Lib.hid (letFlow_over (x := (i : Int)) (y := (j : Int)) h5)
    go_enter Try.func30, Try.ntmps30
    go_wp2_with fail
    refine H1.out.mono ?_
    rintro e w1 ⟨rfl, hb⟩
    simp only [h1]
    go_wp2_with fail
    refine (H2.out _).mono ?_
    rintro e w' ⟨rfl, hbn⟩
    have hb := hb.trans hbn
    clear hbn
    simp only [h2]
    go_wp2_with fail
    refine (H3.out _).mono ?_
    rintro e w' ⟨rfl, hbn⟩
    have hb := hb.trans hbn
    clear hbn
    simp only [h3]
    obtain ⟨i0, hi0, hz0, hz1, hz2⟩ := info_parts infoPool
    go_wp2_with (at_builtin; refine wpList_append_new _ rfl _ _ _ rfl 25 i0 _ 3 24 Try.underlying36 hi0 hz0 hz1 hz2 rfl (by omega) Pool.cs_len Pool.one _ rfl (by first | rfl | simp) A n c l rfl (h.bl hb) (by unfold maxLen; omega) (by omega) ?_)
    clear hi0 hz0 hz1 hz2
    intro B d w2 ho hbn
    rcases own_forms ho with ⟨rfl, h0, _, _⟩ | ⟨g, rfl⟩
    · omega
    go_wp2_with fail
    refine (letFlow_any _ g n d l i j w2 ho HL.out hi hj hij h1).mono ?_
    rintro e w3 ⟨rfl, ho3, hg3⟩
    simp only [h5]
    have hb3 := Bl.row (hb.trans hbn) hb.le ho hg3
    go_wp2_with fail
    go_ret3
    rw [HR.out]
    exact NewRes.nil hb3
  · have HR := Lib.hid (letFlow_yes HY.out (show letOk l (i : Int).toNat (j : Int).toNat = true from h5))
    go_enter Try.func30, Try.ntmps30
    go_wp2_with fail
    refine H1.out.mono ?_
    rintro e w1 ⟨rfl, hb⟩
    simp only [h1]
    go_wp2_with fail
    refine (H2.out _).mono ?_
    rintro e w' ⟨rfl, hbn⟩
    have hb := hb.trans hbn
    clear hbn
    simp only [h2]
    go_wp2_with fail
    refine (H3.out _).mono ?_
    rintro e w' ⟨rfl, hbn⟩
    have hb := hb.trans hbn
    clear hbn
    simp only [h3]
    obtain ⟨i0, hi0, hz0, hz1, hz2⟩ := info_parts infoPool
    go_wp2_with (at_builtin; refine wpList_append_new _ rfl _ _ _ rfl 25 i0 _ 3 24 Try.underlying36 hi0 hz0 hz1 hz2 rfl (by omega) Pool.cs_len Pool.one _ rfl (by first | rfl | simp) A n c l rfl (h.bl hb) (by unfold maxLen; omega) (by omega) ?_)
    clear hi0 hz0 hz1 hz2
    intro B d w2 ho hbn
    rcases own_forms ho with ⟨rfl, h0, _, _⟩ | ⟨g, rfl⟩
    · omega
    go_wp2_with fail
    refine (letFlow_any _ g n d l i j w2 ho HL.out hi hj hij h1).mono ?_
    rintro e w3 ⟨rfl, ho3, hg3⟩
    simp only [h5]
    have hb3 := Bl.row (hb.trans hbn) hb.le ho hg3
    go_wp2_with fail
    go_ret3
    rw [HR.out]
    exact NewRes.own ho3 hb (by rw [letL_len]; exact HL.out) (by omega) hb3
end Go.Proofs.Yteejalanjeeecaa
