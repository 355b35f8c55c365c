/- The contract of UnsafePairs in the program. -/
import Derived.Test.YtkeaobjcfkmjmaaC7n
import Derived.Test.YtkeaobjcfkmjmaaC7m
import Derived.Test.YtkeaobjcfkmjmaaD3
import Derived.Test.YtkeaobjcfkmjmaaC7d
import Derived.Deep.RegionHeld3
namespace Go.Proofs.Ytkeaobjcfkmjmaa
open Go.RowKit
set_option maxRecDepth 100000 in
set_option maxHeartbeats 4000000 in
theorem implUnsafe_any (A C : Option Addr) (n c p f : Nat) (l : List Cargo) (cs : List Int) (w : World) (h : Sl Cargo.cs 3 w A n l) (hc : Sl ci 1 w C p cs) (hnc : n ≤ c) (hok : rowOk l cs = true) :
    Calls Try.prog 43 #[.slice A n c, .slice C p f] w fun e w' => ∃ T, T.Perm (pairsTo (prP l cs) l.length l.length 0) ∧ T.Pairwise (Asc pLt) ∧ NewTab T (fun v => .tuple #[v, .bool true]) w e w' := by
  have hok2 := hok
  simp only [rowOk, Bool.and_eq_true, decide_eq_true_eq] at hok2
  obtain ⟨h1, h2, h3⟩ := hok2
  have h6 := cargo_len h2
  rw [h.1] at h6
  have hpn : p = n := by have := hc.1; have := h.1; omega
  subst hpn
  have HL := Lib.hid h.1
  have HC := Lib.hid hc.1
  have HOK := Lib.hid h2
  have HCO := Lib.hid h1
  have HAN : Hid ((cs.any fun x => !inB x 0 200) = false) := by
    show _ = _
    have : cellsOk cs = true := h1
    rw [cellsOk] at this
    rw [List.any_eq_false]
    intro x hx
    have := List.all_eq_true.1 this x hx
    simp [this]
  have H1 := Lib.hid (fun W hl => isCargoList_any A p c l W hl hnc)
  rw [h2] at H1
  have H2 := Lib.hid (fun W hl => containsFuncInt_any _ _ unsafeFn_any (enters_of Try.func79 (by kernel_rfl) rfl) C p f cs W hl)
  rw [HAN.out] at H2
  clear h1 h2 h3 hok
  go_enter Try.func43, Try.ntmps43
  go_wp2_with fail
  refine (H1.out _ h).mono ?_
  rintro e w1 ⟨rfl, hb1⟩
  go_wp2_with fail
  refine (H2.out _ (hc.bl hb1)).mono ?_
  rintro e w2 ⟨rfl, hb2⟩
  have hb := hb1.trans hb2
  have HMR := Lib.hid (made_at cr 1 w2 36 w2.heap.size _ rfl (Nat.le_refl _))
  have hb3 := hb.alloc (.cells #[] 36)
  clear hb1 hb2 H1 H2
  go_wp2_with fail
  go_loopw [6, 7, 9, 11, 29] (fun u _ _ _ i wr => ∃ (j : Nat) (D : Option Addr) (m e : Nat) (gs : List Sv) (T : List (Int × Int)), j ≤ p ∧ i = .int .i64 j ∧ u = .slice D m e ∧ m ≤ 6 * j ∧ Bl w wr ∧ Hid (wr.ownsRow w.heap.size 36 1 (.slice D m e) m (gs.flatMap cr)) ∧ Hid (gs.length = m) ∧ Hid (In w.heap.size wr gs T) ∧ Hid (T = pairsTo (prP l cs) p j 0)) (fun _ _ _ _ i _ => p - (intOf i).toNat)
  case atStart => exact ⟨0, _, 0, 0, [], [], Nat.zero_le _, rfl, rfl, by omega, hb3, own_mono HMR.out hb.le, rfl, In.nil, rfl⟩
  case round =>
    clear HMR hb3 hb
    obtain ⟨j, D, m, e, gs, T, hj, rfl, rfl, hm, hb, HO, HG, HI, HT⟩ := hrel
    by_cases hlt : j < p
    · obtain ⟨b1, o1, a, rfl, ea, a1, a2, a3⟩ := h.Cargo hlt
      have f1 := a1 _ hb
      have f2 := a2 _ hb
      have f3 := a3 _ hb
      obtain ⟨ai, al, ac⟩ := a
      simp only at f1 f2 f3
      have HE0 := Lib.hid (heap_alloc_new wr (.cells #[.int .i64 ai, .int .i64 al, .int .i64 ac] 50))
      have hbx := hb.alloc (.cells #[.int .i64 ai, .int .i64 al, .int .i64 ac] 50)
      have HO2 := Lib.hid (World.ownsRow.alloc HO.out (.cells #[.int .i64 ai, .int .i64 al, .int .i64 ac] 50))
      have HI2 := Lib.hid (HI.out.bl ((Bl.refl wr).alloc (.cells #[.int .i64 ai, .int .i64 al, .int .i64 ac] 50)))
      have HT2 : Hid (T = pairsTo (prP l cs) p j (j + 1)) := by show _ = _; rw [pairsP_start]; exact HT.out
      have hSS := hb.le
      obtain ⟨b5, o5, x, rfl, ex, x1⟩ := hc.int hlt
      have EA := Lib.hid ea
      have EX := Lib.hid ex
      clear ea ex
      go_wp2_with fail
      generalize hS : wr.heap.size = S at *
      clear hS
      go_loopw [6, 9, 11] (fun u v _ wx => ∃ (k : Nat) (D : Option Addr) (m e : Nat) (gs : List Sv) (T : List (Int × Int)), k ≤ p ∧ j + 1 ≤ k ∧ v = .int .i64 k ∧ u = .slice D m e ∧ m ≤ 6 * j + k ∧ Bl w wx ∧ Hid (wx.heap[S]? = some (.cells #[.int .i64 ai, .int .i64 al, .int .i64 ac] 50 (0, 0))) ∧ Hid (wx.ownsRow w.heap.size 36 1 (.slice D m e) m (gs.flatMap cr)) ∧ Hid (gs.length = m) ∧ Hid (In w.heap.size wx gs T) ∧ Hid (T = pairsTo (prP l cs) p j k)) (fun _ v _ _ => p - (intOf v).toNat)
      case atStart => exact ⟨j + 1, D, m, e, gs, T, by omega, Nat.le_refl _, by go_num, rfl, by omega, hbx, HE0.out, HO2.out, HG.out, HI2.out, HT2.out⟩
      case round =>
        clear HE0 hbx HO2 HI2 HT2 HO HG HI HT
        obtain ⟨k, D, m, e, gs, T, hk, hjk, rfl, rfl, hm, hbx, HE, HO, HG, HI, HT⟩ := hrel
        by_cases hlt2 : k < p
        · obtain ⟨b6, o6, q, hA6, eq, q1, q2, q3⟩ := h.Cargo hlt2
          injection hA6 with hA6; injection hA6 with hA6 hA6'; subst hA6 hA6'
          obtain ⟨b7, o7, y, hA7, ey, y1⟩ := hc.int hlt2
          injection hA7 with hA7; injection hA7 with hA7 hA7'; subst hA7 hA7'
          obtain ⟨_, ⟨al0, al1⟩, ac0, ac1⟩ := cargo_at HOK.out EA.out
          obtain ⟨_, ⟨ql0, ql1⟩, qc0, qc1⟩ := cargo_at HOK.out eq
          have H7 := Lib.hid (fun W => neededGap_any ac q.Cones W ac0 ac1 qc0 qc1)
          have EQ := Lib.hid eq
          have EY := Lib.hid ey
          have bx := cells_at HCO.out EX.out
          have byy := cells_at HCO.out ey
          obtain ⟨qi, ql, qc⟩ := q
          simp only at al0 al1 ac0 ac1 ql0 ql1 qc0 qc1 q1 q2 q3 H7
          have r1 : (0 : Int) ≤ (k : Int) := by omega
          have r2 : (k : Int) < (p : Int) := by omega
          have r3 : (0 : Int) ≤ (j : Int) := by omega
          have r4 : (j : Int) < (p : Int) := by omega
          obtain ⟨s0, s1, s2⟩ := three_cell HE.out
          have F0 : ∀ V, Bl wr V → V.cell? ⟨b1, o1 + k * 3, none⟩ = some (.int .i64 qi) := fun V hV => q1 V (hbx.trans hV)
          have F1 : ∀ V, Bl wr V → V.cell? ⟨b1, o1 + k * 3 + 1, none⟩ = some (.int .i64 ql) := fun V hV => q2 V (hbx.trans hV)
          have F2 : ∀ V, Bl wr V → V.cell? ⟨b1, o1 + k * 3 + 2, none⟩ = some (.int .i64 qc) := fun V hV => q3 V (hbx.trans hV)
          have F3 : ∀ V, Bl wr V → V.cell? ⟨S, 2, none⟩ = some (.int .i64 ac) := Bl.all s2
          have y0 := F0 _ (Bl.refl _)
          have y1' := F1 _ (Bl.refl _)
          have y2 := F2 _ (Bl.refl _)
          clear q1 q2 q3 eq ey
          go_wp2_with fail
          go_region_held3 (fun V => V.cell? ⟨b1, o1 + k * 3, none⟩ = some (.int .i64 qi) ∧ V.cell? ⟨b1, o1 + k * 3 + 1, none⟩ = some (.int .i64 ql) ∧ V.cell? ⟨b1, o1 + k * 3 + 2, none⟩ = some (.int .i64 qc) ∧ V.cell? ⟨S, 2, none⟩ = some (.int .i64 ac)) (first | (with_reducible assumption) | exact ⟨F0 _ (by repeat (first | with_reducible assumption | with_reducible exact Bl.refl _ | with_reducible apply Bl.drew | with_reducible apply Bl.alloc)), F1 _ (by repeat (first | with_reducible assumption | with_reducible exact Bl.refl _ | with_reducible apply Bl.drew | with_reducible apply Bl.alloc)), F2 _ (by repeat (first | with_reducible assumption | with_reducible exact Bl.refl _ | with_reducible apply Bl.drew | with_reducible apply Bl.alloc)), F3 _ (by repeat (first | with_reducible assumption | with_reducible exact Bl.refl _ | with_reducible apply Bl.drew | with_reducible apply Bl.alloc))⟩) (first | (go_at_call 54; (with_reducible refine (H7.out _).mono ?_); rintro e w' ⟨rfl, rfl⟩))
          all_goals
            have HB := Lib.hid (show (wr.alloc (.cells #[.int .i64 qi, .int .i64 ql, .int .i64 qc] 50)).drew.heap[wr.heap.size]? = some (.cells #[.int .i64 qi, .int .i64 ql, .int .i64 qc] 50 (0, 0)) from heap_alloc_new wr _)
            have hbW : Bl wr (wr.alloc (.cells #[.int .i64 qi, .int .i64 ql, .int .i64 qc] 50)).drew := ((Bl.refl wr).alloc _).drew
            have HO1 := Lib.hid ((World.ownsRow.alloc HO.out (.cells #[.int .i64 qi, .int .i64 ql, .int .i64 qc] 50)).drew)
            clear F0 F1 F2 F3 y0 y1' y2
            generalize (wr.alloc (.cells #[.int .i64 qi, .int .i64 ql, .int .i64 qc] 50)).drew = W1 at *
            have HE1 := Lib.hid (hbW.one HE.out)
            have HI1 := Lib.hid (HI.out.bl hbW)
            have hbw1 := hbx.trans hbW
            generalize wr.heap.size = S2 at *
            obtain ⟨t0, t1, t2⟩ := three_cell HB.out
            obtain ⟨v0, v1, v2⟩ := three_cell HE1.out
            have G0 : ∀ V, Bl W1 V → V.cell? ⟨b5, o5 + k, none⟩ = some (.int .i64 y) := fun V hV => y1 V (hbw1.trans hV)
            have G1 : ∀ V, Bl W1 V → V.cell? ⟨b5, o5 + j, none⟩ = some (.int .i64 x) := fun V hV => x1 V (hbw1.trans hV)
            have G2 : ∀ V, Bl W1 V → V.cell? ⟨S, 0, none⟩ = some (.int .i64 ai) := Bl.all v0
            have G3 : ∀ V, Bl W1 V → V.cell? ⟨S, 1, none⟩ = some (.int .i64 al) := Bl.all v1
            have G4 : ∀ V, Bl W1 V → V.cell? ⟨S2, 0, none⟩ = some (.int .i64 qi) := Bl.all t0
            have G5 : ∀ V, Bl W1 V → V.cell? ⟨S2, 1, none⟩ = some (.int .i64 ql) := Bl.all t1
            clear t0 t1 t2 v0 v1 v2 s0 s1 s2
            have HN : Hid (unsafeB ⟨ai, al, ac⟩ ⟨qi, ql, qc⟩ x y = false → pairsTo (prP l cs) p j (k + 1) = pairsTo (prP l cs) p j k) := fun hu => pairs_none _ _ _ _ (by
              cases e : prP l cs j k with
              | none => rfl
              | some z =>
                obtain ⟨a', b', x', y', ha, hb', hx', hy', _, h9, _⟩ := prP_iff.1 e
                rw [EA.out] at ha; rw [EQ.out] at hb'; rw [EX.out] at hx'; rw [EY.out] at hy'
                obtain rfl := Option.some.inj ha; obtain rfl := Option.some.inj hb'; obtain rfl := Option.some.inj hx'; obtain rfl := Option.some.inj hy'
                rw [hu] at h9; cases h9)
            have HS : Hid (unsafeB ⟨ai, al, ac⟩ ⟨qi, ql, qc⟩ x y = true → pairsTo (prP l cs) p j (k + 1) = pairsTo (prP l cs) p j k ++ [(min ai qi, max ai qi)]) := fun hu => pairs_some _ _ _ _ (prP_iff.2 ⟨_, _, _, _, EA.out, EQ.out, EX.out, EY.out, by omega, hu, rfl⟩)
            have HU : Hid (unsafeB ⟨ai, al, ac⟩ ⟨qi, ql, qc⟩ x y = (decide (y - x - al < gapZ ac qc) && decide (x - y - ql < gapZ ac qc))) := rfl
            generalize gapZ ac qc = gz at *
            obtain ⟨bx0, bx1⟩ := bx
            obtain ⟨by0, by1⟩ := byy
            have k1 : IntKind.i64.wrap (y - x) = y - x := IntWalk.i64_in _ (by omega)
            have k2 : IntKind.i64.wrap (y - x - al) = y - x - al := IntWalk.i64_in _ (by omega)
            have k3 : IntKind.i64.wrap (x - y) = x - y := IntWalk.i64_in _ (by omega)
            have k4 : IntKind.i64.wrap (x - y - ql) = x - y - ql := IntWalk.i64_in _ (by omega)
            have d1 : decide (y - x - al < gz) = true ∨ decide (y - x - al < gz) = false := by cases decide (y - x - al < gz) <;> simp
            have d2 : decide (x - y - ql < gz) = true ∨ decide (x - y - ql < gz) = false := by cases decide (x - y - ql < gz) <;> simp
            rcases d1 with d1 | d1
            · rcases d2 with d2 | d2
              · have HP := Lib.hid (HS.out (by rw [HU.out, d1, d2]; rfl))
                go_wp2_with fail
                refine region_bl (by kernel_rfl) (by kernel_rfl) (Bl.refl W1) ?_
                repeat' (first | go_big_quiet_skip | (go_big_quiet_want; go_simp; (try go_bits); first | (refine ⟨_, fun _ _ => rfl, ?_⟩; go_big_quiet_on) | (apply Exists.intro; refine ⟨fun W hW => ?_, ?_⟩; (· go_simp; (try go_bits); rfl); go_big_quiet_on)))
                apply wpQuiet_nil
                intro W hb
                have HO2 := Lib.hid (hb.own HO1.out)
                have HE2 := Lib.hid (hb.one HE1.out)
                have HI2 := Lib.hid (HI1.out.bl hb)
                have hbw2 := hbw1.trans hb
                have g2 := G2 _ hb
                have g4 := G4 _ hb
                clear G0 G1 G2 G3 G4 G5 k1 k2 k3 k4 d1 d2 HN HS HU hb hbW HO1 HE1 HI1
                have hcl : Bl W (W.alloc (.cells #[.int .i64 (min ai qi), .int .i64 (max ai qi)] 3)) := (Bl.refl W).alloc _
                have HG3 := Lib.hid (heap_alloc_new W (.cells #[.int .i64 (min ai qi), .int .i64 (max ai qi)] 3))
                have ho9 := hcl.own HO2.out
                have hb9 := (hbw2.trans hcl).le
                have HI3 := Lib.hid (HI2.out.bl hcl)
                have HE3 := Lib.hid (hcl.one HE2.out)
                have hbw3 := hbw2.trans hcl
                have HNG : Hid (W.heap.size ∉ gs) := fun hg => by obtain ⟨_, _, h9⟩ := HI2.out.ex hg; have := lt_of_block h9; omega
                have hle9 := hbw2.le
                clear HO2 HE2 HI2 hcl
                obtain ⟨i0, hi0, hz0, hz1, hz2⟩ := info_parts infoRow
                go_wp2_with (at_builtin; refine wpList_append_one _ rfl _ _ _ rfl _ 36 i0 _ 1 24 Try.underlying56 hi0 hz0 hz1 hz2 rfl (by omega) cr_len cr_one _ m gs rfl W.heap.size _ rfl (by first | rfl | simp) _ rfl ho9 hb9 (by unfold maxLen; omega) (by omega) ?_)
                clear hi0 hz0 hz1 hz2
                intro B6 d6 w6 ho6 hg6
                have HI6 := Lib.hid (HI3.out.grown ho9 hg6)
                have HE6 := Lib.hid ((hg6.block S (lt_of_block HE3.out) (fun e => own_ne_ty ho9 HE3.out (by decide) e.symm)).trans HE3.out)
                have HG6 := Lib.hid ((hg6.block W.heap.size (lt_of_block HG3.out) (fun e => own_ne_ty ho9 HG3.out (by decide) e.symm)).trans HG3.out)
                have HI7 := Lib.hid (HI6.out.snoc (x := (min ai qi, max ai qi)) hle9 HG6.out HNG.out)
                have HO7 : Hid (w6.ownsRow w.heap.size 36 1 (.slice B6 (m + 1) d6) (m + 1) ((gs ++ [W.heap.size]).flatMap cr)) := by show World.ownsRow _ _ _ _ _ _ _; simpa using ho6
                have hb7 := Bl.row hbw3 (Nat.le_refl _) ho9 hg6
                have HT7 : Hid (T ++ [(min ai qi, max ai qi)] = pairsTo (prP l cs) p j (k + 1)) := by show _ = _; rw [HP.out, HT.out]
                have HG7 : Hid ((gs ++ [W.heap.size]).length = m + 1) := by show _ = _; rw [List.length_append, HG.out]; rfl
                clear ho6 hg6 ho9 hb9 HI3 HE3 HG3 HI6 HG6 HNG hbw3 HP HT HG g2 g4
                go_wp2_with fail
                refine ⟨⟨k + 1, B6, m + 1, d6, gs ++ [W.heap.size], T ++ [(min ai qi, max ai qi)], ?_, ?_, ?_, ?_, ?_, ?_, ?_, ?_, ?_, ?_, ?_⟩, by simp [intOf]; omega⟩
                · omega
                · omega
                · go_num
                · rfl
                · omega
                · exact hb7
                · exact HE6.out
                · exact HO7.out
                · exact HG7.out
                · exact HI7.out
                · exact HT7.out
              · have HP := Lib.hid (HN.out (by rw [HU.out, d1, d2]; rfl))
                have HT7 : Hid (T = pairsTo (prP l cs) p j (k + 1)) := by show _ = _; rw [HP.out]; exact HT.out
                go_wp2_with fail
                refine region_bl (by kernel_rfl) (by kernel_rfl) (Bl.refl W1) ?_
                repeat' (first | go_big_quiet_skip | (go_big_quiet_want; go_simp; (try go_bits); first | (refine ⟨_, fun _ _ => rfl, ?_⟩; go_big_quiet_on) | (apply Exists.intro; refine ⟨fun W hW => ?_, ?_⟩; (· go_simp; (try go_bits); rfl); go_big_quiet_on)))
                apply wpQuiet_nil
                intro W hb
                have HO2 := Lib.hid (hb.own HO1.out)
                have HE2 := Lib.hid (hb.one HE1.out)
                have HI2 := Lib.hid (HI1.out.bl hb)
                have hbw2 := hbw1.trans hb
                clear G0 G1 G2 G3 G4 G5 k1 k2 k3 k4 d1 d2 HN HS HU hb hbW HO1 HE1 HI1 HP HT
                go_wp2_with fail
                first | exact ⟨⟨k + 1, D, m, e, gs, T, by omega, by omega, by go_num, rfl, by omega, hbw2, HE2.out, HO2.out, HG.out, HI2.out, HT7.out⟩, by simp [intOf]; omega⟩ | (refine ⟨?_, by simp [intOf]; omega⟩; (repeat apply Exists.intro); exact ⟨⟨k + 1, D, m, e, gs, T, by omega, by omega, by go_num, rfl, by omega, hbw2, HE2.out, HO2.out, HG.out, HI2.out, HT7.out⟩, rfl⟩)
            · have HP := Lib.hid (HN.out (by rw [HU.out, d1]; rfl))
              have HT7 : Hid (T = pairsTo (prP l cs) p j (k + 1)) := by show _ = _; rw [HP.out]; exact HT.out
              clear d2
              go_wp2_with fail
              refine region_bl (by kernel_rfl) (by kernel_rfl) (Bl.refl W1) ?_
              repeat' (first | go_big_quiet_skip | (go_big_quiet_want; go_simp; (try go_bits); first | (refine ⟨_, fun _ _ => rfl, ?_⟩; go_big_quiet_on) | (apply Exists.intro; refine ⟨fun W hW => ?_, ?_⟩; (· go_simp; (try go_bits); rfl); go_big_quiet_on)))
              apply wpQuiet_nil
              intro W hb
              have HO2 := Lib.hid (hb.own HO1.out)
              have HE2 := Lib.hid (hb.one HE1.out)
              have HI2 := Lib.hid (HI1.out.bl hb)
              have hbw2 := hbw1.trans hb
              clear G0 G1 G2 G3 G4 G5 k1 k2 k3 k4 d1 HN HS HU hb hbW HO1 HE1 HI1 HP HT
              go_wp2_with fail
              first | exact ⟨⟨k + 1, D, m, e, gs, T, by omega, by omega, by go_num, rfl, by omega, hbw2, HE2.out, HO2.out, HG.out, HI2.out, HT7.out⟩, by simp [intOf]; omega⟩ | (refine ⟨?_, by simp [intOf]; omega⟩; (repeat apply Exists.intro); exact ⟨⟨k + 1, D, m, e, gs, T, by omega, by omega, by go_num, rfl, by omega, hbw2, HE2.out, HO2.out, HG.out, HI2.out, HT7.out⟩, rfl⟩)
        · have e9 : k = p := by omega
          have HT7 : Hid (T = pairsTo (prP l cs) p (j + 1) 0) := by show _ = _; rw [pairs_next, HT.out, e9]
          clear e9 HT HE
          go_wp2_with fail
          first | exact ⟨⟨j + 1, D, m, e, gs, T, by omega, by go_num, rfl, by omega, hbx, HO.out, HG.out, HI.out, HT7.out⟩, by simp [intOf]; omega⟩ | (refine ⟨?_, by simp [intOf]; omega⟩; (repeat apply Exists.intro); exact ⟨⟨j + 1, D, m, e, gs, T, by omega, by go_num, rfl, by omega, hbx, HO.out, HG.out, HI.out, HT7.out⟩, rfl⟩)
    · have e9 : j = p := by omega
      have HT7 : Hid (T = pairsTo (prP l cs) l.length l.length 0) := by show _ = _; rw [HT.out, HL.out, e9]
      have hm9 : m ≤ 1048576 := by omega
      clear e9 HT
      go_wp2_with fail
      refine (sortTab_any w.heap.size w.heap.size D m e gs T _ hm9 HO.out HG.out HI.out).mono ?_
      rintro e w9 ⟨rfl, hg9, gs', T', ho', hl', hp', hs', hi'⟩
      have hb9 := Bl.row hb (Nat.le_refl _) HO.out hg9
      have HPP : Hid (T'.Perm (pairsTo (prP l cs) l.length l.length 0)) := by show List.Perm _ _; rw [← HT7.out]; exact hp'
      have HO9 := Lib.hid ho'
      have HI9 := Lib.hid hi'
      have HS9 := Lib.hid hs'
      have HL9 := Lib.hid hl'
      clear hg9 ho' hl' hp' hs' hi' HT7 HI HG HO
      go_wp2_with fail
      go_ret2
      exact ⟨T', HPP.out, HS9.out, _, _, _, gs', rfl, HO9.out, HL9.out, HI9.out, hm9, hb9⟩
end Go.Proofs.Ytkeaobjcfkmjmaa
