/- The contract of l7Pairs in the reference. -/
import Derived.Test.YtkeaobjcfkmjmaaC7n
import Derived.Test.YtkeaobjcfkmjmaaQ7f
import Derived.Test.YtkeaobjcfkmjmaaD3
import Derived.Test.YtkeaobjcfkmjmaaC7d
import Derived.Test.YtkeaobjcfkmjmaaBaseZ
import Derived.Deep.RegionHeld3
namespace Go.Proofs.Ytkeaobjcfkmjmaa
open Go.RowKit
theorem Sl.sv {w : World} {A : Option Addr} {n : Nat} {gs : List Sv} (h : Sl cr 1 w A n gs) {i : Nat} (hi : i < n) : ∃ b o g, A = some ⟨b, o, none⟩ ∧ gs[i]? = some g ∧ ∀ W, Bl w W → W.cell? ⟨b, o + i, none⟩ = some (.slice (some ⟨g, 0, none⟩) 2 2) := by
  obtain ⟨b, o, x, e, hx, hc⟩ := h.at_ hi
  refine ⟨b, o, x, e, hx, Bl.all ?_⟩
  have := hc 0 _ rfl
  rwa [Nat.mul_one, Nat.add_zero] at this
set_option maxRecDepth 100000 in
set_option maxHeartbeats 4000000 in
theorem l7Pairs_any (A C : Option Addr) (n c p f : Nat) (l : List Cargo) (cs : List Int) (w : World) (h : Sl Cargo.cs 3 w A n l) (hc : Sl ci 1 w C p cs) (hok : rowOk l cs = true) :
    Calls Try.prog 72 #[.slice A n c, .slice C p f] w fun e w' => ∃ T, T.Perm (pairsTo (prS l cs) l.length l.length 0) ∧ T.Pairwise (Asc pLt) ∧ NewTab T (fun v => v) w e w' := by
  have hok2 := hok
  simp only [rowOk, Bool.and_eq_true, decide_eq_true_eq] at hok2
  obtain ⟨h1, h2, h3⟩ := hok2
  have h6 := cargo_len h2
  rw [h.1] at h6
  have hpn : p = n := by have := hc.1; have := h.1; omega
  subst hpn
  have HL := Lib.hid h.1
  have HC := Lib.hid hc.1
  have HOK := Lib.hid h2
  have HCO := Lib.hid h1
  have HMR := Lib.hid (made_at cr 1 w 36 w.heap.size _ rfl (Nat.le_refl _))
  have hb3 := (Bl.refl w).alloc (.cells #[] 36)
  clear h1 h2 h3 hok
  go_enter Try.func72, Try.ntmps72
  go_wp2_with fail
  go_loopw [5, 6, 7, 8, 9, 10] (fun u v _ _ _ _ wr => ∃ (j : Nat) (D m e : Nat) (gs : List Sv) (T : List (Int × Int)), j ≤ p ∧ v = .int .i64 j ∧ u = .slice (some ⟨D, 0, none⟩) m e ∧ m ≤ 6 * j ∧ Bl w wr ∧ Hid (wr.ownsRow w.heap.size 36 1 (.slice (some ⟨D, 0, none⟩) m e) m (gs.flatMap cr)) ∧ Hid (gs.length = m) ∧ Hid (In w.heap.size wr gs T) ∧ Hid (T.Perm (pairsTo (prS l cs) p j 0)) ∧ Hid (T.Pairwise (Asc pLt))) (fun _ v _ _ _ _ _ => p - (intOf v).toNat)
  case atStart => exact ⟨0, _, 0, 0, [], [], Nat.zero_le _, rfl, rfl, by omega, hb3, HMR.out, rfl, In.nil, List.Perm.refl _, List.Pairwise.nil⟩
  case round =>
    clear HMR hb3
    obtain ⟨j, D, m, e, gs, T, hj, rfl, rfl, hm, hb, HO, HG, HI, HT, HW⟩ := hrel
    by_cases hlt : j < p
    · have HT2 : Hid (T.Perm (pairsTo (prS l cs) p j 0)) := HT
      go_wp2_with fail
      go_loopw [5, 7, 8, 9, 10] (fun u v _ _ _ wx => ∃ (k : Nat) (D m e : Nat) (gs : List Sv) (T : List (Int × Int)), k ≤ p ∧ v = .int .i64 k ∧ u = .slice (some ⟨D, 0, none⟩) m e ∧ m ≤ 6 * j + k ∧ Bl w wx ∧ Hid (wx.ownsRow w.heap.size 36 1 (.slice (some ⟨D, 0, none⟩) m e) m (gs.flatMap cr)) ∧ Hid (gs.length = m) ∧ Hid (In w.heap.size wx gs T) ∧ Hid (T.Perm (pairsTo (prS l cs) p j k)) ∧ Hid (T.Pairwise (Asc pLt))) (fun _ v _ _ _ _ => p - (intOf v).toNat)
      case atStart => exact ⟨0, D, m, e, gs, T, Nat.zero_le _, rfl, rfl, by omega, hb, HO.out, HG.out, HI.out, HT2.out, HW.out⟩
      case round =>
        clear HO HG HI HT HT2 HW hm hb
        obtain ⟨k, D, m, e, gs, T, hk, rfl, rfl, hm, hb, HO, HG, HI, HT, HW⟩ := hrel
        by_cases hlt2 : k < p
        · obtain ⟨b1, o1, a, rfl, ea, a1, a2, a3⟩ := h.Cargo hlt
          obtain ⟨b6, o6, q, hA6, eq, q1, q2, q3⟩ := h.Cargo hlt2
          injection hA6 with hA6; injection hA6 with hA6 hA6'; subst hA6 hA6'
          obtain ⟨b5, o5, x, rfl, ex, x1⟩ := hc.int hlt
          obtain ⟨b7, o7, y, hA7, ey, y1⟩ := hc.int hlt2
          injection hA7 with hA7; injection hA7 with hA7 hA7'; subst hA7 hA7'
          obtain ⟨⟨ai0, ai1⟩, ⟨al0, al1⟩, ac0, ac1⟩ := cargo_at HOK.out ea
          obtain ⟨⟨qi0, qi1⟩, ⟨ql0, ql1⟩, qc0, qc1⟩ := cargo_at HOK.out eq
          have EA := Lib.hid ea
          have EQ := Lib.hid eq
          have EX := Lib.hid ex
          have EY := Lib.hid ey
          obtain ⟨bx0, bx1⟩ := cells_at HCO.out ex
          obtain ⟨by0, by1⟩ := cells_at HCO.out ey
          obtain ⟨ai, al, ac⟩ := a
          obtain ⟨qi, ql, qc⟩ := q
          simp only at ai0 ai1 al0 al1 ac0 ac1 qi0 qi1 ql0 ql1 qc0 qc1 a1 a2 a3 q1 q2 q3
          have HGAP := Lib.hid (fun W => l7Gap_any ac qc W ac0 ac1 qc0 qc1)
          have r1 : (0 : Int) ≤ (k : Int) := by omega
          have r2 : (k : Int) < (p : Int) := by omega
          have r3 : (0 : Int) ≤ (j : Int) := by omega
          have r4 : (j : Int) < (p : Int) := by omega
          have P0 : ∀ V, Bl wr V → V.cell? ⟨b1, o1 + j * 3, none⟩ = some (.int .i64 ai) := fun V hV => a1 V (hb.trans hV)
          have P1 : ∀ V, Bl wr V → V.cell? ⟨b1, o1 + j * 3 + 1, none⟩ = some (.int .i64 al) := fun V hV => a2 V (hb.trans hV)
          have P2 : ∀ V, Bl wr V → V.cell? ⟨b1, o1 + j * 3 + 2, none⟩ = some (.int .i64 ac) := fun V hV => a3 V (hb.trans hV)
          have P3 : ∀ V, Bl wr V → V.cell? ⟨b1, o1 + k * 3, none⟩ = some (.int .i64 qi) := fun V hV => q1 V (hb.trans hV)
          have P4 : ∀ V, Bl wr V → V.cell? ⟨b1, o1 + k * 3 + 1, none⟩ = some (.int .i64 ql) := fun V hV => q2 V (hb.trans hV)
          have P5 : ∀ V, Bl wr V → V.cell? ⟨b1, o1 + k * 3 + 2, none⟩ = some (.int .i64 qc) := fun V hV => q3 V (hb.trans hV)
          have P6 : ∀ V, Bl wr V → V.cell? ⟨b5, o5 + j, none⟩ = some (.int .i64 x) := fun V hV => x1 V (hb.trans hV)
          have P7 : ∀ V, Bl wr V → V.cell? ⟨b5, o5 + k, none⟩ = some (.int .i64 y) := fun V hV => y1 V (hb.trans hV)
          clear a1 a2 a3 q1 q2 q3 x1 y1 ea eq ex ey
          have hbw := hb
          go_wp2_with fail
          refine region_bl (by kernel_rfl) (by kernel_rfl) (Bl.refl wr) ?_
          repeat' (first | go_big_quiet_skip | (go_big_quiet_want; go_simp; (try go_bits); first | (refine ⟨_, fun _ _ => rfl, ?_⟩; go_big_quiet_on) | (apply Exists.intro; refine ⟨fun W hW => ?_, ?_⟩; (· go_simp; (try go_bits); rfl); go_big_quiet_on)))
          apply wpQuiet_nil
          intro W hb
          have hbw1 := hbw.trans hb
          have HO1 := Lib.hid (hb.own HO.out)
          have HI1 := Lib.hid (HI.out.bl hb)
          replace P0 : ∀ V, Bl W V → V.cell? ⟨b1, o1 + j * 3, none⟩ = some (.int .i64 ai) := fun V hV => P0 V (hb.trans hV)
          replace P1 : ∀ V, Bl W V → V.cell? ⟨b1, o1 + j * 3 + 1, none⟩ = some (.int .i64 al) := fun V hV => P1 V (hb.trans hV)
          replace P2 : ∀ V, Bl W V → V.cell? ⟨b1, o1 + j * 3 + 2, none⟩ = some (.int .i64 ac) := fun V hV => P2 V (hb.trans hV)
          replace P3 : ∀ V, Bl W V → V.cell? ⟨b1, o1 + k * 3, none⟩ = some (.int .i64 qi) := fun V hV => P3 V (hb.trans hV)
          replace P4 : ∀ V, Bl W V → V.cell? ⟨b1, o1 + k * 3 + 1, none⟩ = some (.int .i64 ql) := fun V hV => P4 V (hb.trans hV)
          replace P5 : ∀ V, Bl W V → V.cell? ⟨b1, o1 + k * 3 + 2, none⟩ = some (.int .i64 qc) := fun V hV => P5 V (hb.trans hV)
          replace P6 : ∀ V, Bl W V → V.cell? ⟨b5, o5 + j, none⟩ = some (.int .i64 x) := fun V hV => P6 V (hb.trans hV)
          replace P7 : ∀ V, Bl W V → V.cell? ⟨b5, o5 + k, none⟩ = some (.int .i64 y) := fun V hV => P7 V (hb.trans hV)
          have HN : Hid (¬ (ai < qi ∧ unsafeB ⟨ai, al, ac⟩ ⟨qi, ql, qc⟩ x y = true) → pairsTo (prS l cs) p j (k + 1) = pairsTo (prS l cs) p j k) := fun hu => pairs_none _ _ _ _ (by
            cases e : prS l cs j k with
            | none => rfl
            | some z =>
              obtain ⟨a', b', x', y', ha, hb', hx', hy', h8, h9, _⟩ := prS_iff.1 e
              rw [EA.out] at ha; rw [EQ.out] at hb'; rw [EX.out] at hx'; rw [EY.out] at hy'
              obtain rfl := Option.some.inj ha; obtain rfl := Option.some.inj hb'; obtain rfl := Option.some.inj hx'; obtain rfl := Option.some.inj hy'
              exact absurd ⟨h8, h9⟩ hu)
          have HS : Hid (ai < qi → unsafeB ⟨ai, al, ac⟩ ⟨qi, ql, qc⟩ x y = true → pairsTo (prS l cs) p j (k + 1) = pairsTo (prS l cs) p j k ++ [(ai, qi)]) := fun hi hu => pairs_some _ _ _ _ (prS_iff.2 ⟨_, _, _, _, EA.out, EQ.out, EX.out, EY.out, hi, hu, rfl⟩)
          clear HO HI hbw hb
          by_cases hid : qi ≤ ai
          · have HT7 : Hid (T.Perm (pairsTo (prS l cs) p j (k + 1))) := by show List.Perm _ _; rw [HN.out (fun h => by omega)]; exact HT.out
            clear HN HS HT P0 P1 P2 P3 P4 P5 P6 P7
            go_wp2_with fail
            first | exact ⟨⟨k + 1, D, m, e, gs, T, by omega, by go_num, rfl, by omega, hbw1, HO1.out, HG.out, HI1.out, HT7.out, HW.out⟩, by simp [intOf]; omega⟩ | (refine ⟨?_, by simp [intOf]; omega⟩; (repeat apply Exists.intro); exact ⟨⟨k + 1, D, m, e, gs, T, by omega, by go_num, rfl, by omega, hbw1, HO1.out, HG.out, HI1.out, HT7.out, HW.out⟩, rfl⟩)
          · have hid2 : ¬ (ai ≥ qi) := hid
            have hlt9 : ai < qi := by omega
            have HU : Hid (unsafeB ⟨ai, al, ac⟩ ⟨qi, ql, qc⟩ x y = decide (max (y - x - al) (x - y - ql) < gapZ ac qc)) := by
              show _ = _
              rw [unsafeB, ← Bool.decide_and]
              congr 1
              simp only [eq_iff_iff]
              omega
            have H9 := Lib.hid (fun W => same_bl (l1Most_any (y - x - al) (x - y - ql) W))
            have H10 := Lib.hid (fun W => same_bl (HGAP.out W))
            have k1 : IntKind.i64.wrap (y - x) = y - x := IntWalk.i64_in _ (by omega)
            have k2 : IntKind.i64.wrap (y - x - al) = y - x - al := IntWalk.i64_in _ (by omega)
            have k3 : IntKind.i64.wrap (x - y) = x - y := IntWalk.i64_in _ (by omega)
            have k4 : IntKind.i64.wrap (x - y - ql) = x - y - ql := IntWalk.i64_in _ (by omega)
            go_wp2_with fail
            refine region_bl (by kernel_rfl) (by kernel_rfl) (Bl.refl W) ?_
            repeat' (first | go_big_quiet_skip | (go_big_quiet_want; go_simp; (try go_bits); first | (refine ⟨_, fun _ _ => rfl, ?_⟩; go_big_quiet_on) | (apply Exists.intro; (with_reducible refine ⟨fun W hW => ret_bl hW (H9.out W), ?_⟩); go_big_quiet_on) | (apply Exists.intro; refine ⟨fun W hW => ?_, ?_⟩; (· go_simp; (try go_bits); rfl); go_big_quiet_on)))
            apply wpQuiet_nil
            intro W hb
            have hbw2 := hbw1.trans hb
            have HO2 := Lib.hid (hb.own HO1.out)
            have HI2 := Lib.hid (HI1.out.bl hb)
            replace P0 : ∀ V, Bl W V → V.cell? ⟨b1, o1 + j * 3, none⟩ = some (.int .i64 ai) := fun V hV => P0 V (hb.trans hV)
            replace P1 : ∀ V, Bl W V → V.cell? ⟨b1, o1 + j * 3 + 1, none⟩ = some (.int .i64 al) := fun V hV => P1 V (hb.trans hV)
            replace P2 : ∀ V, Bl W V → V.cell? ⟨b1, o1 + j * 3 + 2, none⟩ = some (.int .i64 ac) := fun V hV => P2 V (hb.trans hV)
            replace P3 : ∀ V, Bl W V → V.cell? ⟨b1, o1 + k * 3, none⟩ = some (.int .i64 qi) := fun V hV => P3 V (hb.trans hV)
            replace P4 : ∀ V, Bl W V → V.cell? ⟨b1, o1 + k * 3 + 1, none⟩ = some (.int .i64 ql) := fun V hV => P4 V (hb.trans hV)
            replace P5 : ∀ V, Bl W V → V.cell? ⟨b1, o1 + k * 3 + 2, none⟩ = some (.int .i64 qc) := fun V hV => P5 V (hb.trans hV)
            clear H9 k1 k2 k3 k4 P6 P7 hb HO1 HI1 hbw1
            generalize gapZ ac qc = gz at HU H10
            generalize max (y - x - al) (x - y - ql) = gx at HU ⊢
            by_cases hgz : gz ≤ gx
            · have hgd : decide (gz ≤ gx) = true := by simpa using hgz
              have HT7 : Hid (T.Perm (pairsTo (prS l cs) p j (k + 1))) := by show List.Perm _ _; rw [HN.out (fun h => by have h9 := h.2; rw [HU.out] at h9; simp at h9; omega)]; exact HT.out
              clear HN HS HT HU P0 P1 P3 P4 hgz
              go_wp2_with fail
              refine region_bl (by kernel_rfl) (by kernel_rfl) (Bl.refl W) ?_
              repeat' (first | go_big_quiet_skip | (go_big_quiet_want; go_simp; (try go_bits); first | (refine ⟨_, fun _ _ => rfl, ?_⟩; go_big_quiet_on) | (apply Exists.intro; (with_reducible refine ⟨fun W hW => ret_bl hW (H10.out W), ?_⟩); go_big_quiet_on) | (apply Exists.intro; refine ⟨fun W hW => ?_, ?_⟩; (· go_simp; (try go_bits); rfl); go_big_quiet_on)))
              apply wpQuiet_nil
              intro W hb
              have hbw3 := hbw2.trans hb
              have HO3 := Lib.hid (hb.own HO2.out)
              have HI3 := Lib.hid (HI2.out.bl hb)
              clear hb hbw2 HO2 HI2 P2 P5
              go_wp2_with fail
              first | exact ⟨⟨k + 1, D, m, e, gs, T, by omega, by go_num, rfl, by omega, hbw3, HO3.out, HG.out, HI3.out, HT7.out, HW.out⟩, by simp [intOf]; omega⟩ | (refine ⟨?_, by simp [intOf]; omega⟩; (repeat apply Exists.intro); exact ⟨⟨k + 1, D, m, e, gs, T, by omega, by go_num, rfl, by omega, hbw3, HO3.out, HG.out, HI3.out, HT7.out, HW.out⟩, rfl⟩)
            · have hgd : decide (gz ≤ gx) = false := by simpa using hgz
              have HP := Lib.hid (HS.out hlt9 (by rw [HU.out]; simp; omega))
              clear HN HS HU P1 P4 hgz
              go_wp2_with fail
              refine region_bl (by kernel_rfl) (by kernel_rfl) (Bl.refl W) ?_
              repeat' (first | go_big_quiet_skip | (go_big_quiet_want; go_simp; (try go_bits); first | (refine ⟨_, fun _ _ => rfl, ?_⟩; go_big_quiet_on) | (apply Exists.intro; (with_reducible refine ⟨fun W hW => ret_bl hW (H10.out W), ?_⟩); go_big_quiet_on) | (apply Exists.intro; refine ⟨fun W hW => ?_, ?_⟩; (· go_simp; (try go_bits); rfl); go_big_quiet_on)))
              apply wpQuiet_nil
              intro W hb
              have hbw3 := hbw2.trans hb
              have HO3 := Lib.hid (hb.own HO2.out)
              have HI3 := Lib.hid (HI2.out.bl hb)
              replace P0 : ∀ V, Bl W V → V.cell? ⟨b1, o1 + j * 3, none⟩ = some (.int .i64 ai) := fun V hV => P0 V (hb.trans hV)
              replace P3 : ∀ V, Bl W V → V.cell? ⟨b1, o1 + k * 3, none⟩ = some (.int .i64 qi) := fun V hV => P3 V (hb.trans hV)
              clear hb hbw2 HO2 HI2 P2 P5 H10 hgd
              have y0 := P0 _ (Bl.refl _)
              have y1 := P3 _ (Bl.refl _)
              go_wp2_with fail
              go_region_held3 (fun V => V.cell? ⟨b1, o1 + j * 3, none⟩ = some (.int .i64 ai) ∧ V.cell? ⟨b1, o1 + k * 3, none⟩ = some (.int .i64 qi)) (first | (with_reducible assumption) | exact ⟨P0 _ (by repeat (first | with_reducible assumption | with_reducible exact Bl.refl _ | with_reducible apply Bl.drew | with_reducible apply Bl.alloc)), P3 _ (by repeat (first | with_reducible assumption | with_reducible exact Bl.refl _ | with_reducible apply Bl.drew | with_reducible apply Bl.alloc))⟩) (fail)
              all_goals
                have HB := Lib.hid (show (W.alloc (.cells #[.int .i64 ai, .int .i64 qi] 3)).drew.heap[W.heap.size]? = some (.cells #[.int .i64 ai, .int .i64 qi] 3 (0, 0)) from heap_alloc_new W _)
                have hbW : Bl W (W.alloc (.cells #[.int .i64 ai, .int .i64 qi] 3)).drew := ((Bl.refl W).alloc _).drew
                have HO4 := Lib.hid (hbW.own HO3.out)
                have HI4 := Lib.hid (HI3.out.bl hbW)
                have hbw4 := hbw3.trans hbW
                have HNG : Hid (W.heap.size ∉ gs) := fun hg => by obtain ⟨_, _, h9⟩ := HI3.out.ex hg; have := lt_of_block h9; omega
                have hle9 : w.heap.size ≤ W.heap.size := hbw3.le
                clear P0 P3 y0 y1 HO3 HI3 hbw3 hbW
                generalize (W.alloc (.cells #[.int .i64 ai, .int .i64 qi] 3)).drew = W1 at *
                generalize W.heap.size = S at *
                obtain ⟨t0, t1⟩ := two_cell HB.out
                have hm9 : m ≤ 100 := by omega
                have hS := Sl.of_own cr_len HO4.out HG.out (by omega)
                have hcap := own_cap HO4.out
                clear bx0 bx1 by0 by1 ai0 ai1 al0 al1 ac0 ac1 qi0 qi1 ql0 ql1 qc0 qc1 hid hid2 hlt9 HGAP EA EQ EX EY HOK HCO r1 r2 r3 r4
                go_wp2_with fail
                go_loopw [10] (fun u wx => ∃ t : Nat, t ≤ m ∧ u = .int .i64 t ∧ Bl W1 wx ∧ Hid (∀ i y, i < t → T[i]? = some y → pLt y (ai, qi) = true)) (fun u _ => m - (intOf u).toNat)
                case atStart => exact ⟨0, Nat.zero_le _, rfl, Bl.refl _, fun i y hi => absurd hi (by omega)⟩
                case round =>
                  obtain ⟨t, ht, rfl, hbx, HLO⟩ := hrel
                  by_cases htm : t < m
                  · obtain ⟨b8, o8, g, hA8, eg, g1⟩ := Sl.sv hS htm
                    injection hA8 with hA8; injection hA8 with hA8 hA8'; subst hA8 hA8'
                    obtain ⟨g', pr, e1, e2, _, hg⟩ := HI4.out.get (show t < gs.length by rw [HG.out]; exact htm)
                    rw [eg] at e1; obtain rfl := Option.some.inj e1
                    obtain ⟨u, v⟩ := pr
                    obtain ⟨v0, v1⟩ := two_cell hg
                    simp only [Nat.zero_add] at g1 v0 v1
                    have Q0 : ∀ V, Bl W1 V → V.cell? ⟨D, t, none⟩ = some (.slice (some ⟨g, 0, none⟩) 2 2) := g1
                    have Q1 : ∀ V, Bl W1 V → V.cell? ⟨g, 0, none⟩ = some (.int .i64 u) := Bl.all v0
                    have Q2 : ∀ V, Bl W1 V → V.cell? ⟨g, 1, none⟩ = some (.int .i64 v) := Bl.all v1
                    have Q3 : ∀ V, Bl W1 V → V.cell? ⟨S, 0, none⟩ = some (.int .i64 ai) := Bl.all t0
                    have Q4 : ∀ V, Bl W1 V → V.cell? ⟨S, 1, none⟩ = some (.int .i64 qi) := Bl.all t1
                    have E2 := Lib.hid e2
                    clear e2 eg hg v0 v1 g1 t0 t1
                    have hl4 : (0 : Int) ≤ (t : Int) := by omega
                    have hl5 : (t : Int) < (m : Int) := by omega
                    by_cases hl : pLt (u, v) (ai, qi) = true
                    · have HLO2 : Hid (∀ i y, i < t + 1 → T[i]? = some y → pLt y (ai, qi) = true) := fun i y hi hy => by
                        by_cases e : i = t
                        · subst e; rw [E2.out] at hy; obtain rfl := Option.some.inj hy; exact hl
                        · exact HLO.out i y (by omega) hy
                      have hd : decide (u < ai) = true ∨ (decide (u < ai) = false ∧ (u == ai) = true ∧ decide (v < qi) = true) := by
                        simp only [pLt, Bool.or_eq_true, Bool.and_eq_true, decide_eq_true_eq] at hl
                        by_cases h1 : u < ai
                        · exact .inl (decide_eq_true h1)
                        · exact .inr ⟨decide_eq_false h1, by simpa using (by omega : u = ai), decide_eq_true (by omega)⟩
                      clear hl HLO E2
                      rcases hd with h1 | ⟨h1, h2, h3⟩
                      all_goals
                        go_wp2_with fail
                        refine region_bl (by kernel_rfl) (by kernel_rfl) hbx ?_
                        repeat' (first | go_big_quiet_skip | (go_big_quiet_want; go_simp; (try go_bits); first | (refine ⟨_, fun _ _ => rfl, ?_⟩; go_big_quiet_on) | (apply Exists.intro; refine ⟨fun W hW => ?_, ?_⟩; (· go_simp; (try go_bits); rfl); go_big_quiet_on)))
                        apply wpQuiet_nil
                        intro W hb
                        go_wp2_with fail
                        first | exact ⟨⟨t + 1, by omega, by go_num, hb, HLO2⟩, by simp [intOf]; omega⟩ | (refine ⟨?_, by simp [intOf]; omega⟩; (repeat apply Exists.intro); exact ⟨⟨t + 1, by omega, by go_num, hb, HLO2⟩, rfl⟩)
                    · have HHI : Hid (∀ y, T[t]? = some y → pLt y (ai, qi) = false) := fun y hy => by
                        rw [E2.out] at hy; obtain rfl := Option.some.inj hy; exact Bool.eq_false_iff.2 hl
                      have hd : (decide (u < ai) = false ∧ (u == ai) = false) ∨ (decide (u < ai) = false ∧ (u == ai) = true ∧ decide (v < qi) = false) := by
                        simp only [pLt, Bool.or_eq_true, Bool.and_eq_true, decide_eq_true_eq] at hl
                        by_cases h1 : u = ai
                        · exact .inr ⟨decide_eq_false (by omega), by simpa using h1, decide_eq_false (by omega)⟩
                        · exact .inl ⟨decide_eq_false (by omega), by simpa using h1⟩
                      clear hl E2
                      rcases hd with ⟨h1, h2⟩ | ⟨h1, h2, h3⟩
                      all_goals
                        go_wp2_with fail
                        refine region_bl (by kernel_rfl) (by kernel_rfl) hbx ?_
                        repeat' (first | go_big_quiet_skip | (go_big_quiet_want; go_simp; (try go_bits); first | (refine ⟨_, fun _ _ => rfl, ?_⟩; go_big_quiet_on) | (apply Exists.intro; refine ⟨fun W hW => ?_, ?_⟩; (· go_simp; (try go_bits); rfl); go_big_quiet_on)))
                        apply wpQuiet_nil
                        intro W hb
                        clear h1 h2 Q0 Q1 Q2 Q3 Q4
                        have HO5 := Lib.hid (hb.own HO4.out)
                        have HI5 := Lib.hid (HI4.out.bl hb)
                        have HB5 := Lib.hid (hb.one HB.out)
                        have hbw5 := hbw4.trans hb
                        have hle5 := hbw5.le
                        have hm6 : m ≤ 100 := by omega
                        have HS1 : Hid (∀ V, Bl W V → Sl cr 1 V (some ⟨D, 0, none⟩ : Option Addr) t (gs.take t)) := fun V hV => (hS.bl (hb.trans hV)).take_ ht
                        have HS2 : Hid (∀ V, Bl W V → Sl cr 1 V (if e = t then (some ⟨D, 0, none⟩ : Option Addr) else (some ⟨D, t, none⟩ : Option Addr)) (m - t) (gs.drop t)) := fun V hV => by
                          have h9 := (hS.bl (hb.trans hV)).drop_ ht hcap
                          have e9 : (some ⟨D, 0, none⟩ : Option Addr).map (fun a => a.add (t * 1)) = (some ⟨D, t, none⟩ : Option Addr) := by simp [Addr.add_lit]
                          rw [e9] at h9
                          exact h9
                        have HIP : Hid (∀ V, Bl W V → In w.heap.size V ((gs.take t ++ [S]) ++ gs.drop t) ((T.take t ++ [(ai, qi)]) ++ T.drop t)) := fun V hV => (HI5.out.bl hV).put (by rw [HG.out]; exact ht) hle9 (hV.one HB5.out) HNG.out
                        have HGL : Hid (((gs.take t ++ [S]) ++ gs.drop t).length = m + 1) := by show _ = _; have h9 := HG.out; simp; omega
                        have HTP : Hid (((T.take t ++ [(ai, qi)]) ++ T.drop t).Perm (pairsTo (prS l cs) p j (k + 1))) := by show List.Perm _ _; rw [HP.out]; exact (put_perm T (ai, qi) t).trans (HT.out.append_right _)
                        have HTS : Hid (((T.take t ++ [(ai, qi)]) ++ T.drop t).Pairwise (Asc pLt)) := put_sorted HW.out HLO.out HHI.out
                        have k4 : (t : Int) ≤ (e : Int) := by omega
                        have k3 : (t : Int) ≤ (m : Int) := by omega
                        have k5 : (0 : Int) ≤ (t : Int) := by omega
                        have k6 : (m : Int) ≤ (e : Int) := by omega
                        clear HO4 HI4 HB hb HI5 HB5 HNG HLO HHI HT HW HP hS HG HO5 hbw4
                        generalize (T.take t ++ [(ai, qi)]) ++ T.drop t = T2 at HIP HTP HTS
                        go_wp2_with fail
                        have XBA : Hid (Bl W ((W.alloc (.cells #[] 36)).drew)) := ((Bl.refl W).alloc _).drew
                        have XBB : Hid (Bl W (((W.alloc (.cells #[] 36)).alloc (.cells #[.slice (some ⟨S, 0, none⟩) 2 2] 36)).drew)) := (((Bl.refl W).alloc _).alloc _).drew
                        have XBC : Hid (Bl W (((W.alloc (.cells #[.slice (some ⟨S, 0, none⟩) 2 2] 36)).alloc (.cells #[] 36)).drew)) := (((Bl.refl W).alloc _).alloc _).drew
                        have XZA := Lib.hid XBA.out.le
                        have XZB := Lib.hid XBB.out.le
                        have XZC := Lib.hid XBC.out.le
                        have XOA : Hid (World.ownsRow ((W.alloc (.cells #[] 36)).drew) W.heap.size 36 1 (.slice (some ⟨W.heap.size, 0, none⟩) 0 0) 0 (([] : List Sv).flatMap cr)) := (made_at cr 1 W 36 W.heap.size _ rfl (Nat.le_refl _)).drew
                        have XOB : Hid (World.ownsRow (((W.alloc (.cells #[] 36)).alloc (.cells #[.slice (some ⟨S, 0, none⟩) 2 2] 36)).drew) W.heap.size 36 1 (.slice (some ⟨W.heap.size, 0, none⟩) 0 0) 0 (([] : List Sv).flatMap cr)) := (World.ownsRow.alloc (made_at cr 1 W 36 W.heap.size _ rfl (Nat.le_refl _)) _).drew
                        have XOC : Hid (World.ownsRow (((W.alloc (.cells #[.slice (some ⟨S, 0, none⟩) 2 2] 36)).alloc (.cells #[] 36)).drew) W.heap.size 36 1 (.slice (some ⟨W.heap.size + 1, 0, none⟩) 0 0) 0 (([] : List Sv).flatMap cr)) := (made_at cr 1 (W.alloc (.cells #[.slice (some ⟨S, 0, none⟩) 2 2] 36)) 36 W.heap.size _ (by simp) (by omega)).drew
                        have XIB : Hid (Sl cr 1 (((W.alloc (.cells #[] 36)).alloc (.cells #[.slice (some ⟨S, 0, none⟩) 2 2] 36)).drew) (some ⟨W.heap.size + 1, 0, none⟩) 1 [(S : Sv)]) := (slOneG cr 1 cr_len (W.alloc (.cells #[] 36)) 36 (S : Sv) _ rfl (W.heap.size + 1) (by simp)).drew
                        have XIC : Hid (Sl cr 1 (((W.alloc (.cells #[.slice (some ⟨S, 0, none⟩) 2 2] 36)).alloc (.cells #[] 36)).drew) (some ⟨W.heap.size, 0, none⟩) 1 [(S : Sv)]) := ((slOneG cr 1 cr_len W 36 (S : Sv) _ rfl W.heap.size rfl).bl ((Bl.refl _).alloc _)).drew
                        have XNB : Hid (∀ b o s, (some ⟨W.heap.size + 1, 0, none⟩ : Option Addr) = some ⟨b, o, s⟩ → some b ≠ (Value.slice (some ⟨W.heap.size, 0, none⟩) 0 0).ownBlock) := fun b o s e => by
                          injection e with e; injection e with e1; subst e1; intro e2; simp [Value.ownBlock] at e2
                        have XNC : Hid (∀ b o s, (some ⟨W.heap.size, 0, none⟩ : Option Addr) = some ⟨b, o, s⟩ → some b ≠ (Value.slice (some ⟨W.heap.size + 1, 0, none⟩) 0 0).ownBlock) := fun b o s e => by
                          injection e with e; injection e with e1; subst e1; intro e2; simp [Value.ownBlock] at e2
                        obtain ⟨i0, hi0, hz0, hz1, hz2⟩ := info_parts infoRow
                        go_region_held3 (fun _ => True) (trivial) (first | ((refine step_append_at (f := cr) (by rfl) _ _ _ (by rfl) W.heap.size 36 i0 _ 1 24 Try.underlying56 hi0 hz0 hz1 hz2 rfl (by omega) cr_len cr_one _ 0 [] XOA.out _ (t) _ (gs.take t) (HS1.out _ XBA.out) (by rfl) (by rfl) (by unfold maxLen; omega) (by omega) XZA.out ?_); intro B1 d1 N1 w1 hN ho1 hg1 hl1; obtain rfl : (t) = N1 := (by omega); clear hN; have hb1 := Bl.row XBA.out (Nat.le_refl _) XOA.out hg1; have hs1 := hb1.le; clear hl1) | ((refine step_append_at (f := cr) (by rfl) _ _ _ (by rfl) W.heap.size 36 i0 _ 1 24 Try.underlying56 hi0 hz0 hz1 hz2 rfl (by omega) cr_len cr_one _ 0 [] XOB.out _ (t) _ (gs.take t) (HS1.out _ XBB.out) (by rfl) (by rfl) (by unfold maxLen; omega) (by omega) XZB.out ?_); intro B1 d1 N1 w1 hN ho1 hg1 hl1; obtain rfl : (t) = N1 := (by omega); clear hN; have hb1 := Bl.row XBB.out (Nat.le_refl _) XOB.out hg1; have hs1 := hb1.le; clear hl1; have hI1 := XIB.out.grown hg1 XNB.out) | ((refine step_append_at (f := cr) (by rfl) _ _ _ (by rfl) W.heap.size 36 i0 _ 1 24 Try.underlying56 hi0 hz0 hz1 hz2 rfl (by omega) cr_len cr_one _ 0 [] XOC.out _ (t) _ (gs.take t) (HS1.out _ XBC.out) (by rfl) (by rfl) (by unfold maxLen; omega) (by omega) XZC.out ?_); intro B1 d1 N1 w1 hN ho1 hg1 hl1; obtain rfl : (t) = N1 := (by omega); clear hN; have hb1 := Bl.row XBC.out (Nat.le_refl _) XOC.out hg1; have hs1 := hb1.le; clear hl1; have hI1 := XIC.out.grown hg1 XNC.out) | ((refine step_append_at (f := cr) (by rfl) _ _ _ (by rfl) W.heap.size 36 i0 _ 1 24 Try.underlying56 hi0 hz0 hz1 hz2 rfl (by omega) cr_len cr_one _ (t) ([] ++ (gs.take t)) (World.ownsRow.alloc ho1 _) _ 1 _ [(S : Sv)] (slOneG cr 1 cr_len w1 36 (S : Sv) _ rfl _ rfl) (by rfl) (by rfl) (by unfold maxLen; omega) (by omega) (by simp; omega) ?_); intro B2 d2 N2 w2 hN ho2 hg2 hl2; obtain rfl : (t) + 1 = N2 := (by omega); clear hN; have hb2 := Bl.row (hb1.alloc _) (Nat.le_refl _) (World.ownsRow.alloc ho1 _) hg2; clear hl2; have hs2 := hb2.le) | ((refine step_append_at (f := cr) (by rfl) _ _ _ (by rfl) W.heap.size 36 i0 _ 1 24 Try.underlying56 hi0 hz0 hz1 hz2 rfl (by omega) cr_len cr_one _ (t) ([] ++ (gs.take t)) ho1 _ 1 _ [(S : Sv)] hI1 (by rfl) (by rfl) (by unfold maxLen; omega) (by omega) hs1 ?_); intro B2 d2 N2 w2 hN ho2 hg2 hl2; obtain rfl : (t) + 1 = N2 := (by omega); clear hN; have hb2 := Bl.row hb1 (Nat.le_refl _) ho1 hg2; clear hl2; have hs2 := hb2.le) | ((refine step_append_at (f := cr) (by rfl) _ _ _ (by rfl) W.heap.size 36 i0 _ 1 24 Try.underlying56 hi0 hz0 hz1 hz2 rfl (by omega) cr_len cr_one _ ((t) + 1) (([] ++ (gs.take t)) ++ [(S : Sv)]) ho2 _ (m - t) _ (gs.drop t) (HS2.out _ hb2) (by rfl) (by rfl) (by unfold maxLen; omega) (by omega) hs2 ?_); intro CX dX NX wX hN hoX hgX hlX; obtain rfl : m + 1 = NX := (by omega); clear hN; have hbx := Bl.row hb2 (Nat.le_refl _) ho2 hgX; have HOX := Lib.hid hoX; clear hoX hlX))
                        all_goals
                          rcases own_forms HOX.out with ⟨rfl, h0, _, _⟩ | ⟨g3, rfl⟩
                          · omega
                          have HOX1 : Hid (wX.ownsRow w.heap.size 36 1 (.slice (some ⟨g3, 0, none⟩) (m + 1) dX) (m + 1) (((gs.take t ++ [S]) ++ gs.drop t).flatMap cr)) := own_mono HOX.out hle5
                          have HIX := Lib.hid (HIP.out _ hbx)
                          have hbE := hbw5.trans hbx
                          clear XBA XBB XBC XZA XZB XZC XOA XOB XOC XIB XIC XNB XNC HS1 HS2 HOX HIP hbx hbw5
                          generalize (if e = t then (some ⟨D, 0, none⟩ : Option Addr) else (some ⟨D, t, none⟩ : Option Addr)) = RA
                          generalize (gs.take t ++ [S]) ++ gs.drop t = gs2 at HOX1 HIX HGL
                          go_wp2_with fail
                          first | exact ⟨⟨k + 1, g3, m + 1, dX, gs2, T2, by omega, by go_num, rfl, by omega, hbE, HOX1.out, HGL.out, HIX.out, HTP.out, HTS.out⟩, by simp [intOf]; omega⟩ | (refine ⟨?_, by simp [intOf]; omega⟩; (repeat apply Exists.intro); exact ⟨⟨k + 1, g3, m + 1, dX, gs2, T2, by omega, by go_num, rfl, by omega, hbE, HOX1.out, HGL.out, HIX.out, HTP.out, HTS.out⟩, rfl⟩)
                  · have HHI : Hid (∀ y, T[t]? = some y → pLt y (ai, qi) = false) := fun y hy => by
                      have h9 := (List.getElem?_eq_some_iff.1 hy).1
                      have h8 := HI4.out.len
                      have h7 := HG.out
                      omega
                    have hnt : decide ((t : Int) < (m : Int)) = false := by simp; omega
                    clear t0 t1
                    go_wp2_with fail
                    refine region_bl (by kernel_rfl) (by kernel_rfl) hbx ?_
                    repeat' (first | go_big_quiet_skip | (go_big_quiet_want; go_simp; (try go_bits); first | (refine ⟨_, fun _ _ => rfl, ?_⟩; go_big_quiet_on) | (apply Exists.intro; refine ⟨fun W hW => ?_, ?_⟩; (· go_simp; (try go_bits); rfl); go_big_quiet_on)))
                    apply wpQuiet_nil
                    intro W hb
                    clear hnt
                    have HO5 := Lib.hid (hb.own HO4.out)
                    have HI5 := Lib.hid (HI4.out.bl hb)
                    have HB5 := Lib.hid (hb.one HB.out)
                    have hbw5 := hbw4.trans hb
                    have hle5 := hbw5.le
                    have hm6 : m ≤ 100 := by omega
                    have HS1 : Hid (∀ V, Bl W V → Sl cr 1 V (some ⟨D, 0, none⟩ : Option Addr) t (gs.take t)) := fun V hV => (hS.bl (hb.trans hV)).take_ ht
                    have HS2 : Hid (∀ V, Bl W V → Sl cr 1 V (if e = t then (some ⟨D, 0, none⟩ : Option Addr) else (some ⟨D, t, none⟩ : Option Addr)) (m - t) (gs.drop t)) := fun V hV => by
                      have h9 := (hS.bl (hb.trans hV)).drop_ ht hcap
                      have e9 : (some ⟨D, 0, none⟩ : Option Addr).map (fun a => a.add (t * 1)) = (some ⟨D, t, none⟩ : Option Addr) := by simp [Addr.add_lit]
                      rw [e9] at h9
                      exact h9
                    have HIP : Hid (∀ V, Bl W V → In w.heap.size V ((gs.take t ++ [S]) ++ gs.drop t) ((T.take t ++ [(ai, qi)]) ++ T.drop t)) := fun V hV => (HI5.out.bl hV).put (by rw [HG.out]; exact ht) hle9 (hV.one HB5.out) HNG.out
                    have HGL : Hid (((gs.take t ++ [S]) ++ gs.drop t).length = m + 1) := by show _ = _; have h9 := HG.out; simp; omega
                    have HTP : Hid (((T.take t ++ [(ai, qi)]) ++ T.drop t).Perm (pairsTo (prS l cs) p j (k + 1))) := by show List.Perm _ _; rw [HP.out]; exact (put_perm T (ai, qi) t).trans (HT.out.append_right _)
                    have HTS : Hid (((T.take t ++ [(ai, qi)]) ++ T.drop t).Pairwise (Asc pLt)) := put_sorted HW.out HLO.out HHI.out
                    have k4 : (t : Int) ≤ (e : Int) := by omega
                    have k3 : (t : Int) ≤ (m : Int) := by omega
                    have k5 : (0 : Int) ≤ (t : Int) := by omega
                    have k6 : (m : Int) ≤ (e : Int) := by omega
                    clear HO4 HI4 HB hb HI5 HB5 HNG HLO HHI HT HW HP hS HG HO5 hbw4
                    generalize (T.take t ++ [(ai, qi)]) ++ T.drop t = T2 at HIP HTP HTS
                    go_wp2_with fail
                    have XBA : Hid (Bl W ((W.alloc (.cells #[] 36)).drew)) := ((Bl.refl W).alloc _).drew
                    have XBB : Hid (Bl W (((W.alloc (.cells #[] 36)).alloc (.cells #[.slice (some ⟨S, 0, none⟩) 2 2] 36)).drew)) := (((Bl.refl W).alloc _).alloc _).drew
                    have XBC : Hid (Bl W (((W.alloc (.cells #[.slice (some ⟨S, 0, none⟩) 2 2] 36)).alloc (.cells #[] 36)).drew)) := (((Bl.refl W).alloc _).alloc _).drew
                    have XZA := Lib.hid XBA.out.le
                    have XZB := Lib.hid XBB.out.le
                    have XZC := Lib.hid XBC.out.le
                    have XOA : Hid (World.ownsRow ((W.alloc (.cells #[] 36)).drew) W.heap.size 36 1 (.slice (some ⟨W.heap.size, 0, none⟩) 0 0) 0 (([] : List Sv).flatMap cr)) := (made_at cr 1 W 36 W.heap.size _ rfl (Nat.le_refl _)).drew
                    have XOB : Hid (World.ownsRow (((W.alloc (.cells #[] 36)).alloc (.cells #[.slice (some ⟨S, 0, none⟩) 2 2] 36)).drew) W.heap.size 36 1 (.slice (some ⟨W.heap.size, 0, none⟩) 0 0) 0 (([] : List Sv).flatMap cr)) := (World.ownsRow.alloc (made_at cr 1 W 36 W.heap.size _ rfl (Nat.le_refl _)) _).drew
                    have XOC : Hid (World.ownsRow (((W.alloc (.cells #[.slice (some ⟨S, 0, none⟩) 2 2] 36)).alloc (.cells #[] 36)).drew) W.heap.size 36 1 (.slice (some ⟨W.heap.size + 1, 0, none⟩) 0 0) 0 (([] : List Sv).flatMap cr)) := (made_at cr 1 (W.alloc (.cells #[.slice (some ⟨S, 0, none⟩) 2 2] 36)) 36 W.heap.size _ (by simp) (by omega)).drew
                    have XIB : Hid (Sl cr 1 (((W.alloc (.cells #[] 36)).alloc (.cells #[.slice (some ⟨S, 0, none⟩) 2 2] 36)).drew) (some ⟨W.heap.size + 1, 0, none⟩) 1 [(S : Sv)]) := (slOneG cr 1 cr_len (W.alloc (.cells #[] 36)) 36 (S : Sv) _ rfl (W.heap.size + 1) (by simp)).drew
                    have XIC : Hid (Sl cr 1 (((W.alloc (.cells #[.slice (some ⟨S, 0, none⟩) 2 2] 36)).alloc (.cells #[] 36)).drew) (some ⟨W.heap.size, 0, none⟩) 1 [(S : Sv)]) := ((slOneG cr 1 cr_len W 36 (S : Sv) _ rfl W.heap.size rfl).bl ((Bl.refl _).alloc _)).drew
                    have XNB : Hid (∀ b o s, (some ⟨W.heap.size + 1, 0, none⟩ : Option Addr) = some ⟨b, o, s⟩ → some b ≠ (Value.slice (some ⟨W.heap.size, 0, none⟩) 0 0).ownBlock) := fun b o s e => by
                      injection e with e; injection e with e1; subst e1; intro e2; simp [Value.ownBlock] at e2
                    have XNC : Hid (∀ b o s, (some ⟨W.heap.size, 0, none⟩ : Option Addr) = some ⟨b, o, s⟩ → some b ≠ (Value.slice (some ⟨W.heap.size + 1, 0, none⟩) 0 0).ownBlock) := fun b o s e => by
                      injection e with e; injection e with e1; subst e1; intro e2; simp [Value.ownBlock] at e2
                    obtain ⟨i0, hi0, hz0, hz1, hz2⟩ := info_parts infoRow
                    go_region_held3 (fun _ => True) (trivial) (first | ((refine step_append_at (f := cr) (by rfl) _ _ _ (by rfl) W.heap.size 36 i0 _ 1 24 Try.underlying56 hi0 hz0 hz1 hz2 rfl (by omega) cr_len cr_one _ 0 [] XOA.out _ (t) _ (gs.take t) (HS1.out _ XBA.out) (by rfl) (by rfl) (by unfold maxLen; omega) (by omega) XZA.out ?_); intro B1 d1 N1 w1 hN ho1 hg1 hl1; obtain rfl : (t) = N1 := (by omega); clear hN; have hb1 := Bl.row XBA.out (Nat.le_refl _) XOA.out hg1; have hs1 := hb1.le; clear hl1) | ((refine step_append_at (f := cr) (by rfl) _ _ _ (by rfl) W.heap.size 36 i0 _ 1 24 Try.underlying56 hi0 hz0 hz1 hz2 rfl (by omega) cr_len cr_one _ 0 [] XOB.out _ (t) _ (gs.take t) (HS1.out _ XBB.out) (by rfl) (by rfl) (by unfold maxLen; omega) (by omega) XZB.out ?_); intro B1 d1 N1 w1 hN ho1 hg1 hl1; obtain rfl : (t) = N1 := (by omega); clear hN; have hb1 := Bl.row XBB.out (Nat.le_refl _) XOB.out hg1; have hs1 := hb1.le; clear hl1; have hI1 := XIB.out.grown hg1 XNB.out) | ((refine step_append_at (f := cr) (by rfl) _ _ _ (by rfl) W.heap.size 36 i0 _ 1 24 Try.underlying56 hi0 hz0 hz1 hz2 rfl (by omega) cr_len cr_one _ 0 [] XOC.out _ (t) _ (gs.take t) (HS1.out _ XBC.out) (by rfl) (by rfl) (by unfold maxLen; omega) (by omega) XZC.out ?_); intro B1 d1 N1 w1 hN ho1 hg1 hl1; obtain rfl : (t) = N1 := (by omega); clear hN; have hb1 := Bl.row XBC.out (Nat.le_refl _) XOC.out hg1; have hs1 := hb1.le; clear hl1; have hI1 := XIC.out.grown hg1 XNC.out) | ((refine step_append_at (f := cr) (by rfl) _ _ _ (by rfl) W.heap.size 36 i0 _ 1 24 Try.underlying56 hi0 hz0 hz1 hz2 rfl (by omega) cr_len cr_one _ (t) ([] ++ (gs.take t)) (World.ownsRow.alloc ho1 _) _ 1 _ [(S : Sv)] (slOneG cr 1 cr_len w1 36 (S : Sv) _ rfl _ rfl) (by rfl) (by rfl) (by unfold maxLen; omega) (by omega) (by simp; omega) ?_); intro B2 d2 N2 w2 hN ho2 hg2 hl2; obtain rfl : (t) + 1 = N2 := (by omega); clear hN; have hb2 := Bl.row (hb1.alloc _) (Nat.le_refl _) (World.ownsRow.alloc ho1 _) hg2; clear hl2; have hs2 := hb2.le) | ((refine step_append_at (f := cr) (by rfl) _ _ _ (by rfl) W.heap.size 36 i0 _ 1 24 Try.underlying56 hi0 hz0 hz1 hz2 rfl (by omega) cr_len cr_one _ (t) ([] ++ (gs.take t)) ho1 _ 1 _ [(S : Sv)] hI1 (by rfl) (by rfl) (by unfold maxLen; omega) (by omega) hs1 ?_); intro B2 d2 N2 w2 hN ho2 hg2 hl2; obtain rfl : (t) + 1 = N2 := (by omega); clear hN; have hb2 := Bl.row hb1 (Nat.le_refl _) ho1 hg2; clear hl2; have hs2 := hb2.le) | ((refine step_append_at (f := cr) (by rfl) _ _ _ (by rfl) W.heap.size 36 i0 _ 1 24 Try.underlying56 hi0 hz0 hz1 hz2 rfl (by omega) cr_len cr_one _ ((t) + 1) (([] ++ (gs.take t)) ++ [(S : Sv)]) ho2 _ (m - t) _ (gs.drop t) (HS2.out _ hb2) (by rfl) (by rfl) (by unfold maxLen; omega) (by omega) hs2 ?_); intro CX dX NX wX hN hoX hgX hlX; obtain rfl : m + 1 = NX := (by omega); clear hN; have hbx := Bl.row hb2 (Nat.le_refl _) ho2 hgX; have HOX := Lib.hid hoX; clear hoX hlX))
                    all_goals
                      rcases own_forms HOX.out with ⟨rfl, h0, _, _⟩ | ⟨g3, rfl⟩
                      · omega
                      have HOX1 : Hid (wX.ownsRow w.heap.size 36 1 (.slice (some ⟨g3, 0, none⟩) (m + 1) dX) (m + 1) (((gs.take t ++ [S]) ++ gs.drop t).flatMap cr)) := own_mono HOX.out hle5
                      have HIX := Lib.hid (HIP.out _ hbx)
                      have hbE := hbw5.trans hbx
                      clear XBA XBB XBC XZA XZB XZC XOA XOB XOC XIB XIC XNB XNC HS1 HS2 HOX HIP hbx hbw5
                      generalize (if e = t then (some ⟨D, 0, none⟩ : Option Addr) else (some ⟨D, t, none⟩ : Option Addr)) = RA
                      generalize (gs.take t ++ [S]) ++ gs.drop t = gs2 at HOX1 HIX HGL
                      go_wp2_with fail
                      first | exact ⟨⟨k + 1, g3, m + 1, dX, gs2, T2, by omega, by go_num, rfl, by omega, hbE, HOX1.out, HGL.out, HIX.out, HTP.out, HTS.out⟩, by simp [intOf]; omega⟩ | (refine ⟨?_, by simp [intOf]; omega⟩; (repeat apply Exists.intro); exact ⟨⟨k + 1, g3, m + 1, dX, gs2, T2, by omega, by go_num, rfl, by omega, hbE, HOX1.out, HGL.out, HIX.out, HTP.out, HTS.out⟩, rfl⟩)
        · have e9 : k = p := by omega
          have HT7 : Hid (T.Perm (pairsTo (prS l cs) p (j + 1) 0)) := by show List.Perm _ _; rw [pairs_next, ← e9]; have := HT.out; rw [e9] at this ⊢; exact this
          clear e9 HT
          go_wp2_with fail
          first | exact ⟨⟨j + 1, D, m, e, gs, T, by omega, by go_num, rfl, by omega, hb, HO.out, HG.out, HI.out, HT7.out, HW.out⟩, by simp [intOf]; omega⟩ | (refine ⟨?_, by simp [intOf]; omega⟩; (repeat apply Exists.intro); exact ⟨⟨j + 1, D, m, e, gs, T, by omega, by go_num, rfl, by omega, hb, HO.out, HG.out, HI.out, HT7.out, HW.out⟩, rfl⟩)
    · have e9 : j = p := by omega
      have HPP : Hid (T.Perm (pairsTo (prS l cs) l.length l.length 0)) := by show List.Perm _ _; rw [HL.out]; have := HT.out; rw [e9] at this; exact this
      have hm9 : m ≤ 1048576 := by omega
      clear e9 HT
      go_wp2_with fail
      go_ret
      exact ⟨T, HPP.out, HW.out, _, _, _, gs, rfl, HO.out, HG.out, HI.out, hm9, hb⟩
end Go.Proofs.Ytkeaobjcfkmjmaa
