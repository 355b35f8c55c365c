/- The contract of ShortestRow in the reference. -/
import Derived.Test.YtkeaobjcfkmjmaaC7f
namespace Go.Proofs.Ytkeaobjcfkmjmaa
open Go.RowKit
theorem ids_one {l : List Cargo} {k : Nat} {p : Cargo} (h : l[k]? = some p) : (l.take (k + 1)).map (·.Id) = (l.take k).map (·.Id) ++ [p.Id] := by
  rw [take_one h, List.map_append]; rfl
set_option maxRecDepth 100000 in
set_option maxHeartbeats 8000000 in
theorem specShortestRow_any (A : Option Addr) (n c : Nat) (l : List Cargo) (w : World) (h : Sl Cargo.cs 3 w A n l) :
    Calls Try.prog 40 #[.slice A n c] w (NewRes ci 1 3 (shortR l).1.1 (fun v => .tuple #[v, .int .i64 (shortR l).1.2, .bool (shortR l).2]) w) := by
  have HL := Lib.hid h.1
  have H1 := Lib.hid (fun W hl => l7Good_any A n c l W hl)
  have hmade := Lib.hid (made_at ci 1 w 3 w.heap.size _ rfl (Nat.le_refl _))
  have hb := (Bl.refl w).alloc (.cells #[] 3)
  cases h1 : cargoOk l
  · have HR := Lib.hid (show shortR l = (([], 0), false) by rw [shortR, if_neg (by simp [h1])])
    go_enter Try.func40, Try.ntmps40
    go_wp2_with fail
    refine (H1.out _ (h.bl hb)).mono ?_
    rintro e w1 ⟨rfl, hbn⟩
    have hm1 := hbn.own hmade.out
    simp only [h1]
    go_wp2_with fail
    go_ret3
    rw [HR.out]
    exact NewRes.of_own (R := ([] : List Int)) (F := fun v => .tuple #[v, _, _]) hm1 rfl (by omega) (hb.trans hbn)
  have h6 := cargo_len h1
  rw [HL.out] at h6
  have HR := Lib.hid (show shortR l = (((contC n [] (ascC l)).1.map (·.Id), (contC n [] (ascC l)).2), true) by rw [shortR, if_pos h1, HL.out])
  have HASC : Hid (ascC l = sortG idLt l n) := by show _ = _; rw [ascC, HL.out]
  have HPA := Lib.hid (asc_perm l)
  have HB := Lib.hid (contC_perm h1 n [] (ascC l) (asc_perm l) (by rw [(asc_perm l).length_eq, HL.out]))
  have HBL : Hid ((contC n [] (ascC l)).1.length = n) := by show _ = _; rw [HB.out.1.length_eq, HL.out]
  have H3 := Lib.hid (fun bs B d R pd W ho hr hpd hbs => l7Best_any l h1 n [] (ascC l) B 0 d R n pd bs W ho hr hpd hbs rfl (by rw [(asc_perm l).length_eq, HL.out]) (asc_perm l))
  have HSL := Lib.hid (fun k hk => sortG_len (r := idLt) (D := l) k hk)
  go_enter Try.func40, Try.ntmps40
  go_wp2_with fail
  refine (H1.out _ (h.bl hb)).mono ?_
  rintro e w1 ⟨rfl, hbn⟩
  have HM0 := Lib.hid (hbn.own hmade.out)
  have hb1 := hb.trans hbn
  simp only [h1]
  clear hb hbn hmade H1 h1
  have HM1 := Lib.hid (((Bl.refl w1).alloc (.cells #[] 50)).own HM0.out)
  have hb2 := hb1.alloc (.cells #[] 50)
  have HMR := Lib.hid (made_at Cargo.cs 3 w1 50 w.heap.size _ rfl hb1.le)
  go_wp2_with fail
  go_loopw [6, 7, 8] (fun u i _ wr => ∃ (k : Nat) (g : Nat) (c2 : Nat), k ≤ n ∧ i = .int .i64 k ∧ u = .slice (some ⟨g, 0, none⟩) k c2 ∧ Bl w wr ∧ Hid (wr.ownsRow w.heap.size 50 3 (.slice (some ⟨g, 0, none⟩) k c2) k ((sortG idLt l k).flatMap Cargo.cs)) ∧ Hid (wr.ownsRow w.heap.size 3 1 (.slice (some ⟨w.heap.size, 0, none⟩) 0 0) 0 (([] : List Int).flatMap ci))) (fun _ i _ _ => n - (intOf i).toNat)
  case atStart => exact ⟨0, _, 0, Nat.zero_le _, rfl, rfl, hb2, HMR.out, HM1.out⟩
  case round =>
    clear hb1 hb2 HM0 HM1 HMR
    obtain ⟨i, g, c2, hi, rfl, rfl, hb, HOR, HOUT⟩ := hrel
    by_cases hlt : i < n
    · have HO := Lib.hid (HSL.out i (by rw [HL.out]; omega))
      have hS := Sl.of_own Cargo.cs_len HOR.out HO.out (by omega)
      obtain ⟨b1, o1, x, rfl, ex, p1, p2, p3⟩ := h.Cargo hlt
      have HI := Lib.hid (sortG_one (r := idLt) ex)
      have hcap := own_cap HOR.out
      have hgu := ((own_lt HOR.out).out g rfl).2
      generalize sortG idLt l i = out at *
      have P1 : ∀ W, Bl wr W → W.cell? ⟨b1, o1 + i * 3, none⟩ = _ := fun W hW => p1 W (hb.trans hW)
      have P2 : ∀ W, Bl wr W → W.cell? ⟨b1, o1 + i * 3 + 1, none⟩ = _ := fun W hW => p2 W (hb.trans hW)
      have P3 : ∀ W, Bl wr W → W.cell? ⟨b1, o1 + i * 3 + 2, none⟩ = _ := fun W hW => p3 W (hb.trans hW)
      obtain ⟨wo, hwo⟩ : ∃ wo : World, wo = wr := ⟨_, rfl⟩
      subst hwo
      have hbw0 := hb
      obtain ⟨xa, xb, xc⟩ := x
      simp only at P1 P2 P3
      clear p1 p2 p3 ex
      go_wp2_with fail
      go_loopw [8] (fun u wx => ∃ j : Nat, j ≤ i ∧ u = .int .i64 j ∧ Bl wo wx ∧ Hid (posG idLt out ⟨xa, xb, xc⟩ i = posG idLt out ⟨xa, xb, xc⟩ j)) (fun u _ => (intOf u).toNat)
      case atStart => exact ⟨i, Nat.le_refl _, rfl, Bl.refl _, rfl⟩
      case round =>
        obtain ⟨j, hj, rfl, hbx, hp⟩ := hrel
        have hstop : Hid ((j = 0 ∨ ∃ y, out[j - 1]? = some y ∧ idLt ⟨xa, xb, xc⟩ y = false) → sortG idLt l (i + 1) = (([] ++ out.take j) ++ [⟨xa, xb, xc⟩]) ++ out.drop j) := by
          intro hs
          have e : posG idLt out ⟨xa, xb, xc⟩ out.length = j := by
            rw [HO.out, hp.out]
            rcases hs with h0 | ⟨y, ey, hy⟩
            · rw [h0]; rfl
            · by_cases h0 : j = 0
              · rw [h0]; rfl
              · exact posG_stop (by omega) ey hy
          rw [HI.out, insG, e]
          simp
        by_cases hj0 : j = 0
        · subst hj0
          have HE := Lib.hid (hstop.out (.inl rfl))
          clear hstop
          go_wp2_with fail
          refine region_bl (by kernel_rfl) (by kernel_rfl) hbx ?_
          repeat' (first | go_big_quiet_skip | (go_big_quiet_want; go_simp; (try go_bits); first | (refine ⟨_, fun _ _ => rfl, ?_⟩; go_big_quiet_on) | (apply Exists.intro; refine ⟨fun W hW => ?_, ?_⟩; (· go_simp; (try go_bits); rfl); go_big_quiet_on)))
          apply wpQuiet_nil
          intro W hb
          have hbW := hbw0.trans hb
          have hwsz := hbW.le
          have HS1 : Hid (∀ V, Bl W V → Sl Cargo.cs 3 V (some ⟨g, 0, none⟩ : Option Addr) 0 (out.take 0)) := fun V hV => (hS.bl (hb.trans hV)).take_ hj
          have HS2 : Hid (∀ V, Bl W V → Sl Cargo.cs 3 V (some ⟨g, 0, none⟩ : Option Addr) i (out.drop 0)) := fun V hV => hS.bl (hb.trans hV)
          have F0 : ∀ V, Bl W V → V.cell? ⟨b1, o1 + i * 3, none⟩ = _ := fun V hV => P1 V (hb.trans hV)
          have F1 : ∀ V, Bl W V → V.cell? ⟨b1, o1 + i * 3 + 1, none⟩ = _ := fun V hV => P2 V (hb.trans hV)
          have F2 : ∀ V, Bl W V → V.cell? ⟨b1, o1 + i * 3 + 2, none⟩ = _ := fun V hV => P3 V (hb.trans hV)
          have y1 := F0 _ (Bl.refl _)
          have y2 := F1 _ (Bl.refl _)
          have y3 := F2 _ (Bl.refl _)
          have k1 : (0 : Int) ≤ (i : Int) := by omega
          have k2 : (i : Int) < (n : Int) := by omega
          have k3 : (0 : Int) ≤ (i : Int) := by omega
          have k4 : (0 : Int) ≤ (c2 : Int) := by omega
          have k5 : (0 : Int) ≤ (0 : Int) := by omega
          have k6 : (i : Int) ≤ (c2 : Int) := by omega
          clear P1 P2 P3
          go_wp2_with fail
          have XBA : Hid (Bl W ((W.alloc (.cells #[] 50)).drew)) := ((Bl.refl W).alloc _).drew
          have XBB : Hid (Bl W (((W.alloc (.cells #[] 50)).alloc (.cells #[.int .i64 xa, .int .i64 xb, .int .i64 xc] 50)).drew)) := (((Bl.refl W).alloc _).alloc _).drew
          have XBC : Hid (Bl W (((W.alloc (.cells #[.int .i64 xa, .int .i64 xb, .int .i64 xc] 50)).alloc (.cells #[] 50)).drew)) := (((Bl.refl W).alloc _).alloc _).drew
          have XZA := Lib.hid XBA.out.le
          have XZB := Lib.hid XBB.out.le
          have XZC := Lib.hid XBC.out.le
          have XOA : Hid (World.ownsRow ((W.alloc (.cells #[] 50)).drew) W.heap.size 50 3 (.slice (some ⟨W.heap.size, 0, none⟩) 0 0) 0 (([] : List Cargo).flatMap Cargo.cs)) := (made_at Cargo.cs 3 W 50 W.heap.size _ rfl (Nat.le_refl _)).drew
          have XOB : Hid (World.ownsRow (((W.alloc (.cells #[] 50)).alloc (.cells #[.int .i64 xa, .int .i64 xb, .int .i64 xc] 50)).drew) W.heap.size 50 3 (.slice (some ⟨W.heap.size, 0, none⟩) 0 0) 0 (([] : List Cargo).flatMap Cargo.cs)) := (World.ownsRow.alloc (made_at Cargo.cs 3 W 50 W.heap.size _ rfl (Nat.le_refl _)) _).drew
          have XOC : Hid (World.ownsRow (((W.alloc (.cells #[.int .i64 xa, .int .i64 xb, .int .i64 xc] 50)).alloc (.cells #[] 50)).drew) W.heap.size 50 3 (.slice (some ⟨W.heap.size + 1, 0, none⟩) 0 0) 0 (([] : List Cargo).flatMap Cargo.cs)) := (made_at Cargo.cs 3 (W.alloc (.cells #[.int .i64 xa, .int .i64 xb, .int .i64 xc] 50)) 50 W.heap.size _ (by simp) (by omega)).drew
          have XIB : Hid (Sl Cargo.cs 3 (((W.alloc (.cells #[] 50)).alloc (.cells #[.int .i64 xa, .int .i64 xb, .int .i64 xc] 50)).drew) (some ⟨W.heap.size + 1, 0, none⟩) 1 [(⟨xa, xb, xc⟩ : Cargo)]) := (slOneG Cargo.cs 3 Cargo.cs_len (W.alloc (.cells #[] 50)) 50 (⟨xa, xb, xc⟩ : Cargo) _ rfl (W.heap.size + 1) (by simp)).drew
          have XIC : Hid (Sl Cargo.cs 3 (((W.alloc (.cells #[.int .i64 xa, .int .i64 xb, .int .i64 xc] 50)).alloc (.cells #[] 50)).drew) (some ⟨W.heap.size, 0, none⟩) 1 [(⟨xa, xb, xc⟩ : Cargo)]) := ((slOneG Cargo.cs 3 Cargo.cs_len W 50 (⟨xa, xb, xc⟩ : Cargo) _ rfl W.heap.size rfl).bl ((Bl.refl _).alloc _)).drew
          have XNB : Hid (∀ b o s, (some ⟨W.heap.size + 1, 0, none⟩ : Option Addr) = some ⟨b, o, s⟩ → some b ≠ (Value.slice (some ⟨W.heap.size, 0, none⟩) 0 0).ownBlock) := fun b o s e => by
            injection e with e; injection e with e1; subst e1; intro e2; simp [Value.ownBlock] at e2
          have XNC : Hid (∀ b o s, (some ⟨W.heap.size, 0, none⟩ : Option Addr) = some ⟨b, o, s⟩ → some b ≠ (Value.slice (some ⟨W.heap.size + 1, 0, none⟩) 0 0).ownBlock) := fun b o s e => by
            injection e with e; injection e with e1; subst e1; intro e2; simp [Value.ownBlock] at e2
          obtain ⟨i0, hi0, hz0, hz1, hz2⟩ := info_parts infoCargo
          go_region_held3 (fun V => V.cell? ⟨b1, o1 + i * 3, none⟩ = some (.int .i64 xa) ∧ V.cell? ⟨b1, o1 + i * 3 + 1, none⟩ = some (.int .i64 xb) ∧ V.cell? ⟨b1, o1 + i * 3 + 2, none⟩ = some (.int .i64 xc)) ((first | (with_reducible assumption) | exact ⟨F0 _ (by repeat (first | with_reducible assumption | with_reducible exact Bl.refl _ | with_reducible apply Bl.drew | with_reducible apply Bl.alloc)), F1 _ (by repeat (first | with_reducible assumption | with_reducible exact Bl.refl _ | with_reducible apply Bl.drew | with_reducible apply Bl.alloc)), F2 _ (by repeat (first | with_reducible assumption | with_reducible exact Bl.refl _ | with_reducible apply Bl.drew | with_reducible apply Bl.alloc))⟩)) (first | ((refine step_append_at (f := Cargo.cs) (by rfl) _ _ _ (by rfl) W.heap.size 50 i0 _ 3 24 Try.underlying28 hi0 hz0 hz1 hz2 rfl (by omega) Cargo.cs_len Cargo.one _ 0 [] XOA.out _ (0) _ (out.take 0) (HS1.out _ XBA.out) (by rfl) (by rfl) (by unfold maxLen; omega) (by omega) XZA.out ?_); intro B1 d1 N1 w1 hN ho1 hg1 hl1; obtain rfl : (0) = N1 := (by omega); clear hN; have hb1 := Bl.row XBA.out (Nat.le_refl _) XOA.out hg1; have hs1 := hb1.le; clear hl1) | ((refine step_append_at (f := Cargo.cs) (by rfl) _ _ _ (by rfl) W.heap.size 50 i0 _ 3 24 Try.underlying28 hi0 hz0 hz1 hz2 rfl (by omega) Cargo.cs_len Cargo.one _ 0 [] XOB.out _ (0) _ (out.take 0) (HS1.out _ XBB.out) (by rfl) (by rfl) (by unfold maxLen; omega) (by omega) XZB.out ?_); intro B1 d1 N1 w1 hN ho1 hg1 hl1; obtain rfl : (0) = N1 := (by omega); clear hN; have hb1 := Bl.row XBB.out (Nat.le_refl _) XOB.out hg1; have hs1 := hb1.le; clear hl1; have hI1 := XIB.out.grown hg1 XNB.out) | ((refine step_append_at (f := Cargo.cs) (by rfl) _ _ _ (by rfl) W.heap.size 50 i0 _ 3 24 Try.underlying28 hi0 hz0 hz1 hz2 rfl (by omega) Cargo.cs_len Cargo.one _ 0 [] XOC.out _ (0) _ (out.take 0) (HS1.out _ XBC.out) (by rfl) (by rfl) (by unfold maxLen; omega) (by omega) XZC.out ?_); intro B1 d1 N1 w1 hN ho1 hg1 hl1; obtain rfl : (0) = N1 := (by omega); clear hN; have hb1 := Bl.row XBC.out (Nat.le_refl _) XOC.out hg1; have hs1 := hb1.le; clear hl1; have hI1 := XIC.out.grown hg1 XNC.out) | ((refine step_append_at (f := Cargo.cs) (by rfl) _ _ _ (by rfl) W.heap.size 50 i0 _ 3 24 Try.underlying28 hi0 hz0 hz1 hz2 rfl (by omega) Cargo.cs_len Cargo.one _ (0) ([] ++ (out.take 0)) (World.ownsRow.alloc ho1 _) _ 1 _ [(⟨xa, xb, xc⟩ : Cargo)] (slOneG Cargo.cs 3 Cargo.cs_len w1 50 (⟨xa, xb, xc⟩ : Cargo) _ rfl _ rfl) (by rfl) (by rfl) (by unfold maxLen; omega) (by omega) (by simp; omega) ?_); intro B2 d2 N2 w2 hN ho2 hg2 hl2; obtain rfl : (0) + 1 = N2 := (by omega); clear hN; have hb2 := Bl.row (hb1.alloc _) (Nat.le_refl _) (World.ownsRow.alloc ho1 _) hg2; clear hl2; have hs2 := hb2.le) | ((refine step_append_at (f := Cargo.cs) (by rfl) _ _ _ (by rfl) W.heap.size 50 i0 _ 3 24 Try.underlying28 hi0 hz0 hz1 hz2 rfl (by omega) Cargo.cs_len Cargo.one _ (0) ([] ++ (out.take 0)) ho1 _ 1 _ [(⟨xa, xb, xc⟩ : Cargo)] hI1 (by rfl) (by rfl) (by unfold maxLen; omega) (by omega) hs1 ?_); intro B2 d2 N2 w2 hN ho2 hg2 hl2; obtain rfl : (0) + 1 = N2 := (by omega); clear hN; have hb2 := Bl.row hb1 (Nat.le_refl _) ho1 hg2; clear hl2; have hs2 := hb2.le) | ((refine step_append_at (f := Cargo.cs) (by rfl) _ _ _ (by rfl) W.heap.size 50 i0 _ 3 24 Try.underlying28 hi0 hz0 hz1 hz2 rfl (by omega) Cargo.cs_len Cargo.one _ ((0) + 1) (([] ++ (out.take 0)) ++ [(⟨xa, xb, xc⟩ : Cargo)]) ho2 _ (i) _ (out.drop 0) (HS2.out _ hb2) (by rfl) (by rfl) (by unfold maxLen; omega) (by omega) hs2 ?_); intro CX dX NX wX hN hoX hgX hlX; obtain rfl : i + 1 = NX := (by omega); clear hN; have hbx := Bl.row hb2 (Nat.le_refl _) ho2 hgX; have HOX := Lib.hid hoX; clear hoX hlX))
          all_goals
            rcases own_forms HOX.out with ⟨rfl, h0, _, _⟩ | ⟨g3, rfl⟩
            · omega
            have HOX1 : Hid (wX.ownsRow w.heap.size 50 3 (.slice (some ⟨g3, 0, none⟩) (i + 1) dX) (i + 1) ((sortG idLt l (i + 1)).flatMap Cargo.cs)) := by
              show World.ownsRow _ _ _ _ _ _ _
              rw [HE.out]
              exact own_mono HOX.out hwsz
            have HOUT1 := Lib.hid ((hb.trans hbx).own HOUT.out)
            have hbE := hbW.trans hbx
            clear F0 F1 F2 y1 y2 y3 XBA XBB XBC XZA XZB XZC XOA XOB XOC XIB XIC XNB XNC HS1 HS2 HOX HOUT HOR hbx hb hbw0 hbW
            go_wp2_with fail
            first | exact ⟨⟨i + 1, g3, dX, by omega, by go_num, rfl, hbE, HOX1, HOUT1⟩, by simp [intOf]; omega⟩ | (refine ⟨?_, by simp [intOf]; omega⟩; (repeat apply Exists.intro); exact ⟨⟨i + 1, g3, dX, by omega, by go_num, rfl, hbE, HOX1, HOUT1⟩, rfl⟩)
        · obtain ⟨b2, o2, y, hA, ey, q1, q2, q3⟩ := hS.Cargo (i := j - 1) (by omega)
          injection hA with hA; injection hA with hA hA'; subst hA hA'
          simp only [Nat.zero_add] at q1 q2 q3
          have hm1 : ((j : Int) - 1).toNat = j - 1 := by omega
          have hm2 : (0 : Int) ≤ (j : Int) - 1 := by omega
          have hm3 : (j : Int) - 1 < (i : Int) := by omega
          have hm4 : (0 : Int) < (j : Int) := by omega
          have hm5 : 0 < j := by omega
          have hm6 : 1 ≤ (j : Int) := by omega
          have hw1 : IntKind.i64.wrap ((j : Int) - 1) = (j : Int) - 1 := IntWalk.i64_in _ (by omega)
          have hlt1 : j - 1 < i := by omega
          by_cases hlt2 : xa < y.Id
          · have hN := Lib.hid (hp.out.trans (posG_go (by omega) ey (show idLt ⟨xa, xb, xc⟩ y = true from decide_eq_true hlt2)))
            clear hstop ey q2 q3
            go_wp2_with fail
            refine region_bl (by kernel_rfl) (by kernel_rfl) hbx ?_
            repeat' (first | go_big_quiet_skip | (go_big_quiet_want; go_simp; (try go_bits); first | (refine ⟨_, fun _ _ => rfl, ?_⟩; go_big_quiet_on) | (apply Exists.intro; refine ⟨fun W hW => ?_, ?_⟩; (· go_simp; (try go_bits); rfl); go_big_quiet_on)))
            apply wpQuiet_nil
            intro W hb
            go_wp2_with fail
            first | exact ⟨⟨j - 1, by omega, by congr 1; omega, hb, hN⟩, by simp [intOf]; omega⟩ | (refine ⟨?_, by simp [intOf]; omega⟩; (repeat apply Exists.intro); exact ⟨⟨j - 1, by omega, by congr 1; omega, hb, hN⟩, rfl⟩)
          · have HE := Lib.hid (hstop.out (.inr ⟨y, ey, decide_eq_false hlt2⟩))
            clear hstop ey q2 q3
            go_wp2_with fail
            refine region_bl (by kernel_rfl) (by kernel_rfl) hbx ?_
            repeat' (first | go_big_quiet_skip | (go_big_quiet_want; go_simp; (try go_bits); first | (refine ⟨_, fun _ _ => rfl, ?_⟩; go_big_quiet_on) | (apply Exists.intro; refine ⟨fun W hW => ?_, ?_⟩; (· go_simp; (try go_bits); rfl); go_big_quiet_on)))
            apply wpQuiet_nil
            intro W hb
            clear q1 hm1 hm2 hm3 hw1 hlt1
            have hbW := hbw0.trans hb
            have hwsz := hbW.le
            have HS1 : Hid (∀ V, Bl W V → Sl Cargo.cs 3 V (some ⟨g, 0, none⟩ : Option Addr) j (out.take j)) := fun V hV => (hS.bl (hb.trans hV)).take_ hj
            have HS2 : Hid (∀ V, Bl W V → Sl Cargo.cs 3 V (if c2 = j then (some ⟨g, 0, none⟩ : Option Addr) else (some ⟨g, j * 3, none⟩ : Option Addr)) (i - j) (out.drop j)) := fun V hV => by
              have h9 := (hS.bl (hb.trans hV)).drop_ hj hcap
              have e9 : (some ⟨g, 0, none⟩ : Option Addr).map (fun a => a.add (j * 3)) = (some ⟨g, j * 3, none⟩ : Option Addr) := by simp [Addr.add_lit]
              rw [e9] at h9
              exact h9
            have F0 : ∀ V, Bl W V → V.cell? ⟨b1, o1 + i * 3, none⟩ = _ := fun V hV => P1 V (hb.trans hV)
            have F1 : ∀ V, Bl W V → V.cell? ⟨b1, o1 + i * 3 + 1, none⟩ = _ := fun V hV => P2 V (hb.trans hV)
            have F2 : ∀ V, Bl W V → V.cell? ⟨b1, o1 + i * 3 + 2, none⟩ = _ := fun V hV => P3 V (hb.trans hV)
            have y1 := F0 _ (Bl.refl _)
            have y2 := F1 _ (Bl.refl _)
            have y3 := F2 _ (Bl.refl _)
            have k1 : (0 : Int) ≤ (i : Int) := by omega
            have k2 : (i : Int) < (n : Int) := by omega
            have k3 : (j : Int) ≤ (i : Int) := by omega
            have k4 : (j : Int) ≤ (c2 : Int) := by omega
            have k5 : (0 : Int) ≤ (j : Int) := by omega
            have k6 : (i : Int) ≤ (c2 : Int) := by omega
            clear P1 P2 P3
            go_wp2_with fail
            have XBA : Hid (Bl W ((W.alloc (.cells #[] 50)).drew)) := ((Bl.refl W).alloc _).drew
            have XBB : Hid (Bl W (((W.alloc (.cells #[] 50)).alloc (.cells #[.int .i64 xa, .int .i64 xb, .int .i64 xc] 50)).drew)) := (((Bl.refl W).alloc _).alloc _).drew
            have XBC : Hid (Bl W (((W.alloc (.cells #[.int .i64 xa, .int .i64 xb, .int .i64 xc] 50)).alloc (.cells #[] 50)).drew)) := (((Bl.refl W).alloc _).alloc _).drew
            have XZA := Lib.hid XBA.out.le
            have XZB := Lib.hid XBB.out.le
            have XZC := Lib.hid XBC.out.le
            have XOA : Hid (World.ownsRow ((W.alloc (.cells #[] 50)).drew) W.heap.size 50 3 (.slice (some ⟨W.heap.size, 0, none⟩) 0 0) 0 (([] : List Cargo).flatMap Cargo.cs)) := (made_at Cargo.cs 3 W 50 W.heap.size _ rfl (Nat.le_refl _)).drew
            have XOB : Hid (World.ownsRow (((W.alloc (.cells #[] 50)).alloc (.cells #[.int .i64 xa, .int .i64 xb, .int .i64 xc] 50)).drew) W.heap.size 50 3 (.slice (some ⟨W.heap.size, 0, none⟩) 0 0) 0 (([] : List Cargo).flatMap Cargo.cs)) := (World.ownsRow.alloc (made_at Cargo.cs 3 W 50 W.heap.size _ rfl (Nat.le_refl _)) _).drew
            have XOC : Hid (World.ownsRow (((W.alloc (.cells #[.int .i64 xa, .int .i64 xb, .int .i64 xc] 50)).alloc (.cells #[] 50)).drew) W.heap.size 50 3 (.slice (some ⟨W.heap.size + 1, 0, none⟩) 0 0) 0 (([] : List Cargo).flatMap Cargo.cs)) := (made_at Cargo.cs 3 (W.alloc (.cells #[.int .i64 xa, .int .i64 xb, .int .i64 xc] 50)) 50 W.heap.size _ (by simp) (by omega)).drew
            have XIB : Hid (Sl Cargo.cs 3 (((W.alloc (.cells #[] 50)).alloc (.cells #[.int .i64 xa, .int .i64 xb, .int .i64 xc] 50)).drew) (some ⟨W.heap.size + 1, 0, none⟩) 1 [(⟨xa, xb, xc⟩ : Cargo)]) := (slOneG Cargo.cs 3 Cargo.cs_len (W.alloc (.cells #[] 50)) 50 (⟨xa, xb, xc⟩ : Cargo) _ rfl (W.heap.size + 1) (by simp)).drew
            have XIC : Hid (Sl Cargo.cs 3 (((W.alloc (.cells #[.int .i64 xa, .int .i64 xb, .int .i64 xc] 50)).alloc (.cells #[] 50)).drew) (some ⟨W.heap.size, 0, none⟩) 1 [(⟨xa, xb, xc⟩ : Cargo)]) := ((slOneG Cargo.cs 3 Cargo.cs_len W 50 (⟨xa, xb, xc⟩ : Cargo) _ rfl W.heap.size rfl).bl ((Bl.refl _).alloc _)).drew
            have XNB : Hid (∀ b o s, (some ⟨W.heap.size + 1, 0, none⟩ : Option Addr) = some ⟨b, o, s⟩ → some b ≠ (Value.slice (some ⟨W.heap.size, 0, none⟩) 0 0).ownBlock) := fun b o s e => by
              injection e with e; injection e with e1; subst e1; intro e2; simp [Value.ownBlock] at e2
            have XNC : Hid (∀ b o s, (some ⟨W.heap.size, 0, none⟩ : Option Addr) = some ⟨b, o, s⟩ → some b ≠ (Value.slice (some ⟨W.heap.size + 1, 0, none⟩) 0 0).ownBlock) := fun b o s e => by
              injection e with e; injection e with e1; subst e1; intro e2; simp [Value.ownBlock] at e2
            obtain ⟨i0, hi0, hz0, hz1, hz2⟩ := info_parts infoCargo
            go_region_held3 (fun V => V.cell? ⟨b1, o1 + i * 3, none⟩ = some (.int .i64 xa) ∧ V.cell? ⟨b1, o1 + i * 3 + 1, none⟩ = some (.int .i64 xb) ∧ V.cell? ⟨b1, o1 + i * 3 + 2, none⟩ = some (.int .i64 xc)) ((first | (with_reducible assumption) | exact ⟨F0 _ (by repeat (first | with_reducible assumption | with_reducible exact Bl.refl _ | with_reducible apply Bl.drew | with_reducible apply Bl.alloc)), F1 _ (by repeat (first | with_reducible assumption | with_reducible exact Bl.refl _ | with_reducible apply Bl.drew | with_reducible apply Bl.alloc)), F2 _ (by repeat (first | with_reducible assumption | with_reducible exact Bl.refl _ | with_reducible apply Bl.drew | with_reducible apply Bl.alloc))⟩)) (first | ((refine step_append_at (f := Cargo.cs) (by rfl) _ _ _ (by rfl) W.heap.size 50 i0 _ 3 24 Try.underlying28 hi0 hz0 hz1 hz2 rfl (by omega) Cargo.cs_len Cargo.one _ 0 [] XOA.out _ (j) _ (out.take j) (HS1.out _ XBA.out) (by rfl) (by rfl) (by unfold maxLen; omega) (by omega) XZA.out ?_); intro B1 d1 N1 w1 hN ho1 hg1 hl1; obtain rfl : (j) = N1 := (by omega); clear hN; have hb1 := Bl.row XBA.out (Nat.le_refl _) XOA.out hg1; have hs1 := hb1.le; clear hl1) | ((refine step_append_at (f := Cargo.cs) (by rfl) _ _ _ (by rfl) W.heap.size 50 i0 _ 3 24 Try.underlying28 hi0 hz0 hz1 hz2 rfl (by omega) Cargo.cs_len Cargo.one _ 0 [] XOB.out _ (j) _ (out.take j) (HS1.out _ XBB.out) (by rfl) (by rfl) (by unfold maxLen; omega) (by omega) XZB.out ?_); intro B1 d1 N1 w1 hN ho1 hg1 hl1; obtain rfl : (j) = N1 := (by omega); clear hN; have hb1 := Bl.row XBB.out (Nat.le_refl _) XOB.out hg1; have hs1 := hb1.le; clear hl1; have hI1 := XIB.out.grown hg1 XNB.out) | ((refine step_append_at (f := Cargo.cs) (by rfl) _ _ _ (by rfl) W.heap.size 50 i0 _ 3 24 Try.underlying28 hi0 hz0 hz1 hz2 rfl (by omega) Cargo.cs_len Cargo.one _ 0 [] XOC.out _ (j) _ (out.take j) (HS1.out _ XBC.out) (by rfl) (by rfl) (by unfold maxLen; omega) (by omega) XZC.out ?_); intro B1 d1 N1 w1 hN ho1 hg1 hl1; obtain rfl : (j) = N1 := (by omega); clear hN; have hb1 := Bl.row XBC.out (Nat.le_refl _) XOC.out hg1; have hs1 := hb1.le; clear hl1; have hI1 := XIC.out.grown hg1 XNC.out) | ((refine step_append_at (f := Cargo.cs) (by rfl) _ _ _ (by rfl) W.heap.size 50 i0 _ 3 24 Try.underlying28 hi0 hz0 hz1 hz2 rfl (by omega) Cargo.cs_len Cargo.one _ (j) ([] ++ (out.take j)) (World.ownsRow.alloc ho1 _) _ 1 _ [(⟨xa, xb, xc⟩ : Cargo)] (slOneG Cargo.cs 3 Cargo.cs_len w1 50 (⟨xa, xb, xc⟩ : Cargo) _ rfl _ rfl) (by rfl) (by rfl) (by unfold maxLen; omega) (by omega) (by simp; omega) ?_); intro B2 d2 N2 w2 hN ho2 hg2 hl2; obtain rfl : (j) + 1 = N2 := (by omega); clear hN; have hb2 := Bl.row (hb1.alloc _) (Nat.le_refl _) (World.ownsRow.alloc ho1 _) hg2; clear hl2; have hs2 := hb2.le) | ((refine step_append_at (f := Cargo.cs) (by rfl) _ _ _ (by rfl) W.heap.size 50 i0 _ 3 24 Try.underlying28 hi0 hz0 hz1 hz2 rfl (by omega) Cargo.cs_len Cargo.one _ (j) ([] ++ (out.take j)) ho1 _ 1 _ [(⟨xa, xb, xc⟩ : Cargo)] hI1 (by rfl) (by rfl) (by unfold maxLen; omega) (by omega) hs1 ?_); intro B2 d2 N2 w2 hN ho2 hg2 hl2; obtain rfl : (j) + 1 = N2 := (by omega); clear hN; have hb2 := Bl.row hb1 (Nat.le_refl _) ho1 hg2; clear hl2; have hs2 := hb2.le) | ((refine step_append_at (f := Cargo.cs) (by rfl) _ _ _ (by rfl) W.heap.size 50 i0 _ 3 24 Try.underlying28 hi0 hz0 hz1 hz2 rfl (by omega) Cargo.cs_len Cargo.one _ ((j) + 1) (([] ++ (out.take j)) ++ [(⟨xa, xb, xc⟩ : Cargo)]) ho2 _ (i - j) _ (out.drop j) (HS2.out _ hb2) (by rfl) (by rfl) (by unfold maxLen; omega) (by omega) hs2 ?_); intro CX dX NX wX hN hoX hgX hlX; obtain rfl : i + 1 = NX := (by omega); clear hN; have hbx := Bl.row hb2 (Nat.le_refl _) ho2 hgX; have HOX := Lib.hid hoX; clear hoX hlX))
            all_goals
              rcases own_forms HOX.out with ⟨rfl, h0, _, _⟩ | ⟨g3, rfl⟩
              · omega
              have HOX1 : Hid (wX.ownsRow w.heap.size 50 3 (.slice (some ⟨g3, 0, none⟩) (i + 1) dX) (i + 1) ((sortG idLt l (i + 1)).flatMap Cargo.cs)) := by
                show World.ownsRow _ _ _ _ _ _ _
                rw [HE.out]
                exact own_mono HOX.out hwsz
              have HOUT1 := Lib.hid ((hb.trans hbx).own HOUT.out)
              have hbE := hbW.trans hbx
              clear F0 F1 F2 y1 y2 y3 XBA XBB XBC XZA XZB XZC XOA XOB XOC XIB XIC XNB XNC HS1 HS2 HOX HOUT HOR hbx hb hbw0 hbW
              generalize (if c2 = j then (some ⟨g, 0, none⟩ : Option Addr) else (some ⟨g, j * 3, none⟩ : Option Addr)) = RA
              go_wp2_with fail
              first | exact ⟨⟨i + 1, g3, dX, by omega, by go_num, rfl, hbE, HOX1, HOUT1⟩, by simp [intOf]; omega⟩ | (refine ⟨?_, by simp [intOf]; omega⟩; (repeat apply Exists.intro); exact ⟨⟨i + 1, g3, dX, by omega, by go_num, rfl, hbE, HOX1, HOUT1⟩, rfl⟩)
    · have e : i = n := by omega
      subst e
      have HRS : Hid (Sl Cargo.cs 3 wr (some ⟨g, 0, none⟩) i (ascC l)) := by
        show Sl _ _ _ _ _ _
        rw [HASC.out]
        exact Sl.of_own Cargo.cs_len HOR.out (HSL.out i (by rw [HL.out]; exact Nat.le_refl _)) (by omega)
      have hcap := own_cap HOR.out
      have HMX := Lib.hid (made_at Cargo.cs 3 wr 50 wr.heap.size _ rfl (Nat.le_refl _))
      have hb3 := hb.alloc (.cells #[] 50)
      have hzw := hb.le
      have HOUL := Lib.hid ((own_lt HOUT.out).out)
      have HOUT := Lib.hid (((Bl.refl wr).alloc (.cells #[] 50)).own HOUT.out)
      have HRS := Lib.hid (HRS.out.bl ((Bl.refl wr).alloc (.cells #[] 50)))
      generalize contC i [] (ascC l) = T at *
      obtain ⟨tb, tz⟩ := T
      (try simp only at HBL)
      clear HOR
      go_wp2_with fail
      refine (H3.out wr.heap.size _ _ _ _ _ HMX.out HRS.out hcap (by simp)).mono ?_
      rintro e w5 ⟨C5, m5, c5, rfl, hb5, ho5⟩
      have hm5 : m5 = i := by have h9 := ho5.1; rw [flat_len _ 3 Cargo.cs_len, HBL.out] at h9; omega
      subst hm5
      have HTB := Lib.hid (Sl.of_own Cargo.cs_len ho5 HBL.out (by omega))
      have HOUT := Lib.hid (hb5.own HOUT.out)
      have hbw5 := hb3.trans hb5
      have HCL : Hid (∀ b o s, C5 = some ⟨b, o, s⟩ → wr.heap.size ≤ b ∧ b < w5.heap.size) := by
        rintro b o s rfl
        exact (own_lt ho5).out b rfl
      have HNE : Hid (∀ b o s, C5 = some ⟨b, o, s⟩ → some b ≠ (Value.slice (some ⟨w.heap.size, 0, none⟩) 0 0).ownBlock) := by
        intro b o s e e2
        have h1 := HCL.out b o s e
        have h2 := HOUL.out w.heap.size rfl
        simp [Value.ownBlock] at e2
        omega
      clear ho5 hb5 HMX HRS hb hb3 HOUL
      go_wp2_with fail
      go_loopw [5, 11] (fun u v wr => ∃ (k : Nat) (C : Option Addr) (d : Nat), k ≤ m5 ∧ v = .int .i64 k ∧ u = .slice C k d ∧ Bl w wr ∧ w5.heap.size ≤ wr.heap.size ∧ Hid (wr.ownsRow w.heap.size 3 1 (.slice C k d) k (((tb.take k).map (·.Id)).flatMap ci)) ∧ Hid (Sl Cargo.cs 3 wr C5 m5 tb) ∧ Hid (∀ b o s, C5 = some ⟨b, o, s⟩ → some b ≠ (Value.slice C k d).ownBlock)) (fun _ v _ => m5 - (intOf v).toNat)
      case atStart => exact ⟨0, _, 0, Nat.zero_le _, rfl, rfl, hbw5, Nat.le_refl _, HOUT.out, HTB.out, HNE.out⟩
      case round =>
        clear HOUT HTB HNE
        obtain ⟨k, C, d, hk, rfl, rfl, hwk, hz5, HOR, HTB, HNE⟩ := hrel
        by_cases hlt : k < m5
        · obtain ⟨b2, o2, y, rfl, ey, q1, q2, q3⟩ := HTB.out.Cargo hlt
          have g1 := q1 _ (Bl.refl _)
          have HN := Lib.hid (ids_one ey)
          have ho9 := HOR.out
          have hb9 := hwk.le
          clear q1 q2 q3 ey
          obtain ⟨i0, hi0, hz0, hz1, hz2⟩ := info_parts infoInt
          go_wp2_with (at_builtin; refine wpList_append_one_l _ rfl _ _ _ rfl _ 3 i0 _ 1 8 Try.underlying36 hi0 hz0 hz1 hz2 rfl (by omega) ci_len ci_one _ k ((tb.take k).map (·.Id)) rfl y.Id _ rfl (by first | rfl | simp) _ rfl ho9 hb9 (by unfold maxLen; omega) (by omega) ?_)
          clear hi0 hz0 hz1 hz2
          intro B6 d6 w6 ho6 hg6 hl6
          have HOR6 : Hid (w6.ownsRow w.heap.size 3 1 (.slice B6 (k + 1) d6) (k + 1) (((tb.take (k + 1)).map (·.Id)).flatMap ci)) := by
            show World.ownsRow _ _ _ _ _ _ _
            rw [HN.out]
            simpa using ho6
          have HTB6 := Lib.hid (HTB.out.grown hg6 HNE.out)
          have HNE6 : Hid (∀ b o s, (some ⟨b2, o2, none⟩ : Option Addr) = some ⟨b, o, s⟩ → some b ≠ (Value.slice B6 (k + 1) d6).ownBlock) := by
            intro b o s e
            have h1 := HNE.out b o s e
            have h2 := HCL.out b o s e
            rcases hl6 with h9 | h9 <;> rw [h9]
            · exact h1
            · intro e2
              injection e2 with e2
              omega
          have hb6 := Bl.row hwk (Nat.le_refl _) ho9 hg6
          have hz6 := hg6.size
          have hz7 : w5.heap.size ≤ w6.heap.size := by omega
          clear ho6 hg6 ho9 hb9 hl6 hz6
          go_wp2_with fail
          first | exact ⟨⟨k + 1, B6, d6, by omega, by go_num, rfl, hb6, hz7, HOR6, HTB6, HNE6⟩, by simp [intOf]; omega⟩ | (refine ⟨?_, by simp [intOf]; omega⟩; (repeat apply Exists.intro); exact ⟨⟨k + 1, B6, d6, by omega, by go_num, rfl, hb6, hz7, HOR6, HTB6, HNE6⟩, rfl⟩)
        · have e : k = m5 := by omega
          subst e
          have HEN : Hid ((tb.take k).map (·.Id) = tb.map (·.Id)) := by show _ = _; rw [take_all HBL.out]
          rw [HEN.out] at HOR
          go_wp2_with fail
          go_ret3
          rw [HR.out]
          exact NewRes.of_own (F := fun v => .tuple #[v, _, _]) HOR.out (by rw [List.length_map]; exact HBL.out) (by omega) hwk
end Go.Proofs.Ytkeaobjcfkmjmaa
