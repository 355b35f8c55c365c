/- The contracts of the order by minutes and Ids: the reference's way, by insertion into a new row each time. -/
import Derived.Test.YtnckpionabokeaaBase4
import Derived.Test.YtnckpionabokeaaC8g
import Derived.Deep.RegionHeld3
namespace Go.Proofs.Ytnckpionabokeaa
open Go.RowKit
set_option maxRecDepth 100000 in
set_option maxHeartbeats 40000000 in
theorem l8FirstCome_any (A : Option Addr) (n c : Nat) (l : List Arrival) (w : World) (h : Sl Arrival.cs 4 w A n l) (hn : n ≤ 6) :
    Calls Try.prog 66 #[.slice A n c] w (NewRes ci 1 3 (fcK l n) (fun v => v) w) := by
  have bn := h.le
  have hmade := World.ownsRow_made (e := 3) (size := 1) w #[] 0 (Nat.le_refl _) (Nat.zero_le _) (by simp)
  have hb := (Bl.refl w).alloc (.cells #[] 3)
  go_enter Try.func66, Try.ntmps66
  go_wp2_with fail
  go_loopw [3, 4] (fun u i wr => ∃ (k : Nat) (g : Nat) (c2 : Nat), k ≤ n ∧ i = .int .i64 k ∧ u = .slice (some ⟨g, 0, none⟩) k c2 ∧ Bl w wr ∧ wr.ownsRow w.heap.size 3 1 (.slice (some ⟨g, 0, none⟩) k c2) k ((fcK l k).flatMap ci)) (fun _ i _ => n - (intOf i).toNat)
  case atStart => exact ⟨0, _, 0, Nat.zero_le _, rfl, rfl, hb, hmade⟩
  case round =>
    clear hb hmade
    obtain ⟨i, g, c2, hi, rfl, rfl, hb, hor⟩ := hrel
    by_cases hlt : i < n
    · have HO := Lib.hid (fcK_len l i)
      have HM := Lib.hid (fun x hx => fcK_mem l i x hx)
      have HI := Lib.hid (show fcK l (i + 1) = ins l (fcK l i) (i : Int) from rfl)
      have hS := Sl.of_own ci_len hor HO.out (by omega)
      obtain ⟨b1, o1, p, rfl, ep, p1, p2, p3, p4⟩ := h.Arrival hlt
      have hcap := own_cap hor
      have hgu := ((own_lt hor).out g rfl).2
      have hbw0 := hb
      generalize fcK l i = out at *
      obtain ⟨wo, hwo⟩ : ∃ wo : World, wo = wr := ⟨_, rfl⟩
      subst hwo
      go_wp2_with fail
      go_loopw [5] (fun u wx => ∃ j : Nat, j ≤ i ∧ u = .int .i64 j ∧ Bl wo wx ∧ Hid (posK l out (i : Int) i = posK l out (i : Int) j)) (fun u _ => (intOf u).toNat)
      case atStart => exact ⟨i, Nat.le_refl _, rfl, Bl.refl _, rfl⟩
      case round =>
        obtain ⟨j, hj, rfl, hbx, hp⟩ := hrel
        have P1 : ∀ W, Bl wo W → W.cell? ⟨b1, o1 + i * 4, none⟩ = _ := fun W hW => p1 W (hb.trans hW)
        have P2 : ∀ W, Bl wo W → W.cell? ⟨b1, o1 + i * 4 + 1, none⟩ = _ := fun W hW => p2 W (hb.trans hW)
        have P3 : ∀ W, Bl wo W → W.cell? ⟨b1, o1 + i * 4 + 2, none⟩ = _ := fun W hW => p3 W (hb.trans hW)
        have P4 : ∀ W, Bl wo W → W.cell? ⟨b1, o1 + i * 4 + 3, none⟩ = _ := fun W hW => p4 W (hb.trans hW)
        by_cases hj0 : j = 0
        · subst hj0
          have HE := Lib.hid (HI.out.trans (show _ = out.take 0 ++ (i : Int) :: out.drop 0 by rw [ins, HO.out, hp.out]; rfl))
          clear p1 p2 p3 p4
          go_wp2_with fail
          refine region_bl (by kernel_rfl) (by kernel_rfl) hbx ?_
          repeat' (first | go_big_quiet_skip | (go_big_quiet_want; go_simp; (try go_bits); first | (refine ⟨_, fun _ _ => rfl, ?_⟩; go_big_quiet_on) | (apply Exists.intro; refine ⟨fun W hW => ?_, ?_⟩; (· go_simp; (try go_bits); rfl); go_big_quiet_on)))
          apply wpQuiet_nil
          intro W hb
          go_wp2_with fail
          have HWO := Lib.hid (True.intro)
          have hjc : (0 : Int) ≤ (c2 : Int) := by omega
          have hic : (i : Int) ≤ (c2 : Int) := by omega
          have hji : (0 : Int) ≤ (i : Int) := by omega
          have hbW : Bl w W := Bl.trans hbw0 hb
          have hwsz := hbW.le
          have hgW : g < W.heap.size := by have := hb.le; omega
          have HTK := Lib.hid (fun V (hV : Bl wo V) => (hS.bl hV).take_ hj)
          have HDR : Hid (∀ V, Bl wo V → Sl ci 1 V (some ⟨g, 0, none⟩ : Option Addr) i (out.drop 0)) := fun V hV => hS.bl hV
          have HNE : Hid (∀ H, g < H → ∀ b o s, (some ⟨g, 0, none⟩ : Option Addr) = some ⟨b, o, s⟩ → some b ≠ some H) := fun H hH b o s e => by
            have : b = g := by
              injection e with e; injection e with e1; exact e1.symm
            intro e2
            injection e2 with e2
            omega
          have HBA : Hid (Bl wo ((W.alloc (.cells #[] 3)).drew)) := (hb.alloc _).drew
          have HBB : Hid (Bl wo (((W.alloc (.cells #[] 3)).alloc (.cells #[.int .i64 (i : Int)] 3)).drew)) := ((hb.alloc _).alloc _).drew
          have HBC : Hid (Bl wo (((W.alloc (.cells #[.int .i64 (i : Int)] 3)).alloc (.cells #[] 3)).drew)) := ((hb.alloc _).alloc _).drew
          have HBWA : Hid (Bl w ((W.alloc (.cells #[] 3)).drew)) := (hbW.alloc _).drew
          have HBWB : Hid (Bl w (((W.alloc (.cells #[] 3)).alloc (.cells #[.int .i64 (i : Int)] 3)).drew)) := ((hbW.alloc _).alloc _).drew
          have HBWC : Hid (Bl w (((W.alloc (.cells #[.int .i64 (i : Int)] 3)).alloc (.cells #[] 3)).drew)) := ((hbW.alloc _).alloc _).drew
          have HZA := Lib.hid HBWA.out.le
          have HZB := Lib.hid HBWB.out.le
          have HZC := Lib.hid HBWC.out.le
          have OWNA : Hid (World.ownsRow ((W.alloc (.cells #[] 3)).drew) w.heap.size 3 1 (.slice (some ⟨W.heap.size, 0, none⟩) 0 0) 0 (([] : List Int).flatMap ci)) := (made_at ci 1 W 3 w.heap.size _ rfl hwsz).drew
          have OWNB : Hid (World.ownsRow (((W.alloc (.cells #[] 3)).alloc (.cells #[.int .i64 (i : Int)] 3)).drew) w.heap.size 3 1 (.slice (some ⟨W.heap.size, 0, none⟩) 0 0) 0 (([] : List Int).flatMap ci)) := (World.ownsRow.alloc (made_at ci 1 W 3 w.heap.size _ rfl hwsz) _).drew
          have OWNC : Hid (World.ownsRow (((W.alloc (.cells #[.int .i64 (i : Int)] 3)).alloc (.cells #[] 3)).drew) w.heap.size 3 1 (.slice (some ⟨W.heap.size + 1, 0, none⟩) 0 0) 0 (([] : List Int).flatMap ci)) := (made_at ci 1 (W.alloc (.cells #[.int .i64 (i : Int)] 3)) 3 w.heap.size _ (by simp) (by omega)).drew
          have HIB : Hid (Sl ci 1 (((W.alloc (.cells #[] 3)).alloc (.cells #[.int .i64 (i : Int)] 3)).drew) (some ⟨W.heap.size + 1, 0, none⟩) 1 [(i : Int)]) := (slOne (W.alloc (.cells #[] 3)) 3 (i : Int) (W.heap.size + 1) (by simp)).drew
          have HIC : Hid (Sl ci 1 (((W.alloc (.cells #[.int .i64 (i : Int)] 3)).alloc (.cells #[] 3)).drew) (some ⟨W.heap.size, 0, none⟩) 1 [(i : Int)]) := ((slOne W 3 (i : Int) W.heap.size rfl).bl ((Bl.refl _).alloc _)).drew
          have HNIB : Hid (∀ b o s, (some ⟨W.heap.size + 1, 0, none⟩ : Option Addr) = some ⟨b, o, s⟩ → some b ≠ (Value.slice (some ⟨W.heap.size, 0, none⟩) 0 0).ownBlock) := fun b o s e => by
            injection e with e; injection e with e1; subst e1; intro e2; simp [Value.ownBlock] at e2
          have HNIC : Hid (∀ b o s, (some ⟨W.heap.size, 0, none⟩ : Option Addr) = some ⟨b, o, s⟩ → some b ≠ (Value.slice (some ⟨W.heap.size + 1, 0, none⟩) 0 0).ownBlock) := fun b o s e => by
            injection e with e; injection e with e1; subst e1; intro e2; simp [Value.ownBlock] at e2
          obtain ⟨i0, hi0, hz0, hz1, hz2⟩ := info_parts infoInt
          go_region_held3 (fun _ => True) (trivial) (first | ((refine step_append_at (f := ci) (by rfl) _ _ _ (by rfl) w.heap.size 3 i0 _ 1 8 Try.underlying31 hi0 hz0 hz1 hz2 rfl (by omega) ci_len ci_one _ 0 [] OWNA.out _ 0 _ (out.take 0) (HTK.out _ HBA.out) (by rfl) (by rfl) (by unfold maxLen; omega) (by omega) HZA.out ?_); intro B1 d1 N1 w1 hN ho1 hg1 hl1; obtain rfl : N1 = 0 := (by omega); clear hN; have hb1 := Bl.row HBWA.out (Nat.le_refl _) OWNA.out hg1; have hD1 := (HDR.out _ HBA.out).grown hg1 (HNE.out W.heap.size (by omega)); have hs1 := hb1.le; have hne1 : ∀ b o s, (some ⟨g, 0, none⟩ : Option Addr) = some ⟨b, o, s⟩ → some b ≠ (Value.slice B1 0 d1).ownBlock := (fun b o s e => by (rcases hl1 with h9 | h9 <;> rw [h9]); exact HNE.out W.heap.size (by omega) b o s e; exact HNE.out _ (by simp; omega) b o s e); clear hl1) | ((refine step_append_at (f := ci) (by rfl) _ _ _ (by rfl) w.heap.size 3 i0 _ 1 8 Try.underlying31 hi0 hz0 hz1 hz2 rfl (by omega) ci_len ci_one _ 0 [] OWNB.out _ 0 _ (out.take 0) (HTK.out _ HBB.out) (by rfl) (by rfl) (by unfold maxLen; omega) (by omega) HZB.out ?_); intro B1 d1 N1 w1 hN ho1 hg1 hl1; obtain rfl : N1 = 0 := (by omega); clear hN; have hb1 := Bl.row HBWB.out (Nat.le_refl _) OWNB.out hg1; have hD1 := (HDR.out _ HBB.out).grown hg1 (HNE.out W.heap.size (by omega)); have hI1 := HIB.out.grown hg1 (HNIB.out); have hs1 := hb1.le; have hne1 : ∀ b o s, (some ⟨g, 0, none⟩ : Option Addr) = some ⟨b, o, s⟩ → some b ≠ (Value.slice B1 0 d1).ownBlock := (fun b o s e => by (rcases hl1 with h9 | h9 <;> rw [h9]); exact HNE.out W.heap.size (by omega) b o s e; exact HNE.out _ (by simp; omega) b o s e); clear hl1) | ((refine step_append_at (f := ci) (by rfl) _ _ _ (by rfl) w.heap.size 3 i0 _ 1 8 Try.underlying31 hi0 hz0 hz1 hz2 rfl (by omega) ci_len ci_one _ 0 [] OWNC.out _ 0 _ (out.take 0) (HTK.out _ HBC.out) (by rfl) (by rfl) (by unfold maxLen; omega) (by omega) HZC.out ?_); intro B1 d1 N1 w1 hN ho1 hg1 hl1; obtain rfl : N1 = 0 := (by omega); clear hN; have hb1 := Bl.row HBWC.out (Nat.le_refl _) OWNC.out hg1; have hD1 := (HDR.out _ HBC.out).grown hg1 (HNE.out (W.heap.size + 1) (by omega)); have hI1 := HIC.out.grown hg1 (HNIC.out); have hs1 := hb1.le; have hne1 : ∀ b o s, (some ⟨g, 0, none⟩ : Option Addr) = some ⟨b, o, s⟩ → some b ≠ (Value.slice B1 0 d1).ownBlock := (fun b o s e => by (rcases hl1 with h9 | h9 <;> rw [h9]); exact HNE.out (W.heap.size + 1) (by omega) b o s e; exact HNE.out _ (by simp; omega) b o s e); clear hl1) | ((refine step_append_at (f := ci) (by rfl) _ _ _ (by rfl) w.heap.size 3 i0 _ 1 8 Try.underlying31 hi0 hz0 hz1 hz2 rfl (by omega) ci_len ci_one _ 0 ([] ++ out.take 0) (World.ownsRow.alloc ho1 _) _ 1 _ [(i : Int)] (slOne w1 3 (i : Int) _ rfl) (by rfl) (by rfl) (by unfold maxLen; omega) (by omega) (by simp; omega) ?_); intro B2 d2 N2 w2 hN ho2 hg2 hl2; obtain rfl : N2 = 0 + 1 := (by omega); clear hN; have hb2 := Bl.row (hb1.alloc _) (Nat.le_refl _) (World.ownsRow.alloc ho1 _) hg2; have hD2 := (hD1.bl ((Bl.refl _).alloc _)).grown hg2 hne1; have hs2 := hb2.le; clear hl2) | ((refine step_append_at (f := ci) (by rfl) _ _ _ (by rfl) w.heap.size 3 i0 _ 1 8 Try.underlying31 hi0 hz0 hz1 hz2 rfl (by omega) ci_len ci_one _ 0 ([] ++ out.take 0) ho1 _ 1 _ [(i : Int)] hI1 (by rfl) (by rfl) (by unfold maxLen; omega) (by omega) hs1 ?_); intro B2 d2 N2 w2 hN ho2 hg2 hl2; obtain rfl : N2 = 0 + 1 := (by omega); clear hN; have hb2 := Bl.row hb1 (Nat.le_refl _) ho1 hg2; have hD2 := hD1.grown hg2 hne1; have hs2 := hb2.le; clear hl2) | ((refine step_append_at (f := ci) (by rfl) _ _ _ (by rfl) w.heap.size 3 i0 _ 1 8 Try.underlying31 hi0 hz0 hz1 hz2 rfl (by omega) ci_len ci_one _ (0 + 1) (([] ++ out.take 0) ++ [(i : Int)]) ho2 _ i _ (out.drop 0) hD2 (by rfl) (by rfl) (by unfold maxLen; omega) (by omega) hs2 ?_); intro B3 d3 N3 w3 hN ho3 hg3 hl3; obtain rfl : N3 = i + 1 := (by omega); clear hN; have hb3 := Bl.row hb2 (Nat.le_refl _) ho2 hg3; have HO3 := Lib.hid ho3; clear ho3 hl3))
          all_goals
            rcases own_forms HO3.out with ⟨rfl, h0, _, _⟩ | ⟨g3, rfl⟩
            · omega
            go_wp2_with fail
            first | exact ⟨⟨i + 1, g3, d3, by omega, by go_num, rfl, hb3, by rw [HE.out]; simpa using HO3.out⟩, by simp [intOf]; omega⟩ | (refine ⟨?_, by simp [intOf]; omega⟩; (repeat apply Exists.intro); exact ⟨⟨i + 1, g3, d3, by omega, by go_num, rfl, hb3, by rw [HE.out]; simpa using HO3.out⟩, rfl⟩)
        · have hj1 : 1 ≤ j := by omega
          obtain ⟨y, ey⟩ : ∃ y, out[j - 1]? = some y := ⟨_, List.getElem?_eq_getElem (by rw [HO.out]; omega)⟩
          obtain ⟨y0, y1⟩ := HM.out y (List.mem_of_getElem? ey)
          obtain ⟨q, rfl⟩ := Int.eq_ofNat_of_zero_le y0
          obtain ⟨b3, o3, x3, hA3, ex3, c3⟩ := hS.int (i := j - 1) (by omega)
          injection hA3 with hA3; injection hA3 with hA3 hA3'; subst hA3 hA3'
          have e3 : x3 = (q : Int) := Option.some.inj (ex3.symm.trans ey)
          subst e3
          simp only [Nat.zero_add] at c3
          have hqn : q < n := by omega
          obtain ⟨b2, o2, pq, hA2, eq, q1, q2, q3, q4⟩ := h.Arrival hqn
          injection hA2 with hA2; injection hA2 with hA2 hA2'; subst hA2 hA2'
          have Q1 : ∀ W, Bl wo W → W.cell? ⟨b1, o1 + q * 4, none⟩ = _ := fun W hW => q1 W (hb.trans hW)
          have Q2 : ∀ W, Bl wo W → W.cell? ⟨b1, o1 + q * 4 + 1, none⟩ = _ := fun W hW => q2 W (hb.trans hW)
          have Q3 : ∀ W, Bl wo W → W.cell? ⟨b1, o1 + q * 4 + 2, none⟩ = _ := fun W hW => q3 W (hb.trans hW)
          have Q4 : ∀ W, Bl wo W → W.cell? ⟨b1, o1 + q * 4 + 3, none⟩ = _ := fun W hW => q4 W (hb.trans hW)
          have HB : Hid (befI l (i : Int) (q : Int) = befA p pq) := by show _ = _; rw [befI, arrAtI_nat ep, arrAtI_nat eq]
          have HF := Lib.hid (fun W => l8Before_any p pq W)
          have HPG := Lib.hid (fun h => hp.out.trans (posK_go hj1 ey h))
          have HPS := Lib.hid (fun h => hp.out.trans (posK_stop hj1 ey h))
          have k1 : (0 : Int) ≤ (j : Int) - 1 := by omega
          have k2 : (j : Int) - 1 < (i : Int) := by omega
          have k3 : ((j : Int) - 1).toNat = j - 1 := by omega
          have k5 : j - 1 < i := by omega
          have k6 : 1 ≤ (j : Int) := by omega
          have k7 : (0 : Int) < (j : Int) := by omega
          have k8 : 0 < j := by omega
          clear p1 p2 p3 p4 q1 q2 q3 q4 ey ex3 eq hj0
          cases hbf : befA p pq
          · have HE := Lib.hid (HI.out.trans (show _ = out.take j ++ (i : Int) :: out.drop j by rw [ins, HO.out, HPS.out (HB.out.trans hbf)]))
            go_wp2_with fail
            refine region_bl (by kernel_rfl) (by kernel_rfl) hbx ?_
            repeat' (first | go_big_quiet_skip | (go_big_quiet_want; go_simp; (try go_bits); first | (refine ⟨_, fun _ _ => rfl, ?_⟩; go_big_quiet_on) | (apply Exists.intro; (with_reducible refine ⟨fun W hW => ret_bl hW (HF.out W), ?_⟩); go_big_quiet_on) | (apply Exists.intro; refine ⟨fun W hW => ?_, ?_⟩; (· go_simp; (try go_bits); rfl); go_big_quiet_on)))
            apply wpQuiet_nil
            intro W hb
            go_wp2_with fail
            have HWO := Lib.hid (True.intro)
            by_cases hcj : c2 = j
            · have hij : j = i := by omega
              obtain rfl : i = c2 := by omega
              obtain rfl : i = j := hij.symm
              clear hcj hij
              have hjc : (i : Int) ≤ (i : Int) := by omega
              have hjj : i ≤ i := by omega
              have hic : (i : Int) ≤ (i : Int) := by omega
              have hji : (i : Int) ≤ (i : Int) := by omega
              have hbW : Bl w W := Bl.trans hbw0 hb
              have hwsz := hbW.le
              have hgW : g < W.heap.size := by have := hb.le; omega
              have HTK := Lib.hid (fun V (hV : Bl wo V) => (hS.bl hV).take_ hj)
              have HDR : Hid (∀ V, Bl wo V → Sl ci 1 V (some ⟨g, 0, none⟩ : Option Addr) 0 (out.drop i)) := fun V hV => by
                have h9 := (hS.bl hV).drop_ (Nat.le_refl i) (Nat.le_refl i)
                rw [if_pos rfl, Nat.sub_self] at h9
                exact h9
              have HNE : Hid (∀ H, g < H → ∀ b o s, (some ⟨g, 0, none⟩ : Option Addr) = some ⟨b, o, s⟩ → some b ≠ some H) := fun H hH b o s e => by
                have : b = g := by
                  injection e with e; injection e with e1; exact e1.symm
                intro e2
                injection e2 with e2
                omega
              have HBA : Hid (Bl wo ((W.alloc (.cells #[] 3)).drew)) := (hb.alloc _).drew
              have HBB : Hid (Bl wo (((W.alloc (.cells #[] 3)).alloc (.cells #[.int .i64 (i : Int)] 3)).drew)) := ((hb.alloc _).alloc _).drew
              have HBC : Hid (Bl wo (((W.alloc (.cells #[.int .i64 (i : Int)] 3)).alloc (.cells #[] 3)).drew)) := ((hb.alloc _).alloc _).drew
              have HBWA : Hid (Bl w ((W.alloc (.cells #[] 3)).drew)) := (hbW.alloc _).drew
              have HBWB : Hid (Bl w (((W.alloc (.cells #[] 3)).alloc (.cells #[.int .i64 (i : Int)] 3)).drew)) := ((hbW.alloc _).alloc _).drew
              have HBWC : Hid (Bl w (((W.alloc (.cells #[.int .i64 (i : Int)] 3)).alloc (.cells #[] 3)).drew)) := ((hbW.alloc _).alloc _).drew
              have HZA := Lib.hid HBWA.out.le
              have HZB := Lib.hid HBWB.out.le
              have HZC := Lib.hid HBWC.out.le
              have OWNA : Hid (World.ownsRow ((W.alloc (.cells #[] 3)).drew) w.heap.size 3 1 (.slice (some ⟨W.heap.size, 0, none⟩) 0 0) 0 (([] : List Int).flatMap ci)) := (made_at ci 1 W 3 w.heap.size _ rfl hwsz).drew
              have OWNB : Hid (World.ownsRow (((W.alloc (.cells #[] 3)).alloc (.cells #[.int .i64 (i : Int)] 3)).drew) w.heap.size 3 1 (.slice (some ⟨W.heap.size, 0, none⟩) 0 0) 0 (([] : List Int).flatMap ci)) := (World.ownsRow.alloc (made_at ci 1 W 3 w.heap.size _ rfl hwsz) _).drew
              have OWNC : Hid (World.ownsRow (((W.alloc (.cells #[.int .i64 (i : Int)] 3)).alloc (.cells #[] 3)).drew) w.heap.size 3 1 (.slice (some ⟨W.heap.size + 1, 0, none⟩) 0 0) 0 (([] : List Int).flatMap ci)) := (made_at ci 1 (W.alloc (.cells #[.int .i64 (i : Int)] 3)) 3 w.heap.size _ (by simp) (by omega)).drew
              have HIB : Hid (Sl ci 1 (((W.alloc (.cells #[] 3)).alloc (.cells #[.int .i64 (i : Int)] 3)).drew) (some ⟨W.heap.size + 1, 0, none⟩) 1 [(i : Int)]) := (slOne (W.alloc (.cells #[] 3)) 3 (i : Int) (W.heap.size + 1) (by simp)).drew
              have HIC : Hid (Sl ci 1 (((W.alloc (.cells #[.int .i64 (i : Int)] 3)).alloc (.cells #[] 3)).drew) (some ⟨W.heap.size, 0, none⟩) 1 [(i : Int)]) := ((slOne W 3 (i : Int) W.heap.size rfl).bl ((Bl.refl _).alloc _)).drew
              have HNIB : Hid (∀ b o s, (some ⟨W.heap.size + 1, 0, none⟩ : Option Addr) = some ⟨b, o, s⟩ → some b ≠ (Value.slice (some ⟨W.heap.size, 0, none⟩) 0 0).ownBlock) := fun b o s e => by
                injection e with e; injection e with e1; subst e1; intro e2; simp [Value.ownBlock] at e2
              have HNIC : Hid (∀ b o s, (some ⟨W.heap.size, 0, none⟩ : Option Addr) = some ⟨b, o, s⟩ → some b ≠ (Value.slice (some ⟨W.heap.size + 1, 0, none⟩) 0 0).ownBlock) := fun b o s e => by
                injection e with e; injection e with e1; subst e1; intro e2; simp [Value.ownBlock] at e2
              obtain ⟨i0, hi0, hz0, hz1, hz2⟩ := info_parts infoInt
              go_region_held3 (fun _ => True) (trivial) (first | ((refine step_append_at (f := ci) (by rfl) _ _ _ (by rfl) w.heap.size 3 i0 _ 1 8 Try.underlying31 hi0 hz0 hz1 hz2 rfl (by omega) ci_len ci_one _ 0 [] OWNA.out _ i _ (out.take i) (HTK.out _ HBA.out) (by rfl) (by rfl) (by unfold maxLen; omega) (by omega) HZA.out ?_); intro B1 d1 N1 w1 hN ho1 hg1 hl1; obtain rfl : i = N1 := (by omega); clear hN; have hb1 := Bl.row HBWA.out (Nat.le_refl _) OWNA.out hg1; have hD1 := (HDR.out _ HBA.out).grown hg1 (HNE.out W.heap.size (by omega)); have hs1 := hb1.le; have hne1 : ∀ b o s, (some ⟨g, 0, none⟩ : Option Addr) = some ⟨b, o, s⟩ → some b ≠ (Value.slice B1 i d1).ownBlock := (fun b o s e => by (rcases hl1 with h9 | h9 <;> rw [h9]); exact HNE.out W.heap.size (by omega) b o s e; exact HNE.out _ (by simp; omega) b o s e); clear hl1) | ((refine step_append_at (f := ci) (by rfl) _ _ _ (by rfl) w.heap.size 3 i0 _ 1 8 Try.underlying31 hi0 hz0 hz1 hz2 rfl (by omega) ci_len ci_one _ 0 [] OWNB.out _ i _ (out.take i) (HTK.out _ HBB.out) (by rfl) (by rfl) (by unfold maxLen; omega) (by omega) HZB.out ?_); intro B1 d1 N1 w1 hN ho1 hg1 hl1; obtain rfl : i = N1 := (by omega); clear hN; have hb1 := Bl.row HBWB.out (Nat.le_refl _) OWNB.out hg1; have hD1 := (HDR.out _ HBB.out).grown hg1 (HNE.out W.heap.size (by omega)); have hI1 := HIB.out.grown hg1 (HNIB.out); have hs1 := hb1.le; have hne1 : ∀ b o s, (some ⟨g, 0, none⟩ : Option Addr) = some ⟨b, o, s⟩ → some b ≠ (Value.slice B1 i d1).ownBlock := (fun b o s e => by (rcases hl1 with h9 | h9 <;> rw [h9]); exact HNE.out W.heap.size (by omega) b o s e; exact HNE.out _ (by simp; omega) b o s e); clear hl1) | ((refine step_append_at (f := ci) (by rfl) _ _ _ (by rfl) w.heap.size 3 i0 _ 1 8 Try.underlying31 hi0 hz0 hz1 hz2 rfl (by omega) ci_len ci_one _ 0 [] OWNC.out _ i _ (out.take i) (HTK.out _ HBC.out) (by rfl) (by rfl) (by unfold maxLen; omega) (by omega) HZC.out ?_); intro B1 d1 N1 w1 hN ho1 hg1 hl1; obtain rfl : i = N1 := (by omega); clear hN; have hb1 := Bl.row HBWC.out (Nat.le_refl _) OWNC.out hg1; have hD1 := (HDR.out _ HBC.out).grown hg1 (HNE.out (W.heap.size + 1) (by omega)); have hI1 := HIC.out.grown hg1 (HNIC.out); have hs1 := hb1.le; have hne1 : ∀ b o s, (some ⟨g, 0, none⟩ : Option Addr) = some ⟨b, o, s⟩ → some b ≠ (Value.slice B1 i d1).ownBlock := (fun b o s e => by (rcases hl1 with h9 | h9 <;> rw [h9]); exact HNE.out (W.heap.size + 1) (by omega) b o s e; exact HNE.out _ (by simp; omega) b o s e); clear hl1) | ((refine step_append_at (f := ci) (by rfl) _ _ _ (by rfl) w.heap.size 3 i0 _ 1 8 Try.underlying31 hi0 hz0 hz1 hz2 rfl (by omega) ci_len ci_one _ i ([] ++ out.take i) (World.ownsRow.alloc ho1 _) _ 1 _ [(i : Int)] (slOne w1 3 (i : Int) _ rfl) (by rfl) (by rfl) (by unfold maxLen; omega) (by omega) (by simp; omega) ?_); intro B2 d2 N2 w2 hN ho2 hg2 hl2; obtain rfl : N2 = i + 1 := (by omega); clear hN; have hb2 := Bl.row (hb1.alloc _) (Nat.le_refl _) (World.ownsRow.alloc ho1 _) hg2; have hD2 := (hD1.bl ((Bl.refl _).alloc _)).grown hg2 hne1; have hs2 := hb2.le; clear hl2) | ((refine step_append_at (f := ci) (by rfl) _ _ _ (by rfl) w.heap.size 3 i0 _ 1 8 Try.underlying31 hi0 hz0 hz1 hz2 rfl (by omega) ci_len ci_one _ i ([] ++ out.take i) ho1 _ 1 _ [(i : Int)] hI1 (by rfl) (by rfl) (by unfold maxLen; omega) (by omega) hs1 ?_); intro B2 d2 N2 w2 hN ho2 hg2 hl2; obtain rfl : N2 = i + 1 := (by omega); clear hN; have hb2 := Bl.row hb1 (Nat.le_refl _) ho1 hg2; have hD2 := hD1.grown hg2 hne1; have hs2 := hb2.le; clear hl2) | ((refine step_append_at (f := ci) (by rfl) _ _ _ (by rfl) w.heap.size 3 i0 _ 1 8 Try.underlying31 hi0 hz0 hz1 hz2 rfl (by omega) ci_len ci_one _ (i + 1) (([] ++ out.take i) ++ [(i : Int)]) ho2 _ 0 _ (out.drop i) hD2 (by rfl) (by rfl) (by unfold maxLen; omega) (by omega) hs2 ?_); intro B3 d3 N3 w3 hN ho3 hg3 hl3; obtain rfl : N3 = i + 1 := (by omega); clear hN; have hb3 := Bl.row hb2 (Nat.le_refl _) ho2 hg3; have HO3 := Lib.hid ho3; clear ho3 hl3))
              all_goals
                rcases own_forms HO3.out with ⟨rfl, h0, _, _⟩ | ⟨g3, rfl⟩
                · omega
                go_wp2_with fail
                first | exact ⟨⟨i + 1, g3, d3, by omega, by go_num, rfl, hb3, by rw [HE.out]; simpa using HO3.out⟩, by simp [intOf]; omega⟩ | (refine ⟨?_, by simp [intOf]; omega⟩; (repeat apply Exists.intro); exact ⟨⟨i + 1, g3, d3, by omega, by go_num, rfl, hb3, by rw [HE.out]; simpa using HO3.out⟩, rfl⟩)
            · skip
              have hjc : (j : Int) ≤ (c2 : Int) := by omega
              have hjc2 : j ≤ c2 := by omega
              have hic : (i : Int) ≤ (c2 : Int) := by omega
              have hji : (j : Int) ≤ (i : Int) := by omega
              have hbW : Bl w W := Bl.trans hbw0 hb
              have hwsz := hbW.le
              have hgW : g < W.heap.size := by have := hb.le; omega
              have HTK := Lib.hid (fun V (hV : Bl wo V) => (hS.bl hV).take_ hj)
              have HDR : Hid (∀ V, Bl wo V → Sl ci 1 V (some ⟨g, j, none⟩ : Option Addr) (i - j) (out.drop j)) := fun V hV => by
                have h9 := (hS.bl hV).drop_ hj hcap
                have e9 : (if c2 = j then (some ⟨g, 0, none⟩ : Option Addr) else (some ⟨g, 0, none⟩ : Option Addr).map fun a => a.add (j * 1)) = (some ⟨g, j, none⟩ : Option Addr) := by rw [if_neg hcj]; simp [Addr.add_lit]
                rw [e9] at h9
                exact h9
              have HNE : Hid (∀ H, g < H → ∀ b o s, (some ⟨g, j, none⟩ : Option Addr) = some ⟨b, o, s⟩ → some b ≠ some H) := fun H hH b o s e => by
                have : b = g := by
                  injection e with e; injection e with e1; exact e1.symm
                intro e2
                injection e2 with e2
                omega
              have HBA : Hid (Bl wo ((W.alloc (.cells #[] 3)).drew)) := (hb.alloc _).drew
              have HBB : Hid (Bl wo (((W.alloc (.cells #[] 3)).alloc (.cells #[.int .i64 (i : Int)] 3)).drew)) := ((hb.alloc _).alloc _).drew
              have HBC : Hid (Bl wo (((W.alloc (.cells #[.int .i64 (i : Int)] 3)).alloc (.cells #[] 3)).drew)) := ((hb.alloc _).alloc _).drew
              have HBWA : Hid (Bl w ((W.alloc (.cells #[] 3)).drew)) := (hbW.alloc _).drew
              have HBWB : Hid (Bl w (((W.alloc (.cells #[] 3)).alloc (.cells #[.int .i64 (i : Int)] 3)).drew)) := ((hbW.alloc _).alloc _).drew
              have HBWC : Hid (Bl w (((W.alloc (.cells #[.int .i64 (i : Int)] 3)).alloc (.cells #[] 3)).drew)) := ((hbW.alloc _).alloc _).drew
              have HZA := Lib.hid HBWA.out.le
              have HZB := Lib.hid HBWB.out.le
              have HZC := Lib.hid HBWC.out.le
              have OWNA : Hid (World.ownsRow ((W.alloc (.cells #[] 3)).drew) w.heap.size 3 1 (.slice (some ⟨W.heap.size, 0, none⟩) 0 0) 0 (([] : List Int).flatMap ci)) := (made_at ci 1 W 3 w.heap.size _ rfl hwsz).drew
              have OWNB : Hid (World.ownsRow (((W.alloc (.cells #[] 3)).alloc (.cells #[.int .i64 (i : Int)] 3)).drew) w.heap.size 3 1 (.slice (some ⟨W.heap.size, 0, none⟩) 0 0) 0 (([] : List Int).flatMap ci)) := (World.ownsRow.alloc (made_at ci 1 W 3 w.heap.size _ rfl hwsz) _).drew
              have OWNC : Hid (World.ownsRow (((W.alloc (.cells #[.int .i64 (i : Int)] 3)).alloc (.cells #[] 3)).drew) w.heap.size 3 1 (.slice (some ⟨W.heap.size + 1, 0, none⟩) 0 0) 0 (([] : List Int).flatMap ci)) := (made_at ci 1 (W.alloc (.cells #[.int .i64 (i : Int)] 3)) 3 w.heap.size _ (by simp) (by omega)).drew
              have HIB : Hid (Sl ci 1 (((W.alloc (.cells #[] 3)).alloc (.cells #[.int .i64 (i : Int)] 3)).drew) (some ⟨W.heap.size + 1, 0, none⟩) 1 [(i : Int)]) := (slOne (W.alloc (.cells #[] 3)) 3 (i : Int) (W.heap.size + 1) (by simp)).drew
              have HIC : Hid (Sl ci 1 (((W.alloc (.cells #[.int .i64 (i : Int)] 3)).alloc (.cells #[] 3)).drew) (some ⟨W.heap.size, 0, none⟩) 1 [(i : Int)]) := ((slOne W 3 (i : Int) W.heap.size rfl).bl ((Bl.refl _).alloc _)).drew
              have HNIB : Hid (∀ b o s, (some ⟨W.heap.size + 1, 0, none⟩ : Option Addr) = some ⟨b, o, s⟩ → some b ≠ (Value.slice (some ⟨W.heap.size, 0, none⟩) 0 0).ownBlock) := fun b o s e => by
                injection e with e; injection e with e1; subst e1; intro e2; simp [Value.ownBlock] at e2
              have HNIC : Hid (∀ b o s, (some ⟨W.heap.size, 0, none⟩ : Option Addr) = some ⟨b, o, s⟩ → some b ≠ (Value.slice (some ⟨W.heap.size + 1, 0, none⟩) 0 0).ownBlock) := fun b o s e => by
                injection e with e; injection e with e1; subst e1; intro e2; simp [Value.ownBlock] at e2
              obtain ⟨i0, hi0, hz0, hz1, hz2⟩ := info_parts infoInt
              go_region_held3 (fun _ => True) (trivial) (first | ((refine step_append_at (f := ci) (by rfl) _ _ _ (by rfl) w.heap.size 3 i0 _ 1 8 Try.underlying31 hi0 hz0 hz1 hz2 rfl (by omega) ci_len ci_one _ 0 [] OWNA.out _ j _ (out.take j) (HTK.out _ HBA.out) (by rfl) (by rfl) (by unfold maxLen; omega) (by omega) HZA.out ?_); intro B1 d1 N1 w1 hN ho1 hg1 hl1; obtain rfl : j = N1 := (by omega); clear hN; have hb1 := Bl.row HBWA.out (Nat.le_refl _) OWNA.out hg1; have hD1 := (HDR.out _ HBA.out).grown hg1 (HNE.out W.heap.size (by omega)); have hs1 := hb1.le; have hne1 : ∀ b o s, (some ⟨g, j, none⟩ : Option Addr) = some ⟨b, o, s⟩ → some b ≠ (Value.slice B1 j d1).ownBlock := (fun b o s e => by (rcases hl1 with h9 | h9 <;> rw [h9]); exact HNE.out W.heap.size (by omega) b o s e; exact HNE.out _ (by simp; omega) b o s e); clear hl1) | ((refine step_append_at (f := ci) (by rfl) _ _ _ (by rfl) w.heap.size 3 i0 _ 1 8 Try.underlying31 hi0 hz0 hz1 hz2 rfl (by omega) ci_len ci_one _ 0 [] OWNB.out _ j _ (out.take j) (HTK.out _ HBB.out) (by rfl) (by rfl) (by unfold maxLen; omega) (by omega) HZB.out ?_); intro B1 d1 N1 w1 hN ho1 hg1 hl1; obtain rfl : j = N1 := (by omega); clear hN; have hb1 := Bl.row HBWB.out (Nat.le_refl _) OWNB.out hg1; have hD1 := (HDR.out _ HBB.out).grown hg1 (HNE.out W.heap.size (by omega)); have hI1 := HIB.out.grown hg1 (HNIB.out); have hs1 := hb1.le; have hne1 : ∀ b o s, (some ⟨g, j, none⟩ : Option Addr) = some ⟨b, o, s⟩ → some b ≠ (Value.slice B1 j d1).ownBlock := (fun b o s e => by (rcases hl1 with h9 | h9 <;> rw [h9]); exact HNE.out W.heap.size (by omega) b o s e; exact HNE.out _ (by simp; omega) b o s e); clear hl1) | ((refine step_append_at (f := ci) (by rfl) _ _ _ (by rfl) w.heap.size 3 i0 _ 1 8 Try.underlying31 hi0 hz0 hz1 hz2 rfl (by omega) ci_len ci_one _ 0 [] OWNC.out _ j _ (out.take j) (HTK.out _ HBC.out) (by rfl) (by rfl) (by unfold maxLen; omega) (by omega) HZC.out ?_); intro B1 d1 N1 w1 hN ho1 hg1 hl1; obtain rfl : j = N1 := (by omega); clear hN; have hb1 := Bl.row HBWC.out (Nat.le_refl _) OWNC.out hg1; have hD1 := (HDR.out _ HBC.out).grown hg1 (HNE.out (W.heap.size + 1) (by omega)); have hI1 := HIC.out.grown hg1 (HNIC.out); have hs1 := hb1.le; have hne1 : ∀ b o s, (some ⟨g, j, none⟩ : Option Addr) = some ⟨b, o, s⟩ → some b ≠ (Value.slice B1 j d1).ownBlock := (fun b o s e => by (rcases hl1 with h9 | h9 <;> rw [h9]); exact HNE.out (W.heap.size + 1) (by omega) b o s e; exact HNE.out _ (by simp; omega) b o s e); clear hl1) | ((refine step_append_at (f := ci) (by rfl) _ _ _ (by rfl) w.heap.size 3 i0 _ 1 8 Try.underlying31 hi0 hz0 hz1 hz2 rfl (by omega) ci_len ci_one _ j ([] ++ out.take j) (World.ownsRow.alloc ho1 _) _ 1 _ [(i : Int)] (slOne w1 3 (i : Int) _ rfl) (by rfl) (by rfl) (by unfold maxLen; omega) (by omega) (by simp; omega) ?_); intro B2 d2 N2 w2 hN ho2 hg2 hl2; obtain rfl : N2 = j + 1 := (by omega); clear hN; have hb2 := Bl.row (hb1.alloc _) (Nat.le_refl _) (World.ownsRow.alloc ho1 _) hg2; have hD2 := (hD1.bl ((Bl.refl _).alloc _)).grown hg2 hne1; have hs2 := hb2.le; clear hl2) | ((refine step_append_at (f := ci) (by rfl) _ _ _ (by rfl) w.heap.size 3 i0 _ 1 8 Try.underlying31 hi0 hz0 hz1 hz2 rfl (by omega) ci_len ci_one _ j ([] ++ out.take j) ho1 _ 1 _ [(i : Int)] hI1 (by rfl) (by rfl) (by unfold maxLen; omega) (by omega) hs1 ?_); intro B2 d2 N2 w2 hN ho2 hg2 hl2; obtain rfl : N2 = j + 1 := (by omega); clear hN; have hb2 := Bl.row hb1 (Nat.le_refl _) ho1 hg2; have hD2 := hD1.grown hg2 hne1; have hs2 := hb2.le; clear hl2) | ((refine step_append_at (f := ci) (by rfl) _ _ _ (by rfl) w.heap.size 3 i0 _ 1 8 Try.underlying31 hi0 hz0 hz1 hz2 rfl (by omega) ci_len ci_one _ (j + 1) (([] ++ out.take j) ++ [(i : Int)]) ho2 _ (i - j) _ (out.drop j) hD2 (by rfl) (by rfl) (by unfold maxLen; omega) (by omega) hs2 ?_); intro B3 d3 N3 w3 hN ho3 hg3 hl3; obtain rfl : N3 = i + 1 := (by omega); clear hN; have hb3 := Bl.row hb2 (Nat.le_refl _) ho2 hg3; have HO3 := Lib.hid ho3; clear ho3 hl3))
              all_goals
                rcases own_forms HO3.out with ⟨rfl, h0, _, _⟩ | ⟨g3, rfl⟩
                · omega
                go_wp2_with fail
                first | exact ⟨⟨i + 1, g3, d3, by omega, by go_num, rfl, hb3, by rw [HE.out]; simpa using HO3.out⟩, by simp [intOf]; omega⟩ | (refine ⟨?_, by simp [intOf]; omega⟩; (repeat apply Exists.intro); exact ⟨⟨i + 1, g3, d3, by omega, by go_num, rfl, hb3, by rw [HE.out]; simpa using HO3.out⟩, rfl⟩)
          · have HP := Lib.hid (HPG.out (HB.out.trans hbf))
            go_wp2_with fail
            refine region_bl (by kernel_rfl) (by kernel_rfl) hbx ?_
            repeat' (first | go_big_quiet_skip | (go_big_quiet_want; go_simp; (try go_bits); first | (refine ⟨_, fun _ _ => rfl, ?_⟩; go_big_quiet_on) | (apply Exists.intro; (with_reducible refine ⟨fun W hW => ret_bl hW (HF.out W), ?_⟩); go_big_quiet_on) | (apply Exists.intro; refine ⟨fun W hW => ?_, ?_⟩; (· go_simp; (try go_bits); rfl); go_big_quiet_on)))
            apply wpQuiet_nil
            intro W hb
            go_wp2_with fail
            first | exact ⟨⟨j - 1, by omega, by congr 1; omega, hb, HP⟩, by simp [intOf]; omega⟩ | (refine ⟨?_, by simp [intOf]; omega⟩; (repeat apply Exists.intro); exact ⟨⟨j - 1, by omega, by congr 1; omega, hb, HP⟩, rfl⟩)
    · have e : i = n := by omega
      subst e
      go_wp2_with fail
      go_ret
      exact NewRes.of_own (F := fun v => v) hor (fcK_len l i) (by omega) hb
end Go.Proofs.Ytnckpionabokeaa
