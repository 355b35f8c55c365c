/- The contracts of RefillNeeded in both programs. -/
import Derived.Test.YtpgghmhbkgkkiaaQ10b
import Derived.RegionTactic
namespace Go.Proofs.Ytpgghmhbkgkkiaa
open Go.RowKit
theorem Sl.lt_ {α : Type} {f : α → List Value} {k n : Nat} {w : World} {A : Option Addr} {l : List α} (hf : ∀ x, 0 < (f x).length) (h : Sl f k w A n l) (hn : 0 < n) : ∀ b o s, A = some ⟨b, o, s⟩ → b < w.heap.size := by
  intro b o s e
  obtain ⟨b1, o1, x, e1, hx, hc⟩ := h.at_ hn
  rw [e1] at e
  injection e with e
  injection e with e2
  subst e2
  exact World.block_lt_of_cell? w _ (hc 0 _ (List.getElem?_eq_getElem (hf x)))
theorem own_apart {w : World} {B E k n c : Nat} {C : Option Addr} {xs : List Value} (h : w.ownsRow B E k (.slice C n c) n xs) {g : Nat} (hg : g < B) : ∀ b o s, C = some ⟨b, o, s⟩ → b ≠ g := by
  intro b o s e
  subst e
  have := ((own_lt h).out b rfl).1
  omega
theorem own_len {w : World} {B E n : Nat} {v : Value} {l : List Int} (h : w.ownsRow B E 1 v n (l.flatMap ci)) : l.length = n := by
  have := h.1
  rw [flat_len ci 1 ci_len] at this
  omega
set_option maxHeartbeats 2000000 in
theorem specRefillNeeded_any (A : Option Addr) (n c : Nat) (l : List Basin) (B : Option Addr) (m d : Nat) (fs : List Flow) (w : World) (h : Sl Basin.cs 3 w A n l) (hf : Sl Flow.cs 3 w B m fs) (hn : n ≤ 1048576) (_ : m ≤ 1048576) :
    Calls Try.prog 40 #[.slice A n c, .slice B m d] w (NewRes ci 1 3 (refillR l fs).1 (fun v => .tuple #[v, .bool (refillR l fs).2]) w) := by
  have bn := h.le
  have bm := hf.le
  have HL := Lib.hid h.1
  have HM := Lib.hid hf.1
  have H1 := Lib.hid (l10Flows_any A B n m c d l fs w h hf)
  cases e1 : flowsOk l fs
  · have HR := Lib.hid (refill_no e1)
    go_enter Try.func40, Try.ntmps40
    go_wp2_with fail
    refine H1.out.mono ?_
    rintro e w1 ⟨rfl, hb⟩
    simp only [e1]
    go_wp2_with fail
    go_ret2
    rw [HR.out]
    exact NewRes.empty hb
  have HF := Lib.hid e1
  have hpt := flows_parts e1
  have HA := Lib.hid hpt.2.2
  have hl6 := bas_len hpt.1
  rw [HL.out] at hl6
  have m12 := hpt.2.1
  rw [HM.out] at m12
  have HK := Lib.hid (small_ok hpt.1)
  clear hpt
  obtain ⟨j0, gi, gz0, gz1, gz2⟩ := info_parts infoInt
  go_enter Try.func40, Try.ntmps40
  go_wp2_with fail
  refine H1.out.mono ?_
  rintro e w1 ⟨rfl, hb⟩
  simp only [e1]
  obtain ⟨i0, hi0, hz0, hz1, hz2⟩ := info_parts infoBasin
  go_wp2_with (first | (at_make; refine wpList_make_full _ rfl _ _ 53 rfl w1.heap.size 3 j0 _ 1 Try.underlying53 gi gz0 gz1 _ _ _ _ n rfl rfl rfl rfl (by rw [gz2]; omega) (by unfold maxLen; omega) (Nat.le_refl _) ?_; intro w2 hown hgrow; have hb2 := hb.grown hgrow (fun k hk => by cases hk)) | (at_builtin; refine wpList_append_new _ rfl _ _ _ rfl 69 i0 _ 3 24 Try.underlying25 hi0 hz0 hz1 hz2 rfl (by omega) Basin.cs_len Basin.one _ rfl (by first | rfl | simp) A n c l rfl (h.bl hb2) (by unfold maxLen; omega) (by omega) ?_))
  intro B1 d1 w3 ho hbn
  clear gi gz0 gz1 gz2 hi0 hz0 hz1 hz2
  have hG := hb.le
  rw [zeros_flat] at hown
  have hon := own_mono hown hG
  have hGu := ((own_lt hown).out _ rfl).2
  have HZ := Lib.hid (show refillAll l (fs.take 0) = (List.replicate n 0, l) by rw [← HL.out]; rfl)
  clear hown hgrow
  have hS0 := Sl.of_own Basin.cs_len ho HL.out (by omega)
  have HAp := Lib.hid (own_apart ho hGu)
  have hon := hbn.own hon
  have hb3 := hb2.trans hbn
  clear hbn ho
  generalize w1.heap.size = G at *
  go_wp2_with fail
  go_loopw [7, 8] (fun u i wr => ∃ (k : Nat) (C : Option Addr) (c2 : Nat) (r : List Basin) (nd : List Int), k ≤ m ∧ i = .int .i64 k ∧ u = .slice C n c2 ∧ Bl w wr ∧ Sl Basin.cs 3 wr C n r ∧ wr.ownsRow w.heap.size 3 1 (.slice (some ⟨G, 0, none⟩) n n) n (nd.flatMap ci) ∧ Hid (refillAll l (fs.take k) = (nd, r)) ∧ Hid (Small (100000 + 100000 * (k : Int)) r) ∧ Hid (∀ b o s, C = some ⟨b, o, s⟩ → b ≠ G)) (fun _ i _ => m - (intOf i).toNat)
  case atStart => exact ⟨0, B1, d1, l, List.replicate n 0, Nat.zero_le _, rfl, rfl, hb3, hS0, hon, HZ, small_mono HK.out (by omega), HAp⟩
  case round =>
    clear hb3 hS0 hon HAp hb hb2
    obtain ⟨k, C, c2, r, nd, hk, rfl, rfl, hb, hS, hon, hrun, hsm, hap⟩ := hrel
    have HND := Lib.hid (own_len hon)
    by_cases hlt : k < m
    · obtain ⟨p1, o1, f, rfl, e1', c1, c2', c3⟩ := hf.Flow hlt
      have hv := List.all_eq_true.1 HA.out f (List.mem_of_getElem? e1')
      obtain ⟨_, _, _, _, _, v6, v7⟩ := valid_flow hv
      have HV : Hid (validFlow n f = true) := by show _ = _; rw [← HL.out]; exact hv
      have HS2 := Lib.hid (show refillAll l (fs.take (k + 1)) = (ndL nd (moveL r f), moveL r f) by rw [refill_one e1', hrun.out]; rfl)
      have HSM := Lib.hid (show Small (100000 + 100000 * ((k + 1 : Nat) : Int)) (moveL r f) from small_mono (small_move hsm.out (by omega) v7) (by omega))
      have HLM := Lib.hid ((moveL_len r f).trans hS.1)
      clear e1' hv
      have hgl := ((own_lt hon).out G rfl).2
      have H3 := Lib.hid (l10Move_any C n c2 r f wr hS hn (small_mono hsm.out (by omega)) (by omega) v7)
      generalize moveL r f = M at *
      go_wp2_with fail
      refine H3.out.mono ?_
      rintro e w4 ⟨C4, m4, c4, rfl, ho4, hl4, hm4, hbn⟩
      have hm4' : m4 = n := by rw [← hl4]; exact HLM.out
      have hon4 := hbn.own hon
      have hb4 := hb.trans hbn
      have hS4 := Sl.of_own Basin.cs_len ho4 hl4 (by omega)
      have hap4 := Lib.hid (own_apart ho4 hgl)
      subst hm4'
      clear hbn hon ho4 hb hS hap hl4
      go_wp2_with fail
      go_loopw [9] (fun i wx => ∃ j : Nat, j ≤ m4 ∧ i = .int .i64 j ∧ Bl w wx ∧ Sl Basin.cs 3 wx C4 m4 M ∧ wx.ownsRow w.heap.size 3 1 (.slice (some ⟨G, 0, none⟩) m4 m4) m4 ((ndK nd M j).flatMap ci)) (fun i _ => m4 - (intOf i).toNat)
      case atStart => exact ⟨0, Nat.zero_le _, rfl, hb4, hS4, by rw [ndK_zero]; exact hon4⟩
      case round =>
        clear hb4 hS4 hon4
        obtain ⟨j, hj, rfl, hbx, hSx, hox⟩ := hrel
        by_cases hjn : j < m4
        · obtain ⟨p2, o2, b, rfl, eb, d1, d2, d3⟩ := hSx.Basin hjn
          obtain ⟨x0, ex⟩ := at_list HND.out hjn
          obtain ⟨p3, o3, x1, hA3, ex1, d4⟩ := (Sl.of_own ci_len hox (by rw [ndK_len]; exact HND.out) (by omega)).int hjn
          injection hA3 with hA3; injection hA3 with hA3 hA3'; subst hA3 hA3'
          have hxx : x1 = x0 := Option.some.inj (ex1.symm.trans (ndK_at ex))
          subst hxx
          simp only [Nat.zero_add] at d4
          have HN := Lib.hid (ndK_step ex eb)
          have HI := Lib.hid ex1
          obtain ⟨s1, s2, s3, s4, _, _⟩ := HSM.out j b eb
          clear ex eb ex1
          have q1 := d1 _ (Bl.refl _)
          have q2 := d2 _ (Bl.refl _)
          have q3 := d3 _ (Bl.refl _)
          have q4 := d4 _ (Bl.refl _)
          clear d1 d2 d3 d4
          have fz := World.ownsRow.frozenAt hox
          obtain ⟨hgl2, hgu2⟩ := (own_lt hox).out G rfl
          have hpg := hap4.out p2 o2 none rfl
          have ng1 : ¬ G = p2 := fun e => hpg e.symm
          have ng2 : ¬ p2 = G := hpg
          have hpl := hSx.lt_ (fun _ => by simp [Basin.cs]) (by omega) p2 o2 none rfl
          have ng3 : ¬ G = wr.heap.size := by omega
          have ng4 : ¬ wr.heap.size = G := by omega
          have ng5 : ¬ p2 = wr.heap.size := by omega
          have ng6 : ¬ wr.heap.size = p2 := by omega
          go_wp2_with fail
          go_region_with (go_at_call 70; refine (l1Most_any _ _ _).mono ?_; rintro e w' ⟨rfl, rfl⟩)
          all_goals
            try simp only [ite_max]
            go_wp2_with fail
            go_roundw
          all_goals first
            | (refine ⟨j + 1, by omega, by go_num, ?_, ?_, ?_⟩
               · repeat (first | (with_reducible exact hbx) | (with_reducible apply Bl.drew) | (with_reducible apply Bl.alloc) | (with_reducible refine Bl.setCell ?_ (by first | exact hgl2 | (simp; done) | (simp; omega)) _))
               · repeat (first | (with_reducible exact hSx) | (with_reducible refine Sl.drew ?_) | (with_reducible refine Sl.alloc_ ?_ _) | (with_reducible refine Sl.far ?_ hap4.out _))
               · rw [← HN.out, ← int_set HI.out]
                 repeat (first | (with_reducible refine World.ownsRow.drew ?_) | (with_reducible refine World.ownsRow.alloc ?_ _) | (with_reducible refine own_set ?_ _ _))
                 exact hox)
            | (simp [intOf]; omega)
        · have e : j = m4 := by omega
          subst e
          have HE := Lib.hid (ndK_all (m := M) HND.out)
          rw [HE.out] at hox
          go_wp2_with fail
          first | exact ⟨⟨k + 1, C4, c4, M, ndL nd M, by omega, by go_num, rfl, hbx, hSx, hox, HS2, HSM, hap4⟩, by simp [intOf]; omega⟩ | (refine ⟨?_, by simp [intOf]; omega⟩; (repeat apply Exists.intro); exact ⟨⟨k + 1, C4, c4, M, ndL nd M, by omega, by go_num, rfl, hbx, hSx, hox, HS2, HSM, hap4⟩, rfl⟩)
    · have e : k = m := by omega
      subst e
      have HR := Lib.hid (refill_yes HF.out (by rw [← hrun.out, take_all HM.out]))
      go_wp2_with fail
      go_ret2
      rw [HR.out]
      exact NewRes.own hon (Bl.refl w) HND.out hn hb
set_option maxHeartbeats 2000000 in
theorem implRefillNeeded_any (A : Option Addr) (n c : Nat) (l : List Basin) (B : Option Addr) (m d : Nat) (fs : List Flow) (w : World) (h : Sl Basin.cs 3 w A n l) (hf : Sl Flow.cs 3 w B m fs) (hn : n ≤ 1048576) (_ : m ≤ 1048576) :
    Calls Try.prog 41 #[.slice A n c, .slice B m d] w (NewRes ci 1 3 (refillR l fs).1 (fun v => .tuple #[v, .bool (refillR l fs).2]) w) := by
  have bn := h.le
  have bm := hf.le
  have HL := Lib.hid h.1
  have HM := Lib.hid hf.1
  have H1 := Lib.hid (areFlows_any A B n m c d l fs w h hf)
  cases e1 : flowsOk l fs
  · have HR := Lib.hid (refill_no e1)
    go_enter Try.func41, Try.ntmps41
    go_wp2_with fail
    refine H1.out.mono ?_
    rintro e w1 ⟨rfl, hb⟩
    simp only [e1]
    go_wp2_with fail
    go_ret2
    rw [HR.out]
    exact NewRes.nil hb
  have HF := Lib.hid e1
  have hpt := flows_parts e1
  have HA := Lib.hid hpt.2.2
  have hl6 := bas_len hpt.1
  rw [HL.out] at hl6
  have m12 := hpt.2.1
  rw [HM.out] at m12
  have HK := Lib.hid (small_ok hpt.1)
  clear hpt
  obtain ⟨j0, gi, gz0, gz1, gz2⟩ := info_parts infoInt
  go_enter Try.func41, Try.ntmps41
  go_wp2_with fail
  refine H1.out.mono ?_
  rintro e w1 ⟨rfl, hb⟩
  simp only [e1]
  go_wp2_with (at_make; refine wpList_make_full _ rfl _ _ 53 rfl w1.heap.size 3 j0 _ 1 Try.underlying53 gi gz0 gz1 _ _ _ _ n rfl rfl rfl rfl (by rw [gz2]; omega) (by unfold maxLen; omega) (Nat.le_refl _) ?_; intro w2 hown hgrow)
  clear gi gz0 gz1 gz2
  have hG := hb.le
  have hb2 := hb.grown hgrow (fun k hk => by cases hk)
  rw [zeros_flat] at hown
  have hon := own_mono hown hG
  have hGu := ((own_lt hown).out _ rfl).2
  have HZ := Lib.hid (show refillAll l (fs.take 0) = (List.replicate n 0, l) by rw [← HL.out]; rfl)
  clear hown hgrow
  have hS0 := h.bl hb2
  have HAp : Hid (∀ b o s, A = some ⟨b, o, s⟩ → b ≠ w1.heap.size) := fun b o s e => by have := h.lt_ (fun _ => by simp [Basin.cs]) (by omega) b o s e; omega
  have hb3 := hb2
  generalize w1.heap.size = G at *
  go_wp2_with fail
  go_loopw [7, 22] (fun u i wr => ∃ (k : Nat) (C : Option Addr) (c2 : Nat) (r : List Basin) (nd : List Int), k ≤ m ∧ i = .int .i64 k ∧ u = .slice C n c2 ∧ Bl w wr ∧ Sl Basin.cs 3 wr C n r ∧ wr.ownsRow w.heap.size 3 1 (.slice (some ⟨G, 0, none⟩) n n) n (nd.flatMap ci) ∧ Hid (refillAll l (fs.take k) = (nd, r)) ∧ Hid (Small (100000 + 100000 * (k : Int)) r) ∧ Hid (∀ b o s, C = some ⟨b, o, s⟩ → b ≠ G)) (fun _ i _ => m - (intOf i).toNat)
  case atStart => exact ⟨0, A, c, l, List.replicate n 0, Nat.zero_le _, rfl, rfl, hb3, hS0, hon, HZ, small_mono HK.out (by omega), HAp⟩
  case round =>
    clear hb3 hS0 hon HAp hb hb2
    obtain ⟨k, C, c2, r, nd, hk, rfl, rfl, hb, hS, hon, hrun, hsm, hap⟩ := hrel
    have HND := Lib.hid (own_len hon)
    by_cases hlt : k < m
    · obtain ⟨p1, o1, f, rfl, e1', c1, c2', c3⟩ := hf.Flow hlt
      have hv := List.all_eq_true.1 HA.out f (List.mem_of_getElem? e1')
      obtain ⟨_, _, _, _, _, v6, v7⟩ := valid_flow hv
      have HV : Hid (validFlow n f = true) := by show _ = _; rw [← HL.out]; exact hv
      have HS2 := Lib.hid (show refillAll l (fs.take (k + 1)) = (ndL nd (moveL r f), moveL r f) by rw [refill_one e1', hrun.out]; rfl)
      have HSM := Lib.hid (show Small (100000 + 100000 * ((k + 1 : Nat) : Int)) (moveL r f) from small_mono (small_move hsm.out (by omega) v7) (by omega))
      have HLM := Lib.hid ((moveL_len r f).trans hS.1)
      clear e1' hv
      have hgl := ((own_lt hon).out G rfl).2
      have H3 := Lib.hid (fun w h => moveWater_any C n c2 r f w h hn (small_mono hsm.out (by omega)) HV.out)
      generalize moveL r f = M at *
      go_wp2_with fail
      refine (H3.out _ (hS.bl ((Bl.refl _).alloc _))).mono ?_
      rintro e w4 ⟨C4, m4, c4, rfl, ho4, hl4, hm4, hbn⟩
      have ho4 := own_mono ho4 (show wr.heap.size ≤ _ by simp)
      have hbn := ((Bl.refl wr).alloc _).trans hbn
      have hm4' : m4 = n := by rw [← hl4]; exact HLM.out
      have hon4 := hbn.own hon
      have hb4 := hb.trans hbn
      have hS4 := Sl.of_own Basin.cs_len ho4 hl4 (by omega)
      have hap4 := Lib.hid (own_apart ho4 hgl)
      subst hm4'
      clear hbn hon ho4 hb hS hap hl4
      go_wp2_with fail
      go_loopw [31] (fun i wx => ∃ j : Nat, j ≤ m4 ∧ i = .int .i64 j ∧ Bl w wx ∧ Sl Basin.cs 3 wx C4 m4 M ∧ wx.ownsRow w.heap.size 3 1 (.slice (some ⟨G, 0, none⟩) m4 m4) m4 ((ndK nd M j).flatMap ci)) (fun i _ => m4 - (intOf i).toNat)
      case atStart => exact ⟨0, Nat.zero_le _, rfl, hb4, hS4, by rw [ndK_zero]; exact hon4⟩
      case round =>
        clear hb4 hS4 hon4
        obtain ⟨j, hj, rfl, hbx, hSx, hox⟩ := hrel
        by_cases hjn : j < m4
        · obtain ⟨p2, o2, b, rfl, eb, d1, d2, d3⟩ := hSx.Basin hjn
          obtain ⟨x0, ex⟩ := at_list HND.out hjn
          obtain ⟨p3, o3, x1, hA3, ex1, d4⟩ := (Sl.of_own ci_len hox (by rw [ndK_len]; exact HND.out) (by omega)).int hjn
          injection hA3 with hA3; injection hA3 with hA3 hA3'; subst hA3 hA3'
          have hxx : x1 = x0 := Option.some.inj (ex1.symm.trans (ndK_at ex))
          subst hxx
          simp only [Nat.zero_add] at d4
          have HN := Lib.hid (ndK_step ex eb)
          have HI := Lib.hid ex1
          obtain ⟨s1, s2, s3, s4, _, _⟩ := HSM.out j b eb
          clear ex eb ex1
          have q1 := d1 _ (Bl.refl _)
          have q2 := d2 _ (Bl.refl _)
          have q3 := d3 _ (Bl.refl _)
          have q4 := d4 _ (Bl.refl _)
          clear d1 d2 d3 d4
          have fz := World.ownsRow.frozenAt hox
          obtain ⟨hgl2, hgu2⟩ := (own_lt hox).out G rfl
          have hpg := hap4.out p2 o2 none rfl
          have ng1 : ¬ G = p2 := fun e => hpg e.symm
          have ng2 : ¬ p2 = G := hpg
          have hpl := hSx.lt_ (fun _ => by simp [Basin.cs]) (by omega) p2 o2 none rfl
          have ng3 : ¬ G = wr.heap.size := by omega
          have ng4 : ¬ wr.heap.size = G := by omega
          have ng5 : ¬ p2 = wr.heap.size := by omega
          have ng6 : ¬ wr.heap.size = p2 := by omega
          go_wp2_with fail
          go_region
          all_goals
            try simp only [ite_max]
            go_wp2_with fail
            go_roundw
          all_goals first
            | (refine ⟨j + 1, by omega, by go_num, ?_, ?_, ?_⟩
               · repeat (first | (with_reducible exact hbx) | (with_reducible apply Bl.drew) | (with_reducible apply Bl.alloc) | (with_reducible refine Bl.setCell ?_ (by first | exact hgl2 | (simp; done) | (simp; omega)) _))
               · repeat (first | (with_reducible exact hSx) | (with_reducible refine Sl.drew ?_) | (with_reducible refine Sl.alloc_ ?_ _) | (with_reducible refine Sl.far ?_ hap4.out _))
               · rw [← HN.out, ← int_set HI.out]
                 repeat (first | (with_reducible refine World.ownsRow.drew ?_) | (with_reducible refine World.ownsRow.alloc ?_ _) | (with_reducible refine own_set ?_ _ _))
                 exact hox)
            | (simp [intOf]; omega)
        · have e : j = m4 := by omega
          subst e
          have HE := Lib.hid (ndK_all (m := M) HND.out)
          rw [HE.out] at hox
          go_wp2_with fail
          first | exact ⟨⟨k + 1, C4, c4, M, ndL nd M, by omega, by go_num, rfl, hbx, hSx, hox, HS2, HSM, hap4⟩, by simp [intOf]; omega⟩ | (refine ⟨?_, by simp [intOf]; omega⟩; (repeat apply Exists.intro); exact ⟨⟨k + 1, C4, c4, M, ndL nd M, by omega, by go_num, rfl, hbx, hSx, hox, HS2, HSM, hap4⟩, rfl⟩)
    · have e : k = m := by omega
      subst e
      have HR := Lib.hid (refill_yes HF.out (by rw [← hrun.out, take_all HM.out]))
      go_wp2_with fail
      go_ret2
      rw [HR.out]
      exact NewRes.own hon (Bl.refl w) HND.out hn hb
end Go.Proofs.Ytpgghmhbkgkkiaa
