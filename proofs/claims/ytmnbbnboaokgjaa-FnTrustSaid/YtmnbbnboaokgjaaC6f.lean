/- The contracts of TrustedBound of the reference, and of FewestFaults. -/
import Derived.Test.YtmnbbnboaokgjaaC6b
import Derived.Test.YtmnbbnboaokgjaaQ6f
namespace Go.Proofs.Ytmnbbnboaokgjaa
open Go.RowKit
set_option maxHeartbeats 2000000 in
theorem specTrustedBound_any (A : Option Addr) (n c : Nat) (l : List Bound) (f : Int) (w : World) (h : Sl Bound.cs 2 w A n l) :
    Calls Try.prog 26 #[.slice A n c, .int .i64 f] w (TrRes (trustR l f).1 (trustR l f).2 w) := by
  have bn := h.le
  have HL := Lib.hid h.1
  have H1 := Lib.hid (fun W hW => l6Bounds_any A n c l W (h.bl hW))
  have H0 := Lib.hid (fun w => l1In_any f 0 ((n : Int) - 1) w)
  have hb0 : Bl w (w.alloc (.cells #[.int .i64 0, .int .i64 0] 25)) := (Bl.refl w).alloc _
  have E1 : Hid ((w.alloc (.cells #[.int .i64 0, .int .i64 0] 25)).heap[w.heap.size]? = some (.cells #[.int .i64 0, .int .i64 0] 25 (0, 0))) := heap_alloc_new w _
  cases h1 : bndsOk l
  · have HR := Lib.hid (show trustR l f = (⟨0, 0⟩, false) by rw [trustR, if_neg (by simp [h1])])
    go_enter Try.func26, Try.ntmps26
    go_wp2_with fail
    refine (H1.out _ hb0).mono ?_
    rintro e w1 ⟨rfl, hbn⟩
    have hb := hb0.trans hbn
    have E1 := Lib.hid (block_of hbn E1.out)
    simp only [h1]
    obtain ⟨r0, r1⟩ := two_cell E1.out
    obtain ⟨f0, f1⟩ := two_free E1.out
    go_wp2_with fail
    refine bodyPost_ret (v := .tuple #[.agg #[.int .i64 0, .int .i64 0], .bool false]) (by simp [results, Try.results26, go_sem, r0, r1, f0, f1]) rfl ⟨by rw [HR.out], ?_⟩
    repeat (first | (with_reducible exact hb) | (with_reducible apply Bl.drew) | (with_reducible refine Bl.setCell ?_ (by first | exact Nat.le_refl _ | (simp; done) | (simp; omega)) _))
  cases h2 : inB f 0 ((n : Int) - 1)
  · have HR := Lib.hid (show trustR l f = (⟨0, 0⟩, false) by rw [trustR, if_neg (by rw [HL.out]; simp [h2])])
    go_enter Try.func26, Try.ntmps26
    go_wp2_with fail
    refine (H1.out _ hb0).mono ?_
    rintro e w1 ⟨rfl, hbn⟩
    have hb := hb0.trans hbn
    have E1 := Lib.hid (block_of hbn E1.out)
    simp only [h1]
    go_wp2_with fail
    refine (H0.out _).mono ?_
    rintro e w1 ⟨rfl, rfl⟩
    simp only [h2]
    obtain ⟨r0, r1⟩ := two_cell E1.out
    obtain ⟨f0, f1⟩ := two_free E1.out
    go_wp2_with fail
    refine bodyPost_ret (v := .tuple #[.agg #[.int .i64 0, .int .i64 0], .bool false]) (by simp [results, Try.results26, go_sem, r0, r1, f0, f1]) rfl ⟨by rw [HR.out], ?_⟩
    repeat (first | (with_reducible exact hb) | (with_reducible apply Bl.drew) | (with_reducible refine Bl.setCell ?_ (by first | exact Nat.le_refl _ | (simp; done) | (simp; omega)) _))
  obtain ⟨hf0, hf1⟩ := inB_iff.1 h2
  have HR := Lib.hid (show trustR l f = (⟨(trustT l (l.length - f)).low, (trustT l (l.length - f)).high⟩, (trustT l (l.length - f)).found) by rw [trustR, if_pos ⟨h1, by rw [HL.out]; exact h2⟩])
  obtain ⟨t1, t2, t3⟩ := trust_same h1 (t := (l.length : Int) - f) (by rw [HL.out]; omega)
  have HZ := Lib.hid (tr_none (l := l) (t := (l.length : Int) - f))
  rw [HL.out] at HR t1 t2 t3 HZ
  have H2 := Lib.hid (fun W hW => l6Trusted_any A n c l ((n : Int) - f) W (h.bl hW))
  rw [t1, t2, t3] at H2
  generalize trustT l ((n : Int) - f) = s at *
  obtain ⟨lo, hi, fo⟩ := s
  clear t1 t2 t3
  (try simp only at HR)
  (try simp only at H2)
  (try simp only at HZ)
  cases fo
  · obtain ⟨z1, z2⟩ := HZ.out rfl
    (try simp only at z1 z2)
    subst z1 z2
    go_enter Try.func26, Try.ntmps26
    go_wp2_with fail
    refine (H1.out _ hb0).mono ?_
    rintro e w1 ⟨rfl, hbn⟩
    have hb := hb0.trans hbn
    have E1 := Lib.hid (block_of hbn E1.out)
    simp only [h1]
    go_wp2_with fail
    refine (H0.out _).mono ?_
    rintro e w1 ⟨rfl, rfl⟩
    simp only [h2]
    go_wp2_with fail
    refine (H2.out _ hb).mono ?_
    rintro e w2 ⟨rfl, hbn2⟩
    have hb := (hb.trans hbn2).alloc (.cells #[.int .i64 0, .int .i64 0] 25)
    have E1 := Lib.hid (block_of (hbn2.alloc (.cells #[.int .i64 0, .int .i64 0] 25)) E1.out)
    obtain ⟨r0, r1⟩ := two_cell E1.out
    obtain ⟨f0, f1⟩ := two_free E1.out
    go_wp2_with fail
    refine bodyPost_ret (v := .tuple #[.agg #[.int .i64 0, .int .i64 0], .bool false]) (by simp [results, Try.results26, go_sem, r0, r1, f0, f1]) rfl ⟨by rw [HR.out], ?_⟩
    repeat (first | (with_reducible exact hb) | (with_reducible apply Bl.drew) | (with_reducible refine Bl.setCell ?_ (by first | exact Nat.le_refl _ | (simp; done) | (simp; omega)) _))
  · go_enter Try.func26, Try.ntmps26
    go_wp2_with fail
    refine (H1.out _ hb0).mono ?_
    rintro e w1 ⟨rfl, hbn⟩
    have hb := hb0.trans hbn
    have E1 := Lib.hid (block_of hbn E1.out)
    simp only [h1]
    go_wp2_with fail
    refine (H0.out _).mono ?_
    rintro e w1 ⟨rfl, rfl⟩
    simp only [h2]
    go_wp2_with fail
    refine (H2.out _ hb).mono ?_
    rintro e w2 ⟨rfl, hbn2⟩
    have hb := (hb.trans hbn2).alloc (.cells #[.int .i64 lo, .int .i64 hi] 25)
    have E1 := Lib.hid (block_of (hbn2.alloc (.cells #[.int .i64 lo, .int .i64 hi] 25)) E1.out)
    obtain ⟨r0, r1⟩ := two_cell E1.out
    obtain ⟨f0, f1⟩ := two_free E1.out
    go_wp2_with fail
    refine bodyPost_ret (v := .tuple #[.agg #[.int .i64 lo, .int .i64 hi], .bool true]) (by simp [results, Try.results26, go_sem, r0, r1, f0, f1]) rfl ⟨by rw [HR.out], ?_⟩
    repeat (first | (with_reducible exact hb) | (with_reducible apply Bl.drew) | (with_reducible refine Bl.setCell ?_ (by first | exact Nat.le_refl _ | (simp; done) | (simp; omega)) _))
set_option maxHeartbeats 1000000 in
theorem implFewestFaults_any (A : Option Addr) (n c : Nat) (l : List Bound) (w : World) (h : Sl Bound.cs 2 w A n l) :
    Calls Try.prog 28 #[.slice A n c] w fun e w' => e = .returned (.tuple #[.int .i64 (fewR l).1, .bool (fewR l).2]) ∧ Bl w w' := by
  have bn := h.le
  have HL := Lib.hid h.1
  have H1 := Lib.hid (areBounds_any A n c l w h)
  cases h1 : bndsOk l
  · have HR := Lib.hid (few_no h1)
    go_enter Try.func28, Try.ntmps28
    go_wp2_with fail
    refine H1.out.mono ?_
    rintro e w1 ⟨rfl, hb⟩
    simp only [h1]
    go_wp2_with fail
    go_ret2
    exact ⟨by rw [HR.out]; rfl, hb⟩
  · have HR := Lib.hid (few_yes h1)
    have hlen := bnds_len h1
    rw [HL.out] at hlen HR
    obtain ⟨hl1, hl8⟩ := hlen
    go_enter Try.func28, Try.ntmps28
    go_wp2_with fail
    refine H1.out.mono ?_
    rintro e w1 ⟨rfl, hb⟩
    simp only [h1]
    go_wp2_with fail
    go_loopw [4, 12] (fun u i wr => ∃ k : Nat, k ≤ n ∧ i = .int .i64 k ∧ u = .int .i64 (coverK l k) ∧ Bl w wr) (fun _ i _ => n - (intOf i).toNat)
    case atStart => exact ⟨0, Nat.zero_le _, rfl, rfl, hb⟩
    case round =>
      clear hb
      obtain ⟨k, hk, rfl, rfl, hb⟩ := hrel
      have hcr := cover_rng l k
      rw [HL.out] at hcr
      obtain ⟨cr0, cr1⟩ := hcr
      by_cases hlt : k < n
      · obtain ⟨b1, o1, p, rfl, ep, p1, p2⟩ := h.Bound hlt
        have HN := Lib.hid (coverK_one ep)
        have g1 := p1 _ hb
        have g2 := p2 _ hb
        have hcc := cnt_rng l p.Low
        rw [HL.out] at hcc
        obtain ⟨cc0, cc1⟩ := hcc
        have H2 := Lib.hid (fun W hW => coverOf_any (some ⟨b1, o1, none⟩) n c l p.Low W (h.bl hW))
        clear ep p1 p2
        generalize coverK l k = cv at *
        generalize cnt l p.Low = cn at *
        go_wp2_with fail
        refine (H2.out _ (hb.alloc _)).mono ?_
        rintro e w2 ⟨rfl, hb2⟩
        have hb3 := (hb.alloc _).trans hb2
        go_wp2_with fail
        all_goals
          first | exact ⟨⟨k + 1, by omega, by go_num, by rw [HN.out]; congr 1; omega, hb3⟩, by simp [intOf]; omega⟩ | (refine ⟨?_, by simp [intOf]; omega⟩; (repeat apply Exists.intro); exact ⟨⟨k + 1, by omega, by go_num, by rw [HN.out]; congr 1; omega, hb3⟩, rfl⟩)
      · have e : k = n := by omega
        subst e
        generalize coverK l k = cv at *
        go_wp2_with fail
        go_ret2
        exact ⟨by rw [HR.out]; rfl, hb⟩
set_option maxHeartbeats 1000000 in
theorem specFewestFaults_any (A : Option Addr) (n c : Nat) (l : List Bound) (w : World) (h : Sl Bound.cs 2 w A n l) :
    Calls Try.prog 29 #[.slice A n c] w fun e w' => e = .returned (.tuple #[.int .i64 (fewR l).1, .bool (fewR l).2]) ∧ Bl w w' := by
  have bn := h.le
  have HL := Lib.hid h.1
  have H1 := Lib.hid (l6Bounds_any A n c l w h)
  cases h1 : bndsOk l
  · have HR := Lib.hid (few_no h1)
    go_enter Try.func29, Try.ntmps29
    go_wp2_with fail
    refine H1.out.mono ?_
    rintro e w1 ⟨rfl, hb⟩
    simp only [h1]
    go_wp2_with fail
    go_ret2
    exact ⟨by rw [HR.out]; rfl, hb⟩
  · have HR := Lib.hid (few_yes h1)
    have HOK := Lib.hid h1
    have hlen := bnds_len h1
    have hcp := cover_pos h1
    have hcr := cover_rng l l.length
    rw [HL.out] at hlen HR hcp hcr
    obtain ⟨hl1, hl8⟩ := hlen
    obtain ⟨_, hcr⟩ := hcr
    have HF := Lib.hid (fun (t : Int) (ht : 1 ≤ t) => (trust_same HOK.out ht).2.2.trans (found_is HOK.out ht))
    rw [HL.out] at HF
    generalize coverK l n = cv at *
    go_enter Try.func29, Try.ntmps29
    go_wp2_with fail
    refine H1.out.mono ?_
    rintro e w1 ⟨rfl, hb⟩
    simp only [h1]
    go_wp2_with fail
    go_loopw [4] (fun i wr => ∃ k : Nat, (k : Int) ≤ n - cv ∧ i = .int .i64 k ∧ Bl w wr) (fun i _ => n - (intOf i).toNat)
    case atStart => exact ⟨0, by omega, rfl, hb⟩
    case round =>
      clear hb
      obtain ⟨k, hk, rfl, hb⟩ := hrel
      have hkn : k < n := by omega
      have H2 := Lib.hid (l6Trusted_any A n c l ((n : Int) - k) _ (h.bl hb))
      have hff := HF.out ((n : Int) - k) (by omega)
      rw [hff] at H2
      clear hff
      generalize (lowK l ((n : Int) - k) n).1 = lo at *
      generalize highK l ((n : Int) - k) n = hi at *
      by_cases hlt : (k : Int) = n - cv
      · have hd : decide ((n : Int) - k ≤ cv) = true := by rw [decide_eq_true_iff]; omega
        rw [hd] at H2
        rw [← hlt] at HR
        clear hd hlt
        go_wp2_with fail
        refine H2.out.mono ?_
        rintro e w2 ⟨rfl, hb2⟩
        have hb3 := (hb.trans hb2).alloc (.cells #[.int .i64 lo, .int .i64 hi] 25)
        go_wp2_with fail
        go_ret2
        exact ⟨by rw [HR.out]; rfl, hb3⟩
      · have hd : decide ((n : Int) - k ≤ cv) = false := by rw [decide_eq_false_iff_not]; omega
        rw [hd] at H2
        go_wp2_with fail
        refine H2.out.mono ?_
        rintro e w2 ⟨rfl, hb2⟩
        have hb3 := (hb.trans hb2).alloc (.cells #[.int .i64 lo, .int .i64 hi] 25)
        go_wp2_with fail
        first | exact ⟨⟨k + 1, by omega, by go_num, hb3⟩, by simp [intOf]; omega⟩ | (refine ⟨?_, by simp [intOf]; omega⟩; (repeat apply Exists.intro); exact ⟨⟨k + 1, by omega, by go_num, hb3⟩, rfl⟩)
end Go.Proofs.Ytmnbbnboaokgjaa
