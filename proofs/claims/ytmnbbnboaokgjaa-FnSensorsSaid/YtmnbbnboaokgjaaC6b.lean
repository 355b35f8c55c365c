/- The contracts of the trusted and the common bound. -/
import Derived.Test.YtmnbbnboaokgjaaC6
namespace Go.Proofs.Ytmnbbnboaokgjaa
open Go.RowKit
def TrRes (b : Bound) (f : Bool) (w : World) (e : Ending) (w' : World) : Prop := e = .returned (.tuple #[.agg #[.int .i64 b.Low, .int .i64 b.High], .bool f]) ∧ Bl w w'
set_option maxHeartbeats 2000000 in
theorem l6Trusted_any (A : Option Addr) (n c : Nat) (l : List Bound) (t : Int) (w : World) (h : Sl Bound.cs 2 w A n l) :
    Calls Try.prog 61 #[.slice A n c, .int .i64 t] w (TrRes ⟨(lowK l t n).1, highK l t n⟩ (lowK l t n).2 w) := by
  have bn := h.le
  have HL := Lib.hid h.1
  have hb0 : Bl w ((w.alloc (.cells #[.int .i64 0, .int .i64 0] 25)).alloc (.cells #[.int .i64 0, .int .i64 0] 25)) := ((Bl.refl w).alloc _).alloc _
  have e1 : ((w.alloc (.cells #[.int .i64 0, .int .i64 0] 25)).alloc (.cells #[.int .i64 0, .int .i64 0] 25)).heap[w.heap.size]? = some (.cells #[.int .i64 0, .int .i64 0] 25 (0, 0)) := block_of ((Bl.refl _).alloc _) (heap_alloc_new w _)
  have e2 : ((w.alloc (.cells #[.int .i64 0, .int .i64 0] 25)).alloc (.cells #[.int .i64 0, .int .i64 0] 25)).heap[w.heap.size + 1]? = some (.cells #[.int .i64 0, .int .i64 0] 25 (0, 0)) := by
    have := heap_alloc_new (w.alloc (.cells #[.int .i64 0, .int .i64 0] 25)) (.cells #[.int .i64 0, .int .i64 0] 25)
    simpa using this
  have E1 := Lib.hid e1
  have E2 := Lib.hid e2
  clear e1 e2
  go_enter Try.func61, Try.ntmps61
  go_wp2_with fail
  go_loopw [7, 8] (fun u i wr => ∃ k : Nat, k ≤ n ∧ i = .int .i64 k ∧ u = .bool (lowK l t k).2 ∧ Bl w wr ∧ wr.heap[w.heap.size]? = some (.cells #[.int .i64 0, .int .i64 0] 25 (0, 0)) ∧ wr.heap[w.heap.size + 1]? = some (.cells #[.int .i64 (lowK l t k).1, .int .i64 0] 25 (0, 0))) (fun _ i _ => n - (intOf i).toNat)
  case atStart => exact ⟨0, Nat.zero_le _, rfl, rfl, hb0, E1.out, E2.out⟩
  case round =>
    clear hb0 E1 E2
    obtain ⟨k, hk, rfl, rfl, hb, e1, e2⟩ := hrel
    have E1 := Lib.hid e1
    have E2 := Lib.hid e2
    clear e1 e2
    by_cases hlt : k < n
    · obtain ⟨b1, o1, p, rfl, ep, p1, p2⟩ := h.Bound hlt
      have HN := Lib.hid (lowK_one (t := t) ep)
      have HS : Hid (lowStep l t p (lowK l t k) = if t ≤ cnt l p.Low ∧ ((lowK l t k).2 = false ∨ p.Low < (lowK l t k).1) then (p.Low, true) else lowK l t k) := rfl
      have H1 := Lib.hid (fun W hW => l6Count_any (some ⟨b1, o1, none⟩) n c l p.Low W (h.bl hW))
      have g1 := p1 _ hb
      clear ep p1 p2
      generalize lowK l t k = s at *
      generalize cnt l p.Low = cv at *
      obtain ⟨lo, fo⟩ := s
      go_wp2_with fail
      refine (H1.out _ hb).mono ?_
      rintro e w2 ⟨rfl, hbn⟩
      have hb2 := hb.trans hbn
      have E1 := Lib.hid (block_of hbn E1.out)
      have E2 := Lib.hid (block_of hbn E2.out)
      obtain ⟨q0, q1⟩ := two_cell E2.out
      obtain ⟨f0, f1⟩ := two_free E2.out
      have hsz := hb.le
      clear hbn hb g1
      by_cases hc : t ≤ cv
      · cases fo
        · have HN := Lib.hid (HN.out.trans (HS.out.trans (if_pos ⟨hc, .inl rfl⟩)))
          go_wp2_with fail
          first | exact ⟨⟨k + 1, by omega, by go_num, by rw [HN.out], hb2.setCell (Nat.le_succ _) _, other_set E1.out (by omega), by rw [HN.out]; exact two_set0 E2.out⟩, by simp [intOf]; omega⟩ | (refine ⟨?_, by simp [intOf]; omega⟩; (repeat apply Exists.intro); exact ⟨⟨k + 1, by omega, by go_num, by rw [HN.out], hb2.setCell (Nat.le_succ _) _, other_set E1.out (by omega), by rw [HN.out]; exact two_set0 E2.out⟩, rfl⟩)
        · by_cases hl : p.Low < lo
          · have HN := Lib.hid (HN.out.trans (HS.out.trans (if_pos ⟨hc, .inr hl⟩)))
            go_wp2_with fail
            first | exact ⟨⟨k + 1, by omega, by go_num, by rw [HN.out], hb2.setCell (Nat.le_succ _) _, other_set E1.out (by omega), by rw [HN.out]; exact two_set0 E2.out⟩, by simp [intOf]; omega⟩ | (refine ⟨?_, by simp [intOf]; omega⟩; (repeat apply Exists.intro); exact ⟨⟨k + 1, by omega, by go_num, by rw [HN.out], hb2.setCell (Nat.le_succ _) _, other_set E1.out (by omega), by rw [HN.out]; exact two_set0 E2.out⟩, rfl⟩)
          · have HN := Lib.hid (HN.out.trans (HS.out.trans (if_neg (fun e => by rcases e.2 with h | h; cases h; exact hl h))))
            go_wp2_with fail
            first | exact ⟨⟨k + 1, by omega, by go_num, by rw [HN.out], hb2, E1.out, by rw [HN.out]; exact E2.out⟩, by simp [intOf]; omega⟩ | (refine ⟨?_, by simp [intOf]; omega⟩; (repeat apply Exists.intro); exact ⟨⟨k + 1, by omega, by go_num, by rw [HN.out], hb2, E1.out, by rw [HN.out]; exact E2.out⟩, rfl⟩)
      · have HN := Lib.hid (HN.out.trans (HS.out.trans (if_neg (fun e => hc e.1))))
        go_wp2_with fail
        first | exact ⟨⟨k + 1, by omega, by go_num, by rw [HN.out], hb2, E1.out, by rw [HN.out]; exact E2.out⟩, by simp [intOf]; omega⟩ | (refine ⟨?_, by simp [intOf]; omega⟩; (repeat apply Exists.intro); exact ⟨⟨k + 1, by omega, by go_num, by rw [HN.out], hb2, E1.out, by rw [HN.out]; exact E2.out⟩, rfl⟩)
    · have e : k = n := by omega
      subst e
      generalize lowK l t k = s at *
      obtain ⟨lo, fo⟩ := s
      simp only at E2
      go_wp2_with fail
      go_loopw [10] (fun i wr => ∃ j : Nat, j ≤ k ∧ i = .int .i64 j ∧ Bl w wr ∧ wr.heap[w.heap.size]? = some (.cells #[.int .i64 0, .int .i64 0] 25 (0, 0)) ∧ wr.heap[w.heap.size + 1]? = some (.cells #[.int .i64 lo, .int .i64 (highK l t j)] 25 (0, 0))) (fun i _ => k - (intOf i).toNat)
      case atStart => exact ⟨0, Nat.zero_le _, rfl, hb, E1.out, E2.out⟩
      case round =>
        clear hb E1 E2
        obtain ⟨j, hj, rfl, hb, e1, e2⟩ := hrel
        have E1 := Lib.hid e1
        have E2 := Lib.hid e2
        clear e1 e2
        by_cases hlt : j < k
        · obtain ⟨b1, o1, p, rfl, ep, p1, p2⟩ := h.Bound hlt
          have HN := Lib.hid (highK_one (t := t) ep)
          have HS : Hid (highStep l t p (highK l t j) = if t ≤ cnt l p.High ∧ highK l t j < p.High then p.High else highK l t j) := rfl
          have H1 := Lib.hid (fun W hW => l6Count_any (some ⟨b1, o1, none⟩) k c l p.High W (h.bl hW))
          have g2 := p2 _ hb
          clear ep p1 p2
          generalize highK l t j = hi at *
          generalize cnt l p.High = cv at *
          go_wp2_with fail
          refine (H1.out _ hb).mono ?_
          rintro e w2 ⟨rfl, hbn⟩
          have hb2 := hb.trans hbn
          have E1 := Lib.hid (block_of hbn E1.out)
          have E2 := Lib.hid (block_of hbn E2.out)
          obtain ⟨q0, q1⟩ := two_cell E2.out
          obtain ⟨f0, f1⟩ := two_free E2.out
          have hsz := hb.le
          clear hbn hb g2
          by_cases hc : t ≤ cv
          · by_cases hl : hi < p.High
            · have HN := Lib.hid (HN.out.trans (HS.out.trans (if_pos ⟨hc, hl⟩)))
              go_wp2_with fail
              first | exact ⟨⟨j + 1, by omega, by go_num, hb2.setCell (Nat.le_succ _) _, other_set E1.out (by omega), by rw [HN.out]; exact two_set1 E2.out⟩, by simp [intOf]; omega⟩ | (refine ⟨?_, by simp [intOf]; omega⟩; (repeat apply Exists.intro); exact ⟨⟨j + 1, by omega, by go_num, hb2.setCell (Nat.le_succ _) _, other_set E1.out (by omega), by rw [HN.out]; exact two_set1 E2.out⟩, rfl⟩)
            · have HN := Lib.hid (HN.out.trans (HS.out.trans (if_neg (fun e => hl e.2))))
              go_wp2_with fail
              first | exact ⟨⟨j + 1, by omega, by go_num, hb2, E1.out, by rw [HN.out]; exact E2.out⟩, by simp [intOf]; omega⟩ | (refine ⟨?_, by simp [intOf]; omega⟩; (repeat apply Exists.intro); exact ⟨⟨j + 1, by omega, by go_num, hb2, E1.out, by rw [HN.out]; exact E2.out⟩, rfl⟩)
          · have HN := Lib.hid (HN.out.trans (HS.out.trans (if_neg (fun e => hc e.1))))
            go_wp2_with fail
            first | exact ⟨⟨j + 1, by omega, by go_num, hb2, E1.out, by rw [HN.out]; exact E2.out⟩, by simp [intOf]; omega⟩ | (refine ⟨?_, by simp [intOf]; omega⟩; (repeat apply Exists.intro); exact ⟨⟨j + 1, by omega, by go_num, hb2, E1.out, by rw [HN.out]; exact E2.out⟩, rfl⟩)
        · have e : j = k := by omega
          subst e
          obtain ⟨q0, q1⟩ := two_cell E2.out
          obtain ⟨r0, r1⟩ := two_cell E1.out
          obtain ⟨f0, f1⟩ := two_free E1.out
          generalize highK l t j = hi at *
          go_wp2_with fail
          refine bodyPost_ret (v := .tuple #[.agg #[.int .i64 lo, .int .i64 hi], .bool fo]) (by simp [results, Try.results61, go_sem, r0, r1, f0, f1]) rfl ⟨rfl, ?_⟩
          repeat (first | (with_reducible exact hb) | (with_reducible apply Bl.drew) | (with_reducible refine Bl.setCell ?_ (by first | exact Nat.le_refl _ | (simp; done) | (simp; omega)) _))
set_option maxRecDepth 100000 in
set_option maxHeartbeats 2000000 in
theorem implTrustedBound_any (A : Option Addr) (n c : Nat) (l : List Bound) (f : Int) (w : World) (h : Sl Bound.cs 2 w A n l) :
    Calls Try.prog 25 #[.slice A n c, .int .i64 f] w (TrRes (trustR l f).1 (trustR l f).2 w) := by
  have bn := h.le
  have HL := Lib.hid h.1
  have H1 := Lib.hid (fun W hW => areBounds_any A n c l W (h.bl hW))
  have H2 := Lib.hid (fun w => inside_any f 0 ((n : Int) - 1) w)
  have hb0 : Bl w (w.alloc (.cells #[.int .i64 0, .int .i64 0] 25)) := (Bl.refl w).alloc _
  have E1 : Hid ((w.alloc (.cells #[.int .i64 0, .int .i64 0] 25)).heap[w.heap.size]? = some (.cells #[.int .i64 0, .int .i64 0] 25 (0, 0))) := heap_alloc_new w _
  cases h1 : bndsOk l
  · have HR := Lib.hid (show trustR l f = (⟨0, 0⟩, false) by rw [trustR, if_neg (by simp [h1])])
    go_enter Try.func25, Try.ntmps25
    go_wp2_with fail
    refine (H1.out _ hb0).mono ?_
    rintro e w1 ⟨rfl, hbn⟩
    have hb := hb0.trans hbn
    have E1 := Lib.hid (block_of hbn E1.out)
    simp only [h1]
    obtain ⟨r0, r1⟩ := two_cell E1.out
    obtain ⟨f0, f1⟩ := two_free E1.out
    go_wp2_with fail
    refine bodyPost_ret (v := .tuple #[.agg #[.int .i64 0, .int .i64 0], .bool false]) (by simp [results, Try.results25, go_sem, r0, r1, f0, f1]) rfl ⟨by rw [HR.out], ?_⟩
    repeat (first | (with_reducible exact hb) | (with_reducible apply Bl.drew) | (with_reducible refine Bl.setCell ?_ (by first | exact Nat.le_refl _ | (simp; done) | (simp; omega)) _))
  cases h2 : inB f 0 ((n : Int) - 1)
  · have HR := Lib.hid (show trustR l f = (⟨0, 0⟩, false) by rw [trustR, if_neg (by rw [HL.out]; simp [h2])])
    go_enter Try.func25, Try.ntmps25
    go_wp2_with fail
    refine (H1.out _ hb0).mono ?_
    rintro e w1 ⟨rfl, hbn⟩
    have hb := hb0.trans hbn
    have E1 := Lib.hid (block_of hbn E1.out)
    simp only [h1]
    go_wp2_with fail
    refine (H2.out _).mono ?_
    rintro e w2 ⟨rfl, rfl⟩
    simp only [h2]
    obtain ⟨r0, r1⟩ := two_cell E1.out
    obtain ⟨f0, f1⟩ := two_free E1.out
    go_wp2_with fail
    refine bodyPost_ret (v := .tuple #[.agg #[.int .i64 0, .int .i64 0], .bool false]) (by simp [results, Try.results25, go_sem, r0, r1, f0, f1]) rfl ⟨by rw [HR.out], ?_⟩
    repeat (first | (with_reducible exact hb) | (with_reducible apply Bl.drew) | (with_reducible refine Bl.setCell ?_ (by first | exact Nat.le_refl _ | (simp; done) | (simp; omega)) _))
  obtain ⟨ff0, ff1⟩ := inB_iff.1 h2
  have hlen := bnds_len h1
  rw [HL.out] at hlen
  have HR := Lib.hid (show trustR l f = (⟨(trustT l (n - f)).low, (trustT l (n - f)).high⟩, (trustT l (n - f)).found) by rw [trustR, HL.out, if_pos ⟨h1, h2⟩])
  have HT : Hid (trustT l (n - f) = trK l (n - f) 2001) := rfl
  have H3 := Lib.hid (fun x W hW => coverOf_any A n c l x W (h.bl hW))
  go_enter Try.func25, Try.ntmps25
  go_wp2_with fail
  refine (H1.out _ hb0).mono ?_
  rintro e w1 ⟨rfl, hbn⟩
  have hb := hb0.trans hbn
  have E1 := Lib.hid (block_of hbn E1.out)
  simp only [h1]
  go_wp2_with fail
  refine (H2.out _).mono ?_
  rintro e w2 ⟨rfl, rfl⟩
  simp only [h2]
  have hsz := hbn.le
  simp at hsz
  have e2 : (w1.alloc (.cells #[.int .i64 0, .int .i64 0] 25)).heap[w1.heap.size]? = some (.cells #[.int .i64 0, .int .i64 0] 25 (0, 0)) := heap_alloc_new w1 _
  have E2 := Lib.hid e2
  have E1 := Lib.hid (block_of ((Bl.refl w1).alloc (.cells #[.int .i64 0, .int .i64 0] 25)) E1.out)
  have hb := hb.alloc (.cells #[.int .i64 0, .int .i64 0] 25)
  clear e2 hbn hb0
  have hqr : w.heap.size + 1 ≤ w1.heap.size := by omega
  go_wp2_with fail
  go_loopw [7, 22] (fun u i wr => ∃ k : Nat, k ≤ 2001 ∧ i = .int .i64 k ∧ u = .bool (trK l (n - f) k).found ∧ Bl w wr ∧ wr.heap[w.heap.size]? = some (.cells #[.int .i64 0, .int .i64 0] 25 (0, 0)) ∧ wr.heap[w1.heap.size]? = some (.cells #[.int .i64 (trK l (n - f) k).low, .int .i64 (trK l (n - f) k).high] 25 (0, 0))) (fun _ i _ => 2001 - (intOf i).toNat)
  case atStart => exact ⟨0, Nat.zero_le _, rfl, rfl, hb, E1.out, E2.out⟩
  case round =>
    clear hb E1 E2
    obtain ⟨k, hk, rfl, rfl, hb, e1, e2⟩ := hrel
    have E1 := Lib.hid e1
    have E2 := Lib.hid e2
    clear e1 e2
    have HN : Hid (trK l (n - f) (k + 1) = stepTr l (n - f) (k : Int) (trK l (n - f) k)) := rfl
    by_cases hlt : k < 2001
    · have H4 := Lib.hid (H3.out (k : Int))
      have hn1 := Lib.hid (fun hc => stepTr_no (l := l) (t := (n : Int) - f) (x := (k : Int)) (s := trK l (n - f) k) hc)
      have hn2 := Lib.hid (fun hc hf => stepTr_new (l := l) (t := (n : Int) - f) (x := (k : Int)) (s := trK l (n - f) k) hc hf)
      have hn3 := Lib.hid (fun hc hf => stepTr_on (l := l) (t := (n : Int) - f) (x := (k : Int)) (s := trK l (n - f) k) hc hf)
      generalize trK l (n - f) k = s at *
      generalize cnt l (k : Int) = cv at *
      obtain ⟨lo, hi, fo⟩ := s
      simp only at E2
      have k1 : (k : Int) < 2001 := by omega
      go_wp2_with fail
      refine (H4.out _ hb).mono ?_
      rintro e w2 ⟨rfl, hbn⟩
      have hb2 := hb.trans hbn
      have E1 := Lib.hid (block_of hbn E1.out)
      have E2 := Lib.hid (block_of hbn E2.out)
      obtain ⟨q0, q1⟩ := two_cell E2.out
      obtain ⟨f0, f1⟩ := two_free E2.out
      clear hbn hb
      by_cases hc : cv < (n : Int) - f
      · have HN := Lib.hid (HN.out.trans (hn1.out hc))
        go_wp2_with fail
        first | exact ⟨⟨k + 1, by omega, by go_num, by rw [HN.out], hb2, E1.out, by rw [HN.out]; exact E2.out⟩, by simp [intOf]; omega⟩ | (refine ⟨?_, by simp [intOf]; omega⟩; (repeat apply Exists.intro); exact ⟨⟨k + 1, by omega, by go_num, by rw [HN.out], hb2, E1.out, by rw [HN.out]; exact E2.out⟩, rfl⟩)
      · cases fo
        · have HN := Lib.hid (HN.out.trans (hn2.out (by first | exact hc | omega) rfl))
          go_wp2_with fail
          first | exact ⟨⟨k + 1, by omega, by go_num, by rw [HN.out], (hb2.setCell (by simp only; omega) _).setCell (by simp only; omega) _, other_set (other_set E1.out (by omega)) (by omega), by rw [HN.out]; exact two_set1 (two_set0 E2.out)⟩, by simp [intOf]; omega⟩ | (refine ⟨?_, by simp [intOf]; omega⟩; (repeat apply Exists.intro); exact ⟨⟨k + 1, by omega, by go_num, by rw [HN.out], (hb2.setCell (by simp only; omega) _).setCell (by simp only; omega) _, other_set (other_set E1.out (by omega)) (by omega), by rw [HN.out]; exact two_set1 (two_set0 E2.out)⟩, rfl⟩)
        · have HN := Lib.hid (HN.out.trans (hn3.out (by first | exact hc | omega) rfl))
          go_wp2_with fail
          first | exact ⟨⟨k + 1, by omega, by go_num, by rw [HN.out], hb2.setCell (by simp only; omega) _, other_set E1.out (by omega), by rw [HN.out]; exact two_set1 E2.out⟩, by simp [intOf]; omega⟩ | (refine ⟨?_, by simp [intOf]; omega⟩; (repeat apply Exists.intro); exact ⟨⟨k + 1, by omega, by go_num, by rw [HN.out], hb2.setCell (by simp only; omega) _, other_set E1.out (by omega), by rw [HN.out]; exact two_set1 E2.out⟩, rfl⟩)
    · have HK : Hid (trK l (n - f) k = trustT l (n - f)) := by show _ = _; rw [show k = 2001 by omega]; rfl
      have k1 : ¬ (k : Int) < 2001 := by omega
      clear HN HT
      generalize trK l (n - f) k = s0 at *
      generalize trustT l (n - f) = s at *
      have e9 : s0 = s := HK.out
      subst e9
      clear HK
      obtain ⟨lo, hi, fo⟩ := s0
      simp only at E2
      (try simp only at HR)
      obtain ⟨q0, q1⟩ := two_cell E2.out
      obtain ⟨r0, r1⟩ := two_cell E1.out
      obtain ⟨f0, f1⟩ := two_free E1.out
      go_wp2_with fail
      refine bodyPost_ret (v := .tuple #[.agg #[.int .i64 lo, .int .i64 hi], .bool fo]) (by simp [results, Try.results25, go_sem, r0, r1, f0, f1]) rfl ⟨by rw [HR.out], ?_⟩
      repeat (first | (with_reducible exact hb) | (with_reducible apply Bl.drew) | (with_reducible refine Bl.setCell ?_ (by first | exact Nat.le_refl _ | (simp; done) | (simp; omega)) _))
set_option maxHeartbeats 2000000 in
theorem implCommonBound_any (A : Option Addr) (n c : Nat) (l : List Bound) (w : World) (h : Sl Bound.cs 2 w A n l) :
    Calls Try.prog 15 #[.slice A n c] w (TrRes (commonR l).1 (commonR l).2 w) := by
  have H1 : Hid (∀ W, Bl w W → Calls Try.prog 25 #[.slice A n c, .int .i64 0] W (TrRes (commonR l).1 (commonR l).2 W)) := fun W hW => implTrustedBound_any A n c l 0 W (h.bl hW)
  have hb0 : Bl w (w.alloc (.cells #[.int .i64 0, .int .i64 0] 25)) := (Bl.refl w).alloc _
  have E1 : Hid ((w.alloc (.cells #[.int .i64 0, .int .i64 0] 25)).heap[w.heap.size]? = some (.cells #[.int .i64 0, .int .i64 0] 25 (0, 0))) := heap_alloc_new w _
  generalize commonR l = R at *
  obtain ⟨⟨lo, hi⟩, fo⟩ := R
  go_enter Try.func15, Try.ntmps15
  go_wp2_with fail
  refine (H1.out _ hb0).mono ?_
  rintro e w1 ⟨rfl, hbn⟩
  have hb := hb0.trans hbn
  have E1 := Lib.hid (block_of hbn E1.out)
  obtain ⟨r0, r1⟩ := two_cell E1.out
  obtain ⟨f0, f1⟩ := two_free E1.out
  go_wp2_with fail
  refine bodyPost_ret (v := .tuple #[.agg #[.int .i64 lo, .int .i64 hi], .bool fo]) (by simp [results, Try.results15, go_sem, r0, r1, f0, f1]) rfl ⟨rfl, ?_⟩
  repeat (first | (with_reducible exact hb) | (with_reducible apply Bl.drew) | (with_reducible refine Bl.setCell ?_ (by first | exact Nat.le_refl _ | (simp; done) | (simp; omega)) _))
set_option maxHeartbeats 2000000 in
theorem specCommonBound_any (A : Option Addr) (n c : Nat) (l : List Bound) (w : World) (h : Sl Bound.cs 2 w A n l) :
    Calls Try.prog 13 #[.slice A n c] w (TrRes (commonR l).1 (commonR l).2 w) := by
  have HL := Lib.hid h.1
  have H1 := Lib.hid (fun W hW => l6Bounds_any A n c l W (h.bl hW))
  have hb0 : Bl w (w.alloc (.cells #[.int .i64 0, .int .i64 0] 25)) := (Bl.refl w).alloc _
  have E1 : Hid ((w.alloc (.cells #[.int .i64 0, .int .i64 0] 25)).heap[w.heap.size]? = some (.cells #[.int .i64 0, .int .i64 0] 25 (0, 0))) := heap_alloc_new w _
  cases h1 : bndsOk l
  · have HR := Lib.hid (common_no h1)
    go_enter Try.func13, Try.ntmps13
    go_wp2_with fail
    refine (H1.out _ hb0).mono ?_
    rintro e w1 ⟨rfl, hbn⟩
    have hb := hb0.trans hbn
    have E1 := Lib.hid (block_of hbn E1.out)
    simp only [h1]
    obtain ⟨r0, r1⟩ := two_cell E1.out
    obtain ⟨f0, f1⟩ := two_free E1.out
    go_wp2_with fail
    refine bodyPost_ret (v := .tuple #[.agg #[.int .i64 0, .int .i64 0], .bool false]) (by simp [results, Try.results13, go_sem, r0, r1, f0, f1]) rfl ⟨by rw [HR.out], ?_⟩
    repeat (first | (with_reducible exact hb) | (with_reducible apply Bl.drew) | (with_reducible refine Bl.setCell ?_ (by first | exact Nat.le_refl _ | (simp; done) | (simp; omega)) _))
  have HR := Lib.hid (common_is h1)
  obtain ⟨t1, t2, t3⟩ := trust_same h1 (t := (l.length : Int)) (by have := bnds_len h1; omega)
  have HZ := Lib.hid (tr_none (l := l) (t := (l.length : Int)))
  rw [HL.out] at HR t1 t2 t3 HZ
  have H2 := Lib.hid (fun W hW => l6Trusted_any A n c l (n : Int) W (h.bl hW))
  rw [t1, t2, t3] at H2
  generalize trustT l (n : Int) = s at *
  obtain ⟨lo, hi, fo⟩ := s
  clear t1 t2 t3
  (try simp only at HR)
  (try simp only at H2)
  (try simp only at HZ)
  cases fo
  · obtain ⟨z1, z2⟩ := HZ.out rfl
    (try simp only at z1 z2)
    subst z1 z2
    go_enter Try.func13, Try.ntmps13
    go_wp2_with fail
    refine (H1.out _ hb0).mono ?_
    rintro e w1 ⟨rfl, hbn⟩
    have hb := hb0.trans hbn
    have E1 := Lib.hid (block_of hbn E1.out)
    simp only [h1]
    go_wp2_with fail
    refine (H2.out _ hb).mono ?_
    rintro e w2 ⟨rfl, hbn2⟩
    have hb := (hb.trans hbn2).alloc (.cells #[.int .i64 0, .int .i64 0] 25)
    have E1 := Lib.hid (block_of (hbn2.alloc (.cells #[.int .i64 0, .int .i64 0] 25)) E1.out)
    obtain ⟨r0, r1⟩ := two_cell E1.out
    obtain ⟨f0, f1⟩ := two_free E1.out
    go_wp2_with fail
    refine bodyPost_ret (v := .tuple #[.agg #[.int .i64 0, .int .i64 0], .bool false]) (by simp [results, Try.results13, go_sem, r0, r1, f0, f1]) rfl ⟨by rw [HR.out], ?_⟩
    repeat (first | (with_reducible exact hb) | (with_reducible apply Bl.drew) | (with_reducible refine Bl.setCell ?_ (by first | exact Nat.le_refl _ | (simp; done) | (simp; omega)) _))
  · go_enter Try.func13, Try.ntmps13
    go_wp2_with fail
    refine (H1.out _ hb0).mono ?_
    rintro e w1 ⟨rfl, hbn⟩
    have hb := hb0.trans hbn
    have E1 := Lib.hid (block_of hbn E1.out)
    simp only [h1]
    go_wp2_with fail
    refine (H2.out _ hb).mono ?_
    rintro e w2 ⟨rfl, hbn2⟩
    have hb := (hb.trans hbn2).alloc (.cells #[.int .i64 lo, .int .i64 hi] 25)
    have E1 := Lib.hid (block_of (hbn2.alloc (.cells #[.int .i64 lo, .int .i64 hi] 25)) E1.out)
    obtain ⟨r0, r1⟩ := two_cell E1.out
    obtain ⟨f0, f1⟩ := two_free E1.out
    go_wp2_with fail
    refine bodyPost_ret (v := .tuple #[.agg #[.int .i64 lo, .int .i64 hi], .bool true]) (by simp [results, Try.results13, go_sem, r0, r1, f0, f1]) rfl ⟨by rw [HR.out], ?_⟩
    repeat (first | (with_reducible exact hb) | (with_reducible apply Bl.drew) | (with_reducible refine Bl.setCell ?_ (by first | exact Nat.le_refl _ | (simp; done) | (simp; omega)) _))
end Go.Proofs.Ytmnbbnboaokgjaa
