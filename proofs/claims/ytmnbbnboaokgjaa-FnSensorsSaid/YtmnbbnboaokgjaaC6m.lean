/- The contract of SuspectSensor in the program. -/
import Derived.Test.YtmnbbnboaokgjaaQ6t
import Derived.Test.YtmnbbnboaokgjaaTg
import Derived.Test.YtmnbbnboaokgjaaC6v
import Derived.Test.YtmnbbnboaokgjaaC6x
import Derived.Test.YtmnbbnboaokgjaaD1
namespace Go.Proofs.Ytmnbbnboaokgjaa
open Go.RowKit
theorem three_sl {w : World} {b : Nat} {x y z : Int} {t : TypeId} (h : w.heap[b]? = some (.cells #[.int .i64 x, .int .i64 y, .int .i64 z] t (0, 0))) : Sl ci 1 w (some ⟨b, 0, none⟩) 3 [x, y, z] := by
  obtain ⟨t0, t1, t2⟩ := three_cell h
  refine ⟨rfl, by decide, fun _ => ⟨b, 0, rfl, fun i v hi j u hu => ?_⟩⟩
  match i, hi, j, hu with
  | 0, hi, 0, hu => simp at hi; subst hi; simp [ci] at hu; subst hu; exact t0
  | 1, hi, 0, hu => simp at hi; subst hi; simp [ci] at hu; subst hu; exact t1
  | 2, hi, 0, hu => simp at hi; subst hi; simp [ci] at hu; subst hu; exact t2
  | _, _, j + 1, hu => simp [ci] at hu
  | i + 3, hi, _, _ => simp at hi
def tcs (s : Tri) : Array Value := #[.int .i64 s.1, .int .i64 s.2.1, .int .i64 s.2.2]
section
variable {w : World} {b : Nat} {v0 v1 v2 u : Value} {t : TypeId}
theorem three_set0' (h : w.heap[b]? = some (.cells #[v0, v1, v2] t (0, 0))) : (w.setCell ⟨b, 0, none⟩ u).heap[b]? = some (.cells #[u, v1, v2] t (0, 0)) := by
  have hlt := lt_of_block h
  have h' : w.heap[b] = .cells #[v0, v1, v2] t (0, 0) := by simpa [Array.getElem?_eq_getElem hlt] using h
  show (w.heap.modify b _)[b]? = _
  rw [Array.getElem?_eq_getElem (by simpa using hlt), Array.getElem_modify_self, h']
  rfl
theorem three_set1' (h : w.heap[b]? = some (.cells #[v0, v1, v2] t (0, 0))) : (w.setCell ⟨b, 1, none⟩ u).heap[b]? = some (.cells #[v0, u, v2] t (0, 0)) := by
  have hlt := lt_of_block h
  have h' : w.heap[b] = .cells #[v0, v1, v2] t (0, 0) := by simpa [Array.getElem?_eq_getElem hlt] using h
  show (w.heap.modify b _)[b]? = _
  rw [Array.getElem?_eq_getElem (by simpa using hlt), Array.getElem_modify_self, h']
  rfl
theorem three_set2' (h : w.heap[b]? = some (.cells #[v0, v1, v2] t (0, 0))) : (w.setCell ⟨b, 2, none⟩ u).heap[b]? = some (.cells #[v0, v1, u] t (0, 0)) := by
  have hlt := lt_of_block h
  have h' : w.heap[b] = .cells #[v0, v1, v2] t (0, 0) := by simpa [Array.getElem?_eq_getElem hlt] using h
  show (w.heap.modify b _)[b]? = _
  rw [Array.getElem?_eq_getElem (by simpa using hlt), Array.getElem_modify_self, h']
  rfl
end
set_option maxHeartbeats 4000000 in
theorem implSuspect_any (A : Option Addr) (n c : Nat) (rs : List Rw) (ls : List (List Int)) (m : Int) (w : World) (h : Tb w A n rs ls) :
    Calls Try.prog 53 #[.slice A n c, .int .i64 m] w fun e w' => e = .returned (.tuple #[.int .i64 (suspR ls m).1, .bool (suspR ls m).2]) ∧ Bl w w' := by
  have bn := h.1.le
  have HL := Lib.hid h.len
  have H1 := Lib.hid (fun W => inside_any (n : Int) 1 20 W)
  have H2 := Lib.hid (fun W => isGauge_any m W)
  have HOK : Hid (suspOk ls m = (inB (n : Int) 1 20 && (inB m 0 2000 && ls.all tripOk))) := by show _ = _; rw [suspOk, HL.out]; rfl
  cases h1 : inB (n : Int) 1 20
  · have HR := Lib.hid (susp_no (T := ls) (m := m) (by rw [HOK.out, h1]; rfl))
    rw [h1] at H1
    go_enter Try.func53, Try.ntmps53
    go_wp2_with fail
    refine (H1.out _).mono ?_
    rintro e w' ⟨rfl, rfl⟩
    go_wp2_with fail
    go_ret2
    exact ⟨by rw [HR.out]; rfl, Bl.refl _⟩
  rw [h1] at H1
  cases h2 : inB m 0 2000
  · have HR := Lib.hid (susp_no (T := ls) (m := m) (by rw [HOK.out, h2]; simp))
    rw [h2] at H2
    go_enter Try.func53, Try.ntmps53
    go_wp2_with fail
    refine (H1.out _).mono ?_
    rintro e w' ⟨rfl, rfl⟩
    go_wp2_with fail
    refine (H2.out _).mono ?_
    rintro e w' ⟨rfl, rfl⟩
    go_wp2_with fail
    go_ret2
    exact ⟨by rw [HR.out]; rfl, Bl.refl _⟩
  rw [h2] at H2
  have HOK2 : Hid (suspOk ls m = ls.all tripOk) := by show _ = _; rw [HOK.out, h1, h2]; rfl
  have hn20 : n ≤ 20 := by have := (inB_iff.1 h1).2; omega
  have HE := Lib.hid (heap_alloc_new w (.cells #[.int .i64 0, .int .i64 0, .int .i64 0] 103))
  have hb0 : Bl w (w.alloc (.cells #[.int .i64 0, .int .i64 0, .int .i64 0] 103)) := (Bl.refl w).alloc _
  clear h1 h2 HOK
  go_enter Try.func53, Try.ntmps53
  go_wp2_with fail
  refine (H1.out _).mono ?_
  rintro e w' ⟨rfl, rfl⟩
  go_wp2_with fail
  refine (H2.out _).mono ?_
  rintro e w' ⟨rfl, rfl⟩
  go_wp2_with fail
  go_loopw [8, 9, 23] (fun _ _ i wr => ∃ k : Nat, k ≤ n ∧ i = .int .i64 k ∧ Bl w wr ∧ Hid (wr.heap[w.heap.size]? = some (.cells #[.int .i64 (tot ls m k).1, .int .i64 (tot ls m k).2.1, .int .i64 (tot ls m k).2.2] 103 (0, 0))) ∧ Hid ((ls.take k).all tripOk = true)) (fun _ _ i _ => n - (intOf i).toNat)
  case atStart => exact ⟨0, Nat.zero_le _, rfl, hb0, HE.out, rfl⟩
  case round =>
    clear HE hb0
    obtain ⟨k, hk, rfl, hb, HE, HA⟩ := hrel
    by_cases hlt : k < n
    · obtain ⟨b, o, r, l, rfl, _, el, c1, s1, _⟩ := h.at_ hlt
      have g1 := c1 _ hb
      have EL := Lib.hid el
      obtain ⟨ra, rn, rc⟩ := r
      simp only at g1 s1
      have H3 := Lib.hid (isTriple_any ra rn rc l _ (s1 _ hb))
      cases ht : tripOk l
      · have HR := Lib.hid (susp_row (m := m) EL.out ht)
        rw [ht] at H3
        go_wp2_with fail
        refine H3.out.mono ?_
        rintro e w2 ⟨rfl, hbn⟩
        go_wp2_with fail
        go_ret2
        exact ⟨by rw [HR.out]; rfl, hb.trans hbn⟩
      · have e3 : rn = 3 := by rw [← trip_len ht]; exact (s1 _ hb).1.symm
        subst e3
        rw [ht] at H3
        have HT := Lib.hid ht
        have HS := Lib.hid s1
        have HN1 := Lib.hid (tot_one (m := m) el)
        have HIN := Lib.hid (fun q => rnd_in (l := l) (m := m) (tot_in ls m k) q)
        have HA2 : Hid ((ls.take (k + 1)).all tripOk = true) := by show _ = _; rw [all_one tripOk EL.out, HA.out, HT.out]; rfl
        clear c1 s1 el ht HA
        go_wp2_with fail
        refine H3.out.mono ?_
        rintro e w2 ⟨rfl, hbn⟩
        have hb2 := hb.trans hbn
        have HE2 := Lib.hid (block_of hbn HE.out)
        clear hb hbn HE H3 g1
        generalize tot ls m k = s at *
        go_wp2_with fail
        go_loopw [9, 30] (fun _ j wx => ∃ q : Nat, q ≤ 3 ∧ j = .int .i64 q ∧ Bl w wx ∧ Hid (wx.heap[w.heap.size]? = some (.cells #[.int .i64 (rnd l m s q).1, .int .i64 (rnd l m s q).2.1, .int .i64 (rnd l m s q).2.2] 103 (0, 0)))) (fun _ j _ => 3 - (intOf j).toNat)
        case atStart => exact ⟨0, Nat.zero_le _, rfl, hb2, HE2.out⟩
        case round =>
          clear hb2 HE2
          obtain ⟨q, hq, rfl, hb, HE⟩ := hrel
          by_cases hlt3 : q < 3
          · have HI9 := HIN.out q
            have HN3 := Lib.hid (fun h9 => rnd_not (l := l) (m := m) (s := s) (k := q) h9)
            have HN4 := Lib.hid (fun h9 => rnd_has (l := l) (m := m) (s := s) (k := q) h9)
            generalize rnd l m s q = u at *
            obtain ⟨x, y, z⟩ := u
            unfold within at HI9
            simp only at HI9 HE
            obtain ⟨⟨x0, x1⟩, ⟨y0, y1⟩, z0, z1⟩ := HI9
            go_wp2_with fail
            refine (agreeing_any ra rc l m _ (HS.out _ hb) HT.out).mono ?_
            rintro e w3 ⟨B, jn, d, rfl, ho, hl, hm, hbn⟩
            have hS := Sl.of_own ci_len ho hl (by omega)
            have H4 := Lib.hid (contains_any B jn d (agreeK l m 3) (q : Int) _ hS)
            have hb1 := hb.trans hbn
            have HE1 := Lib.hid (block_of hbn HE.out)
            clear hb hbn HE ho hl hS
            cases hh : hasB (agreeK l m 3) (q : Int)
            · rw [hh] at H4
              have HN := Lib.hid (HN3.out hh)
              clear hh HN3 HN4
              go_wp2_with fail
              refine H4.out.mono ?_
              rintro e w4 ⟨rfl, hbn⟩
              have hb3 := hb1.trans hbn
              have HE2 := Lib.hid (block_of hbn HE1.out)
              clear hb1 hbn HE1 H4
              obtain ⟨p0, p1, p2⟩ := three_cell HE2.out
              obtain ⟨f0, f1, f2⟩ := three_free HE2.out
              have hq3 : q = 0 ∨ q = 1 ∨ q = 2 := by omega
              rcases hq3 with rfl | rfl | rfl
              · simp only [bump] at HN
                go_wp2_with fail
                have HE3 := Lib.hid (three_set0' (u := .int .i64 (x + 1)) HE2.out)
                have hb4 := hb3.setCell (p := ⟨w.heap.size, 0, none⟩) (Nat.le_refl _) (.int .i64 (x + 1))
                exact ⟨⟨1, by omega, by first | rfl | go_num, hb4, by show _ = _; rw [HN.out]; exact HE3.out⟩, by simp [intOf]⟩
              · simp only [bump] at HN
                go_wp2_with fail
                have HE3 := Lib.hid (three_set1' (u := .int .i64 (y + 1)) HE2.out)
                have hb4 := hb3.setCell (p := ⟨w.heap.size, 1, none⟩) (Nat.le_refl _) (.int .i64 (y + 1))
                exact ⟨⟨2, by omega, by first | rfl | go_num, hb4, by show _ = _; rw [HN.out]; exact HE3.out⟩, by simp [intOf]⟩
              · simp only [bump] at HN
                go_wp2_with fail
                have HE3 := Lib.hid (three_set2' (u := .int .i64 (z + 1)) HE2.out)
                have hb4 := hb3.setCell (p := ⟨w.heap.size, 2, none⟩) (Nat.le_refl _) (.int .i64 (z + 1))
                exact ⟨⟨3, by omega, by first | rfl | go_num, hb4, by show _ = _; rw [HN.out]; exact HE3.out⟩, by simp [intOf]⟩
            · rw [hh] at H4
              have HN := Lib.hid (HN4.out hh)
              clear hh HN3 HN4
              go_wp2_with fail
              refine H4.out.mono ?_
              rintro e w4 ⟨rfl, hbn⟩
              have hb3 := hb1.trans hbn
              have HE2 := Lib.hid (block_of hbn HE1.out)
              clear hb1 hbn HE1 H4
              go_wp2_with fail
              first | exact ⟨⟨q + 1, by omega, by go_num, hb3, by show _ = _; rw [HN.out]; exact HE2.out⟩, by simp [intOf]; omega⟩ | (refine ⟨?_, by simp [intOf]; omega⟩; (repeat apply Exists.intro); exact ⟨⟨q + 1, by omega, by go_num, hb3, by show _ = _; rw [HN.out]; exact HE2.out⟩, rfl⟩)
          · have e : q = 3 := by omega
            subst e
            rw [← HN1.out] at HE
            go_wp2_with fail
            first | exact ⟨⟨k + 1, by omega, by go_num, hb, HE.out, HA2⟩, by simp [intOf]; omega⟩ | (refine ⟨?_, by simp [intOf]; omega⟩; (repeat apply Exists.intro); exact ⟨⟨k + 1, by omega, by go_num, hb, HE.out, HA2⟩, rfl⟩)
    · have e : k = n := by omega
      subst e
      have HALL : Hid (suspOk ls m = true) := by show _ = _; have h9 := HA.out; rw [take_all HL.out] at h9; rw [HOK2.out, h9]
      have HR := Lib.hid (susp_yes HALL.out)
      rw [HL.out] at HR
      generalize tot ls m k = s at *
      obtain ⟨x, y, z⟩ := s
      simp only at HE
      have H5 := Lib.hid (fun c => max_any (some ⟨w.heap.size, 0, none⟩) 3 c [x, y, z] _ (three_sl HE.out) (by omega))
      simp only [maxK_3] at H5
      have HIX := Lib.hid (fun i => idx_3 (a := x) (b := y) (c := z) (i := i))
      have HF0 := Lib.hid (fun h9 => fin_0 (s := (x, y, z)) h9)
      have HF1 := Lib.hid (fun h9 => fin_1 (s := (x, y, z)) h9)
      generalize mx3 (x, y, z) = mv at *
      go_wp2_with fail
      refine (H5.out _).mono ?_
      rintro e w2 ⟨rfl, hbn⟩
      have hb2 := hb.trans hbn
      have HE2 := Lib.hid (block_of hbn HE.out)
      clear hb hbn HE H5
      by_cases hz : mv = 0
      · have HQ := Lib.hid (HR.out.trans (HF0.out hz))
        have hz' : (mv == 0) = true := by simpa using hz
        clear HR HF0 HF1
        go_wp2_with fail
        go_ret2
        exact ⟨by rw [HQ.out]; rfl, hb2⟩
      · have HQ := Lib.hid (HR.out.trans (HF1.out hz))
        have hz' : (mv == 0) = false := by simpa using hz
        have H6 := Lib.hid (fun c => index_any (some ⟨w.heap.size, 0, none⟩) 3 c [x, y, z] mv _ (three_sl HE2.out))
        clear HR HF0 HF1 hz
        go_wp2_with fail
        refine (H6.out _).mono ?_
        rintro e w3 ⟨⟨i, rfl, hi⟩, hbn⟩
        obtain rfl := HIX.out i hi
        go_wp2_with fail
        go_ret2
        exact ⟨by rw [HQ.out]; rfl, hb2.trans hbn⟩
end Go.Proofs.Ytmnbbnboaokgjaa
