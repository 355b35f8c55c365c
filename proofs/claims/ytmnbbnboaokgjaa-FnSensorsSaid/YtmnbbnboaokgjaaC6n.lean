/- The contract of SuspectSensor in the reference. -/
import Derived.Test.YtmnbbnboaokgjaaC6m
namespace Go.Proofs.Ytmnbbnboaokgjaa
open Go.RowKit
def tl3 (s : Tri) : List Int := [s.1, s.2.1, s.2.2]
theorem own_three {w : World} {B E g : Nat} {xs : List Value} {a b c : Value} (h : w.ownsRow B E 1 (.slice (some ⟨g, 0, none⟩) 3 3) 3 xs) (hx : xs = [a, b, c]) : w.heap[g]? = some (.cells #[a, b, c] E (0, 0)) := by
  subst hx
  rcases h.2 with ⟨hv, _⟩ | ⟨g', cap, cur, hv, _, hg, _, _, hs, hc⟩
  · cases hv
  · injection hv with h1 _ h3
    injection h1 with h1; injection h1 with h1
    subst h1 h3
    rw [hg]
    have : cur = #[a, b, c] := by
      apply Array.ext'
      rw [List.take_of_length_le (by simp [hs])] at hc
      exact hc
    rw [this]
theorem sl_oth {α : Type} {f : α → List Value} {k n g j : Nat} {w : World} {A : Option Addr} {l : List α} {u : Value} (h : Sl f k w A n l) (hne : ∀ b o s, A = some ⟨b, o, s⟩ → b ≠ g) : Sl f k (w.setCell ⟨g, j, none⟩ u) A n l :=
  ⟨h.1, h.2.1, fun h0 => let ⟨b, o, e, hc⟩ := h.2.2 h0; ⟨b, o, e, fun i x hi q v hv => (World.cell?_of_block (Below.heap_setCell _ _ _ _ (hne b o none e))).trans (hc i x hi q v hv)⟩⟩
set_option maxHeartbeats 4000000 in
theorem specSuspect_any (A : Option Addr) (n c : Nat) (rs : List Rw) (ls : List (List Int)) (m : Int) (w : World) (h : Tb w A n rs ls) :
    Calls Try.prog 51 #[.slice A n c, .int .i64 m] w fun e w' => e = .returned (.tuple #[.int .i64 (suspR ls m).1, .bool (suspR ls m).2]) ∧ Bl w w' := by
  obtain ⟨i0, hi, hz0, hz1, hz2⟩ := info_parts infoInt
  have bn := h.1.le
  have HL := Lib.hid h.len
  have H1 := Lib.hid (fun W => l1In_any (n : Int) 1 20 W)
  have H2 := Lib.hid (fun W => l6Level_any m W)
  have HOK : Hid (suspOk ls m = (inB (n : Int) 1 20 && (inB m 0 2000 && ls.all tripOk))) := by show _ = _; rw [suspOk, HL.out]; rfl
  cases h1 : inB (n : Int) 1 20
  · have HR := Lib.hid (susp_no (T := ls) (m := m) (by rw [HOK.out, h1]; rfl))
    rw [h1] at H1
    go_enter Try.func51, Try.ntmps51
    go_wp2_with fail
    refine (H1.out _).mono ?_
    rintro e w' ⟨rfl, rfl⟩
    go_wp2_with fail
    go_ret2
    exact ⟨by rw [HR.out]; rfl, Bl.refl _⟩
  rw [h1] at H1
  cases h2 : inB m 0 2000
  · have HR := Lib.hid (susp_no (T := ls) (m := m) (by rw [HOK.out, h2]; simp))
    rw [h2] at H2
    go_enter Try.func51, Try.ntmps51
    go_wp2_with fail
    refine (H1.out _).mono ?_
    rintro e w' ⟨rfl, rfl⟩
    go_wp2_with fail
    refine (H2.out _).mono ?_
    rintro e w' ⟨rfl, rfl⟩
    go_wp2_with fail
    go_ret2
    exact ⟨by rw [HR.out]; rfl, Bl.refl _⟩
  rw [h2] at H2
  have HOK2 : Hid (suspOk ls m = ls.all tripOk) := by show _ = _; rw [HOK.out, h1, h2]; rfl
  have hn20 : n ≤ 20 := by have := (inB_iff.1 h1).2; omega
  clear h1 h2 HOK
  go_enter Try.func51, Try.ntmps51
  go_wp2_with fail
  refine (H1.out _).mono ?_
  rintro e w' ⟨rfl, rfl⟩
  go_wp2_with fail
  refine (H2.out _).mono ?_
  rintro e w' ⟨rfl, rfl⟩
  go_wp2_with (at_make; refine wpList_make_full _ rfl _ _ 33 rfl w.heap.size 3 i0 _ 1 Try.underlying33 hi hz0 hz1 _ _ _ _ 3 rfl rfl rfl rfl (by rw [hz2]; omega) (by unfold maxLen; omega) (Nat.le_refl _) ?_; intro w1 hown hgrow)
  have hb1 : Bl w w1 := (Bl.refl w).grown hgrow (fun k hk => by cases hk)
  have HE := Lib.hid (own_three (a := .int .i64 0) (b := .int .i64 0) (c := .int .i64 0) hown (by first | rfl | kernel_rfl | (simp [madeCells, Value.cells]; done) | decide))
  clear hgrow hi hz0 hz1 hz2 hown
  go_wp2_with fail
  go_loopw [7, 8, 9] (fun i _ _ wr => ∃ k : Nat, k ≤ n ∧ i = .int .i64 k ∧ Bl w wr ∧ Hid (wr.heap[w.heap.size]? = some (.cells #[.int .i64 (tot ls m k).1, .int .i64 (tot ls m k).2.1, .int .i64 (tot ls m k).2.2] 3 (0, 0))) ∧ Hid ((ls.take k).all tripOk = true)) (fun i _ _ _ => n - (intOf i).toNat)
  case atStart => exact ⟨0, Nat.zero_le _, rfl, hb1, HE.out, rfl⟩
  case round =>
    clear HE hb1
    obtain ⟨k, hk, rfl, hb, HE, HA⟩ := hrel
    by_cases hlt : k < n
    · obtain ⟨b, o, r, l, rfl, _, el, c1, s1, _⟩ := h.at_ hlt
      have g1 := c1 _ hb
      have EL := Lib.hid el
      obtain ⟨ra, rn, rc⟩ := r
      simp only at c1 g1 s1
      have H3 := Lib.hid (l6Triple_any ra rn rc l _ (s1 _ hb))
      cases ht : tripOk l
      · have HR := Lib.hid (susp_row (m := m) EL.out ht)
        rw [ht] at H3
        go_wp2_with fail
        refine H3.out.mono ?_
        rintro e w2 ⟨rfl, hbn⟩
        go_wp2_with fail
        go_ret2
        exact ⟨by rw [HR.out]; rfl, hb.trans hbn⟩
      · have e3 : rn = 3 := by rw [← trip_len ht]; exact (s1 _ hb).1.symm
        subst e3
        rw [ht] at H3
        have HT := Lib.hid ht
        have HS := Lib.hid s1
        have HN1 := Lib.hid (tot_one (m := m) el)
        have HIN := Lib.hid (fun q => rnd_in (l := l) (m := m) (tot_in ls m k) q)
        have HA2 : Hid ((ls.take (k + 1)).all tripOk = true) := by show _ = _; rw [all_one tripOk EL.out, HA.out, HT.out]; rfl
        clear s1 el ht HA
        go_wp2_with fail
        refine H3.out.mono ?_
        rintro e w2 ⟨rfl, hbn⟩
        have hb2 := hb.trans hbn
        have HE2 := Lib.hid (block_of hbn HE.out)
        have g2 := c1 _ hb2
        clear hb hbn HE H3 g1 c1
        generalize tot ls m k = s at *
        go_wp2_with fail
        refine (l6Agreeing_any ra rc l m _ (HS.out _ hb2) HT.out).mono ?_
        rintro e w3 ⟨B, jn, d, rfl, ho, hl, hm, hbn⟩
        have HSL := Lib.hid (Sl.of_own ci_len ho hl (by omega))
        have hz2 := lt_of_block HE2.out
        have HNE : Hid (∀ b o s, B = some ⟨b, o, s⟩ → b ≠ w.heap.size) := by
          rintro b o s rfl
          have := ((own_lt ho).out b rfl).1
          omega
        have hb3 := hb2.trans hbn
        have HE3 := Lib.hid (block_of hbn HE2.out)
        clear hb2 hbn HE2 ho hl g2 hz2
        go_wp2_with fail
        go_loopw [9] (fun j wx => ∃ q : Nat, q ≤ 3 ∧ j = .int .i64 q ∧ Bl w wx ∧ Hid (wx.heap[w.heap.size]? = some (.cells #[.int .i64 (rnd l m s q).1, .int .i64 (rnd l m s q).2.1, .int .i64 (rnd l m s q).2.2] 3 (0, 0))) ∧ Hid (Sl ci 1 wx B jn (agreeK l m 3))) (fun j _ => 3 - (intOf j).toNat)
        case atStart => exact ⟨0, Nat.zero_le _, rfl, hb3, HE3.out, HSL.out⟩
        case round =>
          clear hb3 HE3 HSL
          obtain ⟨q, hq, rfl, hb, HE, HSL⟩ := hrel
          by_cases hlt3 : q < 3
          · have HI9 := HIN.out q
            have HN3 := Lib.hid (fun h9 => rnd_not (l := l) (m := m) (s := s) (k := q) h9)
            have HN4 := Lib.hid (fun h9 => rnd_has (l := l) (m := m) (s := s) (k := q) h9)
            generalize rnd l m s q = u at *
            obtain ⟨x, y, z⟩ := u
            unfold within at HI9
            simp only at HI9 HE
            obtain ⟨⟨x0, x1⟩, ⟨y0, y1⟩, z0, z1⟩ := HI9
            have H4 := Lib.hid (l1Has_any B jn d (agreeK l m 3) (q : Int) _ HSL.out)
            cases hh : hasB (agreeK l m 3) (q : Int)
            · rw [hh] at H4
              have HN := Lib.hid (HN3.out hh)
              clear hh HN3 HN4
              go_wp2_with fail
              refine H4.out.mono ?_
              rintro e w4 ⟨rfl, hbn⟩
              have hb3 := hb.trans hbn
              have HE2 := Lib.hid (block_of hbn HE.out)
              have HSL := Lib.hid (HSL.out.bl hbn)
              clear hb hbn HE H4
              obtain ⟨p0, p1, p2⟩ := three_cell HE2.out
              obtain ⟨f0, f1, f2⟩ := three_free HE2.out
              have hq3 : q = 0 ∨ q = 1 ∨ q = 2 := by omega
              rcases hq3 with rfl | rfl | rfl
              · simp only [bump] at HN
                go_wp2_with fail
                have HE3 := Lib.hid (three_set0' (u := .int .i64 (x + 1)) HE2.out)
                have hb4 := hb3.setCell (p := ⟨w.heap.size, 0, none⟩) (Nat.le_refl _) (.int .i64 (x + 1))
                have HS4 := Lib.hid (sl_oth HSL.out (u := .int .i64 (x + 1)) (j := 0) HNE.out)
                exact ⟨⟨1, by omega, by first | rfl | go_num, hb4, by show _ = _; rw [HN.out]; exact HE3.out, HS4.out⟩, by simp [intOf]⟩
              · simp only [bump] at HN
                go_wp2_with fail
                have HE3 := Lib.hid (three_set1' (u := .int .i64 (y + 1)) HE2.out)
                have hb4 := hb3.setCell (p := ⟨w.heap.size, 1, none⟩) (Nat.le_refl _) (.int .i64 (y + 1))
                have HS4 := Lib.hid (sl_oth HSL.out (u := .int .i64 (y + 1)) (j := 1) HNE.out)
                exact ⟨⟨2, by omega, by first | rfl | go_num, hb4, by show _ = _; rw [HN.out]; exact HE3.out, HS4.out⟩, by simp [intOf]⟩
              · simp only [bump] at HN
                go_wp2_with fail
                have HE3 := Lib.hid (three_set2' (u := .int .i64 (z + 1)) HE2.out)
                have hb4 := hb3.setCell (p := ⟨w.heap.size, 2, none⟩) (Nat.le_refl _) (.int .i64 (z + 1))
                have HS4 := Lib.hid (sl_oth HSL.out (u := .int .i64 (z + 1)) (j := 2) HNE.out)
                exact ⟨⟨3, by omega, by first | rfl | go_num, hb4, by show _ = _; rw [HN.out]; exact HE3.out, HS4.out⟩, by simp [intOf]⟩
            · rw [hh] at H4
              have HN := Lib.hid (HN4.out hh)
              clear hh HN3 HN4
              go_wp2_with fail
              refine H4.out.mono ?_
              rintro e w4 ⟨rfl, hbn⟩
              have hb3 := hb.trans hbn
              have HE2 := Lib.hid (block_of hbn HE.out)
              have HSL := Lib.hid (HSL.out.bl hbn)
              clear hb hbn HE H4
              go_wp2_with fail
              first | exact ⟨⟨q + 1, by omega, by go_num, hb3, by show _ = _; rw [HN.out]; exact HE2.out, HSL.out⟩, by simp [intOf]; omega⟩ | (refine ⟨?_, by simp [intOf]; omega⟩; (repeat apply Exists.intro); exact ⟨⟨q + 1, by omega, by go_num, hb3, by show _ = _; rw [HN.out]; exact HE2.out, HSL.out⟩, rfl⟩)
          · have e : q = 3 := by omega
            subst e
            rw [← HN1.out] at HE
            go_wp2_with fail
            first | exact ⟨⟨k + 1, by omega, by go_num, hb, HE.out, HA2⟩, by simp [intOf]; omega⟩ | (refine ⟨?_, by simp [intOf]; omega⟩; (repeat apply Exists.intro); exact ⟨⟨k + 1, by omega, by go_num, hb, HE.out, HA2⟩, rfl⟩)
    · have e : k = n := by omega
      subst e
      have HALL : Hid (suspOk ls m = true) := by show _ = _; have h9 := HA.out; rw [take_all HL.out] at h9; rw [HOK2.out, h9]
      have HR := Lib.hid (susp_yes HALL.out)
      rw [HL.out] at HR
      generalize tot ls m k = s at *
      obtain ⟨x, y, z⟩ := s
      simp only at HE
      have HF0 := Lib.hid (fun h9 => fin_0 (s := (x, y, z)) h9)
      have HF1 := Lib.hid (fun h9 => fin_1 (s := (x, y, z)) h9)
      have HAT : Hid (at3 (x, y, z) = if max x y < z then 2 else if x < y then 1 else 0) := rfl
      have HMX : Hid (mx3 (x, y, z) = max (max x y) z) := rfl
      generalize at3 (x, y, z) = av at *
      generalize mx3 (x, y, z) = mv at *
      clear HA HALL h
      obtain ⟨p0, p1, p2⟩ := three_cell HE.out
      have P0 := Bl.all p0
      have P1 := Bl.all p1
      have P2 := Bl.all p2
      clear p0 p1 p2
      obtain ⟨wo, hwo⟩ : ∃ wo : World, wo = wr := ⟨_, rfl⟩
      subst hwo
      have hbE := hb
      clear hb HE
      go_wp2_with fail
      go_loopw [10, 11] (fun u v wx => ∃ q p : Nat, u = .int .i64 p ∧ v = .int .i64 q ∧ Bl wo wx ∧ ((q = 1 ∧ p = 0) ∨ (q = 2 ∧ ((p = 1 ∧ x < y) ∨ (p = 0 ∧ ¬ x < y))) ∨ (q = 3 ∧ p = av))) (fun _ v _ => 3 - (intOf v).toNat)
      case atStart => exact ⟨1, 0, rfl, rfl, Bl.refl _, .inl ⟨rfl, rfl⟩⟩
      case round =>
        obtain ⟨q, p, rfl, rfl, hbx, hc⟩ := hrel
        rcases hc with ⟨rfl, rfl⟩ | ⟨rfl, ⟨rfl, hxy⟩ | ⟨rfl, hxy⟩⟩ | ⟨rfl, rfl⟩
        · by_cases hxy : x < y
          · have hd : decide (x < y) = true := decide_eq_true hxy
            go_wp2_with fail
            refine region_bl (by kernel_rfl) (by kernel_rfl) hbx ?_
            repeat' (first | go_big_quiet_skip | (go_big_quiet_want; go_simp; (try go_bits); first | (refine ⟨_, fun _ _ => rfl, ?_⟩; go_big_quiet_on) | (apply Exists.intro; refine ⟨fun W hW => ?_, ?_⟩; (· go_simp; (try go_bits); rfl); go_big_quiet_on)))
            apply wpQuiet_nil
            intro W hb
            go_wp2_with fail
            exact ⟨⟨2, 1, rfl, rfl, hb, .inr (.inl ⟨rfl, .inl ⟨rfl, hxy⟩⟩)⟩, by simp [intOf]⟩
          · have hd : decide (x < y) = false := decide_eq_false hxy
            go_wp2_with fail
            refine region_bl (by kernel_rfl) (by kernel_rfl) hbx ?_
            repeat' (first | go_big_quiet_skip | (go_big_quiet_want; go_simp; (try go_bits); first | (refine ⟨_, fun _ _ => rfl, ?_⟩; go_big_quiet_on) | (apply Exists.intro; refine ⟨fun W hW => ?_, ?_⟩; (· go_simp; (try go_bits); rfl); go_big_quiet_on)))
            apply wpQuiet_nil
            intro W hb
            go_wp2_with fail
            exact ⟨⟨2, 0, rfl, rfl, hb, .inr (.inl ⟨rfl, .inr ⟨rfl, by omega⟩⟩)⟩, by simp [intOf]⟩
        · by_cases hyz : y < z
          · have hd : decide (y < z) = true := decide_eq_true hyz
            have HA : Hid (av = 2) := by show _ = _; rw [HAT.out, if_pos (by omega)]
            clear HAT HMX
            go_wp2_with fail
            refine region_bl (by kernel_rfl) (by kernel_rfl) hbx ?_
            repeat' (first | go_big_quiet_skip | (go_big_quiet_want; go_simp; (try go_bits); first | (refine ⟨_, fun _ _ => rfl, ?_⟩; go_big_quiet_on) | (apply Exists.intro; refine ⟨fun W hW => ?_, ?_⟩; (· go_simp; (try go_bits); rfl); go_big_quiet_on)))
            apply wpQuiet_nil
            intro W hb
            go_wp2_with fail
            exact ⟨⟨3, 2, rfl, rfl, hb, .inr (.inr ⟨rfl, HA.out.symm⟩)⟩, by simp [intOf]⟩
          · have hd : decide (y < z) = false := decide_eq_false hyz
            have HA : Hid (av = 1) := by show _ = _; rw [HAT.out, if_neg (by omega), if_pos hxy]
            clear HAT HMX
            go_wp2_with fail
            refine region_bl (by kernel_rfl) (by kernel_rfl) hbx ?_
            repeat' (first | go_big_quiet_skip | (go_big_quiet_want; go_simp; (try go_bits); first | (refine ⟨_, fun _ _ => rfl, ?_⟩; go_big_quiet_on) | (apply Exists.intro; refine ⟨fun W hW => ?_, ?_⟩; (· go_simp; (try go_bits); rfl); go_big_quiet_on)))
            apply wpQuiet_nil
            intro W hb
            go_wp2_with fail
            exact ⟨⟨3, 1, rfl, rfl, hb, .inr (.inr ⟨rfl, HA.out.symm⟩)⟩, by simp [intOf]⟩
        · by_cases hxz : x < z
          · have hd : decide (x < z) = true := decide_eq_true hxz
            have HA : Hid (av = 2) := by show _ = _; rw [HAT.out, if_pos (by omega)]
            clear HAT HMX
            go_wp2_with fail
            refine region_bl (by kernel_rfl) (by kernel_rfl) hbx ?_
            repeat' (first | go_big_quiet_skip | (go_big_quiet_want; go_simp; (try go_bits); first | (refine ⟨_, fun _ _ => rfl, ?_⟩; go_big_quiet_on) | (apply Exists.intro; refine ⟨fun W hW => ?_, ?_⟩; (· go_simp; (try go_bits); rfl); go_big_quiet_on)))
            apply wpQuiet_nil
            intro W hb
            go_wp2_with fail
            exact ⟨⟨3, 2, rfl, rfl, hb, .inr (.inr ⟨rfl, HA.out.symm⟩)⟩, by simp [intOf]⟩
          · have hd : decide (x < z) = false := decide_eq_false hxz
            have HA : Hid (av = 0) := by show _ = _; rw [HAT.out, if_neg (by omega), if_neg hxy]
            clear HAT HMX
            go_wp2_with fail
            refine region_bl (by kernel_rfl) (by kernel_rfl) hbx ?_
            repeat' (first | go_big_quiet_skip | (go_big_quiet_want; go_simp; (try go_bits); first | (refine ⟨_, fun _ _ => rfl, ?_⟩; go_big_quiet_on) | (apply Exists.intro; refine ⟨fun W hW => ?_, ?_⟩; (· go_simp; (try go_bits); rfl); go_big_quiet_on)))
            apply wpQuiet_nil
            intro W hb
            go_wp2_with fail
            exact ⟨⟨3, 0, rfl, rfl, hb, .inr (.inr ⟨rfl, HA.out.symm⟩)⟩, by simp [intOf]⟩
        · have hc : (p = 0 ∧ mv = x) ∨ (p = 1 ∧ mv = y) ∨ (p = 2 ∧ mv = z) := by
            have h1 := HAT.out
            have h2 := HMX.out
            by_cases q1 : max x y < z
            · rw [if_pos q1] at h1; omega
            · rw [if_neg q1] at h1
              by_cases q2 : x < y
              · rw [if_pos q2] at h1; omega
              · rw [if_neg q2] at h1; omega
          have hbw := hbE.trans hbx
          have p0 := P0 _ hbx
          have p1 := P1 _ hbx
          have p2 := P2 _ hbx
          clear HAT HMX P0 P1 P2
          rcases hc with ⟨rfl, rfl⟩ | ⟨rfl, rfl⟩ | ⟨rfl, rfl⟩
          · by_cases hz : mv = 0
            · have HQ := Lib.hid (HR.out.trans (HF0.out hz))
              have hz' : (mv == 0) = true := by simpa using hz
              clear HR HF0 HF1
              go_wp2_with fail
              go_ret2
              exact ⟨by rw [HQ.out]; rfl, hbw⟩
            · have HQ := Lib.hid (HR.out.trans (HF1.out hz))
              have hz' : (mv == 0) = false := by simpa using hz
              clear HR HF0 HF1
              go_wp2_with fail
              go_ret2
              exact ⟨by rw [HQ.out]; rfl, hbw⟩
          · by_cases hz : mv = 0
            · have HQ := Lib.hid (HR.out.trans (HF0.out hz))
              have hz' : (mv == 0) = true := by simpa using hz
              clear HR HF0 HF1
              go_wp2_with fail
              go_ret2
              exact ⟨by rw [HQ.out]; rfl, hbw⟩
            · have HQ := Lib.hid (HR.out.trans (HF1.out hz))
              have hz' : (mv == 0) = false := by simpa using hz
              clear HR HF0 HF1
              go_wp2_with fail
              go_ret2
              exact ⟨by rw [HQ.out]; rfl, hbw⟩
          · by_cases hz : mv = 0
            · have HQ := Lib.hid (HR.out.trans (HF0.out hz))
              have hz' : (mv == 0) = true := by simpa using hz
              clear HR HF0 HF1
              go_wp2_with fail
              go_ret2
              exact ⟨by rw [HQ.out]; rfl, hbw⟩
            · have HQ := Lib.hid (HR.out.trans (HF1.out hz))
              have hz' : (mv == 0) = false := by simpa using hz
              clear HR HF0 HF1
              go_wp2_with fail
              go_ret2
              exact ⟨by rw [HQ.out]; rfl, hbw⟩
end Go.Proofs.Ytmnbbnboaokgjaa
