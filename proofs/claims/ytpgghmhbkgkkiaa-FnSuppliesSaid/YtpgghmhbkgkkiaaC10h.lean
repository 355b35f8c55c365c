/- The contracts of LevelOut in both programs. -/
import Derived.Test.YtpgghmhbkgkkiaaQ10c
import Derived.RegionTactic
namespace Go.Proofs.Ytpgghmhbkgkkiaa
open Go.RowKit
/-- How far the basins of a slice are above their least volumes, squared and added: out of the cells. -/
def potC (w : World) (g a : Nat) : Nat := (intOf ((w.cell? ⟨g, a, none⟩).getD undef) - intOf ((w.cell? ⟨g, a + 1, none⟩).getD undef)).toNat * (intOf ((w.cell? ⟨g, a, none⟩).getD undef) - intOf ((w.cell? ⟨g, a + 1, none⟩).getD undef)).toNat
def potW (w : World) (v : Value) : Nat := match v with
  | .slice (some ⟨g, o, _⟩) n _ => ((List.range n).map fun i => potC w g (o + i * 3)).sum
  | _ => 0
theorem potW_eq {w : World} {C : Option Addr} {n c : Nat} {r : List Basin} (h : Sl Basin.cs 3 w C n r) (hn : 0 < n) : potW w (.slice C n c) = pot r := by
  obtain ⟨b, o, rfl, hc⟩ := h.2.2 hn
  simp only [potW, pot]
  congr 1
  apply List.ext_getElem?
  intro i
  by_cases hi : i < n
  · have hx : r[i]? = some (r[i]'(by rw [h.1]; exact hi)) := List.getElem?_eq_getElem (by rw [h.1]; exact hi)
    generalize r[i]'(by rw [h.1]; exact hi) = x at hx
    have c0 := hc i x hx 0 (.int .i64 x.Volume) rfl
    have c1 := hc i x hx 1 (.int .i64 x.Least) rfl
    rw [Nat.add_zero] at c0
    simp [hi, hx, potC, c0, c1, potB, intOf]
  · rw [List.getElem?_eq_none (by simp; omega), List.getElem?_eq_none (by simp [h.1]; omega)]
set_option maxHeartbeats 400000 in
theorem l10Above_any (p : Basin) (w : World) (h0 : 0 ≤ p.Volume) (h1 : p.Volume ≤ 100000) (h2 : 0 ≤ p.Least) (h3 : p.Least ≤ 100000) : Calls Try.prog 69 #[p.val] w fun e w' => e = .returned (.int .i64 (abv p)) ∧ Bl w w' := by
  obtain ⟨a, b, c⟩ := p
  simp only at h0 h1 h2 h3
  simp only [Basin.val, abv]
  go_enter Try.func69, Try.ntmps69
  go_wp2
  go_ret
  exact ⟨rfl, (Bl.refl _).alloc _⟩
theorem fromK_one {r : List Basin} {k : Nat} {b f : Basin} (hb : r[k]? = some b) (hf : r[fromK r k]? = some f) : fromK r (k + 1) = if abv f < abv b then k else fromK r k := by rw [fromK, bsAt_eq hb, bsAt_eq hf]
theorem toK_one {r : List Basin} {k : Nat} {b t : Basin} (hb : r[k]? = some b) (ht : r[toK r k]? = some t) : toK r (k + 1) = if room t < room b then k else toK r k := by rw [toK, bsAt_eq hb, bsAt_eq ht]
set_option maxRecDepth 100000 in
set_option maxHeartbeats 2000000 in
theorem specLevelOut_any (A : Option Addr) (n c : Nat) (l : List Basin) (w : World) (h : Sl Basin.cs 3 w A n l) (hn : n ≤ 1048576) :
    Calls Try.prog 35 #[.slice A n c] w (NewRes Basin.cs 3 69 (levelR l).1 (fun v => .tuple #[v, .bool (levelR l).2]) w) := by
  have bn := h.le
  have HL := Lib.hid h.1
  have H1 := Lib.hid (l10Good_any A n c l w h)
  cases h1 : basinsOk l
  · have HR := Lib.hid (show levelR l = ([], false) by simp [levelR, h1])
    go_enter Try.func35, Try.ntmps35
    go_wp2_with fail
    refine H1.out.mono ?_
    rintro e w1 ⟨rfl, hb⟩
    simp only [h1]
    go_wp2_with fail
    go_ret2
    rw [HR.out]
    exact NewRes.empty hb
  have HR := Lib.hid (show levelR l = (levelOf l, true) by simp [levelR, h1])
  have hl6 := bas_len h1
  rw [HL.out] at hl6
  go_enter Try.func35, Try.ntmps35
  go_wp2_with fail
  refine H1.out.mono ?_
  rintro e w1 ⟨rfl, hb⟩
  simp only [h1]
  obtain ⟨i0, hi0, hz0, hz1, hz2⟩ := info_parts infoBasin
  go_wp2_with (at_builtin; refine wpList_append_new _ rfl _ _ _ rfl 69 i0 _ 3 24 Try.underlying25 hi0 hz0 hz1 hz2 rfl (by omega) Basin.cs_len Basin.one _ rfl (by first | rfl | simp) A n c l rfl (h.bl hb) (by unfold maxLen; omega) (by omega) ?_)
  clear hi0 hz0 hz1 hz2
  intro B1 d1 w2 ho hbn
  have ho := own_mono ho hb.le
  have hb := hb.trans hbn
  clear hbn
  go_wp2_with fail
  go_loopw [4] (fun u wr => ∃ (C : Option Addr) (c2 : Nat) (r : List Basin), u = .slice C n c2 ∧ Bl w wr ∧ wr.ownsRow w.heap.size 69 3 (.slice C n c2) n (r.flatMap Basin.cs) ∧ Hid (basinsOk r = true) ∧ Hid (r.length = n) ∧ Hid (levelOf l = levelOf r)) (fun u wr => potW wr u)
  case atStart => exact ⟨B1, d1, l, rfl, hb, ho, h1, HL, rfl⟩
  case round =>
    clear hb ho
    obtain ⟨C, c2, r, rfl, hb, hor, hok, hlr, hlv⟩ := hrel
    have hS := Sl.of_own Basin.cs_len hor hlr.out (by omega)
    have HP := Lib.hid (potW_eq (c := c2) hS (by omega))
    obtain ⟨wo, hwo⟩ : ∃ wo : World, wo = wr := ⟨_, rfl⟩
    subst hwo
    go_wp2_with fail
    go_loopw [5, 6, 7] (fun f t i wx => ∃ k : Nat, k ≤ n ∧ i = .int .i64 k ∧ f = .int .i64 (fromK r k : Nat) ∧ t = .int .i64 (toK r k : Nat) ∧ Bl wo wx) (fun _ _ i _ => n - (intOf i).toNat)
    case atStart => exact ⟨0, Nat.zero_le _, rfl, rfl, rfl, Bl.refl _⟩
    case round =>
      obtain ⟨k, hk, rfl, rfl, rfl, hbx⟩ := hrel
      have hfl := fromK_lt (r := r) (n := n) (by omega) k hk
      have htl := toK_lt (r := r) (n := n) (by omega) k hk
      obtain ⟨b1, o1, p, rfl, ep, p1, p2, p3⟩ := hS.Basin hfl
      obtain ⟨b2, o2, q, hA2, eq, q1, q2, q3⟩ := hS.Basin htl
      injection hA2 with hA2; injection hA2 with hA2 hA2'; subst hA2 hA2'
      obtain ⟨rp0, rp1, rp2, rp3⟩ := bas_at hok.out ep
      obtain ⟨rq0, rq1, rq2, rq3⟩ := bas_at hok.out eq
      by_cases hlt : k < n
      · obtain ⟨b3, o3, x, hA3, ex, x1, x2, x3⟩ := hS.Basin hlt
        injection hA3 with hA3; injection hA3 with hA3 hA3'; subst hA3 hA3'
        obtain ⟨rx0, rx1, rx2, rx3⟩ := bas_at hok.out ex
        have HF := Lib.hid (fromK_one ex ep)
        have HT := Lib.hid (toK_one ex eq)
        clear ex ep eq
        generalize hfe : fromK r k = fi at *
        generalize hte : toK r k = ti at *
        have HFE := Lib.hid hfe
        have HTE := Lib.hid hte
        clear hfe hte
        have HX := Lib.hid (fun W => l10Above_any x W (by omega) (by omega) rx0 (by omega))
        have HP2 := Lib.hid (fun W => l10Above_any p W (by omega) (by omega) rp0 (by omega))
        have HC1 : Hid (abv p = p.Volume - p.Least) := rfl
        have HC2 : Hid (abv x = x.Volume - x.Least) := rfl
        cases hc1 : decide (abv p < abv x) <;> cases hc2 : decide (q.Most - q.Volume < x.Most - x.Volume)
        all_goals
          have HFN : Hid (fromK r (k + 1) = if decide (abv p < abv x) = true then k else fi) := by show _ = _; rw [HF.out]; simp
          have HTN : Hid (toK r (k + 1) = if decide (q.Most - q.Volume < x.Most - x.Volume) = true then k else ti) := by show _ = _; rw [HT.out]; by_cases h9 : q.Most - q.Volume < x.Most - x.Volume <;> simp [room, h9]
          rw [hc1] at HFN
          rw [hc2] at HTN
          go_wp2_with fail
          refine region_bl (by kernel_rfl) (by kernel_rfl) hbx ?_
          repeat' (first | go_big_quiet_skip | (go_big_quiet_want; go_simp; (try go_bits); first | (refine ⟨_, fun _ _ => rfl, ?_⟩; go_big_quiet_on) | (apply Exists.intro; (with_reducible refine ⟨fun W hW => ret_bl hW (HX.out W), ?_⟩); go_big_quiet_on) | (apply Exists.intro; (with_reducible refine ⟨fun W hW => ret_bl hW (HP2.out W), ?_⟩); go_big_quiet_on) | (apply Exists.intro; refine ⟨fun W hW => ?_, ?_⟩; (· go_simp; (try go_bits); rfl); go_big_quiet_on)))
          apply wpQuiet_nil
          intro W hb
          go_wp2_with fail
          refine region_bl (by kernel_rfl) (by kernel_rfl) hb ?_
          repeat' (first | go_big_quiet_skip | (go_big_quiet_want; go_simp; (try go_bits); first | (refine ⟨_, fun _ _ => rfl, ?_⟩; go_big_quiet_on) | (apply Exists.intro; refine ⟨fun W hW => ?_, ?_⟩; (· go_simp; (try go_bits); rfl); go_big_quiet_on)))
          apply wpQuiet_nil
          intro W hb
          go_wp2_with fail
          first | exact ⟨⟨k + 1, by omega, by go_num, by rw [HFN.out]; rfl, by rw [HTN.out]; rfl, hb⟩, by simp [intOf]; omega⟩ | (refine ⟨?_, by simp [intOf]; omega⟩; (repeat apply Exists.intro); exact ⟨⟨k + 1, by omega, by go_num, by rw [HFN.out]; rfl, by rw [HTN.out]; rfl, hb⟩, rfl⟩)
      · have e : k = n := by omega
        subst e
        have hbw := hb.trans hbx
        have hor2 := hbx.own hor
        have HS := Lib.hid (show stops r = (decide (abv p < abv q + 2) || decide (q.Volume = q.Most)) by rw [stops, hlr.out, bsAt_eq ep, bsAt_eq eq])
        have HTF := Lib.hid (show theFlow r = ⟨(fromK r k : Int), (toK r k : Int), 1⟩ by rw [theFlow, hlr.out])
        have HPQ : Hid (abv p = p.Volume - p.Least ∧ abv q = q.Volume - q.Least) := ⟨rfl, rfl⟩
        have hsm := small_mono (small_ok hok.out) (show (100000 : Int) ≤ 1400000 by omega)
        have HX := Lib.hid (fun W => l10Above_any q W (by omega) (by omega) rq0 (by omega))
        have HP2 := Lib.hid (fun W => l10Above_any p W (by omega) (by omega) rp0 (by omega))
        have hfl2 := hfl
        have htl2 := htl
        have H4 := Lib.hid (fun w h => l10Move_any (some ⟨b1, o1, none⟩) k c2 r (theFlow r) w h hn hsm (by simp [theFlow]) (by simp [theFlow]))
        rw [HTF.out] at H4
        simp only [Flow.val] at H4
        have ab0 : 0 ≤ abv p ∧ abv p ≤ 100000 ∧ 0 ≤ abv q ∧ abv q ≤ 100000 := by have := HPQ.out; omega
        obtain ⟨ab1, ab2, ab3, ab4⟩ := ab0
        generalize abv p = ap at *
        generalize abv q = aq at *
        have HSB := HS
        cases hst : stops r
        · obtain ⟨g1, g2, g3⟩ := goes_ok hok.out (goes_of hok.out hst)
          have HG2 := Lib.hid (show basinsOk (moveL r (theFlow r)) = true from g2)
          have HG3 := Lib.hid (show pot (moveL r (theFlow r)) < pot r from g3)
          have HGO := Lib.hid (hlv.out.trans (level_go hok.out hst))
          have hss := HS.out.symm.trans hst
          rw [Bool.or_eq_false_iff, decide_eq_false_iff_not, decide_eq_false_iff_not] at hss
          have c1 : decide (ap < aq + 2) = false := by simp; omega
          have c2' : (q.Volume == q.Most) = false := by simpa using hss.2
          clear g1 g2 g3 hss ep eq
          go_wp2_with fail
          refine region_bl (by kernel_rfl) (by kernel_rfl) hbx ?_
          repeat' (first | go_big_quiet_skip | (go_big_quiet_want; go_simp; (try go_bits); first | (refine ⟨_, fun _ _ => rfl, ?_⟩; go_big_quiet_on) | (apply Exists.intro; (with_reducible refine ⟨fun W hW => ret_bl hW (HX.out W), ?_⟩); go_big_quiet_on) | (apply Exists.intro; (with_reducible refine ⟨fun W hW => ret_bl hW (HP2.out W), ?_⟩); go_big_quiet_on) | (apply Exists.intro; refine ⟨fun W hW => ?_, ?_⟩; (· go_simp; (try go_bits); rfl); go_big_quiet_on)))
          apply wpQuiet_nil
          intro W hb
          have hbw2 : Bl w W := Bl.trans (by with_reducible assumption) hb
          go_wp2_with fail
          refine (H4.out _ (hS.bl hb)).mono ?_
          rintro e w4 ⟨C4, m4, c4, rfl, ho4, hl4, hm4, hbn⟩
          rw [← HTF.out] at ho4 hl4
          have hm4' : m4 = k := by rw [← hl4, moveL_len]; exact hlr.out
          subst hm4'
          have HS4 := Sl.of_own Basin.cs_len ho4 hl4 (by omega)
          have HPOT := Lib.hid (show potW w4 (.slice C4 m4 c4) < potW wo (.slice (some ⟨b1, o1, none⟩) m4 c2) by rw [HP.out, potW_eq HS4 (by omega)]; exact HG3.out)
          have HO4 := Lib.hid ho4
          have HL4 := Lib.hid hl4
          clear ho4 hl4 HS4
          go_wp2_with fail
          exact ⟨⟨C4, c4, moveL r (theFlow r), rfl, hbw2.trans hbn, own_mono HO4.out hbw2.le, HG2, HL4, HGO⟩, HPOT.out⟩
        · have HE := Lib.hid (HR.out.trans (by rw [hlv.out, level_end hst]))
          have hss := HS.out.symm.trans hst
          clear ep eq
          cases c1 : decide (ap < aq + 2)
          · have c2' : (q.Volume == q.Most) = true := by rw [c1] at hss; simpa using hss
            clear hss
            go_wp2_with fail
            refine region_bl (by kernel_rfl) (by kernel_rfl) hbx ?_
            repeat' (first | go_big_quiet_skip | (go_big_quiet_want; go_simp; (try go_bits); first | (refine ⟨_, fun _ _ => rfl, ?_⟩; go_big_quiet_on) | (apply Exists.intro; (with_reducible refine ⟨fun W hW => ret_bl hW (HX.out W), ?_⟩); go_big_quiet_on) | (apply Exists.intro; (with_reducible refine ⟨fun W hW => ret_bl hW (HP2.out W), ?_⟩); go_big_quiet_on) | (apply Exists.intro; refine ⟨fun W hW => ?_, ?_⟩; (· go_simp; (try go_bits); rfl); go_big_quiet_on)))
            apply wpQuiet_nil
            intro W hb
            have hbw2 : Bl w W := Bl.trans (by with_reducible assumption) hb
            have hor3 := hb.own hor
            go_wp2_with fail
            go_ret2
            rw [HE.out]
            exact NewRes.own hor3 (Bl.refl w) hlr.out hn hbw2
          · clear hss
            go_wp2_with fail
            refine region_bl (by kernel_rfl) (by kernel_rfl) hbx ?_
            repeat' (first | go_big_quiet_skip | (go_big_quiet_want; go_simp; (try go_bits); first | (refine ⟨_, fun _ _ => rfl, ?_⟩; go_big_quiet_on) | (apply Exists.intro; (with_reducible refine ⟨fun W hW => ret_bl hW (HX.out W), ?_⟩); go_big_quiet_on) | (apply Exists.intro; (with_reducible refine ⟨fun W hW => ret_bl hW (HP2.out W), ?_⟩); go_big_quiet_on) | (apply Exists.intro; refine ⟨fun W hW => ?_, ?_⟩; (· go_simp; (try go_bits); rfl); go_big_quiet_on)))
            apply wpQuiet_nil
            intro W hb
            have hbw2 : Bl w W := Bl.trans (by with_reducible assumption) hb
            have hor3 := hb.own hor
            go_wp2_with fail
            go_ret2
            rw [HE.out]
            exact NewRes.own hor3 (Bl.refl w) hlr.out hn hbw2
set_option maxRecDepth 100000 in
set_option maxHeartbeats 2000000 in
theorem implLevelOut_any (A : Option Addr) (n c : Nat) (l : List Basin) (w : World) (h : Sl Basin.cs 3 w A n l) (hn : n ≤ 1048576) :
    Calls Try.prog 36 #[.slice A n c] w (NewRes Basin.cs 3 69 (levelR l).1 (fun v => .tuple #[v, .bool (levelR l).2]) w) := by
  have bn := h.le
  have HL := Lib.hid h.1
  have H1 := Lib.hid (areBasins_any A n c l w h)
  cases h1 : basinsOk l
  · have HR := Lib.hid (show levelR l = ([], false) by simp [levelR, h1])
    go_enter Try.func36, Try.ntmps36
    go_wp2_with fail
    refine H1.out.mono ?_
    rintro e w1 ⟨rfl, hb⟩
    simp only [h1]
    go_wp2_with fail
    go_ret2
    rw [HR.out]
    exact NewRes.nil hb
  have HR := Lib.hid (show levelR l = (levelOf l, true) by simp [levelR, h1])
  have hl6 := bas_len h1
  rw [HL.out] at hl6
  go_enter Try.func36, Try.ntmps36
  go_wp2_with fail
  refine H1.out.mono ?_
  rintro e w1 ⟨rfl, hb⟩
  simp only [h1]
  obtain ⟨i0, hi0, hz0, hz1, hz2⟩ := info_parts infoBasin
  go_wp2_with (at_builtin; refine wpList_append_new _ rfl _ _ _ rfl 69 i0 _ 3 24 Try.underlying25 hi0 hz0 hz1 hz2 rfl (by omega) Basin.cs_len Basin.one _ rfl (by first | rfl | simp) A n c l rfl (h.bl hb) (by unfold maxLen; omega) (by omega) ?_)
  clear hi0 hz0 hz1 hz2
  intro B1 d1 w2 ho hbn
  have ho := own_mono ho hb.le
  have hb := hb.trans hbn
  clear hbn
  go_wp2_with fail
  go_loopw [4] (fun u wr => ∃ (C : Option Addr) (c2 : Nat) (r : List Basin), u = .slice C n c2 ∧ Bl w wr ∧ wr.ownsRow w.heap.size 69 3 (.slice C n c2) n (r.flatMap Basin.cs) ∧ Hid (basinsOk r = true) ∧ Hid (r.length = n) ∧ Hid (levelOf l = levelOf r)) (fun u wr => potW wr u)
  case atStart => exact ⟨B1, d1, l, rfl, hb, ho, h1, HL, rfl⟩
  case round =>
    clear hb ho
    obtain ⟨C, c2, r, rfl, hb, hor, hok, hlr, hlv⟩ := hrel
    have hS := Sl.of_own Basin.cs_len hor hlr.out (by omega)
    have HP := Lib.hid (potW_eq (c := c2) hS (by omega))
    obtain ⟨wo, hwo⟩ : ∃ wo : World, wo = wr := ⟨_, rfl⟩
    subst hwo
    go_wp2_with fail
    go_loopw [5, 6, 20] (fun f t i wx => ∃ k : Nat, k ≤ n ∧ i = .int .i64 k ∧ f = .int .i64 (fromK r k : Nat) ∧ t = .int .i64 (toK r k : Nat) ∧ Bl wo wx) (fun _ _ i _ => n - (intOf i).toNat)
    case atStart => exact ⟨0, Nat.zero_le _, rfl, rfl, rfl, Bl.refl _⟩
    case round =>
      obtain ⟨k, hk, rfl, rfl, rfl, hbx⟩ := hrel
      have hfl := fromK_lt (r := r) (n := n) (by omega) k hk
      have htl := toK_lt (r := r) (n := n) (by omega) k hk
      obtain ⟨b1, o1, p, rfl, ep, p1, p2, p3⟩ := hS.Basin hfl
      obtain ⟨b2, o2, q, hA2, eq, q1, q2, q3⟩ := hS.Basin htl
      injection hA2 with hA2; injection hA2 with hA2 hA2'; subst hA2 hA2'
      obtain ⟨rp0, rp1, rp2, rp3⟩ := bas_at hok.out ep
      obtain ⟨rq0, rq1, rq2, rq3⟩ := bas_at hok.out eq
      by_cases hlt : k < n
      · obtain ⟨b3, o3, x, hA3, ex, x1, x2, x3⟩ := hS.Basin hlt
        injection hA3 with hA3; injection hA3 with hA3 hA3'; subst hA3 hA3'
        obtain ⟨rx0, rx1, rx2, rx3⟩ := bas_at hok.out ex
        have HF := Lib.hid (fromK_one ex ep)
        have HT := Lib.hid (toK_one ex eq)
        clear ex ep eq
        generalize hfe : fromK r k = fi at *
        generalize hte : toK r k = ti at *
        have HFE := Lib.hid hfe
        have HTE := Lib.hid hte
        clear hfe hte
        have y1 := x1 _ hbx
        have y2 := x2 _ hbx
        have y3 := x3 _ hbx
        have hq : Bl wr (wr.alloc (.cells #[.int .i64 x.Volume, .int .i64 x.Least, .int .i64 x.Most] 69)) := (Bl.refl _).alloc _
        have bq := Bl.refl (wr.alloc (.cells #[.int .i64 x.Volume, .int .i64 x.Least, .int .i64 x.Most] 69))
        have Z0 : ∀ W, Bl (wr.alloc (.cells #[.int .i64 x.Volume, .int .i64 x.Least, .int .i64 x.Most] 69)) W → W.cell? ⟨wr.heap.size, 0, none⟩ = some (.int .i64 x.Volume) := Bl.all (by go_simp)
        have Z1 : ∀ W, Bl (wr.alloc (.cells #[.int .i64 x.Volume, .int .i64 x.Least, .int .i64 x.Most] 69)) W → W.cell? ⟨wr.heap.size, 1, none⟩ = some (.int .i64 x.Least) := Bl.all (by go_simp)
        have Z2 : ∀ W, Bl (wr.alloc (.cells #[.int .i64 x.Volume, .int .i64 x.Least, .int .i64 x.Most] 69)) W → W.cell? ⟨wr.heap.size, 2, none⟩ = some (.int .i64 x.Most) := Bl.all (by go_simp)
        have P1 : ∀ W, Bl (wr.alloc (.cells #[.int .i64 x.Volume, .int .i64 x.Least, .int .i64 x.Most] 69)) W → W.cell? ⟨b1, o1 + fi * 3, none⟩ = some (.int .i64 p.Volume) := fun W hW => p1 W ((hbx.trans hq).trans hW)
        have P2 : ∀ W, Bl (wr.alloc (.cells #[.int .i64 x.Volume, .int .i64 x.Least, .int .i64 x.Most] 69)) W → W.cell? ⟨b1, o1 + fi * 3 + 1, none⟩ = some (.int .i64 p.Least) := fun W hW => p2 W ((hbx.trans hq).trans hW)
        have P3 : ∀ W, Bl (wr.alloc (.cells #[.int .i64 x.Volume, .int .i64 x.Least, .int .i64 x.Most] 69)) W → W.cell? ⟨b1, o1 + fi * 3 + 2, none⟩ = some (.int .i64 p.Most) := fun W hW => p3 W ((hbx.trans hq).trans hW)
        have Q1 : ∀ W, Bl (wr.alloc (.cells #[.int .i64 x.Volume, .int .i64 x.Least, .int .i64 x.Most] 69)) W → W.cell? ⟨b1, o1 + ti * 3, none⟩ = some (.int .i64 q.Volume) := fun W hW => q1 W ((hbx.trans hq).trans hW)
        have Q2 : ∀ W, Bl (wr.alloc (.cells #[.int .i64 x.Volume, .int .i64 x.Least, .int .i64 x.Most] 69)) W → W.cell? ⟨b1, o1 + ti * 3 + 1, none⟩ = some (.int .i64 q.Least) := fun W hW => q2 W ((hbx.trans hq).trans hW)
        have Q3 : ∀ W, Bl (wr.alloc (.cells #[.int .i64 x.Volume, .int .i64 x.Least, .int .i64 x.Most] 69)) W → W.cell? ⟨b1, o1 + ti * 3 + 2, none⟩ = some (.int .i64 q.Most) := fun W hW => q3 W ((hbx.trans hq).trans hW)
        clear x1 x2 x3 p1 p2 p3 q1 q2 q3
        cases hc1 : decide (p.Volume - p.Least < x.Volume - x.Least) <;> cases hc2 : decide (q.Most - q.Volume < x.Most - x.Volume)
        all_goals
          have HFN : Hid (fromK r (k + 1) = if decide (p.Volume - p.Least < x.Volume - x.Least) = true then k else fi) := by show _ = _; rw [HF.out]; by_cases h9 : p.Volume - p.Least < x.Volume - x.Least <;> simp [abv, h9]
          have HTN : Hid (toK r (k + 1) = if decide (q.Most - q.Volume < x.Most - x.Volume) = true then k else ti) := by show _ = _; rw [HT.out]; by_cases h9 : q.Most - q.Volume < x.Most - x.Volume <;> simp [room, h9]
          rw [hc1] at HFN
          rw [hc2] at HTN
          go_wp2_with fail
          refine region_bl (by kernel_rfl) (by kernel_rfl) bq ?_
          repeat' (first | go_big_quiet_skip | (go_big_quiet_want; go_simp; (try go_bits); first | (refine ⟨_, fun _ _ => rfl, ?_⟩; go_big_quiet_on) | (apply Exists.intro; refine ⟨fun W hW => ?_, ?_⟩; (· go_simp; (try go_bits); rfl); go_big_quiet_on)))
          apply wpQuiet_nil
          intro W hb
          go_wp2_with fail
          refine region_bl (by kernel_rfl) (by kernel_rfl) hb ?_
          repeat' (first | go_big_quiet_skip | (go_big_quiet_want; go_simp; (try go_bits); first | (refine ⟨_, fun _ _ => rfl, ?_⟩; go_big_quiet_on) | (apply Exists.intro; refine ⟨fun W hW => ?_, ?_⟩; (· go_simp; (try go_bits); rfl); go_big_quiet_on)))
          apply wpQuiet_nil
          intro W hb
          go_wp2_with fail
          first | exact ⟨⟨k + 1, by omega, by go_num, by rw [HFN.out]; rfl, by rw [HTN.out]; rfl, (hbx.trans hq).trans hb⟩, by simp [intOf]; omega⟩ | (refine ⟨?_, by simp [intOf]; omega⟩; (repeat apply Exists.intro); exact ⟨⟨k + 1, by omega, by go_num, by rw [HFN.out]; rfl, by rw [HTN.out]; rfl, (hbx.trans hq).trans hb⟩, rfl⟩)
      · have e : k = n := by omega
        subst e
        have hbw := hb.trans hbx
        have hor2 := hbx.own hor
        have HS := Lib.hid (show stops r = (decide (abv p < abv q + 2) || decide (q.Volume = q.Most)) by rw [stops, hlr.out, bsAt_eq ep, bsAt_eq eq])
        have HTF := Lib.hid (show theFlow r = ⟨(fromK r k : Int), (toK r k : Int), 1⟩ by rw [theFlow, hlr.out])
        have HPQ : Hid (abv p = p.Volume - p.Least ∧ abv q = q.Volume - q.Least) := ⟨rfl, rfl⟩
        have hsm := small_mono (small_ok hok.out) (show (100000 : Int) ≤ 1400000 by omega)
        have HSS := Lib.hid (stops_same hok.out)
        have HSS2 := Lib.hid (HSS.out.trans (show _ = (!(moveWaterR r (theFlow r)).2 || decide (p.Volume - p.Least < q.Volume - q.Least + 2)) by rw [hlr.out, bsAt_eq ep, bsAt_eq eq]; rfl))
        have H4 := Lib.hid (fun w h => implMoveWater_any (some ⟨b1, o1, none⟩) k c2 r (theFlow r) w h hn)
        have H5 := H4
        rw [HTF.out] at H4
        simp only [Flow.val] at H4
        rw [← HTF.out] at H4
        clear H5
        have g1 := p1 _ hbx
        have g2 := p2 _ hbx
        clear HSS
        cases hst : stops r
        · obtain ⟨k1, k2, k3⟩ := goes_ok hok.out (goes_of hok.out hst)
          have HG2 := Lib.hid (show basinsOk (moveL r (theFlow r)) = true from k2)
          have HG3 := Lib.hid (show pot (moveL r (theFlow r)) < pot r from k3)
          have hfo : flowOk r (theFlow r) = true := by simp only [flowOk, hok.out, Bool.true_and]; exact k1
          have HMR := Lib.hid (moveR_yes hfo HG2.out)
          have HGO := Lib.hid (hlv.out.trans (level_go hok.out hst))
          have hss := HSS2.out.symm.trans hst
          rw [HMR.out] at hss
          have c1 : decide (p.Volume - p.Least < q.Volume - q.Least + 2) = false := by simpa using hss
          clear k1 k2 k3 hss ep eq hfo
          go_wp2_with fail
          refine region_bl (by kernel_rfl) (by kernel_rfl) hbx ?_
          repeat' (first | go_big_quiet_skip | (go_big_quiet_want; go_simp; (try go_bits); first | (refine ⟨_, fun _ _ => rfl, ?_⟩; go_big_quiet_on) | (apply Exists.intro; refine ⟨fun W hW => ?_, ?_⟩; (· go_simp; (try go_bits); rfl); go_big_quiet_on)))
          apply wpQuiet_nil
          intro W hb
          have hbw2 : Bl w W := Bl.trans (by with_reducible assumption) hb
          have hbo2 := hb
          go_wp2_with fail
          refine (H4.out _ (hS.bl hb)).mono ?_
          rintro e w4 ⟨C4, m4, c4, rfl, ho4, hl4, hm4, hbn⟩
          rw [HMR.out] at ho4 hl4
          have hm4' : m4 = k := by rw [← hl4, moveL_len]; exact hlr.out
          subst hm4'
          have HS4 := Sl.of_own Basin.cs_len ho4 hl4 (by omega)
          have HPOT := Lib.hid (show potW w4 (.slice C4 m4 c4) < potW wo (.slice (some ⟨b1, o1, none⟩) m4 c2) by rw [HP.out, potW_eq HS4 (by omega)]; exact HG3.out)
          have HO4 := Lib.hid ho4
          have HL4 := Lib.hid hl4
          have hbx4 := hb.trans hbn
          have HTWO := Lib.hid (congrArg Prod.snd HMR.out)
          have e2 : (moveWaterR r (theFlow r)).2 = true := HTWO.out
          have hw0 := hb.le
          clear ho4 hl4 HS4 hb
          have P4 : ∀ W, Bl w4 W → W.cell? ⟨b1, o1 + toK r m4 * 3, none⟩ = some (.int .i64 q.Volume) := fun W hW => q1 W (hbx4.trans hW)
          have P5 : ∀ W, Bl w4 W → W.cell? ⟨b1, o1 + toK r m4 * 3 + 1, none⟩ = some (.int .i64 q.Least) := fun W hW => q2 W (hbx4.trans hW)
          simp only [e2]
          go_wp2_with fail
          refine region_bl (by kernel_rfl) (by kernel_rfl) (Bl.refl w4) ?_
          repeat' (first | go_big_quiet_skip | (go_big_quiet_want; go_simp; (try go_bits); first | (refine ⟨_, fun _ _ => rfl, ?_⟩; go_big_quiet_on) | (apply Exists.intro; refine ⟨fun W hW => ?_, ?_⟩; (· go_simp; (try go_bits); rfl); go_big_quiet_on)))
          apply wpQuiet_nil
          intro W hb
          have BLW4 : Bl w4 W := hb
          have HPOT2 := Lib.hid (show potW W (.slice C4 m4 c4) < potW wo (.slice (some ⟨b1, o1, none⟩) m4 c2) by rw [HP.out, potW_eq ((Sl.of_own Basin.cs_len HO4.out HL4.out (by omega)).bl BLW4) (by omega)]; exact HG3.out)
          go_wp2_with fail
          exact ⟨⟨C4, c4, moveL r (theFlow r), rfl, (hbw2.trans hbn).trans BLW4, own_mono (BLW4.own HO4.out) hbw2.le, HG2, HL4, HGO⟩, HPOT2.out⟩
        · have HE := Lib.hid (HR.out.trans (by rw [hlv.out, level_end hst]))
          have hss := HSS2.out.symm.trans hst
          clear ep eq
          go_wp2_with fail
          refine region_bl (by kernel_rfl) (by kernel_rfl) hbx ?_
          repeat' (first | go_big_quiet_skip | (go_big_quiet_want; go_simp; (try go_bits); first | (refine ⟨_, fun _ _ => rfl, ?_⟩; go_big_quiet_on) | (apply Exists.intro; refine ⟨fun W hW => ?_, ?_⟩; (· go_simp; (try go_bits); rfl); go_big_quiet_on)))
          apply wpQuiet_nil
          intro W hb
          have hbw2 : Bl w W := Bl.trans (by with_reducible assumption) hb
          go_wp2_with fail
          refine (H4.out _ (hS.bl hb)).mono ?_
          rintro e w4 ⟨C4, m4, c4, rfl, ho4, hl4, hm4, hbn⟩
          have hbx4 := hb.trans hbn
          clear ho4 hl4 hb
          cases e2 : (moveWaterR r (theFlow r)).2
          · simp only [e2]
            go_wp2_with fail
            refine region_bl (by kernel_rfl) (by kernel_rfl) hbx4 ?_
            repeat' (first | go_big_quiet_skip | (go_big_quiet_want; go_simp; (try go_bits); first | (refine ⟨_, fun _ _ => rfl, ?_⟩; go_big_quiet_on) | (apply Exists.intro; refine ⟨fun W hW => ?_, ?_⟩; (· go_simp; (try go_bits); rfl); go_big_quiet_on)))
            apply wpQuiet_nil
            intro W hb
            have hor3 := hb.own hor
            have hbw3 : Bl w W := Bl.trans (by with_reducible assumption) hb
            go_wp2_with fail
            go_ret2
            rw [HE.out]
            exact NewRes.own hor3 (Bl.refl w) hlr.out hn hbw3
          · have c1 : decide (p.Volume - p.Least < q.Volume - q.Least + 2) = true := by rw [e2] at hss; simpa using hss
            clear hss
            simp only [e2]
            go_wp2_with fail
            refine region_bl (by kernel_rfl) (by kernel_rfl) hbx4 ?_
            repeat' (first | go_big_quiet_skip | (go_big_quiet_want; go_simp; (try go_bits); first | (refine ⟨_, fun _ _ => rfl, ?_⟩; go_big_quiet_on) | (apply Exists.intro; refine ⟨fun W hW => ?_, ?_⟩; (· go_simp; (try go_bits); rfl); go_big_quiet_on)))
            apply wpQuiet_nil
            intro W hb
            have hor3 := hb.own hor
            have hbw3 : Bl w W := Bl.trans (by with_reducible assumption) hb
            go_wp2_with fail
            go_ret2
            rw [HE.out]
            exact NewRes.own hor3 (Bl.refl w) hlr.out hn hbw3
end Go.Proofs.Ytpgghmhbkgkkiaa
