/- The contracts of LongestWait in both programs. -/
import Derived.Test.YtnckpionabokeaaQ8b
import Derived.RegionTactic
import Derived.Deep.RegionHeld3
namespace Go.Proofs.Ytnckpionabokeaa
open Go.RowKit
theorem int_set {l : List Int} {i : Nat} {x : Int} (h : l[i]? = some x) (a : Int) : (l.flatMap ci).set i (.int .i64 a) = (l.set i a).flatMap ci := by
  have := flat_set ci 1 ci_len l i x a h 0 (by omega) (.int .i64 a) rfl
  rwa [Nat.mul_one, Nat.add_zero] at this
theorem zeros_flat (n : Nat) : (madeCells (Value.int .i64 0).cells (n * 1)).toList = (List.replicate n (0 : Int)).flatMap ci := by
  apply List.ext_getElem?
  intro j
  by_cases hj : j < n
  · have := flat_get ci 1 ci_len (List.replicate n (0 : Int)) j 0 (by simp [hj]) 0 (by omega)
    rw [Nat.mul_one, Nat.add_zero] at this
    rw [this]
    have hm : j % 1 = 0 := Nat.mod_one j
    simp [madeCells, ci, Value.cells, hj, hm]
  · rw [List.getElem?_eq_none (by simp [madeCells, Value.cells]; omega), List.getElem?_eq_none (by rw [flat_len ci 1 ci_len]; simp; omega)]
/-- The waits: each is that of a place of the order, and none is negative. -/
theorem waits_ok {l : List Arrival} {high : Bool} {mi : Int} {o : List Int} (h : implOrd l o = true) (m0 : 1 ≤ mi) (m1 : mi ≤ 60) (i : Nat) (a : Arrival) (ha : l[i]? = some a) :
    ∃ (p : Nat) (t : Int), p < o.length ∧ o[p]? = some (i : Int) ∧ (runT l mi high o).out[p]? = some t ∧ (waits l o (runT l mi high o).out)[i]? = some (t - a.Minute) ∧ 0 ≤ t - a.Minute ∧ ∀ k, o[k]? = some (i : Int) → k = p := by
  obtain ⟨hok, hlen, hr⟩ := ord_parts h
  have hfr : upTo (fresh l.length o) o o.length = true := by
    simp only [implOrd, Bool.and_eq_true] at h
    exact fresh_impl h.2
  have hi : i < l.length := (List.getElem?_eq_some_iff.1 ha).1
  obtain ⟨p, hp⟩ := all_there hlen hfr hi
  have hpl : p < o.length := (List.getElem?_eq_some_iff.1 hp).1
  have htk := tk_run (high := high) hr (fun i a ha => (arr_bd hok ha).2.1) m0 m1
  have hlo := fun j hj => (htk j hj).len
  have hl : (runT l mi high o).out.length = o.length := by
    have := hlo o.length (Nat.le_refl _)
    rwa [List.take_length] at this
  have ht : (runT l mi high o).out[p]? = some ((runT l mi high o).out[p]'(by omega)) := List.getElem?_eq_getElem (by omega)
  generalize (runT l mi high o).out[p]'(by omega) = t at ht
  have hw := waits_at hl hr hfr hp ht ha
  have hlate := out_late hp ha o.length hpl (Nat.le_refl _) hlo (by rw [List.take_length]; exact ht)
  refine ⟨p, t, hpl, hp, ht, hw, by omega, fun k hk => ?_⟩
  have hkl : k < o.length := (List.getElem?_eq_some_iff.1 hk).1
  rcases Nat.lt_trichotomy k p with hlt | he | hlt
  · have := upTo_at hfr hpl hp
    simp only [fresh, Bool.and_eq_true, Bool.not_eq_true', hasB_no] at this
    exact absurd (List.mem_take_iff_getElem.2 ⟨k, by omega, (List.getElem?_eq_some_iff.1 hk).2⟩) this.2
  · exact he
  · have := upTo_at hfr hkl hk
    simp only [fresh, Bool.and_eq_true, Bool.not_eq_true', hasB_no] at this
    exact absurd (List.mem_take_iff_getElem.2 ⟨p, by omega, (List.getElem?_eq_some_iff.1 hp).2⟩) this.2
theorem waits_len (l : List Arrival) (o ts : List Int) : (waits l o ts).length = l.length := waitsK_len l o ts o.length
theorem waits_pos {l : List Arrival} {high : Bool} {mi : Int} {o : List Int} (h : implOrd l o = true) (m0 : 1 ≤ mi) (m1 : mi ≤ 60) : ∀ (i : Nat) (x : Int), (waits l o (runT l mi high o).out)[i]? = some x → 0 ≤ x := by
  intro i x hx
  have hi : i < l.length := by have := (List.getElem?_eq_some_iff.1 hx).1; rwa [waits_len] at this
  obtain ⟨p, t, _, _, _, hw, h0, _⟩ := waits_ok (high := high) h m0 m1 i _ (List.getElem?_eq_getElem hi)
  rw [hw] at hx
  have := Option.some.inj hx
  omega
set_option maxHeartbeats 400000 in
theorem maxS_any (A : Option Addr) (n c : Nat) (W : List Int) (w : World) (h : Sl ci 1 w A n W) (hn : 0 < n) :
    Calls Try.prog 67 #[.slice A n c] w fun e w' => e = .returned (.int .i64 (mxK W (n - 1))) ∧ Bl w w' := by
  have bn := h.le
  have HL := Lib.hid h.1
  obtain ⟨b0, o0, x, rfl, e0, c0⟩ := h.int hn
  rw [Nat.add_zero] at c0
  have g0 := c0 _ (Bl.refl _)
  have HX := Lib.hid (mxK_zero e0)
  clear e0 c0
  go_enter Try.func67, Try.ntmps67
  go_wp2_with fail
  go_loopw [3, 4] (fun u i wr => ∃ k : Nat, 1 ≤ k ∧ k ≤ n ∧ i = .int .i64 k ∧ Bl w wr ∧ u = .int .i64 (mxK W (k - 1))) (fun _ i _ => n - (intOf i).toNat)
  case atStart => exact ⟨1, Nat.le_refl _, hn, rfl, Bl.refl _, by rw [HX.out]⟩
  case round =>
    obtain ⟨k, hk1, hk, rfl, hb, rfl⟩ := hrel
    by_cases hlt : k < n
    · obtain ⟨b1, o1, y, hA, e1, c1⟩ := h.int hlt
      injection hA with hA; injection hA with hA hA'; subst hA hA'
      have q1 := c1 _ hb
      have HM := Lib.hid (mxK_one e1 hk1)
      have hk2 : k + 1 - 1 = k := by omega
      clear e1 c1
      generalize mxK W (k - 1) = z at *
      by_cases hz : z < y
      · have hm : max z y = y := by omega
        rw [hm] at HM
        clear hm
        go_wp2_with fail
        first | exact ⟨⟨k + 1, by omega, by omega, by go_num, hb, by rw [hk2, HM.out]⟩, by simp [intOf]; omega⟩ | (refine ⟨?_, by simp [intOf]; omega⟩; (repeat apply Exists.intro); exact ⟨⟨k + 1, by omega, by omega, by go_num, hb, by rw [hk2, HM.out]⟩, rfl⟩)
      · have hm : max z y = z := by omega
        rw [hm] at HM
        clear hm
        go_wp2_with fail
        first | exact ⟨⟨k + 1, by omega, by omega, by go_num, hb, by rw [hk2, HM.out]⟩, by simp [intOf]; omega⟩ | (refine ⟨?_, by simp [intOf]; omega⟩; (repeat apply Exists.intro); exact ⟨⟨k + 1, by omega, by omega, by go_num, hb, by rw [hk2, HM.out]⟩, rfl⟩)
    · have e : k = n := by omega
      subst e
      go_wp2_with fail
      go_ret
      exact ⟨rfl, hb⟩
set_option maxHeartbeats 2000000 in
theorem implLongestWait_any (A : Option Addr) (n c : Nat) (l : List Arrival) (high : Bool) (mi : Int) (B : Option Addr) (m d : Nat) (o : List Int) (w : World) (h : Sl Arrival.cs 4 w A n l) (ho : Sl ci 1 w B m o) (hn : n ≤ 1048576) (hm : m ≤ 1048576) (hcn : n ≤ c) (hc : m ≤ d) :
    Calls Try.prog 43 #[.slice A n c, .bool high, .int .i64 mi, .slice B m d] w fun e w' => e = .returned (.tuple #[.int .i64 (longR l high mi o).1.1, .int .i64 (longR l high mi o).1.2, .bool (longR l high mi o).2]) ∧ Bl w w' := by
  have HL := Lib.hid h.1
  have HM := Lib.hid ho.1
  have H1 := Lib.hid (implLockageTimes_any A n c l high mi B m d o w h ho hn hm hcn hc)
  by_cases h1 : implOrd l o = true ∧ inB mi 1 60 = true
  case neg =>
    have HR := Lib.hid (show longR l high mi o = ((0, 0), false) by simp only [longR]; rw [if_neg (fun e => h1 e.1)])
    have HW := Lib.hid (show timesR l high mi o = ([], false) by simp only [timesR, if_neg h1])
    clear h1
    generalize timesR l high mi o = R at *
    obtain ⟨ts, b⟩ := R
    have e2 : b = false := congrArg Prod.snd HW.out
    subst e2
    go_enter Try.func43, Try.ntmps43
    go_wp2_with fail
    refine H1.out.mono ?_
    rintro e w2 ⟨C, m4, c4, rfl, ho4, hl4, hm4, hb⟩
    go_wp2_with fail
    go_ret3
    exact ⟨by rw [HR.out]; rfl, hb⟩
  obtain ⟨m0, m1⟩ := inB_iff.1 h1.2
  obtain ⟨hok, hlen, hrng⟩ := ord_parts h1.1
  rw [HL.out, HM.out] at hlen
  rw [HL.out] at hrng
  have HMM := Lib.hid hlen
  clear hlen
  have HW := Lib.hid (show timesR l high mi o = ((runT l mi high o).out, true) by simp only [timesR, if_pos h1])
  have HLEN := Lib.hid (show (runT l mi high o).out.length = m by
    have := (tk_run (high := high) (by rw [HL.out]; exact hrng) (fun i a ha => (arr_bd hok ha).2.1) m0 m1 o.length (Nat.le_refl _)).len
    rwa [List.take_length, HM.out] at this)
  have HT := Lib.hid (fun (i : Nat) (t : Int) (ht : (runT l mi high o).out[i]? = some t) => (show 0 ≤ t ∧ t ≤ 200000000 by
    have h9 := tk_run (high := high) (by rw [HL.out]; exact hrng) (fun i a ha => (arr_bd hok ha).2.1) m0 m1 o.length (Nat.le_refl _)
    rw [List.take_length] at h9
    have := h9.out i t ht
    have := HM.out
    omega))
  by_cases hz : n = 0
  · have HR := Lib.hid (show longR l high mi o = ((0, 0), false) by simp only [longR]; rw [if_neg (fun e => e.2 (by rw [HL.out]; exact hz))])
    have HZ := Lib.hid hz
    clear hz
    generalize timesR l high mi o = R at *
    generalize (runT l mi high o).out = ts' at *
    obtain ⟨ts, b⟩ := R
    have e2 : b = true := congrArg Prod.snd HW.out
    have e3 : ts = ts' := congrArg Prod.fst HW.out
    subst e2 e3
    go_enter Try.func43, Try.ntmps43
    go_wp2_with fail
    refine H1.out.mono ?_
    rintro e w2 ⟨C, m4, c4, rfl, ho4, hl4, hm4, hb⟩
    have hm4' : m4 = 0 := by rw [← hl4, HLEN.out, HMM.out]; exact HZ.out
    subst hm4'
    go_wp2_with fail
    go_ret3
    exact ⟨by rw [HR.out]; rfl, hb⟩
  have HR := Lib.hid (show longR l high mi o = (bestW (waits l o (runT l mi high o).out) n, true) by simp only [longR]; rw [if_pos ⟨h1, by rw [HL.out]; exact hz⟩, HL.out])
  have hbest := best_is (waits_pos (high := high) h1.1 m0 m1) (n - 1) (by rw [waits_len, HL.out]; omega)
  rw [show n - 1 + 1 = n by omega, take_all (by rw [waits_len, HL.out] : (waits l o (runT l mi high o).out).length = n)] at hbest
  have HB := Lib.hid hbest
  have HV := Lib.hid (fun i a (ha : l[i]? = some a) => (arr_bd hok ha).2.1)
  have HRNG := Lib.hid hrng
  have HWM := Lib.hid (show waits l o (runT l mi high o).out = waitsK l o (runT l mi high o).out m by rw [waits, HM.out])
  clear hok hrng h1 hbest
  generalize timesR l high mi o = R at *
  generalize (runT l mi high o).out = ts' at *
  obtain ⟨ts, b⟩ := R
  have e2 : b = true := congrArg Prod.snd HW.out
  have e3 : ts = ts' := congrArg Prod.fst HW.out
  subst e2 e3
  obtain ⟨j0, gi, gz0, gz1, gz2⟩ := info_parts infoInt
  have k4 : ((m : Int) == 0) = false := by have := HMM.out; simp; omega
  go_enter Try.func43, Try.ntmps43
  go_wp2_with fail
  refine H1.out.mono ?_
  rintro e w2 ⟨C, m4, c4, rfl, ho4, hl4, hm4, hb⟩
  have hm4' : m4 = m := by rw [← hl4]; exact HLEN.out
  subst hm4'
  have hts := Sl.of_own ci_len ho4 hl4 (by omega)
  clear ho4 hl4
  go_wp2_with (at_make; refine wpList_make_full _ rfl _ _ 31 rfl w2.heap.size 3 j0 _ 1 Try.underlying31 gi gz0 gz1 _ _ _ _ n rfl rfl rfl rfl (by rw [gz2]; omega) (by unfold maxLen; omega) (Nat.le_refl _) ?_; intro w3 hown hgrow)
  have hb3 := (Bl.refl w2).grown hgrow (fun k hk => by cases hk)
  rw [zeros_flat] at hown
  have hG := hb.le
  clear gi gz0 gz1 gz2 hgrow k4
  go_wp2_with fail
  go_loopw [37] (fun i wr => ∃ k : Nat, k ≤ m4 ∧ i = .int .i64 k ∧ Bl w2 wr ∧ wr.ownsRow w2.heap.size 3 1 (.slice (some ⟨w2.heap.size, 0, none⟩) n n) n ((waitsK l o ts k).flatMap ci)) (fun i _ => m4 - (intOf i).toNat)
  case atStart => exact ⟨0, Nat.zero_le _, rfl, hb3, by show World.ownsRow _ _ _ _ _ _ ((List.replicate l.length 0).flatMap ci); rw [HL.out]; exact hown⟩
  case round =>
    clear hb3 hown
    obtain ⟨k, hk, rfl, hbx, hox⟩ := hrel
    generalize hGe : w2.heap.size = G at *
    have hb2 := hb.trans hbx
    by_cases hlt : k < m4
    · obtain ⟨b1, o1, x, rfl, ex, c1⟩ := ho.int hlt
      have q1 := c1 _ hb2
      obtain ⟨hx0, hx1⟩ := HRNG.out k x ex
      obtain ⟨j, rfl⟩ := Int.eq_ofNat_of_zero_le hx0
      have hj : j < n := by omega
      obtain ⟨b2, o2, p, rfl, ep, p1, p2, p3, p4⟩ := h.Arrival hj
      obtain ⟨mv0, mv1⟩ := HV.out j p ep
      obtain ⟨b5, o5, t, rfl, et, t1⟩ := hts.int hlt
      obtain ⟨tt0, tt1⟩ := HT.out k t et
      have g3 := p3 _ hb2
      have g5 := t1 _ hbx
      have HN := Lib.hid (waitsK_one ex et ep)
      obtain ⟨y, hy⟩ : ∃ y, (waitsK l o ts k)[j]? = some y := ⟨_, List.getElem?_eq_getElem (by rw [waitsK_len, HL.out]; exact hj)⟩
      have HS := Lib.hid (int_set hy (t - p.Minute))
      have fz := World.ownsRow.frozenAt hox
      obtain ⟨v0, y0⟩ := own_some hox (j := j) (by omega)
      clear ex ep et c1 p1 p2 p3 p4 t1 hy
      go_wp2_with fail
      go_region
      all_goals
        go_wp2_with fail
        first | exact ⟨⟨k + 1, by omega, by go_num, by repeat (first | (with_reducible exact hbx) | (with_reducible apply Bl.drew) | (with_reducible refine Bl.setCell ?_ (by rw [hGe]; exact Nat.le_refl _) _)), by rw [HN.out, ← HS.out]; repeat (first | (with_reducible exact hox) | (with_reducible refine World.ownsRow.drew ?_) | (with_reducible refine own_set ?_ _ _))⟩, by simp [intOf]; omega⟩ | (refine ⟨?_, by simp [intOf]; omega⟩; (repeat apply Exists.intro); exact ⟨⟨k + 1, by omega, by go_num, by repeat (first | (with_reducible exact hbx) | (with_reducible apply Bl.drew) | (with_reducible refine Bl.setCell ?_ (by rw [hGe]; exact Nat.le_refl _) _)), by rw [HN.out, ← HS.out]; repeat (first | (with_reducible exact hox) | (with_reducible refine World.ownsRow.drew ?_) | (with_reducible refine own_set ?_ _ _))⟩, rfl⟩)
    · have e : k = m4 := by omega
      subst e
      have hWl : (waitsK l o ts k).length = n := by rw [waitsK_len, HL.out]
      have hSW := Sl.of_own ci_len hox hWl (by omega)
      have HB2 := Lib.hid (show (bestW (waitsK l o ts k) n).2 = mxK (waitsK l o ts k) (n - 1) ∧ isIdx (waitsK l o ts k) (mxK (waitsK l o ts k) (n - 1)) (bestW (waitsK l o ts k) n).1 by rw [← HWM.out]; exact ⟨HB.out.1, HB.out.2.1⟩)
      rw [HWM.out] at HR
      generalize waitsK l o ts k = W at *
      go_wp2_with fail
      refine (maxS_any _ n n W wr hSW (by omega)).mono ?_
      rintro e w5 ⟨rfl, hb5⟩
      go_wp2_with fail
      refine (index_any _ n n W (mxK W (n - 1)) w5 (hSW.bl hb5)).mono ?_
      rintro e w6 ⟨⟨i, rfl, hi⟩, hb6⟩
      have HI := Lib.hid (isIdx_one hi HB2.out.2)
      have HR2 := Lib.hid (show longR l high mi o = ((i, mxK W (n - 1)), true) by rw [HR.out, HI.out, ← HB2.out.1])
      clear hi
      go_wp2_with fail
      go_ret3
      exact ⟨by rw [HR2.out]; rfl, hb2.trans (hb5.trans hb6)⟩
set_option maxHeartbeats 2000000 in
theorem specLongestWait_any (A : Option Addr) (n c : Nat) (l : List Arrival) (high : Bool) (mi : Int) (B : Option Addr) (m d : Nat) (o : List Int) (w : World) (h : Sl Arrival.cs 4 w A n l) (ho : Sl ci 1 w B m o) (hn : n ≤ 1048576) (hm : m ≤ 1048576) (hcn : n ≤ c) (hc : m ≤ d) :
    Calls Try.prog 42 #[.slice A n c, .bool high, .int .i64 mi, .slice B m d] w fun e w' => e = .returned (.tuple #[.int .i64 (longR l high mi o).1.1, .int .i64 (longR l high mi o).1.2, .bool (longR l high mi o).2]) ∧ Bl w w' := by
  have HL := Lib.hid h.1
  have HM := Lib.hid ho.1
  have H1 := Lib.hid (l8Order_any A n c l B m d o w h ho hc)
  have H2 := Lib.hid (fun w => same_bl (l8Minutes_any mi w))
  cases h1 : implOrd l o
  · have HR := Lib.hid (show longR l high mi o = ((0, 0), false) by simp [longR, h1])
    go_enter Try.func42, Try.ntmps42
    go_wp2_with fail
    refine H1.out.mono ?_
    rintro e w1 ⟨rfl, hb⟩
    simp only [h1]
    go_wp2_with fail
    go_ret3
    exact ⟨by rw [HR.out]; rfl, hb⟩
  cases h2 : inB mi 1 60
  · have HR := Lib.hid (show longR l high mi o = ((0, 0), false) by simp [longR, h2])
    go_enter Try.func42, Try.ntmps42
    go_wp2_with fail
    refine H1.out.mono ?_
    rintro e w1 ⟨rfl, hb⟩
    simp only [h1]
    go_wp2_with fail
    refine (H2.out _).mono ?_
    rintro e w' ⟨rfl, hbn⟩
    have hb := hb.trans hbn
    clear hbn
    simp only [h2]
    go_wp2_with fail
    go_ret3
    exact ⟨by rw [HR.out]; rfl, hb⟩
  by_cases hz : n = 0
  · have HR := Lib.hid (show longR l high mi o = ((0, 0), false) by simp only [longR]; rw [if_neg (fun e => e.2 (by rw [HL.out]; exact hz))])
    have e0 : ((n : Int) == 0) = true := by simp; omega
    clear hz
    go_enter Try.func42, Try.ntmps42
    go_wp2_with fail
    refine H1.out.mono ?_
    rintro e w1 ⟨rfl, hb⟩
    simp only [h1]
    go_wp2_with fail
    refine (H2.out _).mono ?_
    rintro e w' ⟨rfl, hbn⟩
    have hb := hb.trans hbn
    clear hbn
    simp only [h2]
    go_wp2_with fail
    go_ret3
    exact ⟨by rw [HR.out]; rfl, hb⟩
  have e0 : ((n : Int) == 0) = false := by simp; omega
  obtain ⟨m0, m1⟩ := inB_iff.1 h2
  obtain ⟨hok, hlen, hrng⟩ := ord_parts h1
  rw [HL.out, HM.out] at hlen
  rw [HL.out] at hrng
  have HMM := Lib.hid hlen
  clear hlen
  have HR := Lib.hid (show longR l high mi o = (bestW (waits l o (runT l mi high o).out) n, true) by simp only [longR]; rw [if_pos ⟨⟨h1, h2⟩, by rw [HL.out]; exact hz⟩, HL.out])
  have H3 := Lib.hid (fun w h ho => l8Times_any A n c l high mi B m d o w h ho hrng (fun i a ha => (arr_bd hok ha).2.1) m0 m1 hm)
  have HLEN := Lib.hid (show (runT l mi high o).out.length = m by
    have := (tk_run (high := high) (by rw [HL.out]; exact hrng) (fun i a ha => (arr_bd hok ha).2.1) m0 m1 o.length (Nat.le_refl _)).len
    rwa [List.take_length, HM.out] at this)
  have HT := Lib.hid (fun (i : Nat) (t : Int) (ht : (runT l mi high o).out[i]? = some t) => (show 0 ≤ t ∧ t ≤ 200000000 by
    have h9 := tk_run (high := high) (by rw [HL.out]; exact hrng) (fun i a ha => (arr_bd hok ha).2.1) m0 m1 o.length (Nat.le_refl _)
    rw [List.take_length] at h9
    have := h9.out i t ht
    have := HM.out
    omega))
  have HWO := Lib.hid (fun i a (ha : l[i]? = some a) => waits_ok (high := high) h1 m0 m1 i a ha)
  have HV := Lib.hid (fun i a (ha : l[i]? = some a) => (arr_bd hok ha).2.1)
  have HRNG := Lib.hid hrng
  clear hok hrng hz
  generalize (runT l mi high o).out = ts at *
  go_enter Try.func42, Try.ntmps42
  go_wp2_with fail
  refine H1.out.mono ?_
  rintro e w1 ⟨rfl, hb⟩
  simp only [h1]
  go_wp2_with fail
  refine (H2.out _).mono ?_
  rintro e w' ⟨rfl, hbn⟩
  have hb := hb.trans hbn
  clear hbn
  simp only [h2]
  go_wp2_with fail
  refine (H3.out _ (h.bl hb) (ho.bl hb)).mono ?_
  rintro e w2 ⟨C, m4, c4, rfl, ho4, hl4, hm4, hbn⟩
  have hm4' : m4 = m := by rw [← hl4]; exact HLEN.out
  subst hm4'
  have hb := hb.trans hbn
  have hts := Sl.of_own ci_len ho4 hl4 (by omega)
  clear ho4 hl4 hbn e0
  go_wp2_with fail
  go_loopw [12, 13, 14] (fun u v i wr => ∃ k : Nat, k ≤ n ∧ i = .int .i64 k ∧ u = .int .i64 (bestW (waits l o ts) k).1 ∧ v = .int .i64 (bestW (waits l o ts) k).2 ∧ Bl w2 wr) (fun _ _ i _ => n - (intOf i).toNat)
  case atStart => exact ⟨0, Nat.zero_le _, rfl, rfl, rfl, Bl.refl _⟩
  case round =>
    obtain ⟨k, hk, rfl, rfl, rfl, hbx⟩ := hrel
    by_cases hlt : k < n
    · obtain ⟨b2, o2, p, rfl, ep, p1, p2, p3, p4⟩ := h.Arrival hlt
      obtain ⟨mv0, mv1⟩ := HV.out k p ep
      obtain ⟨q, tq, hq, oq, etq, hw, hw0, huq⟩ := HWO.out k p ep
      rw [HM.out] at hq
      have HB := Lib.hid (bestW_one hw)
      have HU := Lib.hid huq
      have HOQ := Lib.hid oq
      have HTQ := Lib.hid etq
      clear ep hw huq oq etq p1 p2 p4
      obtain ⟨wo, hwo⟩ : ∃ wo : World, wo = wr := ⟨_, rfl⟩
      subst hwo
      go_wp2_with fail
      go_loopw [12, 13, 15] (fun u v i wx => ∃ j : Nat, j ≤ m4 ∧ i = .int .i64 j ∧ u = .int .i64 (if q < j then bestW (waits l o ts) (k + 1) else bestW (waits l o ts) k).1 ∧ v = .int .i64 (if q < j then bestW (waits l o ts) (k + 1) else bestW (waits l o ts) k).2 ∧ Bl w2 wx) (fun _ _ i _ => m4 - (intOf i).toNat)
      case atStart => exact ⟨0, Nat.zero_le _, rfl, by rw [if_neg (by omega)], by rw [if_neg (by omega)], hbx⟩
      case round =>
        clear hbx
        obtain ⟨j, hj, rfl, rfl, rfl, hbx⟩ := hrel
        have hb2 := hb.trans hbx
        by_cases hjm : j < m4
        · obtain ⟨b1, o1, x, rfl, ex, c1⟩ := ho.int hjm
          have q1 := c1 _ hb2
          obtain ⟨b5, o5, t, rfl, et, t1⟩ := hts.int hjm
          obtain ⟨tt0, tt1⟩ := HT.out j t et
          have g3 := p3 _ hb2
          have g5 := t1 _ hbx
          by_cases hxi : x = (k : Int)
          · have hjq : j = q := HU.out j (by rw [← hxi]; exact ex)
            have htq : t = tq := Option.some.inj (et.symm.trans (by rw [hjq]; exact HTQ.out))
            have hnl : ¬ q < j := by omega
            have hsl : q < j + 1 := by omega
            have exi : (x == (k : Int)) = true := by simpa using hxi
            rw [← htq] at HB
            have HJ := Lib.hid hjq
            clear hxi hjq htq ex et c1 t1
            simp only [if_neg hnl]
            generalize hbo : bestW (waits l o ts) k = bo at *
            obtain ⟨b0, mo⟩ := bo
            simp only at HB ⊢
            by_cases hmo : mo < t - p.Minute
            · have HB2 := Lib.hid (HB.out.trans (by rw [if_pos hmo]))
              go_wp2_with fail
              go_region
              all_goals
                go_wp2_with fail
                first | exact ⟨⟨j + 1, by omega, by go_num, by rw [if_pos hsl, HB2.out], by rw [if_pos hsl, HB2.out], by repeat (first | (with_reducible exact hbx) | (with_reducible apply Bl.drew))⟩, by simp [intOf]; omega⟩ | (refine ⟨?_, by simp [intOf]; omega⟩; (repeat apply Exists.intro); exact ⟨⟨j + 1, by omega, by go_num, by rw [if_pos hsl, HB2.out], by rw [if_pos hsl, HB2.out], by repeat (first | (with_reducible exact hbx) | (with_reducible apply Bl.drew))⟩, rfl⟩)
            · have HB2 := Lib.hid (HB.out.trans (by rw [if_neg hmo]))
              go_wp2_with fail
              go_region
              all_goals
                go_wp2_with fail
                first | exact ⟨⟨j + 1, by omega, by go_num, by rw [if_pos hsl, HB2.out], by rw [if_pos hsl, HB2.out], by repeat (first | (with_reducible exact hbx) | (with_reducible apply Bl.drew))⟩, by simp [intOf]; omega⟩ | (refine ⟨?_, by simp [intOf]; omega⟩; (repeat apply Exists.intro); exact ⟨⟨j + 1, by omega, by go_num, by rw [if_pos hsl, HB2.out], by rw [if_pos hsl, HB2.out], by repeat (first | (with_reducible exact hbx) | (with_reducible apply Bl.drew))⟩, rfl⟩)
          · have hjq : j ≠ q := by
              intro e
              subst e
              exact hxi (Option.some.inj (ex.symm.trans HOQ.out))
            have exi : (x == (k : Int)) = false := by simpa using hxi
            have HE : Hid ((if q < j + 1 then bestW (waits l o ts) (k + 1) else bestW (waits l o ts) k) = if q < j then bestW (waits l o ts) (k + 1) else bestW (waits l o ts) k) := by
              show _ = _
              by_cases hqj : q < j
              · rw [if_pos hqj, if_pos (by omega)]
              · rw [if_neg hqj, if_neg (by omega)]
            clear hxi hjq ex et c1 t1
            generalize (if q < j then bestW (waits l o ts) (k + 1) else bestW (waits l o ts) k) = s at *
            go_wp2_with fail
            go_region
            all_goals
              go_wp2_with fail
              first | exact ⟨⟨j + 1, by omega, by go_num, by rw [HE.out], by rw [HE.out], by repeat (first | (with_reducible exact hbx) | (with_reducible apply Bl.drew))⟩, by simp [intOf]; omega⟩ | (refine ⟨?_, by simp [intOf]; omega⟩; (repeat apply Exists.intro); exact ⟨⟨j + 1, by omega, by go_num, by rw [HE.out], by rw [HE.out], by repeat (first | (with_reducible exact hbx) | (with_reducible apply Bl.drew))⟩, rfl⟩)
        · have e : j = m4 := by omega
          subst e
          simp only [if_pos hq]
          go_wp2_with fail
          first | exact ⟨⟨k + 1, by omega, by go_num, rfl, rfl, hbx⟩, by simp [intOf]; omega⟩ | (refine ⟨?_, by simp [intOf]; omega⟩; (repeat apply Exists.intro); exact ⟨⟨k + 1, by omega, by go_num, rfl, rfl, hbx⟩, rfl⟩)
    · have e : k = n := by omega
      subst e
      go_wp2_with fail
      go_ret3
      exact ⟨by rw [HR.out]; rfl, hb.trans hbx⟩
end Go.Proofs.Ytnckpionabokeaa
