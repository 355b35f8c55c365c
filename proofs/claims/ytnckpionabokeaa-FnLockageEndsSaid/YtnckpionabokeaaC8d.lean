/- The contracts of LockageTimes and LockageDelay in both programs. -/
import Derived.Test.YtnckpionabokeaaC8c
import Derived.RegionTactic
namespace Go.Proofs.Ytnckpionabokeaa
open Go.RowKit
set_option maxHeartbeats 400000 in
theorem areMinutes_any (x : Int) (w : World) : Calls Try.prog 52 #[.int .i64 x] w fun e w' => e = .returned (.bool (inB x 1 60)) ∧ w = w' := by
  go_enter Try.func52, Try.ntmps52
  go_wp2_with fail
  refine (inside_any _ _ _ _).mono ?_
  rintro e w' ⟨rfl, rfl⟩
  go_wp2_with fail
  go_ret
  exact ⟨rfl, rfl⟩
set_option maxHeartbeats 400000 in
theorem l8Minutes_any (x : Int) (w : World) : Calls Try.prog 55 #[.int .i64 x] w fun e w' => e = .returned (.bool (inB x 1 60)) ∧ w = w' := by
  go_enter Try.func55, Try.ntmps55
  go_wp2_with fail
  refine (l1In_any _ _ _ _).mono ?_
  rintro e w' ⟨rfl, rfl⟩
  go_wp2_with fail
  go_ret
  exact ⟨rfl, rfl⟩
set_option maxHeartbeats 1000000 in
theorem l8Delay_any (A : Option Addr) (n c : Nat) (l : List Arrival) (high : Bool) (mi : Int) (B : Option Addr) (m d : Nat) (o : List Int) (w : World) (h : Sl Arrival.cs 4 w A n l) (ho : Sl ci 1 w B m o) (hr : ∀ (k : Nat) (x : Int), o[k]? = some x → 0 ≤ x ∧ x < n) (hv : ∀ (i : Nat) (a : Arrival), l[i]? = some a → 0 ≤ a.Minute ∧ a.Minute ≤ 9999 ∧ 0 ≤ a.Weight ∧ a.Weight ≤ 9) (m0 : 1 ≤ mi) (m1 : mi ≤ 60) (hm : m ≤ 1048576) :
    Calls Try.prog 56 #[.slice A n c, .bool high, .int .i64 mi, .slice B m d] w fun e w' => e = .returned (.int .i64 (delayZ l high mi o)) ∧ Bl w w' := by
  have bn := h.le
  have bm := ho.le
  have HL := Lib.hid h.1
  have HM := Lib.hid ho.1
  have H1 := Lib.hid (l8Times_any A n c l high mi B m d o w h ho hr (fun i a ha => ⟨(hv i a ha).1, (hv i a ha).2.1⟩) m0 m1 hm)
  have htk : Tk m (runT l mi high o) := by
    have := tk_run (high := high) (by rw [HL.out]; exact hr) (fun i a ha => ⟨(hv i a ha).1, (hv i a ha).2.1⟩) m0 m1 m (by rw [HM.out]; exact Nat.le_refl _)
    rwa [take_all HM.out] at this
  have HD : Hid (delayZ l high mi o = lossK l o (runT l mi high o).out m) := by show _ = _; rw [delayZ, HM.out]
  have HB := Lib.hid (fun k (hk : k ≤ m) => loss_bd (by rw [HL.out]; exact hr) hv (fun i t ht => by have := htk.out i t ht; omega : ∀ (i : Nat) (t : Int), (runT l mi high o).out[i]? = some t → 0 ≤ t ∧ t ≤ 1000000000) (htk.len.trans HM.out.symm) k (by rw [HM.out]; exact hk))
  have HT := Lib.hid (fun (i : Nat) (t : Int) (ht : (runT l mi high o).out[i]? = some t) => htk.out i t ht)
  have HLEN := Lib.hid htk.len
  have HR := Lib.hid hr
  have HV := Lib.hid hv
  clear hr hv htk
  go_enter Try.func56, Try.ntmps56
  go_wp2_with fail
  refine H1.out.mono ?_
  rintro e w1 ⟨C, m4, c4, rfl, ho4, hl4, hm4, hb⟩
  have hts := Sl.of_own ci_len ho4 hl4 (by omega)
  clear ho4
  have HLN := Lib.hid (show (runT l mi high o).out.length = m from HLEN.out)
  generalize (runT l mi high o).out = ts at *
  have hm4' : m4 = m := by rw [← hl4]; exact HLN.out
  subst hm4'
  clear H1
  go_wp2_with fail
  go_loopw [10, 11] (fun u i wr => ∃ k : Nat, k ≤ m4 ∧ i = .int .i64 k ∧ u = .int .i64 (lossK l o ts k) ∧ Bl w1 wr) (fun _ i _ => m4 - (intOf i).toNat)
  case atStart => exact ⟨0, Nat.zero_le _, rfl, rfl, Bl.refl _⟩
  case round =>
    obtain ⟨k, hk, rfl, rfl, hbx⟩ := hrel
    have hb2 := hb.trans hbx
    obtain ⟨lo, hi⟩ := HB.out k hk
    by_cases hlt : k < m4
    · obtain ⟨b1, o1, x, rfl, ex, c1⟩ := ho.int hlt
      have q1 := c1 _ hb2
      obtain ⟨hx0, hx1⟩ := HR.out k x ex
      obtain ⟨j, rfl⟩ := Int.eq_ofNat_of_zero_le hx0
      have hj : j < n := by omega
      obtain ⟨b2, o2, p, rfl, ep, p1, p2, p3, p4⟩ := h.Arrival hj
      obtain ⟨mv0, mv1, mv2, mv3⟩ := HV.out j p ep
      obtain ⟨b5, o5, t, rfl, et, t1⟩ := hts.int hlt
      obtain ⟨tt0, tt1⟩ := HT.out k t et
      have hmul := mul_abs (x := p.Weight) (y := t - p.Minute) mv2 mv3 (by omega) (by omega)
      obtain ⟨mu0, mu1⟩ := hmul
      have HN := Lib.hid (show lossK l o ts (k + 1) = lossK l o ts k + p.Weight * (t - p.Minute) by rw [lossK, lossAt_eq ex et ep])
      obtain ⟨lo2, hi2⟩ := HB.out (k + 1) (by omega)
      rw [HN.out] at lo2 hi2
      have g1 := p1 _ hb2
      have g2 := p2 _ hb2
      have g3 := p3 _ hb2
      have g4 := p4 _ hb2
      have g5 := t1 _ hbx
      have z5 : ∀ o, (wr.alloc o).cell? ⟨b5, o5 + k, none⟩ = _ := fun o => t1 _ (hbx.alloc o)
      clear ex ep et c1 p1 p2 p3 p4 t1
      go_wp2_with fail
      go_region
      all_goals
        go_wp2_with fail
        first | exact ⟨⟨k + 1, by omega, by go_num, by rw [HN.out], by repeat (first | (with_reducible exact hbx) | (with_reducible apply Bl.drew) | (with_reducible apply Bl.alloc))⟩, by simp [intOf]; omega⟩ | (refine ⟨?_, by simp [intOf]; omega⟩; (repeat apply Exists.intro); exact ⟨⟨k + 1, by omega, by go_num, by rw [HN.out], by repeat (first | (with_reducible exact hbx) | (with_reducible apply Bl.drew) | (with_reducible apply Bl.alloc))⟩, rfl⟩)
    · have e : k = m4 := by omega
      subst e
      go_wp2_with fail
      go_ret
      exact ⟨by rw [HD.out]; rfl, hb2⟩
set_option maxHeartbeats 1000000 in
theorem lockageDelay_any (A : Option Addr) (n c : Nat) (l : List Arrival) (high : Bool) (mi : Int) (B : Option Addr) (m d : Nat) (o : List Int) (w : World) (h : Sl Arrival.cs 4 w A n l) (ho : Sl ci 1 w B m o) (hr : ∀ (k : Nat) (x : Int), o[k]? = some x → 0 ≤ x ∧ x < n) (hv : ∀ (i : Nat) (a : Arrival), l[i]? = some a → 0 ≤ a.Minute ∧ a.Minute ≤ 9999 ∧ 0 ≤ a.Weight ∧ a.Weight ≤ 9) (m0 : 1 ≤ mi) (m1 : mi ≤ 60) (hm : m ≤ 1048576) :
    Calls Try.prog 53 #[.slice A n c, .bool high, .int .i64 mi, .slice B m d] w fun e w' => e = .returned (.int .i64 (delayZ l high mi o)) ∧ Bl w w' := by
  have bn := h.le
  have bm := ho.le
  have HL := Lib.hid h.1
  have HM := Lib.hid ho.1
  have H1 := Lib.hid (lockageTimes_any A n c l high mi B m d o w h ho hr (fun i a ha => ⟨(hv i a ha).1, (hv i a ha).2.1⟩) m0 m1 hm)
  have htk : Tk m (runT l mi high o) := by
    have := tk_run (high := high) (by rw [HL.out]; exact hr) (fun i a ha => ⟨(hv i a ha).1, (hv i a ha).2.1⟩) m0 m1 m (by rw [HM.out]; exact Nat.le_refl _)
    rwa [take_all HM.out] at this
  have HD : Hid (delayZ l high mi o = lossK l o (runT l mi high o).out m) := by show _ = _; rw [delayZ, HM.out]
  have HB := Lib.hid (fun k (hk : k ≤ m) => loss_bd (by rw [HL.out]; exact hr) hv (fun i t ht => by have := htk.out i t ht; omega : ∀ (i : Nat) (t : Int), (runT l mi high o).out[i]? = some t → 0 ≤ t ∧ t ≤ 1000000000) (htk.len.trans HM.out.symm) k (by rw [HM.out]; exact hk))
  have HT := Lib.hid (fun (i : Nat) (t : Int) (ht : (runT l mi high o).out[i]? = some t) => htk.out i t ht)
  have HLEN := Lib.hid htk.len
  have HR := Lib.hid hr
  have HV := Lib.hid hv
  clear hr hv htk
  go_enter Try.func53, Try.ntmps53
  go_wp2_with fail
  refine H1.out.mono ?_
  rintro e w1 ⟨C, m4, c4, rfl, ho4, hl4, hm4, hb⟩
  have hts := Sl.of_own ci_len ho4 hl4 (by omega)
  clear ho4
  have HLN := Lib.hid (show (runT l mi high o).out.length = m from HLEN.out)
  generalize (runT l mi high o).turns = tn at *
  generalize (runT l mi high o).out = ts at *
  have hm4' : m4 = m := by rw [← hl4]; exact HLN.out
  subst hm4'
  clear H1
  go_wp2_with fail
  go_loopw [11, 24] (fun u i wr => ∃ k : Nat, k ≤ m4 ∧ i = .int .i64 k ∧ u = .int .i64 (lossK l o ts k) ∧ Bl w1 wr) (fun _ i _ => m4 - (intOf i).toNat)
  case atStart => exact ⟨0, Nat.zero_le _, rfl, rfl, Bl.refl _⟩
  case round =>
    obtain ⟨k, hk, rfl, rfl, hbx⟩ := hrel
    have hb2 := hb.trans hbx
    obtain ⟨lo, hi⟩ := HB.out k hk
    by_cases hlt : k < m4
    · obtain ⟨b1, o1, x, rfl, ex, c1⟩ := ho.int hlt
      have q1 := c1 _ hb2
      obtain ⟨hx0, hx1⟩ := HR.out k x ex
      obtain ⟨j, rfl⟩ := Int.eq_ofNat_of_zero_le hx0
      have hj : j < n := by omega
      obtain ⟨b2, o2, p, rfl, ep, p1, p2, p3, p4⟩ := h.Arrival hj
      obtain ⟨mv0, mv1, mv2, mv3⟩ := HV.out j p ep
      obtain ⟨b5, o5, t, rfl, et, t1⟩ := hts.int hlt
      obtain ⟨tt0, tt1⟩ := HT.out k t et
      have hmul := mul_abs (x := p.Weight) (y := t - p.Minute) mv2 mv3 (by omega) (by omega)
      obtain ⟨mu0, mu1⟩ := hmul
      have HN := Lib.hid (show lossK l o ts (k + 1) = lossK l o ts k + p.Weight * (t - p.Minute) by rw [lossK, lossAt_eq ex et ep])
      obtain ⟨lo2, hi2⟩ := HB.out (k + 1) (by omega)
      rw [HN.out] at lo2 hi2
      have g1 := p1 _ hb2
      have g2 := p2 _ hb2
      have g3 := p3 _ hb2
      have g4 := p4 _ hb2
      have g5 := t1 _ hbx
      have z5 : ∀ o, (wr.alloc o).cell? ⟨b5, o5 + k, none⟩ = _ := fun o => t1 _ (hbx.alloc o)
      clear ex ep et c1 p1 p2 p3 p4 t1
      go_wp2_with fail
      go_region
      all_goals
        go_wp2_with fail
        first | exact ⟨⟨k + 1, by omega, by go_num, by rw [HN.out], by repeat (first | (with_reducible exact hbx) | (with_reducible apply Bl.drew) | (with_reducible apply Bl.alloc))⟩, by simp [intOf]; omega⟩ | (refine ⟨?_, by simp [intOf]; omega⟩; (repeat apply Exists.intro); exact ⟨⟨k + 1, by omega, by go_num, by rw [HN.out], by repeat (first | (with_reducible exact hbx) | (with_reducible apply Bl.drew) | (with_reducible apply Bl.alloc))⟩, rfl⟩)
    · have e : k = m4 := by omega
      subst e
      go_wp2_with fail
      go_ret
      exact ⟨by rw [HD.out]; rfl, hb2⟩
set_option maxHeartbeats 1000000 in
theorem specLockageTimes_any (A : Option Addr) (n c : Nat) (l : List Arrival) (high : Bool) (mi : Int) (B : Option Addr) (m d : Nat) (o : List Int) (w : World) (h : Sl Arrival.cs 4 w A n l) (ho : Sl ci 1 w B m o) (_ : n ≤ 1048576) (hm : m ≤ 1048576) (_ : n ≤ c) (hc : m ≤ d) :
    Calls Try.prog 27 #[.slice A n c, .bool high, .int .i64 mi, .slice B m d] w (NewRes ci 1 3 (timesR l high mi o).1 (fun v => .tuple #[v, .bool (timesR l high mi o).2]) w) := by
  have HL := Lib.hid h.1
  have H1 := Lib.hid (l8Order_any A n c l B m d o w h ho hc)
  have H2 := Lib.hid (fun w => same_bl (l8Minutes_any mi w))
  cases h1 : implOrd l o
  · have HR := Lib.hid (show timesR l high mi o = ([], false) by simp [timesR, h1])
    go_enter Try.func27, Try.ntmps27
    go_wp2_with fail
    refine H1.out.mono ?_
    rintro e w1 ⟨rfl, hb⟩
    simp only [h1]
    go_wp2_with fail
    go_ret2
    rw [HR.out]
    exact NewRes.empty hb
  cases h2 : inB mi 1 60
  · have HR := Lib.hid (show timesR l high mi o = ([], false) by simp [timesR, h2])
    go_enter Try.func27, Try.ntmps27
    go_wp2_with fail
    refine H1.out.mono ?_
    rintro e w1 ⟨rfl, hb⟩
    simp only [h1]
    go_wp2_with fail
    refine (H2.out _).mono ?_
    rintro e w' ⟨rfl, hbn⟩
    have hb := hb.trans hbn
    clear hbn
    simp only [h2]
    go_wp2_with fail
    go_ret2
    rw [HR.out]
    exact NewRes.empty hb
  obtain ⟨m0, m1⟩ := inB_iff.1 h2
  obtain ⟨hok, hlen, hrng⟩ := ord_parts h1
  rw [HL.out] at hrng
  have hbd := fun (i : Nat) (a : Arrival) (ha : l[i]? = some a) => arr_bd hok ha
  have HR := Lib.hid (show timesR l high mi o = ((runT l mi high o).out, true) by simp [timesR, h1, h2])
  have H3 := Lib.hid (fun w h ho => l8Times_any A n c l high mi B m d o w h ho hrng (fun i a ha => (hbd i a ha).2.1) m0 m1 hm)
  clear hok hlen hrng hbd
  go_enter Try.func27, Try.ntmps27
  go_wp2_with fail
  refine H1.out.mono ?_
  rintro e w1 ⟨rfl, hb⟩
  simp only [h1]
  go_wp2_with fail
  refine (H2.out _).mono ?_
  rintro e w' ⟨rfl, hbn⟩
  have hb := hb.trans hbn
  clear hbn
  simp only [h2]
  go_wp2_with fail
  refine (H3.out _ (h.bl hb) (ho.bl hb)).mono ?_
  rintro e w2 ⟨C, m4, c4, rfl, ho4, hl4, hm4, hbn⟩
  go_wp2_with fail
  go_ret2
  rw [HR.out]
  exact NewRes.own ho4 hb hl4 hm4 (hb.trans hbn)
set_option maxHeartbeats 1000000 in
theorem implLockageTimes_any (A : Option Addr) (n c : Nat) (l : List Arrival) (high : Bool) (mi : Int) (B : Option Addr) (m d : Nat) (o : List Int) (w : World) (h : Sl Arrival.cs 4 w A n l) (ho : Sl ci 1 w B m o) (_ : n ≤ 1048576) (hm : m ≤ 1048576) (_ : n ≤ c) (hc : m ≤ d) :
    Calls Try.prog 26 #[.slice A n c, .bool high, .int .i64 mi, .slice B m d] w (NewRes ci 1 3 (timesR l high mi o).1 (fun v => .tuple #[v, .bool (timesR l high mi o).2]) w) := by
  have HL := Lib.hid h.1
  have H1 := Lib.hid (isLockageOrder_any A n c l B m d o w h ho hc)
  have H2 := Lib.hid (fun w => same_bl (areMinutes_any mi w))
  cases h1 : implOrd l o
  · have HR := Lib.hid (show timesR l high mi o = ([], false) by simp [timesR, h1])
    go_enter Try.func26, Try.ntmps26
    go_wp2_with fail
    refine H1.out.mono ?_
    rintro e w1 ⟨rfl, hb⟩
    simp only [h1]
    go_wp2_with fail
    go_ret2
    rw [HR.out]
    exact NewRes.nil hb
  cases h2 : inB mi 1 60
  · have HR := Lib.hid (show timesR l high mi o = ([], false) by simp [timesR, h2])
    go_enter Try.func26, Try.ntmps26
    go_wp2_with fail
    refine H1.out.mono ?_
    rintro e w1 ⟨rfl, hb⟩
    simp only [h1]
    go_wp2_with fail
    refine (H2.out _).mono ?_
    rintro e w' ⟨rfl, hbn⟩
    have hb := hb.trans hbn
    clear hbn
    simp only [h2]
    go_wp2_with fail
    go_ret2
    rw [HR.out]
    exact NewRes.nil hb
  obtain ⟨m0, m1⟩ := inB_iff.1 h2
  obtain ⟨hok, hlen, hrng⟩ := ord_parts h1
  rw [HL.out] at hrng
  have hbd := fun (i : Nat) (a : Arrival) (ha : l[i]? = some a) => arr_bd hok ha
  have HR := Lib.hid (show timesR l high mi o = ((runT l mi high o).out, true) by simp [timesR, h1, h2])
  have H3 := Lib.hid (fun w h ho => lockageTimes_any A n c l high mi B m d o w h ho hrng (fun i a ha => (hbd i a ha).2.1) m0 m1 hm)
  clear hok hlen hrng hbd
  go_enter Try.func26, Try.ntmps26
  go_wp2_with fail
  refine H1.out.mono ?_
  rintro e w1 ⟨rfl, hb⟩
  simp only [h1]
  go_wp2_with fail
  refine (H2.out _).mono ?_
  rintro e w' ⟨rfl, hbn⟩
  have hb := hb.trans hbn
  clear hbn
  simp only [h2]
  go_wp2_with fail
  refine (H3.out _ (h.bl hb) (ho.bl hb)).mono ?_
  rintro e w2 ⟨C, m4, c4, rfl, ho4, hl4, hm4, hbn⟩
  go_wp2_with fail
  go_ret2
  rw [HR.out]
  exact NewRes.own ho4 hb hl4 hm4 (hb.trans hbn)
set_option maxHeartbeats 1000000 in
theorem specLockageDelay_any (A : Option Addr) (n c : Nat) (l : List Arrival) (high : Bool) (mi : Int) (B : Option Addr) (m d : Nat) (o : List Int) (w : World) (h : Sl Arrival.cs 4 w A n l) (ho : Sl ci 1 w B m o) (_ : n ≤ 1048576) (hm : m ≤ 1048576) (_ : n ≤ c) (hc : m ≤ d) :
    Calls Try.prog 22 #[.slice A n c, .bool high, .int .i64 mi, .slice B m d] w fun e w' => e = .returned (.tuple #[.int .i64 (delayR l high mi o).1, .bool (delayR l high mi o).2]) ∧ Bl w w' := by
  have HL := Lib.hid h.1
  have H1 := Lib.hid (l8Order_any A n c l B m d o w h ho hc)
  have H2 := Lib.hid (fun w => same_bl (l8Minutes_any mi w))
  cases h1 : implOrd l o
  · have HR := Lib.hid (show delayR l high mi o = (0, false) by simp [delayR, h1])
    go_enter Try.func22, Try.ntmps22
    go_wp2_with fail
    refine H1.out.mono ?_
    rintro e w1 ⟨rfl, hb⟩
    simp only [h1]
    go_wp2_with fail
    go_ret2
    exact ⟨by rw [HR.out]; rfl, hb⟩
  cases h2 : inB mi 1 60
  · have HR := Lib.hid (show delayR l high mi o = (0, false) by simp [delayR, h2])
    go_enter Try.func22, Try.ntmps22
    go_wp2_with fail
    refine H1.out.mono ?_
    rintro e w1 ⟨rfl, hb⟩
    simp only [h1]
    go_wp2_with fail
    refine (H2.out _).mono ?_
    rintro e w' ⟨rfl, hbn⟩
    have hb := hb.trans hbn
    clear hbn
    simp only [h2]
    go_wp2_with fail
    go_ret2
    exact ⟨by rw [HR.out]; rfl, hb⟩
  obtain ⟨m0, m1⟩ := inB_iff.1 h2
  obtain ⟨hok, hlen, hrng⟩ := ord_parts h1
  rw [HL.out] at hrng
  have hbd := fun (i : Nat) (a : Arrival) (ha : l[i]? = some a) => arr_bd hok ha
  have HR := Lib.hid (show delayR l high mi o = (delayZ l high mi o, true) by simp [delayR, h1, h2])
  have H3 := Lib.hid (fun w h ho => l8Delay_any A n c l high mi B m d o w h ho hrng (fun i a ha => ⟨(hbd i a ha).2.1.1, (hbd i a ha).2.1.2, by have := (hbd i a ha).2.2.1; omega, (hbd i a ha).2.2.2⟩) m0 m1 hm)
  clear hok hlen hrng hbd
  go_enter Try.func22, Try.ntmps22
  go_wp2_with fail
  refine H1.out.mono ?_
  rintro e w1 ⟨rfl, hb⟩
  simp only [h1]
  go_wp2_with fail
  refine (H2.out _).mono ?_
  rintro e w' ⟨rfl, hbn⟩
  have hb := hb.trans hbn
  clear hbn
  simp only [h2]
  go_wp2_with fail
  refine (H3.out _ (h.bl hb) (ho.bl hb)).mono ?_
  rintro e w2 ⟨rfl, hbn⟩
  have hb := hb.trans hbn
  go_wp2_with fail
  go_ret2
  exact ⟨by rw [HR.out]; rfl, hb⟩
set_option maxHeartbeats 1000000 in
theorem implLockageDelay_any (A : Option Addr) (n c : Nat) (l : List Arrival) (high : Bool) (mi : Int) (B : Option Addr) (m d : Nat) (o : List Int) (w : World) (h : Sl Arrival.cs 4 w A n l) (ho : Sl ci 1 w B m o) (_ : n ≤ 1048576) (hm : m ≤ 1048576) (_ : n ≤ c) (hc : m ≤ d) :
    Calls Try.prog 21 #[.slice A n c, .bool high, .int .i64 mi, .slice B m d] w fun e w' => e = .returned (.tuple #[.int .i64 (delayR l high mi o).1, .bool (delayR l high mi o).2]) ∧ Bl w w' := by
  have HL := Lib.hid h.1
  have H1 := Lib.hid (isLockageOrder_any A n c l B m d o w h ho hc)
  have H2 := Lib.hid (fun w => same_bl (areMinutes_any mi w))
  cases h1 : implOrd l o
  · have HR := Lib.hid (show delayR l high mi o = (0, false) by simp [delayR, h1])
    go_enter Try.func21, Try.ntmps21
    go_wp2_with fail
    refine H1.out.mono ?_
    rintro e w1 ⟨rfl, hb⟩
    simp only [h1]
    go_wp2_with fail
    go_ret2
    exact ⟨by rw [HR.out]; rfl, hb⟩
  cases h2 : inB mi 1 60
  · have HR := Lib.hid (show delayR l high mi o = (0, false) by simp [delayR, h2])
    go_enter Try.func21, Try.ntmps21
    go_wp2_with fail
    refine H1.out.mono ?_
    rintro e w1 ⟨rfl, hb⟩
    simp only [h1]
    go_wp2_with fail
    refine (H2.out _).mono ?_
    rintro e w' ⟨rfl, hbn⟩
    have hb := hb.trans hbn
    clear hbn
    simp only [h2]
    go_wp2_with fail
    go_ret2
    exact ⟨by rw [HR.out]; rfl, hb⟩
  obtain ⟨m0, m1⟩ := inB_iff.1 h2
  obtain ⟨hok, hlen, hrng⟩ := ord_parts h1
  rw [HL.out] at hrng
  have hbd := fun (i : Nat) (a : Arrival) (ha : l[i]? = some a) => arr_bd hok ha
  have HR := Lib.hid (show delayR l high mi o = (delayZ l high mi o, true) by simp [delayR, h1, h2])
  have H3 := Lib.hid (fun w h ho => lockageDelay_any A n c l high mi B m d o w h ho hrng (fun i a ha => ⟨(hbd i a ha).2.1.1, (hbd i a ha).2.1.2, by have := (hbd i a ha).2.2.1; omega, (hbd i a ha).2.2.2⟩) m0 m1 hm)
  clear hok hlen hrng hbd
  go_enter Try.func21, Try.ntmps21
  go_wp2_with fail
  refine H1.out.mono ?_
  rintro e w1 ⟨rfl, hb⟩
  simp only [h1]
  go_wp2_with fail
  refine (H2.out _).mono ?_
  rintro e w' ⟨rfl, hbn⟩
  have hb := hb.trans hbn
  clear hbn
  simp only [h2]
  go_wp2_with fail
  refine (H3.out _ (h.bl hb) (ho.bl hb)).mono ?_
  rintro e w2 ⟨rfl, hbn⟩
  have hb := hb.trans hbn
  go_wp2_with fail
  go_ret2
  exact ⟨by rw [HR.out]; rfl, hb⟩
end Go.Proofs.Ytnckpionabokeaa
