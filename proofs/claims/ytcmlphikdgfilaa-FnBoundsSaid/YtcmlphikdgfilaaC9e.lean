/- The contracts of QueueBound, LowerBound, GapOf and IsProven in both programs. -/
import Derived.Test.YtcmlphikdgfilaaC9c
namespace Go.Proofs.Ytcmlphikdgfilaa
open Go.RowKit
set_option maxHeartbeats 1000000 in
theorem specQueueBound_any (A : Option Addr) (n c : Nat) (l : List Arrival) (mi : Int) (w : World) (h : Sl Arrival.cs 4 w A n l) :
    Calls Try.prog 19 #[.slice A n c, .int .i64 mi] w fun e w' => e = .returned (.tuple #[.int .i64 (queueR l mi).1, .bool (queueR l mi).2]) ∧ Bl w w' := by
  have HL := Lib.hid h.1
  have H1 := Lib.hid (l9Asked_any A n c l mi w h)
  cases h1 : arrOk l
  · have HR := Lib.hid (show queueR l mi = (0, false) by simp [queueR, h1])
    go_enter Try.func19, Try.ntmps19
    go_wp2_with fail
    refine H1.out.mono ?_
    rintro e w1 ⟨rfl, hb⟩
    simp only [h1, Bool.false_and]
    go_wp2_with fail
    go_ret2
    exact ⟨by rw [HR.out]; rfl, hb⟩
  cases h2 : inB mi 1 60
  · have HR := Lib.hid (show queueR l mi = (0, false) by simp [queueR, h2])
    go_enter Try.func19, Try.ntmps19
    go_wp2_with fail
    refine H1.out.mono ?_
    rintro e w1 ⟨rfl, hb⟩
    simp only [h1, h2, Bool.true_and]
    go_wp2_with fail
    go_ret2
    exact ⟨by rw [HR.out]; rfl, hb⟩
  obtain ⟨m0, m1⟩ := inB_iff.1 h2
  have HR := Lib.hid (show queueR l mi = (queueZ l mi, true) by simp [queueR, h1, h2])
  have H3 := Lib.hid (fun w h => l9Queue_any A n c l mi w h h1 m0 m1)
  go_enter Try.func19, Try.ntmps19
  go_wp2_with fail
  refine H1.out.mono ?_
  rintro e w1 ⟨rfl, hb⟩
  simp only [h1, h2, Bool.true_and]
  go_wp2_with fail
  refine (H3.out _ (h.bl hb)).mono ?_
  rintro e w2 ⟨rfl, hbn⟩
  go_wp2_with fail
  go_ret2
  exact ⟨by rw [HR.out]; rfl, hb.trans hbn⟩
set_option maxHeartbeats 1000000 in
theorem implQueueBound_any (A : Option Addr) (n c : Nat) (l : List Arrival) (mi : Int) (w : World) (h : Sl Arrival.cs 4 w A n l) :
    Calls Try.prog 17 #[.slice A n c, .int .i64 mi] w fun e w' => e = .returned (.tuple #[.int .i64 (queueR l mi).1, .bool (queueR l mi).2]) ∧ Bl w w' := by
  have HL := Lib.hid h.1
  have H1 := Lib.hid (areArrivals_any A n c l w h)
  have H2 := Lib.hid (fun w => same_bl (areMinutes_any mi w))
  cases h1 : arrOk l
  · have HR := Lib.hid (show queueR l mi = (0, false) by simp [queueR, h1])
    go_enter Try.func17, Try.ntmps17
    go_wp2_with fail
    refine H1.out.mono ?_
    rintro e w1 ⟨rfl, hb⟩
    simp only [h1]
    go_wp2_with fail
    go_ret2
    exact ⟨by rw [HR.out]; rfl, hb⟩
  cases h2 : inB mi 1 60
  · have HR := Lib.hid (show queueR l mi = (0, false) by simp [queueR, h2])
    go_enter Try.func17, Try.ntmps17
    go_wp2_with fail
    refine H1.out.mono ?_
    rintro e w1 ⟨rfl, hb⟩
    simp only [h1]
    go_wp2_with fail
    refine (H2.out _).mono ?_
    rintro e w' ⟨rfl, hbn⟩
    have hb := hb.trans hbn
    clear hbn
    simp only [h2]
    go_wp2_with fail
    go_ret2
    exact ⟨by rw [HR.out]; rfl, hb⟩
  obtain ⟨m0, m1⟩ := inB_iff.1 h2
  have HR := Lib.hid (show queueR l mi = (queueZ l mi, true) by simp [queueR, h1, h2])
  have H3 := Lib.hid (fun w h => queueBound_any A n c l mi w h h1 m0 m1)
  go_enter Try.func17, Try.ntmps17
  go_wp2_with fail
  refine H1.out.mono ?_
  rintro e w1 ⟨rfl, hb⟩
  simp only [h1]
  go_wp2_with fail
  refine (H2.out _).mono ?_
  rintro e w' ⟨rfl, hbn⟩
  have hb := hb.trans hbn
  clear hbn
  simp only [h2]
  go_wp2_with fail
  refine (H3.out _ (h.bl hb)).mono ?_
  rintro e w2 ⟨rfl, hbn⟩
  go_wp2_with fail
  go_ret2
  exact ⟨by rw [HR.out]; rfl, hb.trans hbn⟩
set_option maxHeartbeats 1000000 in
theorem l9Lower_any (A : Option Addr) (n c : Nat) (l : List Arrival) (high : Bool) (mi : Int) (w : World) (h : Sl Arrival.cs 4 w A n l) (hok : arrOk l = true) (m0 : 1 ≤ mi) (m1 : mi ≤ 60) (hc : n ≤ c) :
    Calls Try.prog 50 #[.slice A n c, .bool high, .int .i64 mi] w fun e w' => e = .returned (.int .i64 (lowerZ l high mi)) ∧ Bl w w' := by
  have HL := Lib.hid h.1
  have H1 := Lib.hid (l9Alone_any A n c l high mi w h hok m0 m1 hc)
  have H2 := Lib.hid (fun w h => l9Queue_any A n c l mi w h hok m0 m1)
  have HZ : Hid (lowerZ l high mi = max (aloneK l high mi n) (queueZ l mi)) := by show _ = _; rw [lowerZ, HL.out]
  clear hok
  go_enter Try.func50, Try.ntmps50
  go_wp2_with fail
  refine H1.out.mono ?_
  rintro e w1 ⟨rfl, hb⟩
  go_wp2_with fail
  refine (H2.out _ (h.bl hb)).mono ?_
  rintro e w2 ⟨rfl, hbn⟩
  go_wp2_with fail
  refine (l1Most_any _ _ _).mono ?_
  rintro e w3 ⟨rfl, rfl⟩
  go_wp2_with fail
  go_ret
  exact ⟨by rw [HZ.out]; rfl, hb.trans hbn⟩
set_option maxHeartbeats 1000000 in
theorem specLowerBound_any (A : Option Addr) (n c : Nat) (l : List Arrival) (high : Bool) (mi : Int) (w : World) (h : Sl Arrival.cs 4 w A n l) (hc : n ≤ c) :
    Calls Try.prog 15 #[.slice A n c, .bool high, .int .i64 mi] w fun e w' => e = .returned (.tuple #[.int .i64 (lowerR l high mi).1, .bool (lowerR l high mi).2]) ∧ Bl w w' := by
  have HL := Lib.hid h.1
  have H1 := Lib.hid (l9Asked_any A n c l mi w h)
  cases h1 : arrOk l
  · have HR := Lib.hid (show lowerR l high mi = (0, false) by simp [lowerR, h1])
    go_enter Try.func15, Try.ntmps15
    go_wp2_with fail
    refine H1.out.mono ?_
    rintro e w1 ⟨rfl, hb⟩
    simp only [h1, Bool.false_and]
    go_wp2_with fail
    go_ret2
    exact ⟨by rw [HR.out]; rfl, hb⟩
  cases h2 : inB mi 1 60
  · have HR := Lib.hid (show lowerR l high mi = (0, false) by simp [lowerR, h2])
    go_enter Try.func15, Try.ntmps15
    go_wp2_with fail
    refine H1.out.mono ?_
    rintro e w1 ⟨rfl, hb⟩
    simp only [h1, h2, Bool.true_and]
    go_wp2_with fail
    go_ret2
    exact ⟨by rw [HR.out]; rfl, hb⟩
  obtain ⟨m0, m1⟩ := inB_iff.1 h2
  have HR := Lib.hid (show lowerR l high mi = (lowerZ l high mi, true) by simp [lowerR, h1, h2])
  have H3 := Lib.hid (fun w h => l9Lower_any A n c l high mi w h h1 m0 m1 hc)
  go_enter Try.func15, Try.ntmps15
  go_wp2_with fail
  refine H1.out.mono ?_
  rintro e w1 ⟨rfl, hb⟩
  simp only [h1, h2, Bool.true_and]
  go_wp2_with fail
  refine (H3.out _ (h.bl hb)).mono ?_
  rintro e w2 ⟨rfl, hbn⟩
  go_wp2_with fail
  go_ret2
  exact ⟨by rw [HR.out]; rfl, hb.trans hbn⟩
set_option maxHeartbeats 1000000 in
theorem implLowerBound_any (A : Option Addr) (n c : Nat) (l : List Arrival) (high : Bool) (mi : Int) (w : World) (h : Sl Arrival.cs 4 w A n l) (hc : n ≤ c) :
    Calls Try.prog 14 #[.slice A n c, .bool high, .int .i64 mi] w fun e w' => e = .returned (.tuple #[.int .i64 (lowerR l high mi).1, .bool (lowerR l high mi).2]) ∧ Bl w w' := by
  have HL := Lib.hid h.1
  have H1 := Lib.hid (areArrivals_any A n c l w h)
  have H2 := Lib.hid (fun w => same_bl (areMinutes_any mi w))
  cases h1 : arrOk l
  · have HR := Lib.hid (show lowerR l high mi = (0, false) by simp [lowerR, h1])
    go_enter Try.func14, Try.ntmps14
    go_wp2_with fail
    refine H1.out.mono ?_
    rintro e w1 ⟨rfl, hb⟩
    simp only [h1]
    go_wp2_with fail
    go_ret2
    exact ⟨by rw [HR.out]; rfl, hb⟩
  cases h2 : inB mi 1 60
  · have HR := Lib.hid (show lowerR l high mi = (0, false) by simp [lowerR, h2])
    go_enter Try.func14, Try.ntmps14
    go_wp2_with fail
    refine H1.out.mono ?_
    rintro e w1 ⟨rfl, hb⟩
    simp only [h1]
    go_wp2_with fail
    refine (H2.out _).mono ?_
    rintro e w' ⟨rfl, hbn⟩
    have hb := hb.trans hbn
    clear hbn
    simp only [h2]
    go_wp2_with fail
    go_ret2
    exact ⟨by rw [HR.out]; rfl, hb⟩
  obtain ⟨m0, m1⟩ := inB_iff.1 h2
  have HR := Lib.hid (show lowerR l high mi = (max (aloneK l high mi n) (queueZ l mi), true) by simp [lowerR, lowerZ, h1, h2, HL.out])
  have H3 := Lib.hid (fun w h => aloneBound_any A n c l high mi w h h1 m0 m1 hc)
  have H4 := Lib.hid (fun w h => queueBound_any A n c l mi w h h1 m0 m1)
  generalize aloneK l high mi n = za at *
  generalize queueZ l mi = zb at *
  go_enter Try.func14, Try.ntmps14
  go_wp2_with fail
  refine H1.out.mono ?_
  rintro e w1 ⟨rfl, hb⟩
  simp only [h1]
  go_wp2_with fail
  refine (H2.out _).mono ?_
  rintro e w' ⟨rfl, hbn⟩
  have hb := hb.trans hbn
  clear hbn
  simp only [h2]
  go_wp2_with fail
  refine (H3.out _ (h.bl hb)).mono ?_
  rintro e w2 ⟨rfl, hbn⟩
  go_wp2_with fail
  refine (H4.out _ (h.bl (hb.trans hbn))).mono ?_
  rintro e w3 ⟨rfl, hbn3⟩
  go_wp2_with fail
  all_goals
    go_ret2
    exact ⟨by rw [HR.out]; first | (rw [show max za zb = zb by omega]; rfl) | (rw [show max za zb = za by omega]; rfl), (hb.trans hbn).trans hbn3⟩
set_option maxHeartbeats 1000000 in
theorem specGapOf_any (A : Option Addr) (n c : Nat) (l : List Arrival) (high : Bool) (mi : Int) (B : Option Addr) (m d : Nat) (o : List Int) (w : World) (h : Sl Arrival.cs 4 w A n l) (ho : Sl ci 1 w B m o) (hn : n ≤ 1048576) (hm : m ≤ 1048576) (hcn : n ≤ c) (hc : m ≤ d) :
    Calls Try.prog 27 #[.slice A n c, .bool high, .int .i64 mi, .slice B m d] w fun e w' => e = .returned (.tuple #[.int .i64 (gapR l high mi o).1, .bool (gapR l high mi o).2]) ∧ Bl w w' := by
  have HL := Lib.hid h.1
  have HM := Lib.hid ho.1
  have H1 := Lib.hid (l8Order_any A n c l B m d o w h ho hc)
  have H2 := Lib.hid (fun w => same_bl (l8Minutes_any mi w))
  cases h1 : implOrd l o
  · have HR := Lib.hid (show gapR l high mi o = (0, false) by simp [gapR, h1])
    go_enter Try.func27, Try.ntmps27
    go_wp2_with fail
    refine H1.out.mono ?_
    rintro e w1 ⟨rfl, hb⟩
    simp only [h1]
    go_wp2_with fail
    go_ret2
    exact ⟨by rw [HR.out]; rfl, hb⟩
  cases h2 : inB mi 1 60
  · have HR := Lib.hid (show gapR l high mi o = (0, false) by simp [gapR, h2])
    go_enter Try.func27, Try.ntmps27
    go_wp2_with fail
    refine H1.out.mono ?_
    rintro e w1 ⟨rfl, hb⟩
    simp only [h1]
    go_wp2_with fail
    refine (H2.out _).mono ?_
    rintro e w' ⟨rfl, hbn⟩
    have hb := hb.trans hbn
    clear hbn
    simp only [h2]
    go_wp2_with fail
    go_ret2
    exact ⟨by rw [HR.out]; rfl, hb⟩
  obtain ⟨m0, m1⟩ := inB_iff.1 h2
  obtain ⟨hokl, hlen, hr⟩ := ord_parts h1
  rw [HL.out] at hr
  have HR := Lib.hid (show gapR l high mi o = (delayZ l high mi o - lowerZ l high mi, true) by simp [gapR, h1, h2])
  have H3 := Lib.hid (fun w h ho => l8Delay_any A n c l high mi B m d o w h ho hr (fun i a ha => by have := arr_bd hokl ha; omega) m0 m1 hm)
  have H4 := Lib.hid (fun w h => l9Lower_any A n c l high mi w h hokl m0 m1 hcn)
  obtain ⟨a0, a1⟩ := delay_bd (high := high) h1 m0 m1
  obtain ⟨a2, a3⟩ := lower_bd (high := high) hokl m0 m1
  generalize delayZ l high mi o = za at *
  generalize lowerZ l high mi = zb at *
  clear hokl hlen hr
  go_enter Try.func27, Try.ntmps27
  go_wp2_with fail
  refine H1.out.mono ?_
  rintro e w1 ⟨rfl, hb⟩
  simp only [h1]
  go_wp2_with fail
  refine (H2.out _).mono ?_
  rintro e w' ⟨rfl, hbn⟩
  have hb := hb.trans hbn
  clear hbn
  simp only [h2]
  go_wp2_with fail
  refine (H3.out _ (h.bl hb) (ho.bl hb)).mono ?_
  rintro e w2 ⟨rfl, hb2⟩
  go_wp2_with fail
  refine (H4.out _ (h.bl (hb.trans hb2))).mono ?_
  rintro e w3 ⟨rfl, hb3⟩
  go_wp2_with fail
  go_ret2
  exact ⟨by rw [HR.out]; rfl, (hb.trans hb2).trans hb3⟩
set_option maxHeartbeats 1000000 in
theorem implGapOf_any (A : Option Addr) (n c : Nat) (l : List Arrival) (high : Bool) (mi : Int) (B : Option Addr) (m d : Nat) (o : List Int) (w : World) (h : Sl Arrival.cs 4 w A n l) (ho : Sl ci 1 w B m o) (hn : n ≤ 1048576) (hm : m ≤ 1048576) (hcn : n ≤ c) (hc : m ≤ d) :
    Calls Try.prog 21 #[.slice A n c, .bool high, .int .i64 mi, .slice B m d] w fun e w' => e = .returned (.tuple #[.int .i64 (gapR l high mi o).1, .bool (gapR l high mi o).2]) ∧ Bl w w' := by
  have HL := Lib.hid h.1
  have HM := Lib.hid ho.1
  have H1 := Lib.hid (implLockageDelay_any A n c l high mi B m d o w h ho hn hm hcn hc)
  by_cases h0 : implOrd l o = true ∧ inB mi 1 60 = true
  case neg =>
    have HR := Lib.hid (show gapR l high mi o = (0, false) by rw [gapR, if_neg h0])
    have HD := Lib.hid (show delayR l high mi o = (0, false) by rw [delayR, if_neg h0])
    clear h0
    generalize delayR l high mi o = R at *
    obtain ⟨z, b⟩ := R
    have e2 : b = false := congrArg Prod.snd HD.out
    subst e2
    go_enter Try.func21, Try.ntmps21
    go_wp2_with fail
    refine H1.out.mono ?_
    rintro e w1 ⟨rfl, hb⟩
    go_wp2_with fail
    go_ret2
    exact ⟨by rw [HR.out]; rfl, hb⟩
  obtain ⟨h1, h2⟩ := h0
  obtain ⟨m0, m1⟩ := inB_iff.1 h2
  obtain ⟨hokl, hlen, hr⟩ := ord_parts h1
  have HR := Lib.hid (show gapR l high mi o = (delayZ l high mi o - lowerZ l high mi, true) by simp [gapR, h1, h2])
  have HD := Lib.hid (show delayR l high mi o = (delayZ l high mi o, true) by simp [delayR, h1, h2])
  have HW := Lib.hid (show lowerR l high mi = (lowerZ l high mi, true) by simp [lowerR, hokl, h2])
  have H4 := Lib.hid (fun w h => implLowerBound_any A n c l high mi w h hcn)
  obtain ⟨a0, a1⟩ := delay_bd (high := high) h1 m0 m1
  obtain ⟨a2, a3⟩ := lower_bd (high := high) hokl m0 m1
  generalize delayR l high mi o = R at *
  generalize lowerR l high mi = R2 at *
  generalize delayZ l high mi o = za at *
  generalize lowerZ l high mi = zb at *
  obtain ⟨z, b⟩ := R
  obtain ⟨z2, b2⟩ := R2
  have e1 : z = za := congrArg Prod.fst HD.out
  have e2 : b = true := congrArg Prod.snd HD.out
  have e3 : z2 = zb := congrArg Prod.fst HW.out
  have e4 : b2 = true := congrArg Prod.snd HW.out
  subst e1 e2 e3 e4
  clear hokl hlen hr
  go_enter Try.func21, Try.ntmps21
  go_wp2_with fail
  refine H1.out.mono ?_
  rintro e w1 ⟨rfl, hb⟩
  go_wp2_with fail
  refine (H4.out _ (h.bl hb)).mono ?_
  rintro e w2 ⟨rfl, hb2⟩
  go_wp2_with fail
  go_ret2
  exact ⟨by rw [HR.out]; rfl, hb.trans hb2⟩
set_option maxHeartbeats 1000000 in
theorem specIsProven_any (A : Option Addr) (n c : Nat) (l : List Arrival) (high : Bool) (mi : Int) (B : Option Addr) (m d : Nat) (o : List Int) (w : World) (h : Sl Arrival.cs 4 w A n l) (ho : Sl ci 1 w B m o) (hn : n ≤ 1048576) (hm : m ≤ 1048576) (hcn : n ≤ c) (hc : m ≤ d) :
    Calls Try.prog 24 #[.slice A n c, .bool high, .int .i64 mi, .slice B m d] w fun e w' => e = .returned (.tuple #[.bool (provenR l high mi o).1, .bool (provenR l high mi o).2]) ∧ Bl w w' := by
  have H1 := Lib.hid (specGapOf_any A n c l high mi B m d o w h ho hn hm hcn hc)
  have HR : Hid (provenR l high mi o = ((gapR l high mi o).2 && decide ((gapR l high mi o).1 = 0), (gapR l high mi o).2)) := rfl
  generalize gapR l high mi o = R at *
  obtain ⟨z, b⟩ := R
  cases b
  · go_enter Try.func24, Try.ntmps24
    go_wp2_with fail
    refine H1.out.mono ?_
    rintro e w1 ⟨rfl, hb⟩
    go_wp2_with fail
    go_ret2
    exact ⟨by rw [HR.out]; rfl, hb⟩
  · cases hz : decide (z = 0)
    all_goals
      have HZ := Lib.hid hz
      clear hz
      go_enter Try.func24, Try.ntmps24
      go_wp2_with fail
      refine H1.out.mono ?_
      rintro e w1 ⟨rfl, hb⟩
      go_wp2_with fail
      go_ret2
      exact ⟨by rw [HR.out]; have h9 := HZ.out; simp at h9; simp [h9], hb⟩
set_option maxHeartbeats 1000000 in
theorem implIsProven_any (A : Option Addr) (n c : Nat) (l : List Arrival) (high : Bool) (mi : Int) (B : Option Addr) (m d : Nat) (o : List Int) (w : World) (h : Sl Arrival.cs 4 w A n l) (ho : Sl ci 1 w B m o) (hn : n ≤ 1048576) (hm : m ≤ 1048576) (hcn : n ≤ c) (hc : m ≤ d) :
    Calls Try.prog 22 #[.slice A n c, .bool high, .int .i64 mi, .slice B m d] w fun e w' => e = .returned (.tuple #[.bool (provenR l high mi o).1, .bool (provenR l high mi o).2]) ∧ Bl w w' := by
  have H1 := Lib.hid (implGapOf_any A n c l high mi B m d o w h ho hn hm hcn hc)
  have HR : Hid (provenR l high mi o = ((gapR l high mi o).2 && decide ((gapR l high mi o).1 = 0), (gapR l high mi o).2)) := rfl
  generalize gapR l high mi o = R at *
  obtain ⟨z, b⟩ := R
  cases b
  · go_enter Try.func22, Try.ntmps22
    go_wp2_with fail
    refine H1.out.mono ?_
    rintro e w1 ⟨rfl, hb⟩
    go_wp2_with fail
    go_ret2
    exact ⟨by rw [HR.out]; rfl, hb⟩
  · cases hz : decide (z = 0)
    all_goals
      have HZ := Lib.hid hz
      clear hz
      go_enter Try.func22, Try.ntmps22
      go_wp2_with fail
      refine H1.out.mono ?_
      rintro e w1 ⟨rfl, hb⟩
      go_wp2_with fail
      go_ret2
      exact ⟨by rw [HR.out]; have h9 := HZ.out; simp at h9; simp [h9], hb⟩
end Go.Proofs.Ytcmlphikdgfilaa
