/- The contracts of EmptyTurns and LastLockage in both programs. -/
import Derived.Test.YtnckpionabokeaaC8d
namespace Go.Proofs.Ytnckpionabokeaa
open Go.RowKit
set_option maxHeartbeats 1000000 in
theorem specEmptyTurns_any (A : Option Addr) (n c : Nat) (l : List Arrival) (high : Bool) (B : Option Addr) (m d : Nat) (o : List Int) (w : World) (h : Sl Arrival.cs 4 w A n l) (ho : Sl ci 1 w B m o) (_ : n ≤ 1048576) (hm : m ≤ 1048576) (_ : n ≤ c) (hc : m ≤ d) :
    Calls Try.prog 35 #[.slice A n c, .bool high, .slice B m d] w fun e w' => e = .returned (.tuple #[.int .i64 (turnsR l high o).1, .bool (turnsR l high o).2]) ∧ Bl w w' := by
  have bm := ho.le
  have HL := Lib.hid h.1
  have HM := Lib.hid ho.1
  have H1 := Lib.hid (l8Order_any A n c l B m d o w h ho hc)
  cases h1 : implOrd l o
  · have HR := Lib.hid (show turnsR l high o = (0, false) by simp [turnsR, h1])
    go_enter Try.func35, Try.ntmps35
    go_wp2_with fail
    refine H1.out.mono ?_
    rintro e w1 ⟨rfl, hb⟩
    simp only [h1]
    go_wp2_with fail
    go_ret2
    exact ⟨by rw [HR.out]; rfl, hb⟩
  obtain ⟨hok, hlen, hrng⟩ := ord_parts h1
  rw [HL.out] at hrng
  have HG := Lib.hid hrng
  have HV := Lib.hid (fun (i : Nat) (a : Arrival) (ha : l[i]? = some a) => (arr_bd hok ha).2.1)
  have HR := Lib.hid (show turnsR l high o = ((runT l 1 high o).turns, true) by simp [turnsR, h1])
  clear hok hlen hrng
  go_enter Try.func35, Try.ntmps35
  go_wp2_with fail
  refine H1.out.mono ?_
  rintro e w1 ⟨rfl, hb⟩
  simp only [h1]
  go_wp2_with fail
  go_loopw [1, 8, 9] (fun hh u i wr => ∃ k : Nat, k ≤ m ∧ i = .int .i64 k ∧ Bl w wr ∧ hh = .bool (runT l 1 high (o.take k)).high ∧ u = .int .i64 (runT l 1 high (o.take k)).turns ∧ Hid (Tk k (runT l 1 high (o.take k)))) (fun _ _ i _ => m - (intOf i).toNat)
  case atStart => exact ⟨0, Nat.zero_le _, rfl, hb, rfl, rfl, tk_zero high⟩
  case round =>
    clear hb
    obtain ⟨k, hk, rfl, hb, rfl, rfl, htk⟩ := hrel
    by_cases hlt : k < m
    · obtain ⟨b1, o1, x, rfl, ex, c1⟩ := ho.int hlt
      have q1 := c1 _ hb
      obtain ⟨hx0, hx1⟩ := HG.out k x ex
      obtain ⟨j, rfl⟩ := Int.eq_ofNat_of_zero_le hx0
      have hj : j < n := by omega
      obtain ⟨b2, o2, p, rfl, ep, p1, p2, p3, p4⟩ := h.Arrival hj
      obtain ⟨mv0, mv1⟩ := HV.out j p ep
      have HS := Lib.hid (show runT l 1 high (o.take (k + 1)) = stepT 1 (runT l 1 high (o.take k)) p by rw [runT_one ex, arrAtI_nat ep])
      have HN := Lib.hid (tk_step (a := p) htk.out (by omega : (1 : Int) ≤ 1) (by omega) mv0 mv1)
      have g2 := p2 _ hb
      obtain ⟨p0, pu, pm, pw⟩ := p
      simp only at mv0 mv1 g2
      clear ex ep c1 p1 p2 p3 p4
      generalize runT l 1 high (o.take k) = s at *
      obtain ⟨fr, hg, tu, out⟩ := s
      have t0 := htk.out.t0
      have t1 := htk.out.t1
      simp only at t0 t1
      have HNe := Lib.hid (fun (h : ¬ pu = hg) => HS.out.trans (stepT_ne (a := ⟨p0, pu, pm, pw⟩) (s := ⟨fr, hg, tu, out⟩) h))
      have HEq := Lib.hid (fun (h : pu = hg) => HS.out.trans (stepT_eq (a := ⟨p0, pu, pm, pw⟩) (s := ⟨fr, hg, tu, out⟩) h))
      rw [← HS.out] at HN
      clear HS htk
      cases pu <;> cases hg
      · have HS := Lib.hid (HEq.out rfl)
        clear HNe HEq
        go_wp2_with fail
        first | exact ⟨⟨k + 1, by omega, by go_num, hb, by rw [HS.out], by rw [HS.out], HN⟩, by simp [intOf]; omega⟩ | (refine ⟨?_, by simp [intOf]; omega⟩; (repeat apply Exists.intro); exact ⟨⟨k + 1, by omega, by go_num, hb, by rw [HS.out], by rw [HS.out], HN⟩, rfl⟩)
      · have HS := Lib.hid (HNe.out (by simp))
        clear HNe HEq
        go_wp2_with fail
        first | exact ⟨⟨k + 1, by omega, by go_num, hb, by rw [HS.out], by rw [HS.out], HN⟩, by simp [intOf]; omega⟩ | (refine ⟨?_, by simp [intOf]; omega⟩; (repeat apply Exists.intro); exact ⟨⟨k + 1, by omega, by go_num, hb, by rw [HS.out], by rw [HS.out], HN⟩, rfl⟩)
      · have HS := Lib.hid (HNe.out (by simp))
        clear HNe HEq
        go_wp2_with fail
        first | exact ⟨⟨k + 1, by omega, by go_num, hb, by rw [HS.out], by rw [HS.out], HN⟩, by simp [intOf]; omega⟩ | (refine ⟨?_, by simp [intOf]; omega⟩; (repeat apply Exists.intro); exact ⟨⟨k + 1, by omega, by go_num, hb, by rw [HS.out], by rw [HS.out], HN⟩, rfl⟩)
      · have HS := Lib.hid (HEq.out rfl)
        clear HNe HEq
        go_wp2_with fail
        first | exact ⟨⟨k + 1, by omega, by go_num, hb, by rw [HS.out], by rw [HS.out], HN⟩, by simp [intOf]; omega⟩ | (refine ⟨?_, by simp [intOf]; omega⟩; (repeat apply Exists.intro); exact ⟨⟨k + 1, by omega, by go_num, hb, by rw [HS.out], by rw [HS.out], HN⟩, rfl⟩)
    · have e : k = m := by omega
      subst e
      have HE := Lib.hid (show runT l 1 high (o.take k) = runT l 1 high o by rw [take_all HM.out])
      rw [HE.out]
      go_wp2_with fail
      go_ret2
      exact ⟨by rw [HR.out]; rfl, hb⟩
set_option maxHeartbeats 1000000 in
theorem implEmptyTurns_any (A : Option Addr) (n c : Nat) (l : List Arrival) (high : Bool) (B : Option Addr) (m d : Nat) (o : List Int) (w : World) (h : Sl Arrival.cs 4 w A n l) (ho : Sl ci 1 w B m o) (_ : n ≤ 1048576) (hm : m ≤ 1048576) (_ : n ≤ c) (hc : m ≤ d) :
    Calls Try.prog 36 #[.slice A n c, .bool high, .slice B m d] w fun e w' => e = .returned (.tuple #[.int .i64 (turnsR l high o).1, .bool (turnsR l high o).2]) ∧ Bl w w' := by
  have HL := Lib.hid h.1
  have H1 := Lib.hid (isLockageOrder_any A n c l B m d o w h ho hc)
  cases h1 : implOrd l o
  · have HR := Lib.hid (show turnsR l high o = (0, false) by simp [turnsR, h1])
    go_enter Try.func36, Try.ntmps36
    go_wp2_with fail
    refine H1.out.mono ?_
    rintro e w1 ⟨rfl, hb⟩
    simp only [h1]
    go_wp2_with fail
    go_ret2
    exact ⟨by rw [HR.out]; rfl, hb⟩
  obtain ⟨hok, hlen, hrng⟩ := ord_parts h1
  rw [HL.out] at hrng
  have HR := Lib.hid (show turnsR l high o = ((runT l 1 high o).turns, true) by simp [turnsR, h1])
  have H3 := Lib.hid (fun w h ho => lockageTimes_any A n c l high 1 B m d o w h ho hrng (fun i a ha => (arr_bd hok ha).2.1) (by omega) (by omega) hm)
  clear hok hlen hrng
  go_enter Try.func36, Try.ntmps36
  go_wp2_with fail
  refine H1.out.mono ?_
  rintro e w1 ⟨rfl, hb⟩
  simp only [h1]
  go_wp2_with fail
  refine (H3.out _ (h.bl hb) (ho.bl hb)).mono ?_
  rintro e w2 ⟨C, m4, c4, rfl, ho4, hl4, hm4, hbn⟩
  have hb := hb.trans hbn
  go_wp2_with fail
  go_ret2
  exact ⟨by rw [HR.out]; rfl, hb⟩
def lastOf (mi : Int) : Option Int → Int × Bool
  | some t => (t + mi, true)
  | none => (0, true)
def lastRR (l : List Arrival) (high : Bool) (mi : Int) (o : List Int) : Int × Bool := if implOrd l o = true ∧ inB mi 1 60 = true then lastOf mi ((runT l mi high o).out[o.length - 1]?) else (0, false)
theorem last_get {xs : List Int} {m : Nat} (hl : xs.length = m) (hm : 0 < m) : ∃ t, xs[m - 1]? = some t := ⟨_, List.getElem?_eq_getElem (by omega)⟩
set_option maxHeartbeats 1000000 in
theorem specLastLockage_any (A : Option Addr) (n c : Nat) (l : List Arrival) (high : Bool) (mi : Int) (B : Option Addr) (m d : Nat) (o : List Int) (w : World) (h : Sl Arrival.cs 4 w A n l) (ho : Sl ci 1 w B m o) (_ : n ≤ 1048576) (hm : m ≤ 1048576) (_ : n ≤ c) (hc : m ≤ d) :
    Calls Try.prog 37 #[.slice A n c, .bool high, .int .i64 mi, .slice B m d] w fun e w' => e = .returned (.tuple #[.int .i64 (lastRR l high mi o).1, .bool (lastRR l high mi o).2]) ∧ Bl w w' := by
  have HL := Lib.hid h.1
  have HM := Lib.hid ho.1
  have H1 := Lib.hid (l8Order_any A n c l B m d o w h ho hc)
  have H2 := Lib.hid (fun w => same_bl (l8Minutes_any mi w))
  cases h1 : implOrd l o
  · have HR := Lib.hid (show lastRR l high mi o = (0, false) by simp [lastRR, h1])
    go_enter Try.func37, Try.ntmps37
    go_wp2_with fail
    refine H1.out.mono ?_
    rintro e w1 ⟨rfl, hb⟩
    simp only [h1]
    go_wp2_with fail
    go_ret2
    exact ⟨by rw [HR.out]; rfl, hb⟩
  cases h2 : inB mi 1 60
  · have HR := Lib.hid (show lastRR l high mi o = (0, false) by simp [lastRR, h2])
    go_enter Try.func37, Try.ntmps37
    go_wp2_with fail
    refine H1.out.mono ?_
    rintro e w1 ⟨rfl, hb⟩
    simp only [h1]
    go_wp2_with fail
    refine (H2.out _).mono ?_
    rintro e w' ⟨rfl, hbn⟩
    have hb := hb.trans hbn
    clear hbn
    simp only [h2]
    go_wp2_with fail
    go_ret2
    exact ⟨by rw [HR.out]; rfl, hb⟩
  obtain ⟨m0, m1⟩ := inB_iff.1 h2
  obtain ⟨hok, hlen, hrng⟩ := ord_parts h1
  rw [HL.out] at hrng
  have HR := Lib.hid (show lastRR l high mi o = lastOf mi ((runT l mi high o).out[m - 1]?) by simp [lastRR, h1, h2, HM.out])
  have H3 := Lib.hid (fun w h ho => l8Times_any A n c l high mi B m d o w h ho hrng (fun i a ha => (arr_bd hok ha).2.1) m0 m1 hm)
  have htk : Tk m (runT l mi high o) := by
    have := tk_run (high := high) (by rw [HL.out]; exact hrng) (fun i a ha => (arr_bd hok ha).2.1) m0 m1 m (by rw [HM.out]; exact Nat.le_refl _)
    rwa [take_all HM.out] at this
  have HT := Lib.hid htk
  clear hok hlen hrng htk
  generalize (runT l mi high o) = s at *
  go_enter Try.func37, Try.ntmps37
  go_wp2_with fail
  refine H1.out.mono ?_
  rintro e w1 ⟨rfl, hb⟩
  simp only [h1]
  go_wp2_with fail
  refine (H2.out _).mono ?_
  rintro e w' ⟨rfl, hbn⟩
  have hb := hb.trans hbn
  clear hbn
  simp only [h2]
  go_wp2_with fail
  refine (H3.out _ (h.bl hb) (ho.bl hb)).mono ?_
  rintro e w2 ⟨C, m4, c4, rfl, ho4, hl4, hm4, hbn⟩
  have hm4' : m4 = m := by rw [← hl4]; exact HT.out.len
  subst hm4'
  have hb := hb.trans hbn
  by_cases hz : m4 = 0
  · have HR2 := Lib.hid (HR.out.trans (show lastOf mi (s.out[m4 - 1]?) = (0, true) by rw [List.getElem?_eq_none (by rw [HT.out.len]; omega)]; rfl))
    subst hz
    go_wp2_with fail
    go_ret2
    exact ⟨by rw [HR2.out]; rfl, hb⟩
  · obtain ⟨t, et⟩ := last_get hl4 (by omega)
    have HR2 := Lib.hid (HR.out.trans (show lastOf mi (s.out[m4 - 1]?) = (t + mi, true) by rw [et]; rfl))
    obtain ⟨tt0, tt1⟩ := HT.out.out _ t et
    obtain ⟨b5, o5, t', rfl, et', t1⟩ := (Sl.of_own ci_len ho4 hl4 (by omega)).int (i := m4 - 1) (by omega)
    have : t' = t := Option.some.inj (et'.symm.trans et)
    subst this
    have g5 := t1 _ (Bl.refl _)
    have k1 : (0 : Int) ≤ (m4 : Int) - 1 := by omega
    have k2 : (m4 : Int) - 1 < (m4 : Int) := by omega
    have k3 : ((m4 : Int) - 1).toNat = m4 - 1 := by omega
    have k4 : ((m4 : Int) == 0) = false := by simp; omega
    have k5 : m4 - 1 < m4 := by omega
    have k6 : 1 ≤ m4 := by omega
    have k7 : 1 ≤ (m4 : Int) := by omega
    clear et et' t1
    go_wp2_with fail
    go_ret2
    exact ⟨by rw [HR2.out]; rfl, hb⟩
set_option maxHeartbeats 1000000 in
theorem implLastLockage_any (A : Option Addr) (n c : Nat) (l : List Arrival) (high : Bool) (mi : Int) (B : Option Addr) (m d : Nat) (o : List Int) (w : World) (h : Sl Arrival.cs 4 w A n l) (ho : Sl ci 1 w B m o) (hn : n ≤ 1048576) (hm : m ≤ 1048576) (hcn : n ≤ c) (hc : m ≤ d) :
    Calls Try.prog 38 #[.slice A n c, .bool high, .int .i64 mi, .slice B m d] w fun e w' => e = .returned (.tuple #[.int .i64 (lastRR l high mi o).1, .bool (lastRR l high mi o).2]) ∧ Bl w w' := by
  have HL := Lib.hid h.1
  have HM := Lib.hid ho.1
  have H1 := Lib.hid (implLockageTimes_any A n c l high mi B m d o w h ho hn hm hcn hc)
  by_cases h1 : implOrd l o = true ∧ inB mi 1 60 = true
  case neg =>
    have HR := Lib.hid (show lastRR l high mi o = (0, false) by simp only [lastRR, if_neg h1])
    have HW := Lib.hid (show timesR l high mi o = ([], false) by simp only [timesR, if_neg h1])
    clear h1
    generalize timesR l high mi o = R at *
    obtain ⟨ts, b⟩ := R
    have e2 : b = false := congrArg Prod.snd HW.out
    subst e2
    go_enter Try.func38, Try.ntmps38
    go_wp2_with fail
    refine H1.out.mono ?_
    rintro e w2 ⟨C, m4, c4, rfl, ho4, hl4, hm4, hb⟩
    go_wp2_with fail
    go_ret2
    exact ⟨by rw [HR.out]; rfl, hb⟩
  obtain ⟨m0, m1⟩ := inB_iff.1 h1.2
  obtain ⟨hok, hlen, hrng⟩ := ord_parts h1.1
  rw [HL.out] at hrng
  have HR := Lib.hid (show lastRR l high mi o = lastOf mi ((runT l mi high o).out[m - 1]?) by simp [lastRR, h1.1, h1.2, HM.out])
  have HW := Lib.hid (show timesR l high mi o = ((runT l mi high o).out, true) by simp only [timesR, if_pos h1])
  have htk : Tk m (runT l mi high o) := by
    have := tk_run (high := high) (by rw [HL.out]; exact hrng) (fun i a ha => (arr_bd hok ha).2.1) m0 m1 m (by rw [HM.out]; exact Nat.le_refl _)
    rwa [take_all HM.out] at this
  have HT := Lib.hid htk
  clear hok hlen hrng htk h1
  generalize timesR l high mi o = R at *
  generalize (runT l mi high o) = s at *
  obtain ⟨ts, b⟩ := R
  have e2 : b = true := congrArg Prod.snd HW.out
  have e3 : ts = s.out := congrArg Prod.fst HW.out
  subst e2 e3
  go_enter Try.func38, Try.ntmps38
  go_wp2_with fail
  refine H1.out.mono ?_
  rintro e w2 ⟨C, m4, c4, rfl, ho4, hl4, hm4, hb⟩
  have hm4' : m4 = m := by rw [← hl4]; exact HT.out.len
  subst hm4'
  by_cases hz : m4 = 0
  · have HR2 := Lib.hid (HR.out.trans (show lastOf mi (s.out[m4 - 1]?) = (0, true) by rw [List.getElem?_eq_none (by rw [HT.out.len]; omega)]; rfl))
    subst hz
    go_wp2_with fail
    go_ret2
    exact ⟨by rw [HR2.out]; rfl, hb⟩
  · obtain ⟨t, et⟩ := last_get hl4 (by omega)
    have HR2 := Lib.hid (HR.out.trans (show lastOf mi (s.out[m4 - 1]?) = (t + mi, true) by rw [et]; rfl))
    obtain ⟨tt0, tt1⟩ := HT.out.out _ t et
    obtain ⟨b5, o5, t', rfl, et', t1⟩ := (Sl.of_own ci_len ho4 hl4 (by omega)).int (i := m4 - 1) (by omega)
    have : t' = t := Option.some.inj (et'.symm.trans et)
    subst this
    have g5 := t1 _ (Bl.refl _)
    have k1 : (0 : Int) ≤ (m4 : Int) - 1 := by omega
    have k2 : (m4 : Int) - 1 < (m4 : Int) := by omega
    have k3 : ((m4 : Int) - 1).toNat = m4 - 1 := by omega
    have k4 : ((m4 : Int) == 0) = false := by simp; omega
    have k5 : m4 - 1 < m4 := by omega
    have k6 : 1 ≤ m4 := by omega
    have k7 : 1 ≤ (m4 : Int) := by omega
    clear et et' t1
    go_wp2_with fail
    go_ret2
    exact ⟨by rw [HR2.out]; rfl, hb⟩
end Go.Proofs.Ytnckpionabokeaa
